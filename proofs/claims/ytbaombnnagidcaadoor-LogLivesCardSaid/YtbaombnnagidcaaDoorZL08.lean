/- Messages of the document: four, Frame, Ask, Reply. -/
import Derived.Test.YtbaombnnagidcaaDoorZL05
import Derived.Deep.RegionHeld3

namespace Go.Proofs.YtbaombnnagidcaaDoor
open Go.RowKit

theorem ref_four (w : World) (n : Nat) (hl : n < 4294967296) :
    Calls Tryd.prog 95 #[.int .u32 (n : Int)] w (RetOwn w 5 1 4 (bvs (fourL n))) := by
  go_enter Tryd.func95, Tryd.ntmps95
  go_wp2
  go_ret
  refine ⟨some ⟨w.heap.size, 0, none⟩, 4, rfl, ?_, (Upd.refl Nil w).alloc _⟩
  have := Own.lit (t := 5) (sz := 1) w #[Value.int .u8 ((n : Int) % 256), Value.int .u8 ((n : Int) / 256 % 256), Value.int .u8 ((n : Int) / 65536 % 256), Value.int .u8 ((n : Int) / 16777216)] 4 (by decide) rfl
  rw [← fourL_bvs, show (n : Int) / 16777216 % 256 = (n : Int) / 16777216 by omega]
  exact this.mono (fun k hk => by subst hk; exact ⟨Nat.le_refl _, by simp⟩)

theorem ref_put_nil (w : World) (n : Nat) (hn : n < 9223372036854775808) :
    Calls Tryd.prog 17 #[.slice none 0 0, .int .i64 n] w (RetOwn w 5 1 (putL n).length (bvs (putL n))) := by
  have := ref_Put (F := Nil) w (xs := []) 0 (Row.nil _ _ none) (fun _ => rfl) (by decide) (n : Int) (by omega)
  rw [putZ_nat, List.nil_append] at this
  exact this

set_option maxRecDepth 100000 in
set_option maxHeartbeats 2000000 in
theorem ref_Frame_yes {F : Nat → Prop} (w : World) {a : Option Addr} (c : Nat) {xs : List UInt8} (hr : Row F w a (bvs xs)) (hA : a = none → c = 0) (hx : xs.length ≤ 65536) :
    Calls Tryd.prog 63 #[.slice a xs.length c] w (GotBytes w (frameL xs) 0) := by
  have HR := Lib.hid hr
  have HAn := Lib.hid hA
  obtain ⟨i0, hi, hz0, hz1, hz2⟩ := info_parts infoU8
  have hi0 := Lib.hid (And.intro hi (And.intro hz0 (And.intro hz1 hz2)))
  clear hi hz0 hz1 hz2 hr hA
  have hlp := length_putL (n := xs.length) (by omega)
  have hsl := sumL_lt xs
  obtain ⟨ps, hps⟩ : ∃ ps, putL xs.length = ps := ⟨_, rfl⟩
  obtain ⟨y1, hy1⟩ : ∃ y1, ps ++ xs = y1 := ⟨_, rfl⟩
  obtain ⟨n, hn⟩ : ∃ n, sumL xs = n := ⟨_, rfl⟩
  obtain ⟨qs, hqs⟩ : ∃ qs, fourL n = qs := ⟨_, rfl⟩
  have hq4 : qs.length = 4 := by rw [← hqs]; rfl
  have hcat : y1 ++ qs = frameL xs := by rw [frameL, hps, hy1, hn, hqs]
  rw [hn] at hsl
  rw [hps] at hlp
  have hl1 : ps.length + xs.length ≤ 70000 := by omega
  have hl1' : y1.length = ps.length + xs.length := by rw [← hy1, List.length_append]
  have HPs := Lib.hid hps
  have HY1 := Lib.hid hy1
  have HN := Lib.hid hn
  have HQs := Lib.hid hqs
  have HCat := Lib.hid hcat
  have HQ4 := Lib.hid hq4
  have HL1 := Lib.hid hl1'
  clear hps hy1 hn hqs hcat hq4 hl1'
  go_enter Tryd.func63, Tryd.ntmps63
  go_wp2_with (first
    | (go_at_call 17; refine (ref_put_nil _ _ (by omega)).mono ?_; rintro e w1 hg; rw [HPs.out] at hg; obtain ⟨a1, c1, rfl, g1, g2⟩ := hg; have HO1 := Lib.hid g1; have HU1 := Lib.hid g2; clear g1 g2)
    | (at_builtin; refine wpList_append_Own rfl (.tmp 9) (.tmp 10) 22 rfl Tryd.underlying22 hi0.out.1 hi0.out.2.1 hi0.out.2.2.1 hi0.out.2.2.2 rfl (by decide) rfl HO1.out rfl (HR.out.keep HU1.out) (by simp) (bvs_one _) HAn.out (by simp only [maxLen]; omega) (by omega) ?_; intro a2 c2 w2 g1 g2 _; rw [← bvs_append, HY1.out] at g1; have HO2 := Lib.hid (g1.fresh (w0 := w) (fresh_or HU1.out.size)); have HU2 := Lib.hid (HU1.out.past g2 (fun _ hk => hk.1)); clear g1 g2)
    | (go_at_call 20; refine (ref_Sum _ c (HR.out.keep HU2.out) (by omega)).mono ?_; rintro e w3 hg; rw [HN.out] at hg; obtain ⟨rfl, rfl⟩ := hg)
    | (go_at_call 95; refine (ref_four _ n hsl).mono ?_; rintro e w4 hg; rw [HQs.out] at hg; obtain ⟨a4, c4, rfl, g1, g2⟩ := hg; have HO4 := Lib.hid g1; have HO3 := Lib.hid (HO2.out.keep g2); have HU4 := Lib.hid (HU2.out.trans g2 (fun _ f _ => f)); clear g1 g2)
    | (at_builtin; refine wpList_append_Own rfl (.tmp 11) (.tmp 14) 22 rfl Tryd.underlying22 hi0.out.1 hi0.out.2.1 hi0.out.2.2.1 hi0.out.2.2.2 rfl (by decide) rfl HO3.out rfl HO4.out.row (by rw [length_bvs]; exact HQ4.out) (bvs_one _) HO4.out.noneCap (by simp only [maxLen]; omega) (by omega) ?_; intro a5 c5 w5 g1 g2 _; rw [← bvs_append, HCat.out] at g1; have HO5 := Lib.hid (g1.fresh (w0 := w) (fresh_or HU4.out.size)); have HU5 := Lib.hid (HU4.out.past g2 (fun _ hk => hk.1)); clear g1 g2))
  go_ret2
  have ho := HO5.out
  have hfl : ps.length + xs.length + 4 = (frameL xs).length := by rw [← HCat.out, List.length_append, HL1.out, HQ4.out]
  rw [hfl] at ho
  exact ⟨a5, c5, by rw [← hfl]; rfl, ho, HU5.out⟩

set_option maxRecDepth 100000 in
set_option maxHeartbeats 2000000 in
theorem ref_Ask (w : World) (r : Req) (h1 : r.id.size ≤ 140737488355328) (h2 : r.text.size ≤ 140737488355328) :
    Calls Tryd.prog 28 #[r.val] w (GotBytes w (askB r) (askZ r)) := by
  have HM := Lib.hid (fun w => ref_may w r h1 h2)
  have hf := @mayL_facts r
  unfold askB askZ askL
  obtain ⟨b, hb⟩ : ∃ b, mayL r = b := ⟨_, rfl⟩
  rw [hb] at HM hf ⊢
  clear hb
  obtain ⟨id, kind, session, text⟩ := r
  unfold Req.val at HM ⊢
  dsimp only at h1 h2 HM hf ⊢
  cases b
  · go_enter Tryd.func28, Tryd.ntmps28
    go_wp2_with (go_at_call 62; refine (HM.out _).mono ?_; rintro e w1 ⟨rfl, g⟩; have HU := Lib.hid g; clear g)
    go_ret2
    exact GotBytes.none_ (((Upd.refl Nil w).alloc _).trans HU.out (fun _ f _ => f))
  · obtain ⟨f1, f2, f3, f4, f5, f6⟩ := hf rfl
    have b0 := (Blk.new w 46 #[.string id, .int .i64 kind, .int .i64 session, .string text])
    have HB0 := Lib.hid b0
    have h3 := length_putZ (z := kind) (by omega)
    have h4 := length_putZ (z := session) (by omega)
    have h5 := length_textL id
    have h6 := length_textL text
    have h7 := length_putL (n := id.size) (by omega)
    have h8 := length_putL (n := text.size) (by omega)
    obtain ⟨y1, hy1⟩ : ∃ y1, [1] ++ putZ kind = y1 := ⟨_, rfl⟩
    obtain ⟨y2, hy2⟩ : ∃ y2, y1 ++ putZ session = y2 := ⟨_, rfl⟩
    obtain ⟨y3, hy3⟩ : ∃ y3, y2 ++ textL id = y3 := ⟨_, rfl⟩
    obtain ⟨y4, hy4⟩ : ∃ y4, y3 ++ textL text = y4 := ⟨_, rfl⟩
    have l1 : y1.length ≤ 10000 := by rw [← hy1, List.length_append, List.length_singleton]; omega
    have l2 : y2.length ≤ 10000 := by rw [← hy2, ← hy1, List.length_append, List.length_append, List.length_singleton]; omega
    have l3 : y3.length ≤ 10000 := by rw [← hy3, ← hy2, ← hy1, List.length_append, List.length_append, List.length_append, List.length_singleton]; omega
    have l4 : y4.length ≤ 65536 := by rw [← hy4, List.length_append]; omega
    have hB : y4 = bodyL 1 [kind, session] id text := by rw [bodyL, ← hy4, ← hy3, ← hy2, ← hy1]; simp [numL]
    rw [← hB]
    have HY1 := Lib.hid hy1
    have HY2 := Lib.hid hy2
    have HY3 := Lib.hid hy3
    have HY4 := Lib.hid hy4
    clear b0 hf h3 h4 h5 h6 h7 h8 hy1 hy2 hy3 hy4 hB
    go_enter Tryd.func28, Tryd.ntmps28
    go_wp2_with (go_at_call 62; refine (HM.out _).mono ?_; rintro e w1 ⟨rfl, g⟩; have HU := Lib.hid g; have hb := HB0.out.upd g (fun f => f); have k0 := hb.cell 0; have k1 := hb.cell 1; have k2 := hb.cell 2; have k3 := hb.cell 3; have HB := Lib.hid hb; clear g hb)
    have k1' : w1.cell? ⟨w.heap.size, 1, none⟩ = some (.int .i64 kind) := k1
    have k2' : w1.cell? ⟨w.heap.size, 2, none⟩ = some (.int .i64 session) := k2
    have k0' : w1.cell? ⟨w.heap.size, 0, none⟩ = some (.string id) := k0
    have k3' : w1.cell? ⟨w.heap.size, 3, none⟩ = some (.string text) := k3
    have hUA : Upd Nil w1 (w1.drew.alloc (.cells #[.int .u8 1] 5)) := (Upd.refl Nil w1).drew.alloc _
    have j1 := hUA.cell k1' (fun f => f)
    have j2 := hUA.cell k2' (fun f => f)
    have HUA := Lib.hid hUA
    have HOA := Lib.hid (show Own (One w1.heap.size) (w1.drew.alloc (.cells #[.int .u8 1] 5)) 5 1 (some ⟨w1.heap.size, 0, none⟩) 1 1 (bvs [1]) from Own.lit w1.drew #[.int .u8 1] 1 (by decide) rfl)
    have HUW := Lib.hid (((Upd.refl Nil w).alloc _).trans HU.out (fun _ f _ => f))
    clear hUA k0 k1 k2 k3
    have tok := HUW
    go_region_held3 (fun W => W.cell? ⟨w.heap.size, 1, none⟩ = some (.int .i64 kind) ∧ W.cell? ⟨w.heap.size, 2, none⟩ = some (.int .i64 session)) (first | exact ⟨q1, q2⟩ | exact ⟨p1, p2⟩ | exact ⟨j1, j2⟩ | exact ⟨k1', k2'⟩)
      (first
      | (have _t := tok; go_at_call 17; refine (ref_Put _ 1 (xs := [1]) HOA.out.row (fun h => by cases h) (by decide) kind (by omega)).mono ?_; rintro e w2 hg; rw [HY1.out] at hg; obtain ⟨a2, c2, rfl, g1, g2⟩ := hg; have p1 := g2.cell j1 (fun f => f); have p2 := g2.cell j2 (fun f => f); have HO2 := Lib.hid g1; have HU2 := Lib.hid (HUA.out.trans g2 (fun _ f _ => f)); clear g1 g2 tok)
      | (go_at_call 17; refine (ref_Put _ c2 HO2.out.row HO2.out.noneCap (by omega) session (by omega)).mono ?_; rintro e w3 hg; rw [HY2.out] at hg; obtain ⟨a3, c3, rfl, g1, g2⟩ := hg; have q1 := g2.cell p1 (fun f => f); have q2 := g2.cell p2 (fun f => f); have HO3 := Lib.hid g1; have HU3 := Lib.hid (HU2.out.trans g2 (fun _ f _ => f)); clear g1 g2))
    go_wp2
    have s0 := HU3.out.cell k0' (fun f => f)
    have s3 := HU3.out.cell k3' (fun f => f)
    have s0d : w3.drew.cell? ⟨w.heap.size, 0, none⟩ = some (.string id) := s0
    have tok := HUW
    go_region_held3 (fun W => W.cell? ⟨w.heap.size, 0, none⟩ = some (.string id) ∧ W.cell? ⟨w.heap.size, 3, none⟩ = some (.string text)) (first | exact ⟨x0, x3⟩ | exact ⟨v0, v3⟩ | exact ⟨u0, u3⟩ | exact ⟨s0, s3⟩)
      (first
      | (have _t := tok; go_at_call 18; refine (ref_Text _ c3 HO3.out.drew.row HO3.out.noneCap id (by omega)).mono ?_; rintro e w4 hg; rw [HY3.out] at hg; obtain ⟨a4, c4, rfl, g1, g2⟩ := hg; have u0 := g2.cell s0 (fun f => f); have u3 := g2.cell s3 (fun f => f); have HO4 := Lib.hid g1; have HU4 := Lib.hid (HU3.out.drew.trans g2 (fun _ f _ => f)); clear g1 g2 tok)
      | (go_at_call 18; refine (ref_Text _ c4 HO4.out.row HO4.out.noneCap text (by omega)).mono ?_; rintro e w5 hg; rw [HY4.out] at hg; obtain ⟨a5, c5, rfl, g1, g2⟩ := hg; have v0 := g2.cell u0 (fun f => f); have v3 := g2.cell u3 (fun f => f); have HO5 := Lib.hid g1; have HU5 := Lib.hid (HU4.out.trans g2 (fun _ f _ => f)); clear g1 g2)
      | (go_at_call 63; refine (ref_Frame_yes _ c5 HO5.out.row HO5.out.noneCap l4).mono ?_; rintro e w6 ⟨a6, c6, rfl, g1, g2⟩; have x0 := g2.cell v0 (fun f => f); have x3 := g2.cell v3 (fun f => f); have HO6 := Lib.hid g1; have HU6 := Lib.hid (HU5.out.trans g2 (fun _ f _ => f)); clear g1 g2))
    all_goals go_wp2
    all_goals go_ret2
    all_goals
      have hu := HUW.out.trans HU6.out (fun _ f _ => f)
      exact ⟨a6, c6, rfl, HO6.out.mono (Fr.back (HUW.out.trans HU5.out (fun _ f _ => f)).size), hu⟩
set_option maxRecDepth 100000 in
set_option maxHeartbeats 2000000 in
theorem ref_Reply (w : World) (r : Rep) (h1 : r.id.size ≤ 140737488355328) (h2 : r.text.size ≤ 140737488355328) :
    Calls Tryd.prog 34 #[r.val] w (GotBytes w (replyB r) (replyZ r)) := by
  have HM := Lib.hid (fun w => ref_mayReply w r h1 h2)
  have hf := @mayRepL_facts r
  unfold replyB replyZ replyL
  obtain ⟨b, hb⟩ : ∃ b, mayRepL r = b := ⟨_, rfl⟩
  rw [hb] at HM hf ⊢
  clear hb
  obtain ⟨id, status, session, why, text⟩ := r
  unfold Rep.val at HM ⊢
  dsimp only at h1 h2 HM hf ⊢
  cases b
  · go_enter Tryd.func34, Tryd.ntmps34
    go_wp2_with (go_at_call 70; refine (HM.out _).mono ?_; rintro e w1 ⟨rfl, g⟩; have HU := Lib.hid g; clear g)
    go_ret2
    exact GotBytes.none_ (((Upd.refl Nil w).alloc _).trans HU.out (fun _ f _ => f))
  · obtain ⟨f1, f2, f3, f4, f5, f6, f7, f8⟩ := hf rfl
    have b0 := (Blk.new w 53 #[.string id, .int .i64 status, .int .i64 session, .int .i64 why, .string text])
    have HB0 := Lib.hid b0
    have h3 := length_putZ (z := status) (by omega)
    have h4 := length_putZ (z := session) (by omega)
    have h4' := length_putZ (z := why) (by omega)
    have h5 := length_textL id
    have h6 := length_textL text
    have h7 := length_putL (n := id.size) (by omega)
    have h8 := length_putL (n := text.size) (by omega)
    obtain ⟨y1, hy1⟩ : ∃ y1, [2] ++ putZ status = y1 := ⟨_, rfl⟩
    obtain ⟨y2, hy2⟩ : ∃ y2, y1 ++ putZ session = y2 := ⟨_, rfl⟩
    obtain ⟨yw, hyw⟩ : ∃ yw, y2 ++ putZ why = yw := ⟨_, rfl⟩
    obtain ⟨y3, hy3⟩ : ∃ y3, yw ++ textL id = y3 := ⟨_, rfl⟩
    obtain ⟨y4, hy4⟩ : ∃ y4, y3 ++ textL text = y4 := ⟨_, rfl⟩
    have l1 : y1.length ≤ 10000 := by rw [← hy1, List.length_append, List.length_singleton]; omega
    have l2 : y2.length ≤ 10000 := by rw [← hy2, ← hy1, List.length_append, List.length_append, List.length_singleton]; omega
    have lw : yw.length ≤ 10000 := by rw [← hyw, ← hy2, ← hy1, List.length_append, List.length_append, List.length_append, List.length_singleton]; omega
    have l3 : y3.length ≤ 10000 := by rw [← hy3, ← hyw, ← hy2, ← hy1, List.length_append, List.length_append, List.length_append, List.length_append, List.length_singleton]; omega
    have l4 : y4.length ≤ 65536 := by rw [← hy4, List.length_append]; omega
    have hB : y4 = bodyL 2 [status, session, why] id text := by rw [bodyL, ← hy4, ← hy3, ← hyw, ← hy2, ← hy1]; simp [numL]
    rw [← hB]
    have HY1 := Lib.hid hy1
    have HY2 := Lib.hid hy2
    have HY3 := Lib.hid hy3
    have HYw := Lib.hid hyw
    have HY4 := Lib.hid hy4
    clear b0 hf hyw h3 h4 h4' h5 h6 h7 h8 hy1 hy2 hy3 hy4 hB
    go_enter Tryd.func34, Tryd.ntmps34
    go_wp2_with (go_at_call 70; refine (HM.out _).mono ?_; rintro e w1 ⟨rfl, g⟩; have HU := Lib.hid g; have hb := HB0.out.upd g (fun f => f); have k0 := hb.cell 0; have k1 := hb.cell 1; have k2 := hb.cell 2; have k3 := hb.cell 3; have k4 := hb.cell 4; have HB := Lib.hid hb; clear g hb)
    have k1' : w1.cell? ⟨w.heap.size, 1, none⟩ = some (.int .i64 status) := k1
    have k2' : w1.cell? ⟨w.heap.size, 2, none⟩ = some (.int .i64 session) := k2
    have k0' : w1.cell? ⟨w.heap.size, 0, none⟩ = some (.string id) := k0
    have k3' : w1.cell? ⟨w.heap.size, 3, none⟩ = some (.int .i64 why) := k3
    have k4' : w1.cell? ⟨w.heap.size, 4, none⟩ = some (.string text) := k4
    have hUA : Upd Nil w1 (w1.drew.alloc (.cells #[.int .u8 2] 5)) := (Upd.refl Nil w1).drew.alloc _
    have j1 := hUA.cell k1' (fun f => f)
    have j2 := hUA.cell k2' (fun f => f)
    have j3 := hUA.cell k3' (fun f => f)
    have HUA := Lib.hid hUA
    have HOA := Lib.hid (show Own (One w1.heap.size) (w1.drew.alloc (.cells #[.int .u8 2] 5)) 5 1 (some ⟨w1.heap.size, 0, none⟩) 1 1 (bvs [2]) from Own.lit w1.drew #[.int .u8 2] 1 (by decide) rfl)
    have HUW := Lib.hid (((Upd.refl Nil w).alloc _).trans HU.out (fun _ f _ => f))
    clear hUA k0 k1 k2 k3 k4
    have tok := HUW
    have tok2 := HUW
    go_region_held3 (fun W => W.cell? ⟨w.heap.size, 1, none⟩ = some (.int .i64 status) ∧ W.cell? ⟨w.heap.size, 2, none⟩ = some (.int .i64 session) ∧ W.cell? ⟨w.heap.size, 3, none⟩ = some (.int .i64 why)) (first | exact ⟨z1, z2, z3⟩ | exact ⟨q1, q2, q3⟩ | exact ⟨p1, p2, p3⟩ | exact ⟨j1, j2, j3⟩ | exact ⟨k1', k2', k3'⟩)
      (first
      | (have _t := tok; go_at_call 17; refine (ref_Put _ 1 (xs := [2]) HOA.out.row (fun h => by cases h) (by decide) status (by omega)).mono ?_; rintro e w2 hg; rw [HY1.out] at hg; obtain ⟨a2, c2, rfl, g1, g2⟩ := hg; have p1 := g2.cell j1 (fun f => f); have p2 := g2.cell j2 (fun f => f); have p3 := g2.cell j3 (fun f => f); have HO2 := Lib.hid g1; have HU2 := Lib.hid (HUA.out.trans g2 (fun _ f _ => f)); clear g1 g2 tok)
      | (have _t := tok2; go_at_call 17; refine (ref_Put _ c2 HO2.out.row HO2.out.noneCap (by omega) session (by omega)).mono ?_; rintro e wq hg; rw [HY2.out] at hg; obtain ⟨aq, cq, rfl, g1, g2⟩ := hg; have q1 := g2.cell p1 (fun f => f); have q2 := g2.cell p2 (fun f => f); have q3 := g2.cell p3 (fun f => f); have HOq := Lib.hid g1; have HUq := Lib.hid (HU2.out.trans g2 (fun _ f _ => f)); clear g1 g2 tok2)
      | (go_at_call 17; refine (ref_Put _ cq HOq.out.row HOq.out.noneCap (by omega) why (by omega)).mono ?_; rintro e w3 hg; rw [HYw.out] at hg; obtain ⟨a3, c3, rfl, g1, g2⟩ := hg; have z1 := g2.cell q1 (fun f => f); have z2 := g2.cell q2 (fun f => f); have z3 := g2.cell q3 (fun f => f); have HO3 := Lib.hid g1; have HU3 := Lib.hid (HUq.out.trans g2 (fun _ f _ => f)); clear g1 g2))
    go_wp2
    have s0 := HU3.out.cell k0' (fun f => f)
    have s3 := HU3.out.cell k4' (fun f => f)
    have s0d : w3.drew.cell? ⟨w.heap.size, 0, none⟩ = some (.string id) := s0
    have tok := HUW
    go_region_held3 (fun W => W.cell? ⟨w.heap.size, 0, none⟩ = some (.string id) ∧ W.cell? ⟨w.heap.size, 4, none⟩ = some (.string text)) (first | exact ⟨x0, x3⟩ | exact ⟨v0, v3⟩ | exact ⟨u0, u3⟩ | exact ⟨s0, s3⟩)
      (first
      | (have _t := tok; go_at_call 18; refine (ref_Text _ c3 HO3.out.drew.row HO3.out.noneCap id (by omega)).mono ?_; rintro e w4 hg; rw [HY3.out] at hg; obtain ⟨a4, c4, rfl, g1, g2⟩ := hg; have u0 := g2.cell s0 (fun f => f); have u3 := g2.cell s3 (fun f => f); have HO4 := Lib.hid g1; have HU4 := Lib.hid (HU3.out.drew.trans g2 (fun _ f _ => f)); clear g1 g2 tok)
      | (go_at_call 18; refine (ref_Text _ c4 HO4.out.row HO4.out.noneCap text (by omega)).mono ?_; rintro e w5 hg; rw [HY4.out] at hg; obtain ⟨a5, c5, rfl, g1, g2⟩ := hg; have v0 := g2.cell u0 (fun f => f); have v3 := g2.cell u3 (fun f => f); have HO5 := Lib.hid g1; have HU5 := Lib.hid (HU4.out.trans g2 (fun _ f _ => f)); clear g1 g2)
      | (go_at_call 63; refine (ref_Frame_yes _ c5 HO5.out.row HO5.out.noneCap l4).mono ?_; rintro e w6 ⟨a6, c6, rfl, g1, g2⟩; have x0 := g2.cell v0 (fun f => f); have x3 := g2.cell v3 (fun f => f); have HO6 := Lib.hid g1; have HU6 := Lib.hid (HU5.out.trans g2 (fun _ f _ => f)); clear g1 g2))
    all_goals go_wp2
    all_goals go_ret2
    all_goals
      have hu := HUW.out.trans HU6.out (fun _ f _ => f)
      exact ⟨a6, c6, rfl, HO6.out.mono (Fr.back (HUW.out.trans HU5.out (fun _ f _ => f)).size), hu⟩
end Go.Proofs.YtbaombnnagidcaaDoor
