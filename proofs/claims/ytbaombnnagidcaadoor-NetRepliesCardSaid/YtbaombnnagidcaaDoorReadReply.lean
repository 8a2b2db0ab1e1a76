/- ReadReply of the program. -/
import Derived.Test.YtbaombnnagidcaaDoorReadAsk
namespace Go.Proofs.YtbaombnnagidcaaDoor
open Go.RowKit

set_option maxRecDepth 100000 in
set_option maxHeartbeats 8000000 in
theorem net_ReadReply {F : Nat → Prop} (w : World) {a : Option Addr} (c : Nat) {b : List UInt8} (hr : Row F w a (bvs b)) (hx : b.length ≤ 140737488355328) (tab : Tab w) :
    Calls Tryd.prog 35 #[.slice a b.length c] w (GotRep w (readReplyL b)) := by
  have HR := Lib.hid hr
  have HT := Lib.hid tab
  unfold readReplyL
  have hl := length_parseL b 2 3
  obtain ⟨hs1, hs2⟩ := parseL_small b 2 3
  obtain ⟨⟨vs, id, text, ok⟩, hq⟩ : ∃ q, parseL b 2 3 = q := ⟨_, rfl⟩
  rw [hq] at hl hs1 hs2 ⊢
  have HQ := Lib.hid hq
  clear hq hr tab
  dsimp only at hl hs1 hs2
  obtain ⟨x, y, v, rfl⟩ : ∃ x y v, vs = [x, y, v] := by
    match vs, hl with
    | [x, y, v], _ => exact ⟨x, y, v, rfl⟩
  show Calls _ _ _ w (GotRep w (repEnd b ⟨id, x, y, v, text⟩ ok))
  clear hl
  obtain ⟨z, hz⟩ : ∃ z, replyZ ⟨id, x, y, v, text⟩ = z := ⟨_, rfl⟩
  obtain ⟨ys, hys⟩ : ∃ ys, replyB ⟨id, x, y, v, text⟩ = ys := ⟨_, rfl⟩
  obtain ⟨R, hR⟩ : ∃ R, decide (z = 0 ∧ b = ys) = R := ⟨_, rfl⟩
  have hE : repEnd b ⟨id, x, y, v, text⟩ ok = if (ok && R) = true then (⟨id, x, y, v, text⟩, 0) else (Rep.zero, 5) := by
    unfold repEnd
    rw [hz, hys]
    simp only [Bool.and_eq_true, ← hR, decide_eq_true_eq]
  rw [hE]
  have HZ := Lib.hid hz
  have HY := Lib.hid hys
  have HRv := Lib.hid hR
  clear hE hz hys hR
  have hAl : Upd Nil w (((w.alloc (.cells #[.string ⟨#[]⟩, .int .i64 0, .int .i64 0, .int .i64 0, .string ⟨#[]⟩] 53)).alloc (.cells #[.string ⟨#[]⟩, .int .i64 0, .int .i64 0, .int .i64 0, .string ⟨#[]⟩] 53)).alloc (.cells #[.pointer (some ⟨w.heap.size + 1, 1, none⟩), .pointer (some ⟨w.heap.size + 1, 2, none⟩), .pointer (some ⟨w.heap.size + 1, 3, none⟩)] 109)) := (((Upd.refl Nil w).alloc _).alloc _).alloc _
  have hPt : Row (One (w.heap.size + 2)) (((w.alloc (.cells #[.string ⟨#[]⟩, .int .i64 0, .int .i64 0, .int .i64 0, .string ⟨#[]⟩] 53)).alloc (.cells #[.string ⟨#[]⟩, .int .i64 0, .int .i64 0, .int .i64 0, .string ⟨#[]⟩] 53)).alloc (.cells #[.pointer (some ⟨w.heap.size + 1, 1, none⟩), .pointer (some ⟨w.heap.size + 1, 2, none⟩), .pointer (some ⟨w.heap.size + 1, 3, none⟩)] 109)) (some ⟨w.heap.size + 2, 0, none⟩) (ptrs (w.heap.size + 1) 3) := by
    have := (Own.lit (t := 109) (sz := 1) ((w.alloc (.cells #[.string ⟨#[]⟩, .int .i64 0, .int .i64 0, .int .i64 0, .string ⟨#[]⟩] 53)).alloc (.cells #[.string ⟨#[]⟩, .int .i64 0, .int .i64 0, .int .i64 0, .string ⟨#[]⟩] 53)) #[.pointer (some ⟨w.heap.size + 1, 1, none⟩), .pointer (some ⟨w.heap.size + 1, 2, none⟩), .pointer (some ⟨w.heap.size + 1, 3, none⟩)] 3 (by decide) rfl).row
    simp only [World.size_alloc] at this
    exact this
  have hBk : Blk (((w.alloc (.cells #[.string ⟨#[]⟩, .int .i64 0, .int .i64 0, .int .i64 0, .string ⟨#[]⟩] 53)).alloc (.cells #[.string ⟨#[]⟩, .int .i64 0, .int .i64 0, .int .i64 0, .string ⟨#[]⟩] 53)).alloc (.cells #[.pointer (some ⟨w.heap.size + 1, 1, none⟩), .pointer (some ⟨w.heap.size + 1, 2, none⟩), .pointer (some ⟨w.heap.size + 1, 3, none⟩)] 109)) (w.heap.size + 1) 53 (blkL (List.replicate 3 0)) := by
    have := (Blk.new (w.alloc (.cells #[.string ⟨#[]⟩, .int .i64 0, .int .i64 0, .int .i64 0, .string ⟨#[]⟩] 53)) 53 #[.string ⟨#[]⟩, .int .i64 0, .int .i64 0, .int .i64 0, .string ⟨#[]⟩]).alloc (.cells #[.pointer (some ⟨w.heap.size + 1, 1, none⟩), .pointer (some ⟨w.heap.size + 1, 2, none⟩), .pointer (some ⟨w.heap.size + 1, 3, none⟩)] 109)
    simp only [World.size_alloc] at this
    exact this
  have hBr : Blk (((w.alloc (.cells #[.string ⟨#[]⟩, .int .i64 0, .int .i64 0, .int .i64 0, .string ⟨#[]⟩] 53)).alloc (.cells #[.string ⟨#[]⟩, .int .i64 0, .int .i64 0, .int .i64 0, .string ⟨#[]⟩] 53)).alloc (.cells #[.pointer (some ⟨w.heap.size + 1, 1, none⟩), .pointer (some ⟨w.heap.size + 1, 2, none⟩), .pointer (some ⟨w.heap.size + 1, 3, none⟩)] 109)) w.heap.size 53 #[.string ⟨#[]⟩, .int .i64 0, .int .i64 0, .int .i64 0, .string ⟨#[]⟩] :=
    ((Blk.new w 53 #[.string ⟨#[]⟩, .int .i64 0, .int .i64 0, .int .i64 0, .string ⟨#[]⟩]).alloc _).alloc _
  have HAl := Lib.hid hAl
  have HPt := Lib.hid hPt
  have HBk := Lib.hid hBk
  have HBr := Lib.hid hBr
  clear hAl hPt hBk hBr
  go_enter Tryd.func35, Tryd.ntmps35
  have hcs : ok = false ∨ (ok = true ∧ R = false) ∨ (ok = true ∧ R = true) := by
    cases ok <;> cases R <;> simp
  rcases hcs with rfl | ⟨rfl, rfl⟩ | ⟨rfl, rfl⟩
  · go_wp2_with (first
    | (go_at_call 64; refine (net_parse _ c (HR.out.keep HAl.out) hx 2 3 HPt.out (by decide) HBk.out (by simp [One]) (HT.out.upd HAl.out (fun f => f))).mono ?_; rintro e w1 hg; rw [HQ.out] at hg; obtain ⟨rfl, g1, g2⟩ := hg
       have HU1 := Lib.hid (HAl.out.past g2 (fun k hk => by have : k = w.heap.size + 1 := hk; omega))
       have HR1 := Lib.hid (HBr.out.upd g2 (fun h => by have : w.heap.size = w.heap.size + 1 := h; omega))
       have e1 : Blk (w1.setCell ⟨w.heap.size + 1, 0, none⟩ (.string id)) (w.heap.size + 1) 53 #[.string id, .int .i64 x, .int .i64 y, .int .i64 v, .string ⟨#[]⟩] := g1.set 0 (.string id)
       have e2 : Blk ((w1.setCell ⟨w.heap.size + 1, 0, none⟩ (.string id)).setCell ⟨w.heap.size + 1, 4, none⟩ (.string text)) (w.heap.size + 1) 53 #[.string id, .int .i64 x, .int .i64 y, .int .i64 v, .string text] := e1.set 4 (.string text)
       have a0 := g1.cell 0; have af := g1.frozen 0; have b3 := e1.cell 4; have bf := e1.frozen 4; have d0 := e2.cell 0; have d1 := e2.cell 1; have d2 := e2.cell 2; have d3 := e2.cell 3; have d4 := e2.cell 4
       have HE2 := Lib.hid e2
       clear g1 g2 e1 e2)
    | (go_at_call 33; refine (net_Reply _ ⟨id, x, y, v, text⟩ (by show id.size ≤ _; omega) (by show text.size ≤ _; omega) ((HT.out.upd HU1.out (fun f => f)).upd (((Upd.refl (One (w.heap.size + 1)) w1).setCell (p := ⟨w.heap.size + 1, 0, none⟩) (.inl rfl) _).setCell (p := ⟨w.heap.size + 1, 4, none⟩) (.inl rfl) _) (fun h => by have : 0 = w.heap.size + 1 := h; omega))).mono ?_; rintro e w2 hg; rw [HZ.out, HY.out] at hg; obtain ⟨a2, c2, rfl, g1, g2⟩ := hg
       have hu := ((Upd.refl (One (w.heap.size + 1)) w1).setCell (p := ⟨w.heap.size + 1, 0, none⟩) (.inl rfl) (.string id)).setCell (p := ⟨w.heap.size + 1, 4, none⟩) (.inl rfl) (.string text)
       have HU2 := Lib.hid ((HU1.out.past hu (fun k hk => by have : k = w.heap.size + 1 := hk; omega)).trans g2 (fun _ f _ => f))
       have r2 := (HR1.out.upd hu (fun h => by have : w.heap.size = w.heap.size + 1 := h; omega)).upd g2 (fun f => f)
       have e3 := HE2.out.upd g2 (fun f => f)
       have HO2 := Lib.hid g1; have HR2 := Lib.hid r2; have HE3 := Lib.hid e3
       have q0 := r2.cell 0; have q1 := r2.cell 1; have q2 := r2.cell 2; have q3 := r2.cell 3; have q4 := r2.cell 4
       have f0 := r2.frozen 0; have f1 := r2.frozen 1; have f2 := r2.frozen 2; have f3 := r2.frozen 3; have f4 := r2.frozen 4
       have s0 := e3.cell 0; have s1 := e3.cell 1; have s2 := e3.cell 2; have s3 := e3.cell 3; have s4 := e3.cell 4
       clear g1 g2 hu r2 e3 a0 af b3 bf d0 d1 d2 d3 d4)
    | (go_at_call 65; refine (net_same _ c c2 (HR.out.keep HU2.out) HO2.out.row z HRv.out).mono ?_; rintro e w' ⟨rfl, rfl⟩))
    (try simp only [Exit.inBlock, Exit.then])
    have hz := ((((HR2.out.set 0 (.string ⟨#[]⟩)).set 1 (.int .i64 0)).set 2 (.int .i64 0)).set 3 (.int .i64 0)).set 4 (.string ⟨#[]⟩)
    refine bodyPost_ret (results_box rfl rfl hz Tryd.underlying53 rfl infoRep rfl) rfl ⟨rfl, ?_⟩
    exact HU2.out.past ((((((Upd.refl (One w.heap.size) w2).setCell (p := ⟨w.heap.size, 0, none⟩) (.inl rfl) _).setCell (p := ⟨w.heap.size, 1, none⟩) (.inl rfl) _).setCell (p := ⟨w.heap.size, 2, none⟩) (.inl rfl) _).setCell (p := ⟨w.heap.size, 3, none⟩) (.inl rfl) _).setCell (p := ⟨w.heap.size, 4, none⟩) (.inl rfl) _) (fun k hk => by have : k = w.heap.size := hk; omega)
  · go_wp2_with (first
    | (go_at_call 64; refine (net_parse _ c (HR.out.keep HAl.out) hx 2 3 HPt.out (by decide) HBk.out (by simp [One]) (HT.out.upd HAl.out (fun f => f))).mono ?_; rintro e w1 hg; rw [HQ.out] at hg; obtain ⟨rfl, g1, g2⟩ := hg
       have HU1 := Lib.hid (HAl.out.past g2 (fun k hk => by have : k = w.heap.size + 1 := hk; omega))
       have HR1 := Lib.hid (HBr.out.upd g2 (fun h => by have : w.heap.size = w.heap.size + 1 := h; omega))
       have e1 : Blk (w1.setCell ⟨w.heap.size + 1, 0, none⟩ (.string id)) (w.heap.size + 1) 53 #[.string id, .int .i64 x, .int .i64 y, .int .i64 v, .string ⟨#[]⟩] := g1.set 0 (.string id)
       have e2 : Blk ((w1.setCell ⟨w.heap.size + 1, 0, none⟩ (.string id)).setCell ⟨w.heap.size + 1, 4, none⟩ (.string text)) (w.heap.size + 1) 53 #[.string id, .int .i64 x, .int .i64 y, .int .i64 v, .string text] := e1.set 4 (.string text)
       have a0 := g1.cell 0; have af := g1.frozen 0; have b3 := e1.cell 4; have bf := e1.frozen 4; have d0 := e2.cell 0; have d1 := e2.cell 1; have d2 := e2.cell 2; have d3 := e2.cell 3; have d4 := e2.cell 4
       have HE2 := Lib.hid e2
       clear g1 g2 e1 e2)
    | (go_at_call 33; refine (net_Reply _ ⟨id, x, y, v, text⟩ (by show id.size ≤ _; omega) (by show text.size ≤ _; omega) ((HT.out.upd HU1.out (fun f => f)).upd (((Upd.refl (One (w.heap.size + 1)) w1).setCell (p := ⟨w.heap.size + 1, 0, none⟩) (.inl rfl) _).setCell (p := ⟨w.heap.size + 1, 4, none⟩) (.inl rfl) _) (fun h => by have : 0 = w.heap.size + 1 := h; omega))).mono ?_; rintro e w2 hg; rw [HZ.out, HY.out] at hg; obtain ⟨a2, c2, rfl, g1, g2⟩ := hg
       have hu := ((Upd.refl (One (w.heap.size + 1)) w1).setCell (p := ⟨w.heap.size + 1, 0, none⟩) (.inl rfl) (.string id)).setCell (p := ⟨w.heap.size + 1, 4, none⟩) (.inl rfl) (.string text)
       have HU2 := Lib.hid ((HU1.out.past hu (fun k hk => by have : k = w.heap.size + 1 := hk; omega)).trans g2 (fun _ f _ => f))
       have r2 := (HR1.out.upd hu (fun h => by have : w.heap.size = w.heap.size + 1 := h; omega)).upd g2 (fun f => f)
       have e3 := HE2.out.upd g2 (fun f => f)
       have HO2 := Lib.hid g1; have HR2 := Lib.hid r2; have HE3 := Lib.hid e3
       have q0 := r2.cell 0; have q1 := r2.cell 1; have q2 := r2.cell 2; have q3 := r2.cell 3; have q4 := r2.cell 4
       have f0 := r2.frozen 0; have f1 := r2.frozen 1; have f2 := r2.frozen 2; have f3 := r2.frozen 3; have f4 := r2.frozen 4
       have s0 := e3.cell 0; have s1 := e3.cell 1; have s2 := e3.cell 2; have s3 := e3.cell 3; have s4 := e3.cell 4
       clear g1 g2 hu r2 e3 a0 af b3 bf d0 d1 d2 d3 d4)
    | (go_at_call 65; refine (net_same _ c c2 (HR.out.keep HU2.out) HO2.out.row z HRv.out).mono ?_; rintro e w' ⟨rfl, rfl⟩))
    (try simp only [Exit.inBlock, Exit.then])
    have hz := ((((HR2.out.set 0 (.string ⟨#[]⟩)).set 1 (.int .i64 0)).set 2 (.int .i64 0)).set 3 (.int .i64 0)).set 4 (.string ⟨#[]⟩)
    refine bodyPost_ret (results_box rfl rfl hz Tryd.underlying53 rfl infoRep rfl) rfl ⟨rfl, ?_⟩
    exact HU2.out.past ((((((Upd.refl (One w.heap.size) w2).setCell (p := ⟨w.heap.size, 0, none⟩) (.inl rfl) _).setCell (p := ⟨w.heap.size, 1, none⟩) (.inl rfl) _).setCell (p := ⟨w.heap.size, 2, none⟩) (.inl rfl) _).setCell (p := ⟨w.heap.size, 3, none⟩) (.inl rfl) _).setCell (p := ⟨w.heap.size, 4, none⟩) (.inl rfl) _) (fun k hk => by have : k = w.heap.size := hk; omega)
  · go_wp2_with (first
    | (go_at_call 64; refine (net_parse _ c (HR.out.keep HAl.out) hx 2 3 HPt.out (by decide) HBk.out (by simp [One]) (HT.out.upd HAl.out (fun f => f))).mono ?_; rintro e w1 hg; rw [HQ.out] at hg; obtain ⟨rfl, g1, g2⟩ := hg
       have HU1 := Lib.hid (HAl.out.past g2 (fun k hk => by have : k = w.heap.size + 1 := hk; omega))
       have HR1 := Lib.hid (HBr.out.upd g2 (fun h => by have : w.heap.size = w.heap.size + 1 := h; omega))
       have e1 : Blk (w1.setCell ⟨w.heap.size + 1, 0, none⟩ (.string id)) (w.heap.size + 1) 53 #[.string id, .int .i64 x, .int .i64 y, .int .i64 v, .string ⟨#[]⟩] := g1.set 0 (.string id)
       have e2 : Blk ((w1.setCell ⟨w.heap.size + 1, 0, none⟩ (.string id)).setCell ⟨w.heap.size + 1, 4, none⟩ (.string text)) (w.heap.size + 1) 53 #[.string id, .int .i64 x, .int .i64 y, .int .i64 v, .string text] := e1.set 4 (.string text)
       have a0 := g1.cell 0; have af := g1.frozen 0; have b3 := e1.cell 4; have bf := e1.frozen 4; have d0 := e2.cell 0; have d1 := e2.cell 1; have d2 := e2.cell 2; have d3 := e2.cell 3; have d4 := e2.cell 4
       have HE2 := Lib.hid e2
       clear g1 g2 e1 e2)
    | (go_at_call 33; refine (net_Reply _ ⟨id, x, y, v, text⟩ (by show id.size ≤ _; omega) (by show text.size ≤ _; omega) ((HT.out.upd HU1.out (fun f => f)).upd (((Upd.refl (One (w.heap.size + 1)) w1).setCell (p := ⟨w.heap.size + 1, 0, none⟩) (.inl rfl) _).setCell (p := ⟨w.heap.size + 1, 4, none⟩) (.inl rfl) _) (fun h => by have : 0 = w.heap.size + 1 := h; omega))).mono ?_; rintro e w2 hg; rw [HZ.out, HY.out] at hg; obtain ⟨a2, c2, rfl, g1, g2⟩ := hg
       have hu := ((Upd.refl (One (w.heap.size + 1)) w1).setCell (p := ⟨w.heap.size + 1, 0, none⟩) (.inl rfl) (.string id)).setCell (p := ⟨w.heap.size + 1, 4, none⟩) (.inl rfl) (.string text)
       have HU2 := Lib.hid ((HU1.out.past hu (fun k hk => by have : k = w.heap.size + 1 := hk; omega)).trans g2 (fun _ f _ => f))
       have r2 := (HR1.out.upd hu (fun h => by have : w.heap.size = w.heap.size + 1 := h; omega)).upd g2 (fun f => f)
       have e3 := HE2.out.upd g2 (fun f => f)
       have HO2 := Lib.hid g1; have HR2 := Lib.hid r2; have HE3 := Lib.hid e3
       have q0 := r2.cell 0; have q1 := r2.cell 1; have q2 := r2.cell 2; have q3 := r2.cell 3; have q4 := r2.cell 4
       have f0 := r2.frozen 0; have f1 := r2.frozen 1; have f2 := r2.frozen 2; have f3 := r2.frozen 3; have f4 := r2.frozen 4
       have s0 := e3.cell 0; have s1 := e3.cell 1; have s2 := e3.cell 2; have s3 := e3.cell 3; have s4 := e3.cell 4
       clear g1 g2 hu r2 e3 a0 af b3 bf d0 d1 d2 d3 d4)
    | (go_at_call 65; refine (net_same _ c c2 (HR.out.keep HU2.out) HO2.out.row z HRv.out).mono ?_; rintro e w' ⟨rfl, rfl⟩))
    (try simp only [Exit.inBlock, Exit.then])
    have hv := ((((HR2.out.set 0 (.string id)).set 1 (.int .i64 x)).set 2 (.int .i64 y)).set 3 (.int .i64 v)).set 4 (.string text)
    refine bodyPost_ret (results_box rfl rfl hv Tryd.underlying53 rfl infoRep rfl) rfl ⟨rfl, ?_⟩
    exact HU2.out.past ((((((Upd.refl (One w.heap.size) w2).setCell (p := ⟨w.heap.size, 0, none⟩) (.inl rfl) _).setCell (p := ⟨w.heap.size, 1, none⟩) (.inl rfl) _).setCell (p := ⟨w.heap.size, 2, none⟩) (.inl rfl) _).setCell (p := ⟨w.heap.size, 3, none⟩) (.inl rfl) _).setCell (p := ⟨w.heap.size, 4, none⟩) (.inl rfl) _) (fun k hk => by have : k = w.heap.size := hk; omega)
end Go.Proofs.YtbaombnnagidcaaDoor
