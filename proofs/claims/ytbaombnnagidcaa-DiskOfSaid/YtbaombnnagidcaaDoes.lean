/- does: one call on both disks: both answer alike and have the same behind it. -/
import Derived.Test.YtbaombnnagidcaaDiskAny
import Derived.Test.YtbaombnnagidcaaWritten
namespace Go.Proofs.Ytbaombnnagidcaa
open Go.RowKit

theorem infoInt02 : (Try.prog.info? 3).map (fun i => (i.zero, i.size, i.bytes)) = some (some (.int .i64 0), 1, 8) := by kernel_rfl
theorem q02 (w : World) (a : Option Addr) (n c n' c' : Nat) : (binOp .eql 68 (.slice a n c) (.slice none n' c')).run Try.prog w = .ok (.bool a.isNone) w := Lib.run_eql_slice_nil w _ _ a n c n' c' Try.underlying68
theorem ivs_oneCell (ks : List Int) : ∀ u ∈ ivs ks, u.oneCell' = true := by
  intro u hu
  obtain ⟨x, _, rfl⟩ := List.mem_map.1 hu
  rfl
theorem own_emptyI (w : World) : Own (Fr w (w.alloc (.cells #[] 3))) (w.alloc (.cells #[] 3)) 3 1 (some ⟨w.heap.size, 0, none⟩) 0 0 [] :=
  (Own.lit w #[] 0 (Nat.zero_le _) rfl).mono (fun k hk => by subst hk; exact ⟨Nat.le_refl _, by simp⟩)

set_option maxHeartbeats 400000 in
theorem slicesCloneI {F : Nat → Prop} (w : World) {a : Option Addr} (c : Nat) {ks : List Int} (hr : Row F w a (ivs ks)) (hx : ks.length * 8 ≤ 140737488355328) :
    Calls Try.prog 62 #[.slice a ks.length c] w (RetOwn w 3 1 ks.length (ivs ks)) := by
  obtain ⟨i0, hi, hz0, hz1, hz2⟩ := info_parts infoInt02
  have Q := Lib.hid hr
  clear hr
  cases a with
  | none =>
    have hq := q02
    go_enter Try.func62, Try.ntmps62
    go_wp2
    go_ret
    have hx0 : ks = [] := by
      cases ks with
      | nil => rfl
      | cons x ks =>
        obtain ⟨b, o, h, _⟩ := Q.out (by simp [ivs])
        cases h
    subst hx0
    exact ⟨none, 0, rfl, Own.none_ _ _ _ _, Upd.refl _ _⟩
  | some ad =>
    have hq := q02
    go_enter Try.func62, Try.ntmps62
    go_wp2_with (at_builtin; refine wpList_append_Own rfl _ _ _ rfl Try.underlying68 hi hz0 hz1 hz2 rfl (by decide) rfl (own_emptyI w) rfl (Q.out.alloc _) (by simp) (ivs_oneCell ks) (by intro h; cases h) (by simp only [maxLen]; omega) (by omega) ?_)
    intro a' c' w' hown hup hne
    go_wp2
    go_ret
    refine ⟨a', c', rfl, (by simpa using hown : Own _ w' _ 1 a' ks.length c' (ivs ks)).mono ?_, ?_⟩
    · rintro k (⟨h1, h2⟩ | ⟨h1, h2⟩)
      · exact ⟨h1, Nat.lt_of_lt_of_le h2 hup.size⟩
      · exact ⟨by simp at h1; omega, h2⟩
    · exact ((Upd.refl Nil w).alloc _).trans hup (fun k h1 h2 => by have := h1.1; omega)

set_option maxHeartbeats 400000 in
theorem slicesEqualI {F G : Nat → Prop} (w : World) {a b : Option Addr} (c d : Nat) {ks : List Int} (hr : Row F w a (ivs ks)) (hs : Row G w b (ivs ks)) (hl : ks.length ≤ 9223372036854775807) :
    Calls Try.prog 67 #[.slice a ks.length c, .slice b ks.length d] w fun e w' => e = .returned (.bool true) ∧ Upd Nil w w' := by
  have HR := Lib.hid hr
  have HS := Lib.hid hs
  clear hr hs
  go_enter Try.func67, Try.ntmps67
  go_wp2
  go_loopg [13] ks.length (fun k i wr => ∃ j : Nat, j + k = ks.length ∧ i = .int .i64 j ∧ Upd Nil w wr)
  case atStart => exact ⟨0, by omega, rfl, Upd.refl _ _⟩
  case round =>
    obtain ⟨j, hjk, rfl, hup⟩ := hrel
    have hjn : j ≤ ks.length := by omega
    have HJ := Lib.hid hjk
    have HU := Lib.hid hup
    clear hjk hup
    by_cases hlt : j < ks.length
    · have hkv : (ivs ks)[j]? = some (.int .i64 ks[j]) := by simp [ivs, hlt]
      obtain ⟨b1, o1, rfl, _, hc1⟩ := rowAt HR.out hkv
      obtain ⟨b2, o2, rfl, _, hc2⟩ := rowAt HS.out hkv
      have hcA := HU.out.cell hc1 (fun f => f)
      have hcB := HU.out.cell hc2 (fun f => f)
      obtain ⟨q, hq⟩ : ∃ q, ks[j] = q := ⟨_, rfl⟩
      rw [hq] at hcA hcB
      have hi0 : (0 : Int) ≤ (j : Int) := by omega
      have hi1 : (j : Int) < (ks.length : Int) := by omega
      clear hkv hc1 hc2 hq
      go_wp2
      go_quiet (fail)
      go_wp2
      go_roundg (gk - 1)
      case measure => have := HJ.out; omega
      case rel => exact ⟨j + 1, by have := HJ.out; omega, by go_num, HU.out.drewN _⟩
    · go_wp2
      go_ret
      exact ⟨rfl, HU.out⟩

/-- what a call on both leaves -/
def Did (w : World) (s1 s2 : Nat) (F1 F2 : Nat → Prop) (n : Nat) (e : Ending) (w' : World) : Prop :=
  e = .returned (.bool true) ∧ ∃ F1' F2' B P, Pair w' s1 s2 F1' F2' B P B P ∧ Fine B P ∧ P.length ≤ n + 1 ∧ Upd (fun k => F1 k ∨ F2 k) w w' ∧ (∀ k, F1' k → F1 k ∨ Fr w w' k) ∧ (∀ k, F2' k → F2 k ∨ Fr w w' k)

/-- the state behind the switch -/
def Mid (w2 wz : World) (s1 s2 : Nat) (F1 F2 : Nat → Prop) (n : Nat) : Prop :=
  ∃ F1' F2' B P, Pair wz s1 s2 F1' F2' B P B P ∧ Fine B P ∧ P.length ≤ n + 1 ∧ Upd (fun k => F1 k ∨ F2 k) w2 wz ∧ (∀ k, F1' k → F1 k ∨ Fr w2 wz k) ∧ (∀ k, F2' k → F2 k ∨ Fr w2 wz k)
theorem Mid.upd {w2 wz : World} {s1 s2 n : Nat} {F1 F2 : Nat → Prop} (h : Mid w2 wz s1 s2 F1 F2 n) : Upd (fun k => F1 k ∨ F2 k) w2 wz := by
  obtain ⟨_, _, _, _, _, _, _, h, _⟩ := h
  exact h
theorem Mid.did {w w2 wz wy w5 : World} {s1 s2 n : Nat} {F1 F2 : Nat → Prop} (h : Mid w2 wz s1 s2 F1 F2 n) (h1 : ∀ k, F1 k → k < w.heap.size) (h2 : ∀ k, F2 k → k < w.heap.size) (u0 : Upd Nil w w2) (u1 : Upd Nil wz wy) (u2 : Upd (Fr w w2) wy w5) :
    Did w s1 s2 F1 F2 n (.returned (.bool true)) w5 := by
  obtain ⟨F1', F2', B, P, hp, hf, hl, hu, e1, e2⟩ := h
  have z0 := u0.size
  have zz := hu.size
  have z1 := u1.size
  have z2 := u2.size
  refine ⟨rfl, F1', F2', B, P, (hp.keep u1).far u2 (fun k hk f => ?_) (fun k hk f => ?_), hf, hl, ((u0.ofNil.trans hu (fun k hk _ => hk)).trans u1 (fun _ f _ => f.elim)).trans u2 (fun k hk hlt => by have := hk.1; omega), fun k hk => ?_, fun k hk => ?_⟩
  · rcases e1 k hk with g | g
    · have := h1 k g; have := f.1; omega
    · have := g.1; have := f.2; omega
  · rcases e2 k hk with g | g
    · have := h2 k g; have := f.1; omega
    · have := g.1; have := f.2; omega
  · rcases e1 k hk with g | g
    · exact .inl g
    · exact .inr ⟨by have := g.1; omega, by have := g.2; omega⟩
  · rcases e2 k hk with g | g
    · exact .inl g
    · exact .inr ⟨by have := g.1; omega, by have := g.2; omega⟩
/-- both have made their step -/
theorem mid_two {w2 w3 w4 : World} {s1 s2 n : Nat} {F1 F2 F1' F2' : Nat → Prop} {B B' : List (List UInt8)} {P P' : List Snt} (hp : Pair w2 s1 s2 F1 F2 B P B P)
    (hb : DiskRep F1' w3 s1 B' P') (u : Upd F1 w2 w3) (hF : ∀ k, F1' k → F1 k ∨ Fr w2 w3 k) (hb2 : XRep F2' w4 s2 B' P') (u2 : Upd F2 w3 w4) (hF2 : ∀ k, F2' k → F2 k ∨ Fr w3 w4 k) (hf : Fine B' P') (hl : P'.length ≤ n + 1) :
    Mid w2 w4 s1 s2 F1 F2 n := by
  have z1 := u.size
  have z2 := u2.size
  refine ⟨F1', F2', B', P', (hp.stepProg hb u hF).stepRef hb2 u2 hF2, hf, hl, (u.mono (fun k h => Or.inl h)).trans u2 (fun k h _ => Or.inr h), fun k hk => ?_, fun k hk => ?_⟩
  · rcases hF k hk with g | g
    · exact .inl g
    · exact .inr ⟨g.1, by have := g.2; omega⟩
  · rcases hF2 k hk with g | g
    · exact .inl g
    · exact .inr ⟨by have := g.1; omega, g.2⟩
/-- nothing has turned but blocks that are new -/
theorem mid_same {w2 wz : World} {s1 s2 n : Nat} {F1 F2 : Nat → Prop} {B : List (List UInt8)} {P : List Snt} (hp : Pair w2 s1 s2 F1 F2 B P B P) (u : Upd Nil w2 wz) (hf : Fine B P) (hl : P.length ≤ n + 1) : Mid w2 wz s1 s2 F1 F2 n :=
  ⟨F1, F2, B, P, hp.keep u, hf, hl, u.ofNil, fun _ h => .inl h, fun _ h => .inl h⟩
theorem Upd.undrew {G : Nat → Prop} {w w' : World} (h : Upd G w.drew w') : Upd G w w' := h.ofDrew

set_option maxRecDepth 100000 in
set_option maxHeartbeats 4000000 in
theorem does {F1 F2 G : Nat → Prop} (w : World) {s1 s2 : Nat} {B : List (List UInt8)} {P : List Snt} (hT : Pair w s1 s2 F1 F2 B P B P) (hf : Fine B P) (hP : P.length ≤ 4000000000000) (op i : Int)
    {ab : Option Addr} (cb : Nat) {xs : List UInt8} (hb : Row G w ab (bvs xs)) (hab : ab = none → cb = 0) (hx : xs.length ≤ 140737488355328)
    {ak : Option Addr} (ck : Nat) {ks : List Int} (hk : Row G w ak (ivs ks)) (hkx : ks.length * 8 ≤ 140737488355328) (hG1 : ∀ k, G k → ¬ F1 k) (hG2 : ∀ k, G k → ¬ F2 k) :
    Calls Try.prog 45 #[.pointer (some ⟨s1, 0, none⟩), .pointer (some ⟨s2, 0, none⟩), .agg #[.int .i64 op, .int .i64 i, .slice ab xs.length cb, .slice ak ks.length ck]] w (Did w s1 s2 F1 F2 P.length) := by
  have HT := Lib.hid hT
  have HF := Lib.hid hf
  have HP := Lib.hid hP
  have HB := Lib.hid hb
  have HAB := Lib.hid hab
  have HX := Lib.hid hx
  have HK := Lib.hid hk
  have HKX := Lib.hid hkx
  have HG1 := Lib.hid hG1
  have HG2 := Lib.hid hG2
  clear hT hf hP hb hab hx hk hkx hG1 hG2
  go_enter Try.func45, Try.ntmps45
  go_wp2_with fail
  have hB0 := Blk.new w 91 #[.int .i64 op, .int .i64 i, .slice ab xs.length cb, .slice ak ks.length ck]
  have hU0 : Upd Nil w (w.alloc (.cells #[.int .i64 op, .int .i64 i, .slice ab xs.length cb, .slice ak ks.length ck] 91)) := (Upd.refl Nil w).alloc _
  have hc2 : (w.alloc (.cells #[.int .i64 op, .int .i64 i, .slice ab xs.length cb, .slice ak ks.length ck] 91)).cell? ⟨w.heap.size, 2, none⟩ = some (.slice ab xs.length cb) := hB0.cell 2
  have hc3 : (w.alloc (.cells #[.int .i64 op, .int .i64 i, .slice ab xs.length cb, .slice ak ks.length ck] 91)).cell? ⟨w.heap.size, 3, none⟩ = some (.slice ak ks.length ck) := hB0.cell 3
  have HB0 := Lib.hid hB0
  have HU0 := Lib.hid hU0
  clear hB0 hU0
  go_region_held3 (fun W => W.cell? ⟨w.heap.size, 2, none⟩ = some (.slice ab xs.length cb) ∧ W.cell? ⟨w.heap.size, 3, none⟩ = some (.slice ak ks.length ck)) (first | exact ⟨hb2, hb3⟩ | exact ⟨ha2, ha3⟩ | exact ⟨hc2, hc3⟩)
    (first
    | (go_at_call 26; refine (bytesClone _ cb (HB.out.keep HU0.out.drew) HX.out).mono ?_; rintro e w1 ⟨a1, c1, rfl, hown1, hup1⟩; have ha2 := hup1.cell hc2 (fun f => f); have ha3 := hup1.cell hc3 (fun f => f); have HO1 := Lib.hid hown1; have HU1 := Lib.hid hup1; clear hown1 hup1)
    | (go_at_call 62; refine (slicesCloneI _ ck ((HK.out.keep HU0.out.drew).keep HU1.out) HKX.out).mono ?_; rintro e w2 ⟨a2, c2, rfl, hown2, hup2⟩; have hb2 := hup2.cell ha2 (fun f => f); have hb3 := hup2.cell ha3 (fun f => f); have HO2 := Lib.hid hown2; have HU2 := Lib.hid hup2; clear hown2 hup2))
  -- the state ahead of the switch
  have hU02 : Upd Nil w w2 := (HU0.out.drew.trans HU1.out (fun _ f _ => f)).trans HU2.out (fun _ f _ => f)
  have hO1 : Own (Fr w w2) w2 5 1 a1 xs.length c1 (bvs xs) := (HO1.out.keep HU2.out).mono (fun k hk => ⟨by have := hk.1; simp only [World.drew, World.size_alloc] at this; omega, Nat.lt_of_lt_of_le hk.2 HU2.out.size⟩)
  have hO2 : Own (Fr w w2) w2 3 1 a2 ks.length c2 (ivs ks) := HO2.out.mono (fun k hk => ⟨Nat.le_trans (HU0.out.drew.size) (Nat.le_trans HU1.out.size hk.1), hk.2⟩)
  have hBl : Blk w2 w.heap.size 91 #[.int .i64 op, .int .i64 i, .slice ab xs.length cb, .slice ak ks.length ck] := ((HB0.out.drew.upd HU1.out (fun f => f)).upd HU2.out (fun f => f))
  have HU02 := Lib.hid hU02
  have HOg := Lib.hid hO1
  have HOk := Lib.hid hO2
  have HBl := Lib.hid hBl
  have HT2 := Lib.hid (HT.out.keep hU02)
  have HRb := Lib.hid (HB.out.keep hU02)
  have HRk := Lib.hid (HK.out.keep hU02)
  have k0 : w2.cell? ⟨w.heap.size, 0, none⟩ = some (.int .i64 op) := hBl.cell 0
  have k1 : w2.cell? ⟨w.heap.size, 1, none⟩ = some (.int .i64 i) := hBl.cell 1
  have k2 : w2.cell? ⟨w.heap.size, 2, none⟩ = some (.slice ab xs.length cb) := hBl.cell 2
  have k3 : w2.cell? ⟨w.heap.size, 3, none⟩ = some (.slice ak ks.length ck) := hBl.cell 3
  have hn1 : ¬ F1 w.heap.size := fun f => by have := HT.out.in1 _ f; omega
  have hn2 : ¬ F2 w.heap.size := fun f => by have := HT.out.in2 _ f; omega
  have hg1 : ∀ k, Fr w w2 k → ¬ F1 k := fun k hk f => by have := HT.out.in1 _ f; have := hk.1; omega
  have hg2 : ∀ k, Fr w w2 k → ¬ F2 k := fun k hk f => by have := HT.out.in2 _ f; have := hk.1; omega
  have HN1 := Lib.hid hn1
  have HN2 := Lib.hid hn2
  have HGg1 := Lib.hid hg1
  have HGg2 := Lib.hid hg2
  clear hU02 hO1 hO2 hBl hn1 hn2 hg1 hg2 hc2 hc3 ha2 ha3 hb2 hb3 HO1 HO2 HU1 HU2 HB HK HU0 HB0
  go_wp2_with fail
  · go_region_held3 (fun W => W.cell? ⟨w.heap.size, 1, none⟩ = some (.int .i64 i) ∧ W.cell? ⟨w.heap.size, 2, none⟩ = some (.slice ab xs.length cb)) (first | exact ⟨mz1, mz2⟩ | exact ⟨my1, my2⟩ | exact ⟨k1, k2⟩)
      (first
      | (go_at_call 39; refine (disk_Write_any _ HT2.out.drew.prog HF.out HP.out i c1 HOg.out.drew.row).mono ?_; rintro e w3 ⟨rfl, F1', h1, h2, h3⟩; have my1 := h2.cell k1 HN1.out; have my2 := h2.cell k2 HN1.out; have HD3 := Lib.hid h1; have HU3 := Lib.hid h2.undrew; have HF3 := Lib.hid h3; clear h1 h2 h3)
      | (go_at_call 63; refine (x_Write_any _ (HT2.out.ref.upd HU3.out (fun k h2 h1 => HT2.out.apart k h1 h2)) HP.out i cb (HRb.out.upd HU3.out HG1.out) HAB.out).mono ?_; rintro e w4 ⟨rfl, F2', h1, h2, h3⟩; have mz1 := h2.cell my1 HN2.out; have mz2 := h2.cell my2 HN2.out; have HM := Lib.hid (mid_two (n := P.length) HT2.out HD3.out HU3.out HF3.out h1 h2 h3 (HF.out.write i xs) (length_wPend B P i xs)); clear h1 h2 h3))
    have z2 := HM.out.upd.cell k2 (fun f => by rcases f with f | f; exact HN1.out f; exact HN2.out f); have z3 := HM.out.upd.cell k3 (fun f => by rcases f with f | f; exact HN1.out f; exact HN2.out f)
    go_wp2_with (first
      | (go_at_call 28; refine (spoil _ (((HOg.out.upd HM.out.upd (fun k hk f => by rcases f with f | f; exact HGg1.out k hk f; exact HGg2.out k hk f)).keep HUy.out))).mono ?_; rintro e w9 ⟨rfl, h9⟩; have HU9 := Lib.hid h9; clear h9)
      | (go_at_call 15; refine (bytesEqual_yes _ c1 cb (HOg.out.upd HM.out.upd (fun k hk f => by rcases f with f | f; exact HGg1.out k hk f; exact HGg2.out k hk f)).row (HRb.out.upd HM.out.upd (fun k hk f => by rcases f with f | f; exact HG1.out k hk f; exact HG2.out k hk f)) rfl).mono ?_; rintro e w' ⟨rfl, rfl⟩)
      | (go_at_call 67; refine (slicesEqualI _ c2 ck (HOk.out.upd HM.out.upd (fun k hk f => by rcases f with f | f; exact HGg1.out k hk f; exact HGg2.out k hk f)).row (HRk.out.upd HM.out.upd (fun k hk f => by rcases f with f | f; exact HG1.out k hk f; exact HG2.out k hk f)) (by have := HKX.out; omega)).mono ?_; rintro e w8 ⟨rfl, h8⟩; have HUy := Lib.hid h8; have y2 := h8.cell z2 (fun f => f); have y3 := h8.cell z3 (fun f => f); clear h8))
    go_ret
    exact HM.out.did HT.out.in1 HT.out.in2 HU02.out HUy.out HU9.out
  · go_region_held3 (fun W => W.cell? ⟨w.heap.size, 1, none⟩ = some (.int .i64 i) ∧ W.cell? ⟨w.heap.size, 2, none⟩ = some (.slice ab xs.length cb)) (first | exact ⟨mz1, mz2⟩ | exact ⟨my1, my2⟩ | exact ⟨k1, k2⟩)
      (first
      | (go_at_call 39; refine (disk_Write_any _ HT2.out.drew.prog HF.out HP.out i c1 HOg.out.drew.row).mono ?_; rintro e w3 ⟨rfl, F1', h1, h2, h3⟩; have my1 := h2.cell k1 HN1.out; have my2 := h2.cell k2 HN1.out; have HD3 := Lib.hid h1; have HU3 := Lib.hid h2.undrew; have HF3 := Lib.hid h3; clear h1 h2 h3)
      | (go_at_call 63; refine (x_Write_any _ (HT2.out.ref.upd HU3.out (fun k h2 h1 => HT2.out.apart k h1 h2)) HP.out i cb (HRb.out.upd HU3.out HG1.out) HAB.out).mono ?_; rintro e w4 ⟨rfl, F2', h1, h2, h3⟩; have mz1 := h2.cell my1 HN2.out; have mz2 := h2.cell my2 HN2.out; have HM := Lib.hid (mid_two (n := P.length) HT2.out HD3.out HU3.out HF3.out h1 h2 h3 (HF.out.write i xs) (length_wPend B P i xs)); clear h1 h2 h3))
    have z2 := HM.out.upd.cell k2 (fun f => by rcases f with f | f; exact HN1.out f; exact HN2.out f); have z3 := HM.out.upd.cell k3 (fun f => by rcases f with f | f; exact HN1.out f; exact HN2.out f)
    go_wp2_with (first
      | (go_at_call 28; refine (spoil _ (((HOg.out.upd HM.out.upd (fun k hk f => by rcases f with f | f; exact HGg1.out k hk f; exact HGg2.out k hk f)).keep HUy.out))).mono ?_; rintro e w9 ⟨rfl, h9⟩; have HU9 := Lib.hid h9; clear h9)
      | (go_at_call 15; refine (bytesEqual_yes _ c1 cb (HOg.out.upd HM.out.upd (fun k hk f => by rcases f with f | f; exact HGg1.out k hk f; exact HGg2.out k hk f)).row (HRb.out.upd HM.out.upd (fun k hk f => by rcases f with f | f; exact HG1.out k hk f; exact HG2.out k hk f)) rfl).mono ?_; rintro e w' ⟨rfl, rfl⟩)
      | (go_at_call 67; refine (slicesEqualI _ c2 ck (HOk.out.upd HM.out.upd (fun k hk f => by rcases f with f | f; exact HGg1.out k hk f; exact HGg2.out k hk f)).row (HRk.out.upd HM.out.upd (fun k hk f => by rcases f with f | f; exact HG1.out k hk f; exact HG2.out k hk f)) (by have := HKX.out; omega)).mono ?_; rintro e w8 ⟨rfl, h8⟩; have HUy := Lib.hid h8; have y2 := h8.cell z2 (fun f => f); have y3 := h8.cell z3 (fun f => f); clear h8))
    go_ret
    exact HM.out.did HT.out.in1 HT.out.in2 HU02.out HUy.out HU9.out
  · go_wp2_with (first
      | (go_at_call 28; refine (spoil _ (((HOg.out.upd HM.out.upd (fun k hk f => by rcases f with f | f; exact HGg1.out k hk f; exact HGg2.out k hk f)).keep HUy.out))).mono ?_; rintro e w9 ⟨rfl, h9⟩; have HU9 := Lib.hid h9; clear h9)
      | (go_at_call 15; refine (bytesEqual_yes _ c1 cb (HOg.out.upd HM.out.upd (fun k hk f => by rcases f with f | f; exact HGg1.out k hk f; exact HGg2.out k hk f)).row (HRb.out.upd HM.out.upd (fun k hk f => by rcases f with f | f; exact HG1.out k hk f; exact HG2.out k hk f)) rfl).mono ?_; rintro e w' ⟨rfl, rfl⟩)
      | (go_at_call 67; refine (slicesEqualI _ c2 ck (HOk.out.upd HM.out.upd (fun k hk f => by rcases f with f | f; exact HGg1.out k hk f; exact HGg2.out k hk f)).row (HRk.out.upd HM.out.upd (fun k hk f => by rcases f with f | f; exact HG1.out k hk f; exact HG2.out k hk f)) (by have := HKX.out; omega)).mono ?_; rintro e w8 ⟨rfl, h8⟩; have HUy := Lib.hid h8; have y2 := h8.cell z2 (fun f => f); have y3 := h8.cell z3 (fun f => f); clear h8)
      | (go_at_call 28; refine (spoil _ (HO3.out.keep HU4.out)).mono ?_; rintro e w5 ⟨rfl, h1⟩; have HM := Lib.hid (mid_same (n := P.length) HT2.out ((HU3.out.trans HU4.out (fun _ f _ => f)).trans h1 (fun k hk hlt => by have := hk.1; omega)) HF.out (by omega)); have z2 := HM.out.upd.cell k2 (fun f => by rcases f with f | f; exact HN1.out f; exact HN2.out f); have z3 := HM.out.upd.cell k3 (fun f => by rcases f with f | f; exact HN1.out f; exact HN2.out f); clear h1)
      | (go_at_call 15; refine (bytesEqual_yes _ c3 c4 (HO3.out.keep HU4.out).row HO4.out.row rfl).mono ?_; rintro e w' ⟨rfl, rfl⟩)
      | (go_at_call 38; refine (disk_Read_any _ HT2.out.prog HF.out HP.out i).mono ?_; rintro e w3 ⟨a3, c3, rfl, h1, h2⟩; have my1 := h2.cell k1 (fun f => f); have HO3 := Lib.hid h1; have HU3 := Lib.hid h2; clear h1 h2)
      | (go_at_call 64; refine (x_Read_any _ (HT2.out.keep HU3.out).ref HF.out HP.out i).mono ?_; rintro e w4 ⟨a4, c4, rfl, h1, h2⟩; have HO4 := Lib.hid h1; have HU4 := Lib.hid h2; clear h1 h2))
    go_ret
    exact HM.out.did HT.out.in1 HT.out.in2 HU02.out HUy.out HU9.out
  · go_wp2_with (first
      | (go_at_call 28; refine (spoil _ (((HOg.out.upd HM.out.upd (fun k hk f => by rcases f with f | f; exact HGg1.out k hk f; exact HGg2.out k hk f)).keep HUy.out))).mono ?_; rintro e w9 ⟨rfl, h9⟩; have HU9 := Lib.hid h9; clear h9)
      | (go_at_call 15; refine (bytesEqual_yes _ c1 cb (HOg.out.upd HM.out.upd (fun k hk f => by rcases f with f | f; exact HGg1.out k hk f; exact HGg2.out k hk f)).row (HRb.out.upd HM.out.upd (fun k hk f => by rcases f with f | f; exact HG1.out k hk f; exact HG2.out k hk f)) rfl).mono ?_; rintro e w' ⟨rfl, rfl⟩)
      | (go_at_call 67; refine (slicesEqualI _ c2 ck (HOk.out.upd HM.out.upd (fun k hk f => by rcases f with f | f; exact HGg1.out k hk f; exact HGg2.out k hk f)).row (HRk.out.upd HM.out.upd (fun k hk f => by rcases f with f | f; exact HG1.out k hk f; exact HG2.out k hk f)) (by have := HKX.out; omega)).mono ?_; rintro e w8 ⟨rfl, h8⟩; have HUy := Lib.hid h8; have y2 := h8.cell z2 (fun f => f); have y3 := h8.cell z3 (fun f => f); clear h8)
      | (go_at_call 40; refine (disk_Flush _ HT2.out.prog HF.out HP.out).mono ?_; rintro e w3 ⟨rfl, F1', h1, h2, h3⟩; have HD3 := Lib.hid h1; have HU3 := Lib.hid h2; have HF3 := Lib.hid h3; clear h1 h2 h3)
      | (go_at_call 65; refine (x_Flush _ (HT2.out.ref.upd HU3.out (fun k h2 h1 => HT2.out.apart k h1 h2)) HF.out HP.out).mono ?_; rintro e w4 ⟨rfl, F2', h1, h2, h3⟩; have HM := Lib.hid (mid_two (n := P.length) HT2.out HD3.out HU3.out HF3.out h1 h2 h3 HF.out.flush (by simp)); have z2 := HM.out.upd.cell k2 (fun f => by rcases f with f | f; exact HN1.out f; exact HN2.out f); have z3 := HM.out.upd.cell k3 (fun f => by rcases f with f | f; exact HN1.out f; exact HN2.out f); clear h1 h2 h3))
    go_ret
    exact HM.out.did HT.out.in1 HT.out.in2 HU02.out HUy.out HU9.out
  · go_region_held3 (fun W => W.cell? ⟨w.heap.size, 3, none⟩ = some (.slice ak ks.length ck)) (first | exact mz3 | exact my3 | exact k3)
      (first
      | (go_at_call 37; refine (disk_Crash_any _ HT2.out.drew.prog HF.out HP.out c2 HOk.out.drew.row (by have := HKX.out; omega)).mono ?_; rintro e w3 ⟨rfl, F1', h1, h2, h3⟩; have my3 := h2.cell k3 HN1.out; have HD3 := Lib.hid h1; have HU3 := Lib.hid h2.undrew; have HF3 := Lib.hid h3; clear h1 h2 h3)
      | (go_at_call 66; refine (x_Crash_any _ (HT2.out.ref.upd HU3.out (fun k h2 h1 => HT2.out.apart k h1 h2)) HF.out HP.out ck (HRk.out.upd HU3.out HG1.out) (by have := HKX.out; omega)).mono ?_; rintro e w4 ⟨rfl, F2', h1, h2, h3⟩; have mz3 := h2.cell my3 HN2.out; have HM := Lib.hid (mid_two (n := P.length) HT2.out HD3.out HU3.out HF3.out h1 h2 h3 (HF.out.crash ks) (by have := length_cPend P ks; omega)); clear h1 h2 h3))
    have z2 := HM.out.upd.cell k2 (fun f => by rcases f with f | f; exact HN1.out f; exact HN2.out f); have z3 := HM.out.upd.cell k3 (fun f => by rcases f with f | f; exact HN1.out f; exact HN2.out f)
    go_wp2_with (first
      | (go_at_call 28; refine (spoil _ (((HOg.out.upd HM.out.upd (fun k hk f => by rcases f with f | f; exact HGg1.out k hk f; exact HGg2.out k hk f)).keep HUy.out))).mono ?_; rintro e w9 ⟨rfl, h9⟩; have HU9 := Lib.hid h9; clear h9)
      | (go_at_call 15; refine (bytesEqual_yes _ c1 cb (HOg.out.upd HM.out.upd (fun k hk f => by rcases f with f | f; exact HGg1.out k hk f; exact HGg2.out k hk f)).row (HRb.out.upd HM.out.upd (fun k hk f => by rcases f with f | f; exact HG1.out k hk f; exact HG2.out k hk f)) rfl).mono ?_; rintro e w' ⟨rfl, rfl⟩)
      | (go_at_call 67; refine (slicesEqualI _ c2 ck (HOk.out.upd HM.out.upd (fun k hk f => by rcases f with f | f; exact HGg1.out k hk f; exact HGg2.out k hk f)).row (HRk.out.upd HM.out.upd (fun k hk f => by rcases f with f | f; exact HG1.out k hk f; exact HG2.out k hk f)) (by have := HKX.out; omega)).mono ?_; rintro e w8 ⟨rfl, h8⟩; have HUy := Lib.hid h8; have y2 := h8.cell z2 (fun f => f); have y3 := h8.cell z3 (fun f => f); clear h8))
    go_ret
    exact HM.out.did HT.out.in1 HT.out.in2 HU02.out HUy.out HU9.out
end Go.Proofs.Ytbaombnnagidcaa
