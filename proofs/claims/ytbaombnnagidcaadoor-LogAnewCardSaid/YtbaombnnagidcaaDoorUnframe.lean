/- slices.Equal; Unframe of the program. -/
import Derived.Test.YtbaombnnagidcaaDoorFrame2
namespace Go.Proofs.YtbaombnnagidcaaDoor
open Go.RowKit

/-- a bool, and nothing that was there has turned -/
def Says (b : Bool) (w : World) (e : Ending) (w' : World) : Prop := e = .returned (.bool b) ∧ Upd Nil w w'

set_option maxHeartbeats 1000000 in
theorem slicesEqualB {F G : Nat → Prop} (w : World) {a b : Option Addr} (c d : Nat) {xs ys : List UInt8} (hx : Row F w a (bvs xs)) (hy : Row G w b (bvs ys)) (hm : xs.length ≤ 9223372036854775807) (hm2 : ys.length ≤ 9223372036854775807) :
    Calls Tryd.prog 57 #[.slice a xs.length c, .slice b ys.length d] w (Says (decide (xs = ys)) w) := by
  have HA := Lib.hid hx
  have HB := Lib.hid hy
  clear hx hy
  by_cases hl : xs.length = ys.length
  · have HL := Lib.hid hl
    rw [← hl]
    clear hl
    go_enter Tryd.func57, Tryd.ntmps57
    go_wp2
    go_loopg [13] xs.length (fun k i wr => ∃ j : Nat, j + k = xs.length ∧ i = .int .i64 j ∧ xs.take j = ys.take j ∧ Upd Nil w wr)
    case atStart => exact ⟨0, by omega, rfl, by simp, Upd.refl _ _⟩
    case round =>
      obtain ⟨j, hjk, rfl, htk, hup⟩ := hrel
      have hjn : j ≤ xs.length := by omega
      have HJ := Lib.hid hjk
      have HT := Lib.hid htk
      have HU := Lib.hid hup
      clear hjk htk hup
      by_cases hlt : j < xs.length
      · have hlt' : j < ys.length := by have := HL.out; omega
        obtain ⟨b1, o1, rfl, _, hc1⟩ := rowAt HA.out (bvs_get xs j hlt)
        obtain ⟨b2, o2, rfl, _, hc2⟩ := rowAt HB.out (bvs_get ys j hlt')
        have hcA := HU.out.cell hc1 (fun f => f)
        have hcB := HU.out.cell hc2 (fun f => f)
        obtain ⟨x, hxe⟩ : ∃ x, xs[j] = x := ⟨_, rfl⟩
        obtain ⟨y, hye⟩ : ∃ y, ys[j] = y := ⟨_, rfl⟩
        rw [hxe] at hcA
        rw [hye] at hcB
        have HX := Lib.hid hxe
        have HY := Lib.hid hye
        have b1' : (0 : Int) ≤ (j : Int) := by omega
        have b2' : (j : Int) < (xs.length : Int) := by omega
        clear hc1 hc2 hxe hye
        by_cases he : x = y
        · subst he
          go_wp2
          go_quiet (fail)
          go_wp2
          go_roundg (gk - 1)
          case measure => have := HJ.out; omega
          case rel =>
            refine ⟨j + 1, by have := HJ.out; omega, by go_num, ?_, HU.out.drewN _⟩
            rw [List.take_succ_eq_append_getElem hlt, List.take_succ_eq_append_getElem hlt', HT.out, HX.out, HY.out]
        · have hne : ((x.toNat : Int) == (y.toNat : Int)) = false := by
            rw [beq_eq_false_iff_ne]
            intro h
            exact he (UInt8.toNat_inj.1 (by omega))
          have hne2 : ((x.toNat : Int) != (y.toNat : Int)) = true := by
            rw [bne_iff_ne]
            intro h
            exact he (UInt8.toNat_inj.1 (by omega))
          have HE := Lib.hid he
          clear he
          go_wp2
          go_quiet (fail)
          go_wp2
          go_ret
          refine ⟨?_, HU.out.drewN _⟩
          show Ending.returned (.bool false) = _
          rw [decide_eq_false]
          rintro rfl
          exact HE.out (HX.out.symm.trans HY.out)
      · go_wp2
        go_ret
        refine ⟨?_, HU.out⟩
        show Ending.returned (.bool true) = _
        rw [decide_eq_true]
        have hj : j = xs.length := by omega
        have := HT.out
        rw [hj, List.take_length] at this
        rw [this, HL.out, List.take_length]
  · have hl' : ((xs.length : Int) == (ys.length : Int)) = false := by
      rw [beq_eq_false_iff_ne]
      omega
    have hlN : ((xs.length : Int) != (ys.length : Int)) = true := by
      rw [bne_iff_ne]
      omega
    have HL := Lib.hid hl
    clear hl
    go_enter Tryd.func57, Tryd.ntmps57
    go_wp2
    go_ret
    refine ⟨?_, Upd.refl _ _⟩
    show Ending.returned (.bool false) = _
    rw [decide_eq_false]
    rintro rfl
    exact HL.out rfl

/-- those of a frame, what stands behind it, the error -/
def unframeL (b : List UInt8) : List UInt8 × List UInt8 × Int :=
  if (scanL b).2.2 ≠ 0 then ([], [], (scanL b).2.2) else if 65536 < (scanL b).1 then ([], [], 12)
  else if (b.drop (scanL b).2.1).length < (scanL b).1 + 4 then ([], [], 10)
  else if fourL (sumL ((b.drop (scanL b).2.1).take (scanL b).1)) = ((b.drop (scanL b).2.1).drop (scanL b).1).take 4 then ((b.drop (scanL b).2.1).take (scanL b).1, (b.drop (scanL b).2.1).drop ((scanL b).1 + 4), 0) else ([], [], 13)

/-- what Unframe answers: two slices of bytes and a code; all of it new -/
def GotTwo (w : World) (t : List UInt8 × List UInt8 × Int) (e : Ending) (w' : World) : Prop :=
  ∃ a c b d, e = .returned (.tuple #[.slice a t.1.length c, .slice b t.2.1.length d, .int .i64 t.2.2]) ∧ Row (Fr w w') w' a (bvs t.1) ∧ (a = none → c = 0) ∧ t.1.length ≤ c ∧ c ≤ maxLen ∧ Own (Fr w w') w' 5 1 b t.2.1.length d (bvs t.2.1) ∧ Upd Nil w w'
theorem GotTwo.none_ {w w' : World} {z : Int} (u : Upd Nil w w') : GotTwo w ([], [], z) (.returned (.tuple #[.slice none 0 0, .slice none 0 0, .int .i64 z])) w' :=
  ⟨none, 0, none, 0, rfl, Row.nil _ _ _, fun _ => rfl, Nat.le_refl _, Nat.zero_le _, Own.none_ _ _ _ _, u⟩

theorem slicesEqualB_at {F G : Nat → Prop} (w : World) {a b : Option Addr} (c d : Nat) {xs ys : List UInt8} {n m : Nat} {r : Bool} (hx : Row F w a (bvs xs)) (hy : Row G w b (bvs ys)) (hn : xs.length = n) (hm : ys.length = m) (hn2 : n ≤ 1000000) (hm2 : m ≤ 1000000) (hr : decide (xs = ys) = r) :
    Calls Tryd.prog 57 #[.slice a n c, .slice b m d] w (Says r w) := by
  subst hn; subst hm; subst hr
  exact slicesEqualB w c d hx hy (by omega) (by omega)
theorem wire_sum4_at {F : Nat → Prop} (w : World) {a : Option Addr} (c : Nat) {xs : List UInt8} {n : Nat} (hr : Row F w a (bvs xs)) (hn : xs.length = n) (hx : n ≤ 1000000) (ht : Tab w) :
    Calls Tryd.prog 55 #[.slice a n c] w (RetOwn w 5 1 4 (bvs (fourL (sumL xs)))) := by
  subst hn
  exact wire_sum4 w c hr (by omega) ht
theorem slicesCloneB_at {F : Nat → Prop} (w : World) {a : Option Addr} (c : Nat) {xs : List UInt8} {n : Nat} (hr : Row F w a (bvs xs)) (hn : xs.length = n) (hx : n ≤ 140737488355328) :
    Calls Tryd.prog 53 #[.slice a n c] w (RetOwn w 5 1 n (bvs xs)) := by
  subst hn
  exact slicesCloneB w c hr hx

set_option maxRecDepth 100000 in
set_option maxHeartbeats 2000000 in
theorem wire_Unframe {F : Nat → Prop} (w : World) {a : Option Addr} (c : Nat) {l : List UInt8} (hr : Row F w a (bvs l)) (hx : l.length ≤ 140737488355328) (ht : Tab w) :
    Calls Tryd.prog 22 #[.slice a l.length c] w (GotTwo w (unframeL l)) := by
  have HR := Lib.hid hr
  have HT := Lib.hid ht
  have h00 := World.block_lt_of_cell? w _ (ht 0 (by decide))
  have hle := scanL_le l
  have hlt := scanL_lt l
  clear hr ht
  unfold unframeL
  have hd0 : l.drop 0 = l := List.drop_zero
  have HD0 := Lib.hid hd0
  clear hd0
  obtain ⟨⟨n, k, z⟩, hq⟩ : ∃ q, scanL l = q := ⟨_, rfl⟩
  have HQ := Lib.hid hq
  rw [hq] at hle hlt ⊢
  dsimp only at hle hlt ⊢
  clear hq
  obtain ⟨xs, hxs⟩ : ∃ xs, l.drop k = xs := ⟨_, rfl⟩
  have hxl : xs.length ≤ 140737488355328 := by rw [← hxs, List.length_drop]; omega
  rw [hxs]
  have HXs := Lib.hid hxs
  have HX0 := Lib.hid (show l.drop (0 + k) = xs by rw [Nat.zero_add]; exact hxs)
  clear hxs
  by_cases hz : z = 0
  · subst hz
    rw [if_neg (by decide)]
    by_cases hn : 65536 < n
    · rw [if_pos hn]
      go_enter Tryd.func22, Tryd.ntmps22
      go_wp2_with (first
        | (go_at_call 23; refine (rd_Over _ c HR.out hx).mono ?_; rintro e w1 ⟨s, F1, rfl, g1, g2, g3⟩; have H1 := Lib.hid g1; have H2 := Lib.hid g2; have HU1 := Lib.hid g3; clear g1 g2 g3)
        | (go_at_call 24; refine (rd_Uint _ H1.out).mono ?_; rintro e w2 hg; rw [HD0.out, HQ.out] at hg; dsimp only at hg; obtain ⟨rfl, g1, g2⟩ := hg; have H3 := Lib.hid g1; have HU2 := Lib.hid g2; clear g1 g2))
      go_ret3
      exact GotTwo.none_ (HU1.out.trans HU2.out (fun k hk hlt => by have := (H2.out k hk).1; omega))
    · rw [if_neg hn]
      by_cases hs : xs.length < n + 4
      · rw [if_pos hs]
        have hs' : (xs.length : Int) < (n : Int) + 4 := by omega
        have hn' : n ≤ 65536 := by omega
        clear hn hs
        go_enter Tryd.func22, Tryd.ntmps22
        go_wp2_with (first
          | (go_at_call 23; refine (rd_Over _ c HR.out hx).mono ?_; rintro e w1 ⟨s, F1, rfl, g1, g2, g3⟩; have H1 := Lib.hid g1; have H2 := Lib.hid g2; have HU1 := Lib.hid g3; clear g1 g2 g3)
          | (go_at_call 24; refine (rd_Uint _ H1.out).mono ?_; rintro e w2 hg; rw [HD0.out, HQ.out] at hg; dsimp only at hg; obtain ⟨rfl, g1, g2⟩ := hg; have H3 := Lib.hid g1; have HU2 := Lib.hid g2; clear g1 g2)
          | (go_at_call 56; refine (rd_rest _ H3.out).mono ?_; rintro e w3 hg; rw [HX0.out] at hg; obtain ⟨a3, c3, rfl, g1, g2, g3, g4, g5⟩ := hg; have HU3 := Lib.hid g5; clear g1 g2 g3 g4 g5))
        go_ret3
        exact GotTwo.none_ ((HU1.out.trans HU2.out (fun k hk hlt => by have := (H2.out k hk).1; omega)).trans HU3.out (fun _ f _ => f))
      · rw [if_neg hs]
        have hs' : n + 4 ≤ xs.length := by omega
        have hlp : (xs.take n).length = n := by rw [List.length_take]; omega
        have hl4 : ((xs.drop n).take 4).length = 4 := by rw [List.length_take, List.length_drop]; omega
        have hlr : (xs.drop (n + 4)).length = xs.length - (n + 4) := by rw [List.length_drop]
        have HLp := Lib.hid hlp
        have HL4 := Lib.hid hl4
        have HLr := Lib.hid hlr
        have hn' : n ≤ 65536 := by omega
        clear hn hs hlp hl4 hlr
        by_cases he : fourL (sumL (xs.take n)) = (xs.drop n).take 4
        · rw [if_pos he]
          have HE := Lib.hid he
          clear he
          go_enter Tryd.func22, Tryd.ntmps22
          go_wp2_with (first
            | (go_at_call 23; refine (rd_Over _ c HR.out hx).mono ?_; rintro e w1 ⟨s, F1, rfl, g1, g2, g3⟩; have H1 := Lib.hid g1; have H2 := Lib.hid g2; have HU1 := Lib.hid g3; clear g1 g2 g3)
            | (go_at_call 24; refine (rd_Uint _ H1.out).mono ?_; rintro e w2 hg; rw [HD0.out, HQ.out] at hg; dsimp only at hg; obtain ⟨rfl, g1, g2⟩ := hg; have H3 := Lib.hid g1; have HU2 := Lib.hid g2; clear g1 g2)
            | (go_at_call 56; refine (rd_rest _ H3.out).mono ?_; rintro e w3 hg; rw [HX0.out] at hg; obtain ⟨a3, c3, rfl, g1, g2, g3, g4, g5⟩ := hg
               have HU3 := Lib.hid g5
               obtain ⟨bk, o, rfl, hFb, _⟩ := g1 (by intro e; have := congrArg List.length e; rw [length_bvs, List.length_nil] at this; omega)
               have hc3 : (xs.length : Int) ≤ (c3 : Int) := by omega
               have hcm : (c3 : Int) ≤ 9223372036854775807 := by have := le_max g4; omega
               have hne : ¬ c3 = n := by omega
               have HRx := Lib.hid g1; have HM3 := Lib.hid g4; clear g1 g2 g4 g5))
          have HT3 := Lib.hid (((HT.out.upd HU1.out (fun f => f)).upd HU2.out (fun f => by have := (H2.out 0 f).1; omega)).upd HU3.out (fun f => f))
          have HRp := Lib.hid (show Row F1 w3 (some ⟨bk, o, none⟩) (bvs (xs.take n)) by rw [bvs_take]; exact HRx.out.take n)
          have HR4 := Lib.hid (show Row F1 w3 (some ⟨bk, o + n, none⟩) (bvs ((xs.drop n).take 4)) by
            have := HRx.out.cut n 4 (b := bk) (o := o) (by rw [← bvs_drop, ← bvs_take]; intro e; have := congrArg List.length e; rw [length_bvs, HL4.out] at this; cases this) rfl
            rwa [← bvs_drop, ← bvs_take] at this)
          have i1 : (0 : Int) ≤ (n : Int) := by omega
          have i2 : (n : Int) + 4 ≤ (xs.length : Int) := by omega
          have i3 : (n : Int) ≤ (n : Int) + 4 := by omega
          have i4 : (n : Int) + 4 ≤ (c3 : Int) := by omega
          have i5 : IntKind.i64.wrap ((n : Int) + 4) = (n : Int) + 4 := IntWalk.i64_in _ (by omega)
          have i6 : ((n : Int) + 4).toNat = n + 4 := by omega
          have i7 : n + 4 - n = 4 := by omega
          have HEq := Lib.hid (decide_eq_true HE.out)
          go_region_law (first
            | (go_simp; go_at_call 55; refine (wire_sum4_at _ n (HRp.out.keep (Upd.refl Nil w3).drew) HLp.out (by omega) (HT3.out.upd (Upd.refl Nil w3).drew (fun f => f))).mono ?_; rintro e w4 ⟨a4, c4, rfl, g1, g2⟩; have HO4 := Lib.hid g1; have HU4 := Lib.hid g2.ofDrew; clear g1 g2)
            | (go_simp; go_at_call 57; refine (slicesEqualB_at (n := 4) (m := 4) _ c4 (c3 - n) HO4.out.row (HR4.out.keep HU4.out) rfl HL4.out (by decide) (by decide) HEq.out).mono ?_; rintro e w5 ⟨rfl, g2⟩; have HU5 := Lib.hid g2; clear g2))
          have HU15 := Lib.hid ((((HU1.out.trans HU2.out (fun k hk hlt => by have := (H2.out k hk).1; omega)).trans HU3.out (fun _ f _ => f)).trans HU4.out (fun _ f _ => f)).trans HU5.out (fun _ f _ => f))
          have HRe := Lib.hid ((HRx.out.keep HU4.out).keep HU5.out)
          have HRq := Lib.hid ((HRp.out.keep HU4.out).keep HU5.out)
          have HF1 := Lib.hid (show ∀ k, F1 k → w.heap.size ≤ k ∧ k < w5.heap.size from fun k hk => ⟨(H2.out k hk).1, by have := (H2.out k hk).2; have := HU2.out.size; have := HU3.out.size; have := HU4.out.size; have := HU5.out.size; omega⟩)
          by_cases hcr : c3 = n + 4
          · have hdr : xs.drop (n + 4) = [] := List.eq_nil_of_length_eq_zero (by rw [List.length_drop]; omega)
            have HDr := Lib.hid hdr
            clear hdr
            go_wp2_with (go_at_call 53; refine (slicesCloneB_at (F := Nil) _ _ (xs := xs.drop (n + 4)) (by rw [HDr.out]; exact Row.nil _ _ _) HLr.out (by omega)).mono ?_; rintro e w6 ⟨a6, c6, rfl, g1, g2⟩; have HO6 := Lib.hid g1; have HU6 := Lib.hid g2; clear g1 g2)
            go_ret3
            have z1 := HU15.out.size
            have z6 := HU6.out.size
            refine ⟨some ⟨bk, o, none⟩, n, a6, c6, ?_, (HRq.out.keep HU6.out).mono (fun k hk => ⟨(HF1.out k hk).1, by have := (HF1.out k hk).2; omega⟩), (fun h => by cases h), ?_, ?_, ?_, HU15.out.trans HU6.out (fun _ f _ => f)⟩
            · show _ = Ending.returned (.tuple #[.slice (some ⟨bk, o, none⟩) (xs.take n).length n, .slice a6 (xs.drop (n + 4)).length c6, .int .i64 0])
              rw [HLp.out, HLr.out]
              rfl
            · show (xs.take n).length ≤ n
              rw [HLp.out]
              exact Nat.le_refl _
            · simp only [maxLen]
              omega
            · show Own (Fr w w6) w6 5 1 a6 (xs.drop (n + 4)).length c6 (bvs (xs.drop (n + 4)))
              rw [HLr.out]
              exact HO6.out.mono (fun k hk => ⟨by have := hk.1; omega, hk.2⟩)
          · have hdw := HRe.out.dropAt (n + 4) c3 (b := bk) (o := o) (by rw [length_bvs]; omega) (by rw [length_bvs]; omega)
            rw [if_neg hcr, ← bvs_drop] at hdw
            have HDw := Lib.hid hdw
            clear hdw
            go_wp2_with (go_at_call 53; refine (slicesCloneB_at _ _ (xs := xs.drop (n + 4)) HDw.out HLr.out (by omega)).mono ?_; rintro e w6 ⟨a6, c6, rfl, g1, g2⟩; have HO6 := Lib.hid g1; have HU6 := Lib.hid g2; clear g1 g2)
            go_ret3
            have z1 := HU15.out.size
            have z6 := HU6.out.size
            refine ⟨some ⟨bk, o, none⟩, n, a6, c6, ?_, (HRq.out.keep HU6.out).mono (fun k hk => ⟨(HF1.out k hk).1, by have := (HF1.out k hk).2; omega⟩), (fun h => by cases h), ?_, ?_, ?_, HU15.out.trans HU6.out (fun _ f _ => f)⟩
            · show _ = Ending.returned (.tuple #[.slice (some ⟨bk, o, none⟩) (xs.take n).length n, .slice a6 (xs.drop (n + 4)).length c6, .int .i64 0])
              rw [HLp.out, HLr.out]
              rfl
            · show (xs.take n).length ≤ n
              rw [HLp.out]
              exact Nat.le_refl _
            · simp only [maxLen]
              omega
            · show Own (Fr w w6) w6 5 1 a6 (xs.drop (n + 4)).length c6 (bvs (xs.drop (n + 4)))
              rw [HLr.out]
              exact HO6.out.mono (fun k hk => ⟨by have := hk.1; omega, hk.2⟩)
        · rw [if_neg he]
          have HE := Lib.hid he
          clear he
          go_enter Tryd.func22, Tryd.ntmps22
          go_wp2_with (first
            | (go_at_call 23; refine (rd_Over _ c HR.out hx).mono ?_; rintro e w1 ⟨s, F1, rfl, g1, g2, g3⟩; have H1 := Lib.hid g1; have H2 := Lib.hid g2; have HU1 := Lib.hid g3; clear g1 g2 g3)
            | (go_at_call 24; refine (rd_Uint _ H1.out).mono ?_; rintro e w2 hg; rw [HD0.out, HQ.out] at hg; dsimp only at hg; obtain ⟨rfl, g1, g2⟩ := hg; have H3 := Lib.hid g1; have HU2 := Lib.hid g2; clear g1 g2)
            | (go_at_call 56; refine (rd_rest _ H3.out).mono ?_; rintro e w3 hg; rw [HX0.out] at hg; obtain ⟨a3, c3, rfl, g1, g2, g3, g4, g5⟩ := hg
               have HU3 := Lib.hid g5
               obtain ⟨bk, o, rfl, hFb, _⟩ := g1 (by intro e; have := congrArg List.length e; rw [length_bvs, List.length_nil] at this; omega)
               have hc3 : (xs.length : Int) ≤ (c3 : Int) := by omega
               have hcm : (c3 : Int) ≤ 9223372036854775807 := by have := le_max g4; omega
               have hne : ¬ c3 = n := by omega
               have HRx := Lib.hid g1; have HM3 := Lib.hid g4; clear g1 g2 g4 g5))
          have HT3 := Lib.hid (((HT.out.upd HU1.out (fun f => f)).upd HU2.out (fun f => by have := (H2.out 0 f).1; omega)).upd HU3.out (fun f => f))
          have HRp := Lib.hid (show Row F1 w3 (some ⟨bk, o, none⟩) (bvs (xs.take n)) by rw [bvs_take]; exact HRx.out.take n)
          have HR4 := Lib.hid (show Row F1 w3 (some ⟨bk, o + n, none⟩) (bvs ((xs.drop n).take 4)) by
            have := HRx.out.cut n 4 (b := bk) (o := o) (by rw [← bvs_drop, ← bvs_take]; intro e; have := congrArg List.length e; rw [length_bvs, HL4.out] at this; cases this) rfl
            rwa [← bvs_drop, ← bvs_take] at this)
          have i1 : (0 : Int) ≤ (n : Int) := by omega
          have i2 : (n : Int) + 4 ≤ (xs.length : Int) := by omega
          have i3 : (n : Int) ≤ (n : Int) + 4 := by omega
          have i4 : (n : Int) + 4 ≤ (c3 : Int) := by omega
          have i5 : IntKind.i64.wrap ((n : Int) + 4) = (n : Int) + 4 := IntWalk.i64_in _ (by omega)
          have i6 : ((n : Int) + 4).toNat = n + 4 := by omega
          have i7 : n + 4 - n = 4 := by omega
          have HEq := Lib.hid (decide_eq_false HE.out)
          go_region_law (first
            | (go_simp; go_at_call 55; refine (wire_sum4_at _ n (HRp.out.keep (Upd.refl Nil w3).drew) HLp.out (by omega) (HT3.out.upd (Upd.refl Nil w3).drew (fun f => f))).mono ?_; rintro e w4 ⟨a4, c4, rfl, g1, g2⟩; have HO4 := Lib.hid g1; have HU4 := Lib.hid g2.ofDrew; clear g1 g2)
            | (go_simp; go_at_call 57; refine (slicesEqualB_at (n := 4) (m := 4) _ c4 (c3 - n) HO4.out.row (HR4.out.keep HU4.out) rfl HL4.out (by decide) (by decide) HEq.out).mono ?_; rintro e w5 ⟨rfl, g2⟩; have HU5 := Lib.hid g2; clear g2))
          go_wp2
          go_ret3
          exact GotTwo.none_ ((((HU1.out.trans HU2.out (fun k hk hlt => by have := (H2.out k hk).1; omega)).trans HU3.out (fun _ f _ => f)).trans HU4.out (fun _ f _ => f)).trans HU5.out (fun _ f _ => f))
  · rw [if_pos hz]
    have hz' : (z != 0) = true := by rw [bne_iff_ne]; exact hz
    have hz2 : (z == 0) = false := by rw [beq_eq_false_iff_ne]; exact hz
    go_enter Tryd.func22, Tryd.ntmps22
    go_wp2_with (first
      | (go_at_call 23; refine (rd_Over _ c HR.out hx).mono ?_; rintro e w1 ⟨s, F1, rfl, g1, g2, g3⟩; have H1 := Lib.hid g1; have H2 := Lib.hid g2; have HU1 := Lib.hid g3; clear g1 g2 g3)
      | (go_at_call 24; refine (rd_Uint _ H1.out).mono ?_; rintro e w2 hg; rw [HD0.out, HQ.out] at hg; dsimp only at hg; obtain ⟨rfl, g1, g2⟩ := hg; have H3 := Lib.hid g1; have HU2 := Lib.hid g2; clear g1 g2))
    go_ret3
    exact GotTwo.none_ (HU1.out.trans HU2.out (fun k hk hlt => by have := (H2.out k hk).1; omega))
end Go.Proofs.YtbaombnnagidcaaDoor
