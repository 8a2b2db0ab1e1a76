/- The document's log: read. -/
import Derived.Test.YtbaombnnagidcaaDoorZL20
import Derived.Test.YtbaombnnagidcaaDoorZL07
import Derived.Deep.DeepCutAuto
import Derived.Deep.RegionHeld3
import Derived.Test.YtbaombnnagidcaaDoorZL11
import Derived.Test.YtbaombnnagidcaaDoorZL12

namespace Go.Proofs.YtbaombnnagidcaaDoor
open Go.RowKit

theorem numOf_drop (l : List UInt8) {k : Nat} (hk : k ≤ l.length) : 256 ^ k * numOf (l.drop k) ≤ numOf l := by
  have h := numOf_append (l.take k) (l.drop k)
  rw [List.take_append_drop, List.length_take, Nat.min_eq_left hk] at h
  omega
theorem numOf_at {l : List UInt8} {i : Nat} (h : i < l.length) : numOf (l.drop i) = l[i].toNat + 256 * numOf (l.drop (i + 1)) := by
  rw [List.drop_eq_getElem_cons h, numOf]
/-- a number of which the high bytes are too much -/
theorem readSec_big {b : List UInt8} {place i : Nat} (hi : i < 8) (hb : b.length = 128) (h : 36028797018963968 < numOf (((b.drop 4).take 8).drop (i + 1))) : readSec b place = none := by
  have hl : ((b.drop 4).take 8).length = 8 := by rw [List.length_take, List.length_drop]; omega
  have h1 := numOf_drop ((b.drop 4).take 8) (k := i + 1) (by omega)
  have h2 : 256 * numOf (((b.drop 4).take 8).drop (i + 1)) ≤ 256 ^ (i + 1) * numOf (((b.drop 4).take 8).drop (i + 1)) := Nat.mul_le_mul_right _ (by rw [Nat.pow_succ]; exact Nat.le_mul_of_pos_left _ (Nat.pos_of_ne_zero (by simp)))
  unfold readSec
  rw [if_neg (fun q => by have := q.2.2.1; omega)]

set_option maxRecDepth 100000 in
set_option maxHeartbeats 4000000 in
theorem ref3_read {F : Nat → Prop} (w : World) {a : Option Addr} (c : Nat) {xs : List UInt8} (hr : Row F w a (bvs xs)) (hlc : xs.length ≤ c) (hcm : c ≤ maxLen) (hx : xs.length = 128) (place : Nat) (hp : place < 65536) :
    Calls Tryd.prog 110 #[.slice a 128 c, .int .i64 (place : Int)] w (GotSec F w (readSec xs place)) := by
  obtain ⟨b, o, rfl, hFb, hcell⟩ := hr (by intro e; have := congrArg List.length e; rw [length_bvs, List.length_nil] at this; omega)
  have HC := Lib.hid hcell
  have HR := Lib.hid hr
  have HLC := Lib.hid (And.intro hlc hcm)
  have HX := Lib.hid hx
  have hc128 : 128 ≤ c := by omega
  obtain ⟨rs, hrs⟩ : ∃ r, readSec xs place = r := ⟨_, rfl⟩
  have HRd := Lib.hid hrs
  rw [hrs]
  have hn := hcell 1 _ (bvs_get xs 1 (by omega))
  have hgd : xs.getD 1 0 = xs[1]'(by omega) := by rw [List.getD_eq_getElem?_getD, List.getElem?_eq_getElem (by omega)]; rfl
  have hn256 : (xs[1]'(by omega)).toNat < 256 := UInt8.toNat_lt _
  obtain ⟨n, hnn⟩ : ∃ n, (xs[1]'(by omega)).toNat = n := ⟨_, rfl⟩
  have hgn : (xs.getD 1 0).toNat = n := by rw [hgd, hnn]
  rw [hnn] at hn hn256
  have HGn := Lib.hid hgn
  obtain ⟨X, hX⟩ : ∃ X, (xs.drop 4).take 8 = X := ⟨_, rfl⟩
  have hX8 : X.length = 8 := by rw [← hX, List.length_take, List.length_drop]; omega
  have hXc : ∀ i (h : i < X.length), w.cell? ⟨b, o + (4 + i), none⟩ = some (.int .u8 (((X[i]'h).toNat : Nat) : Int)) := fun i h => by
    have h1 := hcell (4 + i) _ (bvs_get xs (4 + i) (by omega))
    have h2 : X[i]'h = xs[4 + i]'(by omega) := by simp [← hX]
    rw [h2]
    exact h1
  have HXe := Lib.hid hX
  have HX8 := Lib.hid hX8
  have HXc := Lib.hid hXc
  clear hrs hr hlc hcm hcell hgd hnn hgn hX hX8 hXc
  go_enter Tryd.func110, Tryd.ntmps110
  go_wp2
  go_loopg [8, 9] 8 (fun k fv iv wr => k ≤ 8 ∧ (∃ z : Int, iv = .int .i64 z ∧ z = (k : Int) - 1) ∧ (∃ f : Int, fv = .int .i64 f ∧ (f = ((numOf (X.drop k) : Nat) : Int) ∨ (k = 0 ∧ f < 1 ∧ rs = none))) ∧ w = wr)
  case atStart => exact ⟨Nat.le_refl _, ⟨_, rfl, rfl⟩, ⟨_, rfl, .inl (by rw [List.drop_of_length_le (by rw [HX8.out]; exact Nat.le_refl _)]; rfl)⟩, rfl⟩
  case round =>
    obtain ⟨hk, ⟨z, rfl, hz⟩, ⟨f, rfl, hf⟩, rfl⟩ := hrel
    rcases Nat.eq_zero_or_pos gk with h0 | h0
    · subst h0
      have hz0 : z < 0 := by omega
      rcases hf with rfl | ⟨_, hf1, rfl⟩
      · obtain ⟨acc, ha⟩ : ∃ n, numOf (X.drop 0) = n := ⟨_, rfl⟩
        rw [ha]
        have hsp : readSec xs place = rs := HRd.out
        unfold readSec at hsp
        rw [HGn.out, HXe.out, show numOf X = acc from ha] at hsp
        have hacc : acc < 18446744073709551616 := by
          have := numOf_lt X
          rw [HX8.out] at this
          rw [← ha]
          exact this
        clear ha hz
        by_cases h1 : n ≤ 112 ∧ 1 ≤ acc ∧ acc ≤ 4611686018427387904
        · obtain ⟨h1a, h1b, h1c⟩ := h1
          obtain ⟨load, hload⟩ : ∃ l, (xs.drop 12).take n = l := ⟨_, rfl⟩
          rw [hload] at hsp
          have hll : load.length = n := by rw [← hload, List.length_take, List.length_drop]; have := HX.out; omega
          have hrow : Row F w (some ⟨b, o + 12, none⟩) (bvs load) := by
            have := (HR.out.dropAt 12 c (by rw [length_bvs]; have := HX.out; omega) (by rw [length_bvs]; exact HLC.out.1)).take n
            rwa [if_neg (by omega), ← bvs_drop, ← bvs_take, hload] at this
          have HRl := Lib.hid hrow
          have HLl := Lib.hid hll
          have i1 : (0 : Int) ≤ 12 + (n : Int) := by omega
          have i2 : (12 : Int) ≤ 12 + (n : Int) := by omega
          have i3 : (12 : Int) + (n : Int) ≤ (c : Int) := by omega
          have i4 : (12 + (n : Int)).toNat = 12 + n := by omega
          have i5 : 12 + n - 12 = n := by omega
          have i6 : ¬ c = 12 := by omega
          have v2 : IntKind.i64.wrap (12 + (n : Int)) = 12 + (n : Int) := IntWalk.i64_in _ (by omega)
          have g1 : decide ((112 : Int) < (n : Int)) = false := by rw [decide_eq_false_iff_not]; omega
          have g2 : decide ((acc : Int) < (1 : Int)) = false := by rw [decide_eq_false_iff_not]; omega
          have g3 : decide ((4611686018427387904 : Int) < (acc : Int)) = false := by rw [decide_eq_false_iff_not]; omega
          obtain ⟨Sc, hS⟩ : ∃ S, sectorL place acc load = S := ⟨_, rfl⟩
          rw [hS] at hsp
          have hSl : Sc.length = 128 := by rw [← hS]; exact length_sectorL (by omega)
          have HS := Lib.hid hS
          have HSl := Lib.hid hSl
          have hacc2 : acc < 9223372036854775808 := by omega
          have hn112 : n ≤ 112 := h1a
          have HAcc := Lib.hid hacc2
          have HAc2 := Lib.hid (And.intro h1b h1c)
          clear hload hll hrow hS hSl hacc hacc2 h1b h1c
          obtain ⟨Bq, hB⟩ : ∃ B, decide (Sc = xs) = B := ⟨_, rfl⟩
          have HB := Lib.hid hB
          have hif : (if n ≤ 112 ∧ 1 ≤ acc ∧ acc ≤ 4611686018427387904 ∧ Sc = xs then some (load, acc) else none) = rs := hsp
          have HIf := Lib.hid hif
          clear hB hif hsp
          go_upto_region 9 with fail
          go_cut [51] (fun v wx => v = .bool (!Bq) ∧ Upd Nil w wx)
          case first =>
            have HCv : Hid (∀ W, Upd Nil w W → (convert 22 9 (.slice (some ⟨b, o, none⟩) 128 c)).run Tryd.prog W = .ok (.string (str xs)) W) := Lib.hid (fun W u => by
              have := run_convert_Row (P := Tryd.prog) (HR.out.keep u) 22 5 9 Tryd.underlying22 Tryd.underlying5 Tryd.underlying9 c
              rwa [HX.out] at this)
            have cv0 := HCv.out w (Upd.refl Nil w)
            clear hn
            -- the region, one operation behind the other
            refine wp_region_held_drew (S := fun W => (convert 22 9 (.slice (some ⟨b, o, none⟩) 128 c)).run Tryd.prog W = .ok (.string (str xs)) W) (by kernel_rfl) (HCv.out _ (Upd.refl Nil w).drew) (fun hHeld => ?_)
            refine wpAnyH_take (i := 0) (oi := ?o0) (v := ?v0) ?ho0 (by kernel_rfl) (by kernel_rfl) (by kernel_rfl) ?hQ0 (Or.inl ⟨?hw0, ?hy0⟩) hHeld ?_
            case ho0 => (simp only [List.getElem?_toArray, List.getElem?_cons_zero]; rfl)
            case hw0 => rfl
            case hQ0 => exact fun _ _ _ h => h
            case hy0 => (intro W hSw; (try dsimp only at hSw); go_simp; try with_reducible rfl)
            simp only [Act.put, List.setIfInBounds_toArray, List.set_cons_zero, List.set_cons_succ]
            refine wpAnyH_take (i := 1) (oi := ?o1) (v := ?v1) ?ho1 (by kernel_rfl) (by kernel_rfl) (by kernel_rfl) ?hQ1 (Or.inl ⟨?hw1, ?hy1⟩) hHeld ?_
            case ho1 => (simp only [List.getElem?_toArray, List.getElem?_cons_zero, List.getElem?_cons_succ]; rfl)
            case hw1 => rfl
            case hQ1 => exact fun _ _ _ h => h
            case hy1 => (intro W hSw; (try dsimp only at hSw); go_simp; try with_reducible rfl)
            simp only [Act.put, List.setIfInBounds_toArray, List.set_cons_zero, List.set_cons_succ]
            refine wpAnyH_take (i := 2) (oi := ?o2) (v := ?v2) ?ho2 (by kernel_rfl) (by kernel_rfl) (by kernel_rfl) ?hQ2 (Or.inl ⟨?hw2, ?hy2⟩) hHeld ?_
            case ho2 => (simp only [List.getElem?_toArray, List.getElem?_cons_zero, List.getElem?_cons_succ]; rfl)
            case hw2 => rfl
            case hQ2 => exact fun _ _ _ h => h
            case hy2 => (intro W hSw; (try dsimp only at hSw); go_simp; try with_reducible rfl)
            simp only [Act.put, List.setIfInBounds_toArray, List.set_cons_zero, List.set_cons_succ]
            refine wpAnyH_take (i := 3) (oi := ?o3) (v := ?v3) ?ho3 (by kernel_rfl) (by kernel_rfl) (by kernel_rfl) ?hQ3 (Or.inl ⟨?hw3, ?hy3⟩) hHeld ?_
            case ho3 => (simp only [List.getElem?_toArray, List.getElem?_cons_zero, List.getElem?_cons_succ]; rfl)
            case hw3 => rfl
            case hQ3 => exact fun _ _ _ h => h
            case hy3 => (intro W hSw; (try dsimp only at hSw); go_simp; try with_reducible rfl)
            simp only [Act.put, List.setIfInBounds_toArray, List.set_cons_zero, List.set_cons_succ]
            refine wpAnyH_take (i := 4) (oi := ?o4) (v := ?v4) ?ho4 (by kernel_rfl) (by kernel_rfl) (by kernel_rfl) ?hQ4 (Or.inl ⟨?hw4, ?hy4⟩) hHeld ?_
            case ho4 => (simp only [List.getElem?_toArray, List.getElem?_cons_zero, List.getElem?_cons_succ]; rfl)
            case hw4 => rfl
            case hQ4 => exact fun _ _ _ h => h
            case hy4 => (intro W hSw; (try dsimp only at hSw); go_simp; try with_reducible rfl)
            simp only [Act.put, List.setIfInBounds_toArray, List.set_cons_zero, List.set_cons_succ]
            refine wpAnyH_take (i := 5) (oi := ?o5) (v := ?v5) ?ho5 (by kernel_rfl) (by kernel_rfl) (by kernel_rfl) ?hQ5 (Or.inl ⟨?hw5, ?hy5⟩) hHeld ?_
            case ho5 => (simp only [List.getElem?_toArray, List.getElem?_cons_zero, List.getElem?_cons_succ]; rfl)
            case hw5 => rfl
            case hQ5 => exact fun _ _ _ h => h
            case hy5 => (intro W hSw; (try dsimp only at hSw); go_simp; try with_reducible rfl)
            simp only [Act.put, List.setIfInBounds_toArray, List.set_cons_zero, List.set_cons_succ]
            refine wpAnyH_take (i := 6) (oi := ?o6) (v := ?v6) ?ho6 (by kernel_rfl) (by kernel_rfl) (by kernel_rfl) ?hQ6 (Or.inl ⟨?hw6, ?hy6⟩) hHeld ?_
            case ho6 => (simp only [List.getElem?_toArray, List.getElem?_cons_zero, List.getElem?_cons_succ]; rfl)
            case hw6 => rfl
            case hQ6 => exact fun _ _ _ h => h
            case hy6 => (intro W hSw; (try dsimp only at hSw); go_simp; try with_reducible rfl)
            simp only [Act.put, List.setIfInBounds_toArray, List.set_cons_zero, List.set_cons_succ]
            refine wpAnyH_take (i := 7) (oi := ?o7) (v := ?v7) ?ho7 (by kernel_rfl) (by kernel_rfl) (by kernel_rfl) ?hQ7 (Or.inl ⟨?hw7, ?hy7⟩) hHeld ?_
            case ho7 => (simp only [List.getElem?_toArray, List.getElem?_cons_zero, List.getElem?_cons_succ]; rfl)
            case hw7 => rfl
            case hQ7 => exact fun _ _ _ h => h
            case hy7 => (intro W hSw; (try dsimp only at hSw); go_simp; try with_reducible rfl)
            simp only [Act.put, List.setIfInBounds_toArray, List.set_cons_zero, List.set_cons_succ]
            refine wpAnyH_take (i := 8) (oi := ?o8) (v := ?v8) ?ho8 (by kernel_rfl) (by kernel_rfl) (by kernel_rfl) ?hQ8 (Or.inl ⟨?hw8, ?hy8⟩) hHeld ?_
            case ho8 => (simp only [List.getElem?_toArray, List.getElem?_cons_zero, List.getElem?_cons_succ]; rfl)
            case hw8 => rfl
            case hQ8 => exact fun _ _ _ h => h
            case hy8 => (intro W hSw; (try dsimp only at hSw); go_simp; try with_reducible rfl)
            simp only [Act.put, List.setIfInBounds_toArray, List.set_cons_zero, List.set_cons_succ]
            refine wpAnyH_take (i := 9) (oi := ?o9) (v := ?v9) ?ho9 (by kernel_rfl) (by kernel_rfl) (by kernel_rfl) ?hQ9 (Or.inl ⟨?hw9, ?hy9⟩) hHeld ?_
            case ho9 => (simp only [List.getElem?_toArray, List.getElem?_cons_zero, List.getElem?_cons_succ]; rfl)
            case hw9 => rfl
            case hQ9 => exact fun _ _ _ h => h
            case hy9 => (intro W hSw; (try dsimp only at hSw); go_simp; try with_reducible rfl)
            simp only [Act.put, List.setIfInBounds_toArray, List.set_cons_zero, List.set_cons_succ]
            refine wpAnyH_take (i := 10) (oi := ?o10) (v := ?v10) ?ho10 (by kernel_rfl) (by kernel_rfl) (by kernel_rfl) ?hQ10 (Or.inl ⟨?hw10, ?hy10⟩) hHeld ?_
            case ho10 => (simp only [List.getElem?_toArray, List.getElem?_cons_zero, List.getElem?_cons_succ]; rfl)
            case hw10 => rfl
            case hQ10 => exact fun _ _ _ h => h
            case hy10 => (intro W hSw; (try dsimp only at hSw); go_simp; try with_reducible rfl)
            simp only [Act.put, List.setIfInBounds_toArray, List.set_cons_zero, List.set_cons_succ]
            refine wpAnyH_take (i := 11) (oi := ?o11) (v := ?v11) ?ho11 (by kernel_rfl) (by kernel_rfl) (by kernel_rfl) ?hQ11 (Or.inl ⟨?hw11, ?hy11⟩) hHeld ?_
            case ho11 => (simp only [List.getElem?_toArray, List.getElem?_cons_zero, List.getElem?_cons_succ]; rfl)
            case hw11 => rfl
            case hQ11 => exact fun _ _ _ h => h
            case hy11 => (intro W hSw; (try dsimp only at hSw); go_simp; try with_reducible rfl)
            simp only [Act.put, List.setIfInBounds_toArray, List.set_cons_zero, List.set_cons_succ]
            refine wpAnyH_take (i := 12) (oi := ?o12) (v := ?v12) ?ho12 (by kernel_rfl) (by kernel_rfl) (by kernel_rfl) ?hQ12 (Or.inl ⟨?hw12, ?hy12⟩) hHeld ?_
            case ho12 => (simp only [List.getElem?_toArray, List.getElem?_cons_zero, List.getElem?_cons_succ]; rfl)
            case hw12 => rfl
            case hQ12 => exact fun _ _ _ h => h
            case hy12 => (intro W hSw; (try dsimp only at hSw); go_simp; try with_reducible rfl)
            simp only [Act.put, List.setIfInBounds_toArray, List.set_cons_zero, List.set_cons_succ]
            refine wpAnyH_take (i := 13) (oi := ?o13) (v := ?v13) ?ho13 (by kernel_rfl) (by kernel_rfl) (by kernel_rfl) ?hQ13 (Or.inl ⟨?hw13, ?hy13⟩) hHeld ?_
            case ho13 => (simp only [List.getElem?_toArray, List.getElem?_cons_zero, List.getElem?_cons_succ]; rfl)
            case hw13 => rfl
            case hQ13 => exact fun _ _ _ h => h
            case hy13 => (intro W hSw; (try dsimp only at hSw); go_simp; try with_reducible rfl)
            simp only [Act.put, List.setIfInBounds_toArray, List.set_cons_zero, List.set_cons_succ]
            refine wpAnyH_take (i := 14) (oi := ?o14) (v := ?v14) ?ho14 (by kernel_rfl) (by kernel_rfl) (by kernel_rfl) ?hQ14 (Or.inl ⟨?hw14, ?hy14⟩) hHeld ?_
            case ho14 => (simp only [List.getElem?_toArray, List.getElem?_cons_zero, List.getElem?_cons_succ]; rfl)
            case hw14 => rfl
            case hQ14 => exact fun _ _ _ h => h
            case hy14 => (intro W hSw; (try dsimp only at hSw); go_simp; try with_reducible rfl)
            simp only [Act.put, List.setIfInBounds_toArray, List.set_cons_zero, List.set_cons_succ]
            refine wpAnyH_take (i := 15) (oi := ?o15) (v := ?v15) ?ho15 (by kernel_rfl) (by kernel_rfl) (by kernel_rfl) ?hQ15 (Or.inl ⟨?hw15, ?hy15⟩) hHeld ?_
            case ho15 => (simp only [List.getElem?_toArray, List.getElem?_cons_zero, List.getElem?_cons_succ]; rfl)
            case hw15 => rfl
            case hQ15 => exact fun _ _ _ h => h
            case hy15 => (intro W hSw; (try dsimp only at hSw); go_simp; try with_reducible rfl)
            simp only [Act.put, List.setIfInBounds_toArray, List.set_cons_zero, List.set_cons_succ]
            refine wpAnyH_take (i := 16) (oi := ?o16) (v := ?v16) ?ho16 (by kernel_rfl) (by kernel_rfl) (by kernel_rfl) ?hQ16 (Or.inl ⟨?hw16, ?hy16⟩) hHeld ?_
            case ho16 => (simp only [List.getElem?_toArray, List.getElem?_cons_zero, List.getElem?_cons_succ]; rfl)
            case hw16 => rfl
            case hQ16 => exact fun _ _ _ h => h
            case hy16 => (intro W hSw; (try dsimp only at hSw); go_simp; try with_reducible rfl)
            simp only [Act.put, List.setIfInBounds_toArray, List.set_cons_zero, List.set_cons_succ]
            refine wpAnyH_take (i := 19) (oi := ?o19) (v := ?v19) ?ho19 (by kernel_rfl) (by kernel_rfl) (by kernel_rfl) ?hQ19 (Or.inl ⟨?hw19, ?hy19⟩) hHeld ?_
            case ho19 => (simp only [List.getElem?_toArray, List.getElem?_cons_zero, List.getElem?_cons_succ]; rfl)
            case hw19 => rfl
            case hQ19 => exact fun _ _ _ h => h
            case hy19 => (intro W hSw; (try dsimp only at hSw); go_simp; try with_reducible rfl)
            simp only [Act.put, List.setIfInBounds_toArray, List.set_cons_zero, List.set_cons_succ]
            refine wpAnyH_take (i := 20) (oi := ?o20) (v := ?v20) ?ho20 (by kernel_rfl) (by kernel_rfl) (by kernel_rfl) ?hQ20 (Or.inl ⟨?hw20, ?hy20⟩) hHeld ?_
            case ho20 => (simp only [List.getElem?_toArray, List.getElem?_cons_zero, List.getElem?_cons_succ]; rfl)
            case hw20 => rfl
            case hQ20 => exact fun _ _ _ h => h
            case hy20 => (intro W hSw; (try dsimp only at hSw); go_simp; try with_reducible rfl)
            simp only [Act.put, List.setIfInBounds_toArray, List.set_cons_zero, List.set_cons_succ]
            refine wpAnyH_ready (rs := [17]) (by kernel_rfl) (by simp) ?_
            refine AllReadyH.cons (o := ?oc) ?hoc (fun K hK => ?_) AllReadyH.nil
            case hoc => (simp only [List.getElem?_toArray, List.getElem?_cons_zero, List.getElem?_cons_succ]; rfl)
            go_simp
            go_at_call 118
            refine (ref3_sector _ place acc hp HAcc.out (c - 12) HRl.out.drew (fun e => by cases e) HLl.out hn112).mono ?_
            rintro e w1 hg
            rw [HS.out] at hg
            obtain ⟨a1, c1, rfl, g1, g2⟩ := hg
            have cv2 := HCv.out w1 g2.ofDrew
            have cv3 := run_convert_Row (P := Tryd.prog) g1.row 22 5 9 Tryd.underlying22 Tryd.underlying5 Tryd.underlying9 c1
            rw [HSl.out] at cv3
            have HU1 := Lib.hid g2.ofDrew
            clear g1 g2
            refine hK.out _ _ cv2 (fun hHeld2 => ?_)
            clear hK K hHeld
            try simp only [Act.put, List.setIfInBounds_toArray, List.set_cons_zero, List.set_cons_succ]
            refine wpAnyH_ready (rs := [18]) (by kernel_rfl) (by simp) ?_
            refine AllReadyH.cons (o := ?od) ?hod (fun K hK => ?_) AllReadyH.nil
            case hod => (simp only [List.getElem?_toArray, List.getElem?_cons_zero, List.getElem?_cons_succ]; rfl)
            go_simp
            refine hK.out _ _ cv2 (fun hHeld => ?_)
            clear hK K hHeld2
            try simp only [Act.put, List.setIfInBounds_toArray, List.set_cons_zero, List.set_cons_succ]
            refine wpAnyH_take (i := 21) (oi := ?o21) (v := ?v21) ?ho21 (by kernel_rfl) (by kernel_rfl) (by kernel_rfl) ?hQ21 (Or.inl ⟨?hw21, ?hy21⟩) hHeld ?_
            case ho21 => (simp only [List.getElem?_toArray, List.getElem?_cons_zero, List.getElem?_cons_succ]; rfl)
            case hw21 => rfl
            case hQ21 => exact fun _ _ _ h => h
            case hy21 => (intro W hSw; (try dsimp only at hSw); go_simp; try with_reducible rfl)
            simp only [Act.put, List.setIfInBounds_toArray, List.set_cons_zero, List.set_cons_succ]
            refine wpAnyH_take (i := 22) (oi := ?o22) (v := ?v22) ?ho22 (by kernel_rfl) (by kernel_rfl) (by kernel_rfl) ?hQ22 (Or.inl ⟨?hw22, ?hy22⟩) hHeld ?_
            case ho22 => (simp only [List.getElem?_toArray, List.getElem?_cons_zero, List.getElem?_cons_succ]; rfl)
            case hw22 => rfl
            case hQ22 => exact fun _ _ _ h => h
            case hy22 => (intro W hSw; (try dsimp only at hSw); go_simp; try with_reducible rfl)
            simp only [Act.put, List.setIfInBounds_toArray, List.set_cons_zero, List.set_cons_succ]
            refine wpAnyH_done (by kernel_rfl) ?_ _
            go_wp2_with fail
            go_meet
            refine ⟨congrArg Value.bool ?_, HU1.out⟩
            rw [str_toList, str_toList, ← HB.out]
            by_cases he : Sc = xs
            · rw [decide_eq_true he, he]; simp
            · rw [decide_eq_false he]; simp [he]
          case rest =>
            obtain ⟨rfl, hwu⟩ := hcut
            have HW := Lib.hid hwu
            clear hwu hn
            cases Bq
            · have hs : rs = none := by rw [← HIf.out, if_neg (fun h => by have := HB.out; rw [decide_eq_true h.2.2.2] at this; cases this)]
              subst hs
              go_wp2
              go_ret3
              exact ⟨HW.out, _, _, rfl⟩
            · have hs : rs = some (load, acc) := by rw [← HIf.out, if_pos ⟨h1a, HAc2.out.1, HAc2.out.2, of_decide_eq_true HB.out⟩]
              subst hs
              go_wp2
              go_ret3
              refine ⟨HW.out, some ⟨b, o + 12, none⟩, c - 12, ?_, HRl.out.keep HW.out, by have := HLl.out; omega, by have := HLC.out.2; simp only [maxLen] at this ⊢; omega, fun h => by cases h⟩
              rw [HLl.out]
              rfl
        · rw [if_neg (fun h => h1 ⟨h.1, h.2.1, h.2.2.1⟩)] at hsp
          have HSp := Lib.hid hsp
          clear hsp
          have h2 : decide ((112 : Int) < (n : Int)) = true ∨ (decide ((112 : Int) < (n : Int)) = false ∧ decide ((acc : Int) < (1 : Int)) = true) ∨ (decide ((112 : Int) < (n : Int)) = false ∧ decide ((acc : Int) < (1 : Int)) = false ∧ decide ((4611686018427387904 : Int) < (acc : Int)) = true) := by
            simp only [decide_eq_true_eq, decide_eq_false_iff_not]
            omega
          clear h1
          rcases h2 with h2 | ⟨h2, h3⟩ | ⟨h2, h3, h4⟩
          all_goals
            go_wp2_with fail
            go_quiet (fail)
            go_wp2
            go_ret3
            rw [← HSp.out]
            exact ⟨(Upd.refl Nil w).drewN _, _, _, rfl⟩
      · clear hz hk
        have h2 : decide ((112 : Int) < (n : Int)) = true ∨ decide ((112 : Int) < (n : Int)) = false := by simp only [decide_eq_true_eq, decide_eq_false_iff_not]; omega
        have h3 : decide (f < (1 : Int)) = true := by rw [decide_eq_true_eq]; exact hf1
        rcases h2 with h2 | h2
        all_goals
          go_wp2_with fail
          go_quiet (fail)
          go_wp2
          go_ret3
          exact ⟨(Upd.refl Nil w).drewN _, _, _, rfl⟩
    · obtain ⟨m, hm⟩ : ∃ m, gk = m + 1 := ⟨gk - 1, by omega⟩
      subst hm
      obtain rfl : z = (m : Int) := by omega
      have hm8 : m < 8 := by omega
      have hc := HXc.out m (by rw [HX8.out]; exact hm8)
      have hst := numOf_at (l := X) (i := m) (by rw [HX8.out]; exact hm8)
      have hbig := readSec_big (b := xs) (place := place) hm8 HX.out
      rw [HXe.out, HRd.out] at hbig
      obtain ⟨y, hy⟩ : ∃ y, (X[m]'(by rw [HX8.out]; exact hm8)).toNat = y := ⟨_, rfl⟩
      have hy256 : y < 256 := by rw [← hy]; exact UInt8.toNat_lt _
      rw [hy] at hc hst
      obtain ⟨acc, ha⟩ : ∃ n, numOf (X.drop (m + 1)) = n := ⟨_, rfl⟩
      have hac : acc < 256 ^ (7 - m) := by
        have := numOf_lt (X.drop (m + 1))
        rw [ha, List.length_drop, HX8.out] at this
        rwa [show 8 - (m + 1) = 7 - m by omega] at this
      rw [ha] at hst hbig
      obtain rfl : f = (acc : Int) := by
        rcases hf with hf | ⟨hf, _⟩
        · rw [hf, ha]
        · omega
      have HSt := Lib.hid hst
      have HBig := Lib.hid hbig
      clear hst hy ha hbig hz h0 hf
      by_cases hb : 36028797018963968 < acc
      · have hd : decide ((36028797018963968 : Int) < (acc : Int)) = true := by rw [decide_eq_true_eq]; omega
        have hs := HBig.out hb
        subst hs
        clear hb
        go_wp2
        go_ret3
        exact ⟨Upd.refl _ _, _, _, rfl⟩
      · have hd : decide ((36028797018963968 : Int) < (acc : Int)) = false := by rw [decide_eq_false_iff_not]; omega
        by_cases he : acc = 36028797018963968
        · have hm0 : m = 0 := by
            rcases Nat.eq_zero_or_pos m with h | h
            · exact h
            · have : (256 : Nat) ^ (7 - m) ≤ 256 ^ 6 := Nat.pow_le_pow_right (by decide) (by omega)
              omega
          subst hm0
          have hs : rs = none := by
            have h1 := HSt.out
            have h2 := HRd.out
            unfold readSec at h2
            rw [if_neg (fun q => by have := q.2.2.1; rw [HXe.out] at this; rw [List.drop_zero] at h1; omega)] at h2
            exact h2.symm
          subst he
          have HS := Lib.hid hs
          clear hs hac hb
          go_wp2
          go_roundg 0
          case measure => omega
          case rel => exact ⟨by omega, ⟨_, rfl, by omega⟩, ⟨_, rfl, .inr ⟨rfl, by unfold wrap64; omega, HS.out⟩⟩, rfl⟩
        · have v1 : IntKind.i64.wrap ((acc : Int) * 256) = (acc : Int) * 256 := IntWalk.i64_in _ (by omega)
          have v2 : IntKind.i64.wrap ((acc : Int) * 256 + (y : Int)) = (acc : Int) * 256 + (y : Int) := IntWalk.i64_in _ (by omega)
          clear hb he hac
          go_wp2
          go_roundg m
          case measure => omega
          case rel => exact ⟨by omega, ⟨_, rfl, by omega⟩, ⟨_, rfl, .inl (by rw [HSt.out]; omega)⟩, rfl⟩
end Go.Proofs.YtbaombnnagidcaaDoor

namespace Go.Proofs.YtbaombnnagidcaaDoor
open Go.RowKit

theorem add_step {acc y j : Nat} (hy : y < 256) (hj : j ≤ 8) (ha : acc < 128 ^ j) : wrap64 ((acc : Int) + wrap64 (wrap64 (bits .and .u8 (y : Int) 127) * 2 ^ (7 * j))) = ((acc + y % 128 * 128 ^ j : Nat) : Int) := by
  have e1 : bits .and .u8 (y : Int) 127 = ((y % 128 : Nat) : Int) := by
    rw [show (127 : Int) = ((127 : Nat) : Int) from rfl, u8_and_nat y 127 hy (by decide)]
    congr 1
    exact Nat.and_two_pow_sub_one_eq_mod y 7
  have hp := pow_le9 hj
  have hm : y % 128 * 128 ^ j ≤ 127 * 72057594037927936 := Nat.mul_le_mul (by omega) hp
  have e2 : wrap64 ((y % 128 : Nat) : Int) = ((y % 128 : Nat) : Int) := by unfold wrap64; omega
  have e3 : ((y % 128 : Nat) : Int) * 2 ^ (7 * j) = ((y % 128 * 128 ^ j : Nat) : Int) := by rw [← pow128]; push_cast; rfl
  have e4 : wrap64 ((y % 128 * 128 ^ j : Nat) : Int) = ((y % 128 * 128 ^ j : Nat) : Int) := by unfold wrap64; omega
  rw [e1, e2, e3, e4]
  unfold wrap64
  omega

set_option maxRecDepth 100000 in
set_option maxHeartbeats 2000000 in
theorem ref_Uint {F : Nat → Prop} (w : World) {a : Option Addr} (c : Nat) {xs : List UInt8} (hr : Row F w a (bvs xs)) :
    Calls Tryd.prog 98 #[.slice a xs.length c] w fun e w' => e = .returned (.tuple #[.int .i64 (scanL xs).1, .int .i64 (scanL xs).2.1, .int .i64 (scanL xs).2.2]) ∧ w = w' := by
  have HR1 := Lib.hid hr
  clear hr
  go_enter Tryd.func98, Tryd.ntmps98
  go_wp2
  go_loopg [5, 7] 9 (fun k v i wr => ∃ j acc : Nat, j + k = 9 ∧ i = .int .i64 j ∧ v = .int .i64 (acc : Int) ∧ acc < 128 ^ j ∧ scanL xs = scanR j acc (xs.drop j) ∧ w = wr)
  case atStart => exact ⟨0, 0, by omega, rfl, rfl, by decide, rfl, rfl⟩
  case round =>
    obtain ⟨j, acc, hjk, rfl, rfl, hacc, hsc, rfl⟩ := hrel
    have hjn : j ≤ 9 := by omega
    have HJ := Lib.hid hjk
    have HAcc := Lib.hid hacc
    have HSc := Lib.hid hsc
    clear hjk hacc hsc
    by_cases hj9 : j = 9
    · subst hj9
      have hs := HSc.out
      have h9 : scanR 9 acc (xs.drop 9) = (0, 0, 11) := by
        cases xs.drop 9 with
        | nil => rfl
        | cons x r => rw [scanR, if_pos rfl]
      rw [h9] at hs
      have HS := Lib.hid hs
      clear hs h9
      go_wp2
      go_ret3
      rw [HS.out]
      exact ⟨rfl, rfl⟩
    have hj8 : j ≤ 8 := by omega
    by_cases hlt : j < xs.length
    · obtain ⟨b, o, rfl, _, hcell⟩ := rowAt HR1.out (bvs_get xs j hlt)
      have hb : (xs[j]).toNat < 256 := (xs[j]).toNat_lt
      obtain ⟨y, hy⟩ : ∃ y, (xs[j]).toNat = y := ⟨_, rfl⟩
      rw [hy] at hb hcell
      have hs := HSc.out
      rw [List.drop_eq_getElem_cons hlt, scanR, if_neg hj9, hy] at hs
      have HS := Lib.hid hs
      have hst := add_step hb hj8 HAcc.out
      have HSt := Lib.hid hst
      clear hs hst hy
      by_cases h128 : 128 ≤ y
      · have h1 := HS.out
        rw [if_pos h128] at h1
        have H1 := Lib.hid h1
        clear h1
        go_wp2
        go_roundg (gk - 1)
        case measure => have := HJ.out; omega
        case rel => exact ⟨j + 1, acc + y % 128 * 128 ^ j, by have := HJ.out; omega, by go_num, by rw [← HSt.out], step_lt HAcc.out, H1.out, rfl⟩
      · have h1 := HS.out
        rw [if_neg h128] at h1
        have h127 : y < 128 := by omega
        by_cases hz : y = 0
        · subst hz
          by_cases hj0 : 0 < j
          · rw [if_pos ⟨rfl, hj0⟩] at h1
            have H1 := Lib.hid h1
            clear h1
            go_wp2
            go_ret3
            rw [H1.out]
            exact ⟨rfl, rfl⟩
          · rw [if_neg (fun q => hj0 q.2)] at h1
            have H1 := Lib.hid h1
            clear h1
            go_wp2
            go_ret3
            rw [H1.out]
            refine ⟨?_, rfl⟩
            rw [← HSt.out]
            rfl
        · rw [if_neg (fun q => hz q.1)] at h1
          have H1 := Lib.hid h1
          have hz' : ((y : Int) == 0) = false := by rw [beq_eq_false_iff_ne]; omega
          have HZ := Lib.hid hz
          clear h1 hz
          go_wp2
          all_goals
            go_ret3
            rw [H1.out]
            refine ⟨?_, rfl⟩
            rw [← HSt.out]
            rfl
    · have hs := HSc.out
      rw [List.drop_eq_nil_of_le (by omega), scanR, if_neg (by omega)] at hs
      have HS := Lib.hid hs
      clear hs
      go_wp2
      go_ret3
      rw [HS.out]
      exact ⟨rfl, rfl⟩
end Go.Proofs.YtbaombnnagidcaaDoor

namespace Go.Proofs.YtbaombnnagidcaaDoor
open Go.RowKit

theorem splitL_ref_no {l : List UInt8} (h : (scanL l).2.2 ≠ 0 ∨ (scanL l).1 < 1 ∨ 2000 < (scanL l).1 ∨ l.length - (scanL l).2.1 < (scanL l).1) : splitL l = ([], 0) := by
  refine splitL_no (fun q => ?_)
  unfold textR at q
  rcases h with h | h | h | h
  · rw [if_pos h] at q
    exact q.2 rfl
  · split at q
    · exact q.2 rfl
    · split at q
      · exact q.2 rfl
      · split at q
        · exact q.2 rfl
        · apply q.2
          have e : (scanL l).1 = 0 := by omega
          dsimp only
          rw [e, List.take_zero]
  · split at q
    · exact q.2 rfl
    · exact q.2 rfl
  · split at q
    · exact q.2 rfl
    · split at q
      · exact q.2 rfl
      · exact q.2 rfl
theorem splitL_ref_yes {l : List UInt8} {n k : Nat} (hs : scanL l = (n, k, 0)) (h1 : 1 ≤ n) (h2 : n ≤ 2000) (h3 : n ≤ l.length - k) :
    splitL l = ((l.drop k).take n :: (splitL (l.drop (k + n))).1, k + n + (splitL (l.drop (k + n))).2) := by
  have e : textR 2000 l = ((l.drop k).take n, k + n, 0) := by
    rw [textR, hs]
    dsimp only
    rw [if_neg (by decide), if_neg (by omega), if_neg (by omega)]
  have h0 : (l.drop k).take n ≠ [] := by
    intro q
    have := congrArg List.length q
    rw [List.length_take, List.length_drop, List.length_nil] at this
    omega
  rw [splitL_yes (by rw [e]) (by rw [e]; exact h0), e]

theorem ref3_records_nil (w : World) : Calls Tryd.prog 111 #[.slice none 0 0] w (GotRecs w [] 0) := by
  have hU := ref_Uint (F := Nil) w 0 (xs := []) (Row.nil _ _ none)
  have HU : Hid (Calls Tryd.prog 98 #[.slice none 0 0] w fun e w' => e = .returned (.tuple #[.int .i64 0, .int .i64 0, .int .i64 10]) ∧ w = w') := Lib.hid hU
  clear hU
  go_enter Tryd.func111, Tryd.ntmps111
  go_wp2
  go_loopg [4, 5] 0 (fun k lv av wr => lv = .slice none 0 0 ∧ av = .int .i64 ((0 : Nat) : Int) ∧ w = wr)
  case atStart => exact ⟨rfl, rfl, rfl⟩
  case round =>
    obtain ⟨rfl, rfl, rfl⟩ := hrel
    go_wp2_with (go_at_call 98; refine HU.out.mono ?_; rintro e w' ⟨rfl, rfl⟩)
    go_ret2
    exact ⟨Nil, Nil, none, 0, [], rfl, ⟨Own.none_ _ _ _ _, trivial, rfl, fun _ f => f.elim, fun _ f => f.elim, fun _ f => f.elim⟩, fun _ f => f.elim, fun _ f => f.elim, Upd.refl _ _⟩

set_option maxRecDepth 100000 in
set_option maxHeartbeats 4000000 in
theorem ref3_records_some {F : Nat → Prop} (w : World) {b o : Nat} (c : Nat) {l : List UInt8} (hr : Row F w (some ⟨b, o, none⟩) (bvs l)) (hlc : l.length ≤ c) (hcm : c ≤ maxLen) (hx : l.length ≤ 1000000) :
    Calls Tryd.prog 111 #[.slice (some ⟨b, o, none⟩) l.length c] w (GotRecs w (splitL l).1 (splitL l).2) := by
  have HR := Lib.hid hr
  obtain ⟨i0, hi, hz0, hz1, hz2⟩ := info_parts infoBytes
  have hi0 := Lib.hid (And.intro hi (And.intro hz0 (And.intro hz1 hz2)))
  obtain ⟨j0, hj, hy0, hy1, hy2⟩ := info_parts infoU8
  have hj0 := Lib.hid (And.intro hj (And.intro hy0 (And.intro hy1 hy2)))
  obtain ⟨⟨rs, n0⟩, hsp⟩ : ∃ q, splitL l = q := ⟨_, rfl⟩
  rw [hsp]
  have HSp := Lib.hid hsp
  have hcm := le_max hcm
  clear hr hi hz0 hz1 hz2 hj hy0 hy1 hy2 hsp
  go_enter Tryd.func111, Tryd.ntmps111
  go_wp2
  go_loopg [4, 5] l.length (fun k lv av wr => ∃ (p : Nat) (dn : List (List UInt8)) (R E : Nat → Prop) (a2 : Option Addr) (c2 : Nat) (vs : List Value), p + k = l.length ∧ lv = .slice a2 dn.length c2 ∧ av = .int .i64 (p : Int) ∧ rs = dn ++ (splitL (l.drop p)).1 ∧ n0 = p + (splitL (l.drop p)).2 ∧ dn.length ≤ p ∧ Rows R E wr a2 dn.length c2 vs dn ∧ (∀ q, R q → Fr w wr q) ∧ (∀ q, E q → Fr w wr q) ∧ Upd Nil w wr)
  case atStart => exact ⟨0, [], Nil, Nil, none, 0, [], by omega, rfl, rfl, by rw [List.drop_zero, HSp.out]; rfl, by rw [List.drop_zero, HSp.out, Nat.zero_add], Nat.le_refl _, ⟨Own.none_ _ _ _ _, trivial, rfl, fun _ f => f.elim, fun _ f => f.elim, fun _ f => f.elim⟩, fun _ f => f.elim, fun _ f => f.elim, Upd.refl _ _⟩
  case round =>
    obtain ⟨p, dn, R, E, a2, c2, vs, hpk, rfl, rfl, hrs, hn, hdp, hrows, hR, hE, hup⟩ := hrel
    have hpl : p ≤ l.length := by omega
    have HP := Lib.hid hpk
    have HRs := Lib.hid hrs
    have HN := Lib.hid hn
    have HRw := Lib.hid hrows
    have HRf := Lib.hid hR
    have HEf := Lib.hid hE
    have HU := Lib.hid hup
    have hld : (l.drop p).length = l.length - p := List.length_drop
    obtain ⟨⟨n, k, z⟩, hq⟩ : ∃ q, scanL (l.drop p) = q := ⟨_, rfl⟩
    have hle := scanL_le (l.drop p)
    have hlt := scanL_lt (l.drop p)
    have hno := splitL_ref_no (l := l.drop p)
    have hyes := splitL_ref_yes (l := l.drop p) (n := n) (k := k)
    have HUi : Hid (∀ (A : Option Addr) (C : Nat), Row F w A (bvs (l.drop p)) → Calls Tryd.prog 98 #[.slice A (l.length - p) C] wr fun e w' => e = .returned (.tuple #[.int .i64 n, .int .i64 k, .int .i64 z]) ∧ wr = w') := Lib.hid (fun A C hA => by
      have := ref_Uint wr C (hA.keep hup)
      rwa [hld, hq] at this)
    rw [hq, hld] at hno
    rw [hq] at hle hlt hyes
    rw [hld] at hle hyes
    dsimp only at hle hlt hno hyes
    have HNo := Lib.hid hno
    have HYes := Lib.hid hyes
    have hrw : Row F w (if c = p then some ⟨b, o, none⟩ else some ⟨b, o + p, none⟩) (bvs (l.drop p)) := by
      have := HR.out.dropAt p c (by rw [length_bvs]; exact hpl) (by rw [length_bvs]; exact hlc)
      rwa [← bvs_drop] at this
    have HRp := Lib.hid hrw
    have s1 : (0 : Int) ≤ (p : Int) := by omega
    have s2 : (p : Int) ≤ (l.length : Int) := by omega
    have s0 : (p : Int) ≤ (c : Int) := by omega
    clear hpk hrs hn hrows hR hE hup hld hq hno hyes hrw
    by_cases hbad : z ≠ 0 ∨ n < 1 ∨ 2000 < n ∨ l.length - p - k < n
    · have hs := HNo.out hbad
      have hrs' := HRs.out
      have hn' := HN.out
      rw [hs] at hrs' hn'
      dsimp only at hrs' hn'
      rw [List.append_nil] at hrs'
      rw [Nat.add_zero] at hn'
      have HA := Lib.hid (And.intro hrs' hn')
      have hcs : ((z != 0) = true ∧ (z == 0) = false) ∨ (z = 0 ∧ n < 1) ∨ (z = 0 ∧ 1 ≤ n ∧ 2000 < n) ∨ (z = 0 ∧ 1 ≤ n ∧ n ≤ 2000 ∧ (l.length : Int) - (p : Int) - (k : Int) < (n : Int)) := by
        by_cases hz : z = 0
        · right
          rcases hbad with h | h | h | h
          · exact absurd hz h
          · exact .inl ⟨hz, h⟩
          · exact .inr (.inl ⟨hz, by omega, h⟩)
          · by_cases h1 : n < 1
            · exact .inl ⟨hz, h1⟩
            · by_cases h2 : 2000 < n
              · exact .inr (.inl ⟨hz, by omega, h2⟩)
              · exact .inr (.inr ⟨hz, by omega, by omega, by omega⟩)
        · exact .inl ⟨by rw [bne_iff_ne]; exact hz, by rw [beq_eq_false_iff_ne]; exact hz⟩
      clear hs hrs' hn' hbad
      by_cases hcp : c = p
      all_goals
        rcases hcs with ⟨q1, q2⟩ | ⟨rfl, q1⟩ | ⟨rfl, q1, q2⟩ | ⟨rfl, q1, q2, q3⟩
        all_goals
          go_wp2_with (go_at_call 98; refine (HUi.out _ _ (by first | (have h := HRp.out; rw [if_pos hcp] at h; exact h) | (have h := HRp.out; rw [if_neg hcp] at h; exact h))).mono ?_; rintro e w' ⟨rfl, rfl⟩)
          go_ret2
          rw [HA.out.1, HA.out.2]
          exact ⟨R, E, a2, c2, vs, rfl, HRw.out, HRf.out, HEf.out, HU.out⟩
    · have hz0 : z = 0 := Decidable.byContradiction (fun h => hbad (.inl h))
      subst hz0
      have hn1 : 1 ≤ n := by omega
      have hn2 : n ≤ 2000 := by omega
      have hn3 : n ≤ l.length - p - k := by omega
      have hy := HYes.out rfl hn1 hn2 hn3
      rw [List.drop_drop, List.drop_drop] at hy
      obtain ⟨q, hq⟩ : ∃ q, p + k = q := ⟨_, rfl⟩
      obtain ⟨r, hr⟩ : ∃ r, q + n = r := ⟨_, rfl⟩
      rw [← Nat.add_assoc, hq, hr] at hy
      have hrl : r ≤ l.length := by omega
      obtain ⟨x, hxe⟩ : ∃ x, (l.drop q).take n = x := ⟨_, rfl⟩
      rw [hxe] at hy
      have hxl : x.length = n := by rw [← hxe, List.length_take, List.length_drop]; omega
      have hrx : Row F w (some ⟨b, o + q, none⟩) (bvs x) := by
        have := (HR.out.dropAt q c (by rw [length_bvs]; omega) (by rw [length_bvs]; exact hlc)).take n
        rwa [if_neg (by omega), ← bvs_drop, ← bvs_take, hxe] at this
      have HRx := Lib.hid hrx
      have HY := Lib.hid hy
      have HQ := Lib.hid hq
      have HRq := Lib.hid hr
      clear hbad hy hxe hrx
      subst hxl
      have e1 : (p : Int) + (k : Int) = (q : Int) := by omega
      have e2 : (q : Int) + (x.length : Int) = (r : Int) := by omega
      have b1 : (0 : Int) ≤ (q : Int) := by omega
      have b2 : (q : Int) ≤ (r : Int) := by omega
      have b3 : (r : Int) ≤ (c : Int) := by omega
      have e4 : r - q = x.length := by omega
      have hcq : ¬ c = q := by omega
      have hcp : ¬ c = p := by omega
      have hdn : dn.length ≤ 1000000 := by omega
      have hrl2 : (r : Int) ≤ 1000000 := by omega
      have hk2 : (k : Int) ≤ 1000000 := by omega
      have tokA : True := trivial
      clear hq hr hn3
      go_wp2_with (first
        | (go_at_call 98; refine (HUi.out _ _ (by have h := HRp.out; rw [if_neg hcp] at h; exact h)).mono ?_; rintro e w' ⟨rfl, rfl⟩)
        | (have _t := tokA; at_builtin; refine wpList_append_Own rfl (.tmp 40) (.tmp 50) 22 rfl Tryd.underlying22 hj0.out.1 hj0.out.2.1 hj0.out.2.2.1 hj0.out.2.2.2 rfl (by decide) rfl (own_empty wr) rfl ((HRx.out.keep HU.out).alloc _) (by simp) (bvs_one _) (by intro h; cases h) (by simp only [maxLen]; omega) (by omega) ?_; intro a3 c3 w3 g1 g2 _; have HO3 := Lib.hid (put_start g1 g2); have HU3 := Lib.hid (put_start_upd g2); clear g1 g2 tokA; rw [Nat.zero_add])
        | (at_builtin; refine wpList_append_Own rfl (.tmp 39) (.tmp 52) 59 rfl Tryd.underlying59 hi0.out.1 hi0.out.2.1 hi0.out.2.2.1 hi0.out.2.2.2 rfl (by decide) rfl ((HRw.out.own.keep HU3.out).alloc _) rfl (one_row w3 _ _) (by simp) (by simp [Value.oneCell']) (by intro h; cases h) (by simp only [maxLen]; omega) (by omega) ?_; intro a6 c6 w6 g1 g2 _; have HO6 := Lib.hid g1; have HU6 := Lib.hid g2; clear g1 g2))
      go_roundg (gk - (k + x.length))
      case measure => have := HP.out; omega
      case rel =>
        have hp := HP.out
        have hq := HQ.out
        have hr := HRq.out
        have z1 := HU.out.size
        have z3 := HU3.out.size
        have z6 := HU6.out.size
        have he : Elem (Fr wr w3) w3 (.slice a3 x.length c3) x := HO3.out.elem
        have hr6 := HRw.out.snocE he HU3.out HO6.out HU6.out
        simp only [World.size_alloc] at z6
        refine ⟨r, dn ++ [x], _, _, a6, c6, _, by omega, by rw [List.length_append]; rfl, by go_num, ?_, ?_, by rw [List.length_append, List.length_singleton]; omega, by rw [List.length_append]; exact hr6, ?_, ?_, ?_⟩
        · rw [HRs.out, HY.out, List.append_assoc]
          rfl
        · rw [HN.out, HY.out]
          show p + (k + x.length + _) = r + _
          omega
        · rintro y (h | ⟨h, h'⟩)
          · exact ⟨(HRf.out y h).1, by have := (HRf.out y h).2; omega⟩
          · simp only [World.size_alloc] at h
            exact ⟨by omega, h'⟩
        · rintro y (h | ⟨h, h'⟩)
          · exact ⟨(HEf.out y h).1, by have := (HEf.out y h).2; omega⟩
          · exact ⟨by omega, by omega⟩
        · exact ((HU.out.trans HU3.out (fun _ f _ => f)).alloc _).past HU6.out (fun y hy => (HRf.out y hy).1)
end Go.Proofs.YtbaombnnagidcaaDoor
