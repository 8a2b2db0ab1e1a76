/- A sector read: parse of the program. -/
import Derived.Test.YtbaombnnagidcaaDoorLogRep
namespace Go.Proofs.YtbaombnnagidcaaDoor
open Go.RowKit

theorem numOf_append : ∀ (l r : List UInt8), numOf (l ++ r) = numOf l + 256 ^ l.length * numOf r
  | [], r => by simp [numOf]
  | b :: l, r => by
    rw [List.cons_append, numOf, numOf, numOf_append l r, List.length_cons, Nat.pow_succ, Nat.mul_add, ← Nat.add_assoc, ← Nat.mul_assoc, Nat.mul_comm 256 (256 ^ l.length)]
theorem numOf_step {xs : List UInt8} {j : Nat} (h : 4 + j < xs.length) : numOf ((xs.drop 4).take (j + 1)) = numOf ((xs.drop 4).take j) + xs[4 + j].toNat * 256 ^ j := by
  have hd : j < (xs.drop 4).length := by rw [List.length_drop]; omega
  rw [List.take_succ_eq_append_getElem hd, numOf_append, List.length_take, Nat.min_eq_left (by omega), List.getElem_drop]
  simp [numOf, Nat.mul_comm]

theorem u64_or (a b : Nat) (ha : a < 18446744073709551616) (hb : b < 18446744073709551616) : bits .or .u64 (a : Int) (b : Int) = ((a ||| b : Nat) : Int) := by
  have hx : a ||| b < 2 ^ 64 := Nat.or_lt_two_pow (by omega) (by omega)
  show IntKind.u64.wrap ((BitVec.ofInt 64 (a : Int) ||| BitVec.ofInt 64 (b : Int)).toNat : Int) = _
  rw [BitVec.toNat_or, BitVec.ofInt_natCast, BitVec.ofInt_natCast, BitVec.toNat_ofNat, BitVec.toNat_ofNat, Nat.mod_eq_of_lt (by omega), Nat.mod_eq_of_lt (by omega)]
  exact IntWalk.u64_in _ (by omega)
theorem pow256 (j : Nat) : (2 : Nat) ^ (8 * j) = 256 ^ j := by rw [Nat.pow_mul]
theorem or_step64 {acc y j : Nat} (hy : y < 256) (hj : j < 8) (ha : acc < 256 ^ j) : bits .or .u64 (acc : Int) (IntKind.u64.wrap ((y : Int) * 2 ^ (8 * j))) = ((acc + y * 256 ^ j : Nat) : Int) := by
  have h1 : (256 : Nat) ^ (j + 1) ≤ 256 ^ 8 := Nat.pow_le_pow_right (by decide) (by omega)
  have h2 : y * 256 ^ j + 256 ^ j ≤ 256 ^ (j + 1) := by
    rw [Nat.pow_succ, Nat.mul_comm (256 ^ j) 256]
    have : (y + 1) * 256 ^ j ≤ 256 * 256 ^ j := Nat.mul_le_mul_right _ (by omega)
    rw [Nat.add_mul] at this
    omega
  have h3 : (256 : Nat) ^ 8 = 18446744073709551616 := by decide
  have h4 : 0 < 256 ^ j := Nat.pos_of_ne_zero (by simp)
  have e : (y : Int) * 2 ^ (8 * j) = ((y * 256 ^ j : Nat) : Int) := by rw [← pow256]; push_cast; rfl
  rw [e, IntWalk.u64_in _ (by omega), u64_or _ _ (by omega) (by omega)]
  congr 1
  rw [← pow256] at ha ⊢
  have := Nat.shiftLeft_add_eq_or_of_lt ha y
  rw [Nat.shiftLeft_eq] at this
  rw [Nat.or_comm, ← this, Nat.add_comm]

/-- what parse answers: of a sector that is right its load, a cut of it -/
def GotSec (F : Nat → Prop) (w : World) : Option (List UInt8 × Nat) → Ending → World → Prop
  | none, e, w' => Upd Nil w w' ∧ ∃ v z, e = .returned (.tuple #[v, z, .bool false])
  | some (load, f), e, w' => Upd Nil w w' ∧ ∃ a c, e = .returned (.tuple #[.slice a load.length c, .int .i64 (f : Int), .bool true]) ∧ Row F w' a (bvs load) ∧ load.length ≤ c ∧ c ≤ maxLen ∧ (a = none → c = 0)

set_option maxRecDepth 100000 in
set_option maxHeartbeats 4000000 in
theorem log_parse {F : Nat → Prop} (w : World) {a : Option Addr} (c : Nat) {xs : List UInt8} (hr : Row F w a (bvs xs)) (hlc : xs.length ≤ c) (hcm : c ≤ maxLen) (hx : xs.length = 128) (place : Nat) (hp : place < 65536) (tab : Tab w) :
    Calls Tryd.prog 72 #[.slice a 128 c, .int .i64 (place : Int)] w (GotSec F w (readSec xs place)) := by
  obtain ⟨b, o, rfl, hFb, hcell⟩ := hr (by intro e; have := congrArg List.length e; rw [length_bvs, List.length_nil] at this; omega)
  have HR := Lib.hid hr
  have HC := Lib.hid hcell
  have HT := Lib.hid tab
  have HX := Lib.hid hx
  have HLC := Lib.hid (And.intro hlc hcm)
  have hcm' := le_max hcm
  have hc128 : 128 ≤ c := by omega
  obtain ⟨r, hrd⟩ : ∃ r, readSec xs place = r := ⟨_, rfl⟩
  have HRd := Lib.hid hrd
  rw [hrd]
  clear hr hcell tab hlc hcm hrd
  go_enter Tryd.func72, Tryd.ntmps72
  go_wp2
  go_loopg [7, 11] 8 (fun q fv iv wr => ∃ j : Nat, j + q = 8 ∧ iv = .int .i64 j ∧ fv = .int .u64 ((numOf ((xs.drop 4).take j) : Nat) : Int) ∧ w = wr)
  case atStart => exact ⟨0, by omega, rfl, by simp [numOf], rfl⟩
  case round =>
    obtain ⟨j, hjk, rfl, rfl, rfl⟩ := hrel
    have hj8 : j ≤ 8 := by omega
    have HJ := Lib.hid hjk
    clear hjk
    have hacc := numOf_lt ((xs.drop 4).take j)
    rw [List.length_take, List.length_drop, Nat.min_eq_left (by omega)] at hacc
    obtain ⟨acc, ha⟩ : ∃ n, numOf ((xs.drop 4).take j) = n := ⟨_, rfl⟩
    rw [ha] at hacc ⊢
    have HA := Lib.hid ha
    have HAc := Lib.hid hacc
    clear ha hacc
    by_cases hlt : j < 8
    · have hc := HC.out (4 + j) _ (bvs_get xs (4 + j) (by omega))
      have hst := numOf_step (xs := xs) (j := j) (by omega)
      rw [HA.out] at hst
      obtain ⟨y, hy⟩ : ∃ y, (xs[4 + j]'(by omega)).toNat = y := ⟨_, rfl⟩
      have hy256 : y < 256 := by rw [← hy]; exact UInt8.toNat_lt _
      rw [hy] at hc hst
      have HSt := Lib.hid hst
      clear hst hy
      have hor := or_step64 hy256 hlt HAc.out
      have HOr := Lib.hid hor
      clear hor
      go_wp2
      go_roundg (gk - 1)
      case measure => have := HJ.out; omega
      case rel => exact ⟨j + 1, by have := HJ.out; omega, by go_num, by rw [HSt.out, ← HOr.out], rfl⟩
    · obtain rfl : j = 8 := by omega
      have hn := HC.out 1 _ (bvs_get xs 1 (by omega))
      have hgd : xs.getD 1 0 = xs[1]'(by omega) := by rw [List.getD_eq_getElem?_getD, List.getElem?_eq_getElem (by omega)]; rfl
      have hsp : readSec xs place = r := HRd.out
      unfold readSec at hsp
      rw [HA.out, hgd] at hsp
      have hn256 : (xs[1]'(by omega)).toNat < 256 := UInt8.toNat_lt _
      obtain ⟨n, hnn⟩ : ∃ n, (xs[1]'(by omega)).toNat = n := ⟨_, rfl⟩
      rw [hnn] at hn hsp hn256
      have hacc : acc < 18446744073709551616 := by have := HAc.out; omega
      clear hnn hgd
      by_cases h1 : n ≤ 112 ∧ 1 ≤ acc ∧ acc ≤ 4611686018427387904
      · obtain ⟨h1a, h1b, h1c⟩ := h1
        obtain ⟨load, hload⟩ : ∃ l, (xs.drop 12).take n = l := ⟨_, rfl⟩
        rw [hload] at hsp
        have hll : load.length = n := by rw [← hload, List.length_take, List.length_drop]; omega
        have hrow : Row F w (some ⟨b, o + 12, none⟩) (bvs load) := by
          have := (HR.out.dropAt 12 c (by rw [length_bvs]; omega) (by rw [length_bvs]; omega)).take n
          rwa [if_neg (by omega), ← bvs_drop, ← bvs_take, hload] at this
        have HRl := Lib.hid hrow
        have HLl := Lib.hid hll
        have i1 : (0 : Int) ≤ 12 + (n : Int) := by omega
        have i2 : (12 : Int) ≤ 12 + (n : Int) := by omega
        have i3 : (12 : Int) + (n : Int) ≤ (c : Int) := by omega
        have i4 : (12 + (n : Int)).toNat = 12 + n := by omega
        have i5 : 12 + n - 12 = n := by omega
        have i6 : ¬ c = 12 := by omega
        have v1 : IntKind.i64.wrap (acc : Int) = (acc : Int) := IntWalk.i64_in _ (by omega)
        have v2 : IntKind.i64.wrap (12 + (n : Int)) = 12 + (n : Int) := IntWalk.i64_in _ (by omega)
        obtain ⟨S, hS⟩ : ∃ S, sectorL place acc load = S := ⟨_, rfl⟩
        rw [hS] at hsp
        have hSl : S.length = 128 := by rw [← hS]; exact length_sectorL (by omega)
        have HS := Lib.hid hS
        have HSl := Lib.hid hSl
        clear hload hll hrow hS hSl
        obtain ⟨B, hB⟩ : ∃ B, decide (S = xs) = B := ⟨_, rfl⟩
        have HB := Lib.hid hB
        have hif : (if n ≤ 112 ∧ 1 ≤ acc ∧ acc ≤ 4611686018427387904 ∧ S = xs then some (load, acc) else none) = if B = true then some (load, acc) else none := by
          rw [← hB]
          by_cases he : S = xs
          · rw [if_pos ⟨h1a, h1b, h1c, he⟩, if_pos (decide_eq_true he)]
          · rw [if_neg (fun h => he h.2.2.2), if_neg (by rw [decide_eq_true_eq]; exact he)]
        rw [hif] at hsp
        have HSp := Lib.hid hsp
        clear hB hif hsp
        go_wp2_with (first
          | (go_at_call 77; refine (log_sector w place acc hp (by omega) (c - 12) HRl.out (fun h => by cases h) (by have := HLl.out; omega) (by have := HLC.out.2; simp only [maxLen] at this ⊢; omega) HLl.out h1a HT.out).mono ?_; rintro e w1 hg; rw [HS.out] at hg; obtain ⟨a1, c1, rfl, g1, g2⟩ := hg; have HO1 := Lib.hid g1; have HU1 := Lib.hid g2; clear g1 g2)
          | (go_at_call 16; have heq := bytesEqual w1 c1 c HO1.out.row (HR.out.keep HU1.out); rw [HSl.out, HX.out, HB.out] at heq; refine heq.mono ?_; clear heq; rintro e w' ⟨rfl, rfl⟩))
        go_ret3
        rw [← HSp.out]
        cases B
        · exact ⟨HU1.out, _, _, rfl⟩
        · refine ⟨HU1.out, some ⟨b, o + 12, none⟩, c - 12, ?_, HRl.out.keep HU1.out, by have := HLl.out; omega, by have := HLC.out.2; simp only [maxLen] at this ⊢; omega, fun h => by cases h⟩
          rw [HLl.out]
          rfl
      · rw [if_neg (fun h => h1 ⟨h.1, h.2.1, h.2.2.1⟩)] at hsp
        have HSp := Lib.hid hsp
        clear hsp
        have h2 : 112 < n ∨ (n ≤ 112 ∧ acc < 1) ∨ (n ≤ 112 ∧ 1 ≤ acc ∧ 4611686018427387904 < acc) := by omega
        clear h1
        rcases h2 with h2 | ⟨h2, h3⟩ | ⟨h2, h3, h4⟩
        all_goals
          go_wp2
          go_ret3
          rw [← HSp.out]
          exact ⟨Upd.refl _ _, _, _, rfl⟩
end Go.Proofs.YtbaombnnagidcaaDoor
