/- The reader: Over, none, rest, scan, Uint, Left. -/
import Derived.Test.YtbaombnnagidcaaDoorWire
import Derived.Deep.RegionHeld3
namespace Go.Proofs.YtbaombnnagidcaaDoor
open Go.RowKit

/-- A reader at block s over the bytes l, read up to at. -/
def Rd (F : Nat → Prop) (w : World) (s : Nat) (l : List UInt8) (p : Nat) : Prop :=
  ∃ (R : Nat → Prop) (a : Option Addr) (c : Nat), F s ∧ (∀ k, R k → F k ∧ k ≠ s) ∧ Blk w s 102 #[.slice a l.length c, .int .i64 p, .bool true] ∧ Row R w a (bvs l) ∧ (a = none → c = 0) ∧ l.length ≤ c ∧ c ≤ maxLen ∧ p ≤ l.length
theorem Rd.upd {F G : Nat → Prop} {w w' : World} {s : Nat} {l : List UInt8} {p : Nat} (h : Rd F w s l p) (u : Upd G w w') (hd : ∀ k, F k → ¬ G k) : Rd F w' s l p := by
  obtain ⟨R, a, c, h1, h2, h3, h4, h5⟩ := h
  exact ⟨R, a, c, h1, h2, h3.upd u (hd s h1), h4.upd u (fun k hk => hd k (h2 k hk).1), h5⟩
theorem Rd.keep {F : Nat → Prop} {w w' : World} {s : Nat} {l : List UInt8} {p : Nat} (h : Rd F w s l p) (u : Upd Nil w w') : Rd F w' s l p := h.upd u (fun _ _ f => f)
theorem Rd.mono {F F' : Nat → Prop} {w : World} {s : Nat} {l : List UInt8} {p : Nat} (h : Rd F w s l p) (hF : ∀ k, F k → F' k) : Rd F' w s l p := by
  obtain ⟨R, a, c, h1, h2, h3⟩ := h
  exact ⟨R, a, c, hF _ h1, fun k hk => ⟨hF _ (h2 k hk).1, (h2 k hk).2⟩, h3⟩
/-- 'r.at = ..' -/
theorem Rd.move {F : Nat → Prop} {w : World} {s : Nat} {l : List UInt8} {p q : Nat} (h : Rd F w s l p) (hq : q ≤ l.length) : Rd F (w.setCell ⟨s, 1, none⟩ (.int .i64 q)) s l q := by
  obtain ⟨R, a, c, h1, h2, h3, h4, h5, h6, h7, h8⟩ := h
  refine ⟨R, a, c, h1, h2, ?_, h4.upd ((Upd.refl (One s) w).setCell (p := ⟨s, 1, none⟩) (.inl rfl) _) (fun k hk e => (h2 k hk).2 e), h5, h6, h7, hq⟩
  have := h3.set 1 (.int .i64 q)
  simpa using this

/-- a slice that reads the bytes xs -/
def RetRow (R : Nat → Prop) (w : World) (xs : List UInt8) (e : Ending) (w' : World) : Prop :=
  ∃ a c, e = .returned (.slice a xs.length c) ∧ Row R w' a (bvs xs) ∧ (a = none → c = 0) ∧ xs.length ≤ c ∧ c ≤ maxLen ∧ Upd Nil w w'

theorem rd_none_no {F : Nat → Prop} (w : World) {s : Nat} {l : List UInt8} {p : Nat} (h : Rd F w s l p) :
    Calls Tryd.prog 58 #[.pointer (some ⟨s, 0, none⟩)] w fun e w' => e = .returned (.bool false) ∧ w = w' := by
  obtain ⟨R, a, c, h1, h2, h3, h4, h5, h6, h7, h8⟩ := h
  have hc : w.cell? ⟨s, 2, none⟩ = some (.bool true) := h3.cell 2
  clear h1 h2 h3 h4 h5 h6 h7 h8
  go_enter Tryd.func58, Tryd.ntmps58
  go_wp2
  go_ret
  exact ⟨rfl, rfl⟩

set_option maxHeartbeats 1000000 in
theorem rd_rest {F : Nat → Prop} (w : World) {s : Nat} {l : List UInt8} {p : Nat} (h : Rd F w s l p) :
    Calls Tryd.prog 56 #[.pointer (some ⟨s, 0, none⟩)] w (RetRow F w (l.drop p)) := by
  obtain ⟨R, a, c, h1, h2, h3, h4, h5, h6, h7, h8⟩ := h
  have hc0 : w.cell? ⟨s, 0, none⟩ = some (.slice a l.length c) := h3.cell 0
  have hc1 : w.cell? ⟨s, 1, none⟩ = some (.int .i64 p) := h3.cell 1
  have b1 : (0 : Int) ≤ (p : Int) := by omega
  have b2 : (p : Int) ≤ (l.length : Int) := by omega
  have b3 : (l.length : Int) ≤ (c : Int) := by omega
  have HR := Lib.hid h4
  have HA := Lib.hid h5
  have HM := Lib.hid h7
  have H2 := Lib.hid h2
  clear h1 h2 h3 h4 h5 h7
  go_enter Tryd.func56, Tryd.ntmps56
  go_wp2
  go_quiet (fail)
  go_wp2
  all_goals go_ret
  · have hl : (l.drop p).length = 0 := by rw [List.length_drop]; omega
    have hz : l.drop p = [] := List.eq_nil_of_length_eq_zero hl
    rw [hz]
    have e0 : l.length - p = 0 := by omega
    refine ⟨a, 0, ?_, Row.nil _ _ _, fun _ => rfl, Nat.le_refl _, Nat.zero_le _, (Upd.refl Nil w).drewN nq⟩
    show Ending.returned (.slice a (l.length - p) 0) = _
    rw [e0]
    rfl
  · have hd := (HR.out.drop p c (by rw [length_bvs]; exact h8) (by rw [length_bvs]; exact h6))
    rw [if_neg h, ← bvs_drop] at hd
    refine ⟨_, c - p, ?_, (hd.mono (fun k hk => (H2.out k hk).1)).drewN nq, fun e => ?_, by rw [List.length_drop]; omega, by have := HM.out; omega, (Upd.refl Nil w).drewN nq⟩
    · rw [List.length_drop]
      rfl
    · have ha : a = none := by
        cases a with
        | none => rfl
        | some _ => cases e
      have := HA.out ha
      omega

/-- the number at the beginning of bytes: it, its length, the error (i bytes of acc are read) -/
def scanR : Nat → Nat → List UInt8 → Nat × Nat × Int
  | i, _, [] => (0, 0, if 9 ≤ i then 11 else 10)
  | i, acc, c :: l => if i = 9 then (0, 0, 11) else
      if 128 ≤ c.toNat then scanR (i + 1) (acc + c.toNat % 128 * 128 ^ i) l
      else if c.toNat = 0 ∧ 0 < i then (0, 0, 5) else (acc + c.toNat % 128 * 128 ^ i, i + 1, 0)
def scanL (l : List UInt8) : Nat × Nat × Int := scanR 0 0 l

theorem i64_or (a b : Nat) (ha : a < 9223372036854775808) (hb : b < 9223372036854775808) : bits .or .i64 (a : Int) (b : Int) = ((a ||| b : Nat) : Int) := by
  have hx : a ||| b < 2 ^ 63 := Nat.or_lt_two_pow (by omega) (by omega)
  show IntKind.i64.wrap ((BitVec.ofInt 64 (a : Int) ||| BitVec.ofInt 64 (b : Int)).toNat : Int) = _
  rw [BitVec.toNat_or, BitVec.ofInt_natCast, BitVec.ofInt_natCast, BitVec.toNat_ofNat, BitVec.toNat_ofNat, Nat.mod_eq_of_lt (by omega), Nat.mod_eq_of_lt (by omega)]
  exact IntWalk.i64_in _ (by omega)
theorem pow128 (j : Nat) : (2 : Nat) ^ (7 * j) = 128 ^ j := by rw [Nat.pow_mul]
theorem pow_le9 {j : Nat} (h : j ≤ 8) : (128 : Nat) ^ j ≤ 72057594037927936 := Nat.pow_le_pow_right (n := 128) (by decide) h
theorem or_step {acc y j : Nat} (hy : y < 256) (hj : j ≤ 8) (ha : acc < 128 ^ j) : bits .or .i64 (acc : Int) (wrap64 (wrap64 (bits .and .u8 (y : Int) 127) * 2 ^ (7 * j))) = ((acc + y % 128 * 128 ^ j : Nat) : Int) := by
  have e1 : bits .and .u8 (y : Int) 127 = ((y % 128 : Nat) : Int) := by
    rw [show (127 : Int) = ((127 : Nat) : Int) from rfl, u8_and_nat y 127 hy (by decide)]
    congr 1
    exact Nat.and_two_pow_sub_one_eq_mod y 7
  have hp := pow_le9 hj
  have hm : y % 128 * 128 ^ j ≤ 127 * 72057594037927936 := Nat.mul_le_mul (by omega) hp
  have e2 : wrap64 ((y % 128 : Nat) : Int) = ((y % 128 : Nat) : Int) := by unfold wrap64; omega
  have e3 : ((y % 128 : Nat) : Int) * 2 ^ (7 * j) = ((y % 128 * 128 ^ j : Nat) : Int) := by rw [← pow128]; push_cast; rfl
  have e4 : wrap64 ((y % 128 * 128 ^ j : Nat) : Int) = ((y % 128 * 128 ^ j : Nat) : Int) := by unfold wrap64; omega
  rw [e1, e2, e3, e4, i64_or _ _ (by omega) (by omega)]
  congr 1
  rw [← pow128] at ha ⊢
  have := Nat.shiftLeft_add_eq_or_of_lt ha (y % 128)
  rw [Nat.shiftLeft_eq] at this
  rw [Nat.or_comm, ← this, Nat.add_comm]
theorem step_lt {acc y j : Nat} (ha : acc < 128 ^ j) : acc + y % 128 * 128 ^ j < 128 ^ (j + 1) := by
  have : y % 128 * 128 ^ j ≤ 127 * 128 ^ j := Nat.mul_le_mul_right _ (by omega)
  rw [Nat.pow_succ]
  omega

set_option maxRecDepth 100000 in
set_option maxHeartbeats 1000000 in
theorem rd_scan {F : Nat → Prop} (w : World) {s : Nat} {l : List UInt8} {p : Nat} (h : Rd F w s l p) :
    Calls Tryd.prog 59 #[.pointer (some ⟨s, 0, none⟩)] w fun e w' => e = .returned (.tuple #[.int .i64 (scanL (l.drop p)).1, .int .i64 (scanL (l.drop p)).2.1, .int .i64 (scanL (l.drop p)).2.2]) ∧ Upd Nil w w' := by
  have HD := Lib.hid h
  clear h
  obtain ⟨xs, hxs⟩ : ∃ xs, l.drop p = xs := ⟨_, rfl⟩
  have HX := Lib.hid hxs
  rw [hxs]
  clear hxs
  go_enter Tryd.func59, Tryd.ntmps59
  go_wp2_with (go_at_call 56; refine (rd_rest _ HD.out).mono ?_; rintro e w1 hg; rw [HX.out] at hg; obtain ⟨a1, c1, rfl, h1, h2, h3, h4, h5⟩ := hg; have HR1 := Lib.hid h1; have HU1 := Lib.hid h5; clear h1 h2 h5)
  have hxl : xs.length ≤ 9223372036854775807 := by simp only [maxLen] at h4; omega
  clear h3 h4
  go_loopg [5, 13] xs.length (fun k v i wr => ∃ j acc : Nat, j + k = xs.length ∧ i = .int .i64 j ∧ v = .int .i64 (acc : Int) ∧ j ≤ 9 ∧ acc < 128 ^ j ∧ scanL xs = scanR j acc (xs.drop j) ∧ w1 = wr)
  case atStart => exact ⟨0, 0, by omega, rfl, rfl, by omega, by decide, rfl, rfl⟩
  case round =>
    obtain ⟨j, acc, hjk, rfl, rfl, hj9, hacc, hsc, rfl⟩ := hrel
    have hjn : j ≤ xs.length := by omega
    have HJ := Lib.hid hjk
    have HAcc := Lib.hid hacc
    have HSc := Lib.hid hsc
    clear hjk hacc hsc
    by_cases hlt : j < xs.length
    · obtain ⟨b, o, rfl, _, hcell⟩ := rowAt HR1.out (bvs_get xs j hlt)
      have hb : (xs[j]).toNat < 256 := (xs[j]).toNat_lt
      obtain ⟨y, hy⟩ : ∃ y, (xs[j]).toNat = y := ⟨_, rfl⟩
      rw [hy] at hb hcell
      have HY := Lib.hid hy
      clear hy
      have hdr := List.drop_eq_getElem_cons hlt
      have HDr := Lib.hid hdr
      clear hdr
      by_cases hj : j = 9
      · subst hj
        go_wp2
        go_ret3
        have hs := HSc.out
        rw [HDr.out, scanR, if_pos rfl] at hs
        rw [hs]
        exact ⟨rfl, HU1.out⟩
      · have hj8 : j ≤ 8 := by omega
        have hs := HSc.out
        rw [HDr.out, scanR, if_neg hj, HY.out] at hs
        have HS := Lib.hid hs
        have hst := or_step hb hj8 HAcc.out
        have HSt := Lib.hid hst
        clear hs hst
        by_cases h128 : 128 ≤ y
        · have h1 := HS.out
          rw [if_pos h128] at h1
          have H1 := Lib.hid h1
          clear h1
          go_wp2
          go_roundg (gk - 1)
          case measure => have := HJ.out; omega
          case rel => exact ⟨j + 1, acc + y % 128 * 128 ^ j, by have := HJ.out; omega, by go_num, by rw [HSt.out], by omega, step_lt HAcc.out, H1.out, rfl⟩
        · have h1 := HS.out
          rw [if_neg h128] at h1
          by_cases hz : y = 0
          · subst hz
            by_cases hj0 : 0 < j
            · rw [if_pos ⟨rfl, hj0⟩] at h1
              have H1 := Lib.hid h1
              clear h1
              go_wp2
              go_ret3
              rw [H1.out]
              exact ⟨rfl, HU1.out⟩
            · rw [if_neg (fun q => hj0 q.2)] at h1
              have H1 := Lib.hid h1
              clear h1
              go_wp2
              go_ret3
              rw [H1.out]
              refine ⟨?_, HU1.out⟩
              rw [← HSt.out]
              rfl
          · rw [if_neg (fun q => hz q.1)] at h1
            have H1 := Lib.hid h1
            have hz' : ((y : Int) == 0) = false := by rw [beq_eq_false_iff_ne]; omega
            have HZ := Lib.hid hz
            clear h1 hz
            go_wp2
            go_ret3
            rw [H1.out]
            refine ⟨?_, HU1.out⟩
            rw [← HSt.out]
            rfl
    · have hjl : j = xs.length := by omega
      have hs := HSc.out
      rw [List.drop_eq_nil_of_le (by omega), scanR, hjl] at hs
      have HS := Lib.hid hs
      clear hs hjl
      by_cases h9 : 9 ≤ xs.length
      · have hs := HS.out
        rw [if_pos h9] at hs
        have HS2 := Lib.hid hs
        clear hs
        go_wp2_with (go_at_call 56; refine (rd_rest _ (HD.out.keep HU1.out)).mono ?_; rintro e w2 hg; rw [HX.out] at hg; obtain ⟨a2, c2, rfl, h1, h2, h3, h4, h5⟩ := hg; have HU2 := Lib.hid h5; clear h1 h2 h3 h4 h5)
        go_ret3
        rw [HS2.out]
        exact ⟨rfl, HU1.out.trans HU2.out (fun _ f _ => f)⟩
      · have hs := HS.out
        rw [if_neg h9] at hs
        have HS2 := Lib.hid hs
        have h9' : xs.length < 9 := by omega
        clear hs
        go_wp2_with (go_at_call 56; refine (rd_rest _ (HD.out.keep HU1.out)).mono ?_; rintro e w2 hg; rw [HX.out] at hg; obtain ⟨a2, c2, rfl, h1, h2, h3, h4, h5⟩ := hg; have HU2 := Lib.hid h5; clear h1 h2 h3 h4 h5)
        go_ret3
        rw [HS2.out]
        exact ⟨rfl, HU1.out.trans HU2.out (fun _ f _ => f)⟩
end Go.Proofs.YtbaombnnagidcaaDoor
