/- The reader: Over, none, rest, scan, Uint, Left. -/
import Derived.Test.YtbaombnnagidcaaDoorZL01
import Derived.Deep.RegionHeld3
import Derived.Test.YtbaombnnagidcaaDoorZL00

namespace Go.Proofs.YtbaombnnagidcaaDoor
open Go.RowKit

/-- A reader at block s over the bytes l, read up to at. -/
def Rd (F : Nat → Prop) (w : World) (s : Nat) (l : List UInt8) (p : Nat) : Prop :=
  ∃ (R : Nat → Prop) (a : Option Addr) (c : Nat), F s ∧ (∀ k, R k → F k ∧ k ≠ s) ∧ Blk w s 102 #[.slice a l.length c, .int .i64 p, .bool true] ∧ Row R w a (bvs l) ∧ (a = none → c = 0) ∧ l.length ≤ c ∧ c ≤ maxLen ∧ p ≤ l.length
theorem Rd.upd {F G : Nat → Prop} {w w' : World} {s : Nat} {l : List UInt8} {p : Nat} (h : Rd F w s l p) (u : Upd G w w') (hd : ∀ k, F k → ¬ G k) : Rd F w' s l p := by
  obtain ⟨R, a, c, h1, h2, h3, h4, h5⟩ := h
  exact ⟨R, a, c, h1, h2, h3.upd u (hd s h1), h4.upd u (fun k hk => hd k (h2 k hk).1), h5⟩
theorem Rd.keep {F : Nat → Prop} {w w' : World} {s : Nat} {l : List UInt8} {p : Nat} (h : Rd F w s l p) (u : Upd Nil w w') : Rd F w' s l p := h.upd u (fun _ _ f => f)
theorem Rd.mono {F F' : Nat → Prop} {w : World} {s : Nat} {l : List UInt8} {p : Nat} (h : Rd F w s l p) (hF : ∀ k, F k → F' k) : Rd F' w s l p := by
  obtain ⟨R, a, c, h1, h2, h3⟩ := h
  exact ⟨R, a, c, hF _ h1, fun k hk => ⟨hF _ (h2 k hk).1, (h2 k hk).2⟩, h3⟩
/-- 'r.at = ..' -/
theorem Rd.move {F : Nat → Prop} {w : World} {s : Nat} {l : List UInt8} {p q : Nat} (h : Rd F w s l p) (hq : q ≤ l.length) : Rd F (w.setCell ⟨s, 1, none⟩ (.int .i64 q)) s l q := by
  obtain ⟨R, a, c, h1, h2, h3, h4, h5, h6, h7, h8⟩ := h
  refine ⟨R, a, c, h1, h2, ?_, h4.upd ((Upd.refl (One s) w).setCell (p := ⟨s, 1, none⟩) (.inl rfl) _) (fun k hk e => (h2 k hk).2 e), h5, h6, h7, hq⟩
  have := h3.set 1 (.int .i64 q)
  simpa using this

/-- a slice that reads the bytes xs -/
def RetRow (R : Nat → Prop) (w : World) (xs : List UInt8) (e : Ending) (w' : World) : Prop :=
  ∃ a c, e = .returned (.slice a xs.length c) ∧ Row R w' a (bvs xs) ∧ (a = none → c = 0) ∧ xs.length ≤ c ∧ c ≤ maxLen ∧ Upd Nil w w'

theorem rd_none_no {F : Nat → Prop} (w : World) {s : Nat} {l : List UInt8} {p : Nat} (h : Rd F w s l p) :
    Calls Tryd.prog 58 #[.pointer (some ⟨s, 0, none⟩)] w fun e w' => e = .returned (.bool false) ∧ w = w' := by
  obtain ⟨R, a, c, h1, h2, h3, h4, h5, h6, h7, h8⟩ := h
  have hc : w.cell? ⟨s, 2, none⟩ = some (.bool true) := h3.cell 2
  clear h1 h2 h3 h4 h5 h6 h7 h8
  go_enter Tryd.func58, Tryd.ntmps58
  go_wp2
  go_ret
  exact ⟨rfl, rfl⟩

set_option maxHeartbeats 1000000 in
theorem rd_rest {F : Nat → Prop} (w : World) {s : Nat} {l : List UInt8} {p : Nat} (h : Rd F w s l p) :
    Calls Tryd.prog 56 #[.pointer (some ⟨s, 0, none⟩)] w (RetRow F w (l.drop p)) := by
  obtain ⟨R, a, c, h1, h2, h3, h4, h5, h6, h7, h8⟩ := h
  have hc0 : w.cell? ⟨s, 0, none⟩ = some (.slice a l.length c) := h3.cell 0
  have hc1 : w.cell? ⟨s, 1, none⟩ = some (.int .i64 p) := h3.cell 1
  have b1 : (0 : Int) ≤ (p : Int) := by omega
  have b2 : (p : Int) ≤ (l.length : Int) := by omega
  have b3 : (l.length : Int) ≤ (c : Int) := by omega
  have HR := Lib.hid h4
  have HA := Lib.hid h5
  have HM := Lib.hid h7
  have H2 := Lib.hid h2
  clear h1 h2 h3 h4 h5 h7
  go_enter Tryd.func56, Tryd.ntmps56
  go_wp2
  go_quiet (fail)
  go_wp2
  all_goals go_ret
  · have hl : (l.drop p).length = 0 := by rw [List.length_drop]; omega
    have hz : l.drop p = [] := List.eq_nil_of_length_eq_zero hl
    rw [hz]
    have e0 : l.length - p = 0 := by omega
    refine ⟨a, 0, ?_, Row.nil _ _ _, fun _ => rfl, Nat.le_refl _, Nat.zero_le _, (Upd.refl Nil w).drewN nq⟩
    show Ending.returned (.slice a (l.length - p) 0) = _
    rw [e0]
    rfl
  · have hd := (HR.out.drop p c (by rw [length_bvs]; exact h8) (by rw [length_bvs]; exact h6))
    rw [if_neg h, ← bvs_drop] at hd
    refine ⟨_, c - p, ?_, (hd.mono (fun k hk => (H2.out k hk).1)).drewN nq, fun e => ?_, by rw [List.length_drop]; omega, by have := HM.out; omega, (Upd.refl Nil w).drewN nq⟩
    · rw [List.length_drop]
      rfl
    · have ha : a = none := by
        cases a with
        | none => rfl
        | some _ => cases e
      have := HA.out ha
      omega

/-- the number at the beginning of bytes: it, its length, the error (i bytes of acc are read) -/
def scanR : Nat → Nat → List UInt8 → Nat × Nat × Int
  | i, _, [] => (0, 0, if 9 ≤ i then 11 else 10)
  | i, acc, c :: l => if i = 9 then (0, 0, 11) else
      if 128 ≤ c.toNat then scanR (i + 1) (acc + c.toNat % 128 * 128 ^ i) l
      else if c.toNat = 0 ∧ 0 < i then (0, 0, 5) else (acc + c.toNat % 128 * 128 ^ i, i + 1, 0)
def scanL (l : List UInt8) : Nat × Nat × Int := scanR 0 0 l

theorem i64_or (a b : Nat) (ha : a < 9223372036854775808) (hb : b < 9223372036854775808) : bits .or .i64 (a : Int) (b : Int) = ((a ||| b : Nat) : Int) := by
  have hx : a ||| b < 2 ^ 63 := Nat.or_lt_two_pow (by omega) (by omega)
  show IntKind.i64.wrap ((BitVec.ofInt 64 (a : Int) ||| BitVec.ofInt 64 (b : Int)).toNat : Int) = _
  rw [BitVec.toNat_or, BitVec.ofInt_natCast, BitVec.ofInt_natCast, BitVec.toNat_ofNat, BitVec.toNat_ofNat, Nat.mod_eq_of_lt (by omega), Nat.mod_eq_of_lt (by omega)]
  exact IntWalk.i64_in _ (by omega)
theorem pow128 (j : Nat) : (2 : Nat) ^ (7 * j) = 128 ^ j := by rw [Nat.pow_mul]
theorem pow_le9 {j : Nat} (h : j ≤ 8) : (128 : Nat) ^ j ≤ 72057594037927936 := Nat.pow_le_pow_right (n := 128) (by decide) h
theorem or_step {acc y j : Nat} (hy : y < 256) (hj : j ≤ 8) (ha : acc < 128 ^ j) : bits .or .i64 (acc : Int) (wrap64 (wrap64 (bits .and .u8 (y : Int) 127) * 2 ^ (7 * j))) = ((acc + y % 128 * 128 ^ j : Nat) : Int) := by
  have e1 : bits .and .u8 (y : Int) 127 = ((y % 128 : Nat) : Int) := by
    rw [show (127 : Int) = ((127 : Nat) : Int) from rfl, u8_and_nat y 127 hy (by decide)]
    congr 1
    exact Nat.and_two_pow_sub_one_eq_mod y 7
  have hp := pow_le9 hj
  have hm : y % 128 * 128 ^ j ≤ 127 * 72057594037927936 := Nat.mul_le_mul (by omega) hp
  have e2 : wrap64 ((y % 128 : Nat) : Int) = ((y % 128 : Nat) : Int) := by unfold wrap64; omega
  have e3 : ((y % 128 : Nat) : Int) * 2 ^ (7 * j) = ((y % 128 * 128 ^ j : Nat) : Int) := by rw [← pow128]; push_cast; rfl
  have e4 : wrap64 ((y % 128 * 128 ^ j : Nat) : Int) = ((y % 128 * 128 ^ j : Nat) : Int) := by unfold wrap64; omega
  rw [e1, e2, e3, e4, i64_or _ _ (by omega) (by omega)]
  congr 1
  rw [← pow128] at ha ⊢
  have := Nat.shiftLeft_add_eq_or_of_lt ha (y % 128)
  rw [Nat.shiftLeft_eq] at this
  rw [Nat.or_comm, ← this, Nat.add_comm]
theorem step_lt {acc y j : Nat} (ha : acc < 128 ^ j) : acc + y % 128 * 128 ^ j < 128 ^ (j + 1) := by
  have : y % 128 * 128 ^ j ≤ 127 * 128 ^ j := Nat.mul_le_mul_right _ (by omega)
  rw [Nat.pow_succ]
  omega

set_option maxRecDepth 100000 in
set_option maxHeartbeats 1000000 in
theorem rd_scan {F : Nat → Prop} (w : World) {s : Nat} {l : List UInt8} {p : Nat} (h : Rd F w s l p) :
    Calls Tryd.prog 59 #[.pointer (some ⟨s, 0, none⟩)] w fun e w' => e = .returned (.tuple #[.int .i64 (scanL (l.drop p)).1, .int .i64 (scanL (l.drop p)).2.1, .int .i64 (scanL (l.drop p)).2.2]) ∧ Upd Nil w w' := by
  have HD := Lib.hid h
  clear h
  obtain ⟨xs, hxs⟩ : ∃ xs, l.drop p = xs := ⟨_, rfl⟩
  have HX := Lib.hid hxs
  rw [hxs]
  clear hxs
  go_enter Tryd.func59, Tryd.ntmps59
  go_wp2_with (go_at_call 56; refine (rd_rest _ HD.out).mono ?_; rintro e w1 hg; rw [HX.out] at hg; obtain ⟨a1, c1, rfl, h1, h2, h3, h4, h5⟩ := hg; have HR1 := Lib.hid h1; have HU1 := Lib.hid h5; clear h1 h2 h5)
  have hxl : xs.length ≤ 9223372036854775807 := by simp only [maxLen] at h4; omega
  clear h3 h4
  go_loopg [5, 13] xs.length (fun k v i wr => ∃ j acc : Nat, j + k = xs.length ∧ i = .int .i64 j ∧ v = .int .i64 (acc : Int) ∧ j ≤ 9 ∧ acc < 128 ^ j ∧ scanL xs = scanR j acc (xs.drop j) ∧ w1 = wr)
  case atStart => exact ⟨0, 0, by omega, rfl, rfl, by omega, by decide, rfl, rfl⟩
  case round =>
    obtain ⟨j, acc, hjk, rfl, rfl, hj9, hacc, hsc, rfl⟩ := hrel
    have hjn : j ≤ xs.length := by omega
    have HJ := Lib.hid hjk
    have HAcc := Lib.hid hacc
    have HSc := Lib.hid hsc
    clear hjk hacc hsc
    by_cases hlt : j < xs.length
    · obtain ⟨b, o, rfl, _, hcell⟩ := rowAt HR1.out (bvs_get xs j hlt)
      have hb : (xs[j]).toNat < 256 := (xs[j]).toNat_lt
      obtain ⟨y, hy⟩ : ∃ y, (xs[j]).toNat = y := ⟨_, rfl⟩
      rw [hy] at hb hcell
      have HY := Lib.hid hy
      clear hy
      have hdr := List.drop_eq_getElem_cons hlt
      have HDr := Lib.hid hdr
      clear hdr
      by_cases hj : j = 9
      · subst hj
        go_wp2
        go_ret3
        have hs := HSc.out
        rw [HDr.out, scanR, if_pos rfl] at hs
        rw [hs]
        exact ⟨rfl, HU1.out⟩
      · have hj8 : j ≤ 8 := by omega
        have hs := HSc.out
        rw [HDr.out, scanR, if_neg hj, HY.out] at hs
        have HS := Lib.hid hs
        have hst := or_step hb hj8 HAcc.out
        have HSt := Lib.hid hst
        clear hs hst
        by_cases h128 : 128 ≤ y
        · have h1 := HS.out
          rw [if_pos h128] at h1
          have H1 := Lib.hid h1
          clear h1
          go_wp2
          go_roundg (gk - 1)
          case measure => have := HJ.out; omega
          case rel => exact ⟨j + 1, acc + y % 128 * 128 ^ j, by have := HJ.out; omega, by go_num, by rw [HSt.out], by omega, step_lt HAcc.out, H1.out, rfl⟩
        · have h1 := HS.out
          rw [if_neg h128] at h1
          by_cases hz : y = 0
          · subst hz
            by_cases hj0 : 0 < j
            · rw [if_pos ⟨rfl, hj0⟩] at h1
              have H1 := Lib.hid h1
              clear h1
              go_wp2
              go_ret3
              rw [H1.out]
              exact ⟨rfl, HU1.out⟩
            · rw [if_neg (fun q => hj0 q.2)] at h1
              have H1 := Lib.hid h1
              clear h1
              go_wp2
              go_ret3
              rw [H1.out]
              refine ⟨?_, HU1.out⟩
              rw [← HSt.out]
              rfl
          · rw [if_neg (fun q => hz q.1)] at h1
            have H1 := Lib.hid h1
            have hz' : ((y : Int) == 0) = false := by rw [beq_eq_false_iff_ne]; omega
            have HZ := Lib.hid hz
            clear h1 hz
            go_wp2
            go_ret3
            rw [H1.out]
            refine ⟨?_, HU1.out⟩
            rw [← HSt.out]
            rfl
    · have hjl : j = xs.length := by omega
      have hs := HSc.out
      rw [List.drop_eq_nil_of_le (by omega), scanR, hjl] at hs
      have HS := Lib.hid hs
      clear hs hjl
      by_cases h9 : 9 ≤ xs.length
      · have hs := HS.out
        rw [if_pos h9] at hs
        have HS2 := Lib.hid hs
        clear hs
        go_wp2_with (go_at_call 56; refine (rd_rest _ (HD.out.keep HU1.out)).mono ?_; rintro e w2 hg; rw [HX.out] at hg; obtain ⟨a2, c2, rfl, h1, h2, h3, h4, h5⟩ := hg; have HU2 := Lib.hid h5; clear h1 h2 h3 h4 h5)
        go_ret3
        rw [HS2.out]
        exact ⟨rfl, HU1.out.trans HU2.out (fun _ f _ => f)⟩
      · have hs := HS.out
        rw [if_neg h9] at hs
        have HS2 := Lib.hid hs
        have h9' : xs.length < 9 := by omega
        clear hs
        go_wp2_with (go_at_call 56; refine (rd_rest _ (HD.out.keep HU1.out)).mono ?_; rintro e w2 hg; rw [HX.out] at hg; obtain ⟨a2, c2, rfl, h1, h2, h3, h4, h5⟩ := hg; have HU2 := Lib.hid h5; clear h1 h2 h3 h4 h5)
        go_ret3
        rw [HS2.out]
        exact ⟨rfl, HU1.out.trans HU2.out (fun _ f _ => f)⟩
end Go.Proofs.YtbaombnnagidcaaDoor

namespace Go.Proofs.YtbaombnnagidcaaDoor
open Go.RowKit

theorem scanR_le : ∀ (l : List UInt8) (i acc : Nat), (scanR i acc l).2.1 ≤ i + l.length
  | [], i, acc => by simp [scanR]
  | c :: l, i, acc => by
    rw [scanR]
    split
    · simp
    · split
      · have := scanR_le l (i + 1) (acc + c.toNat % 128 * 128 ^ i)
        simp only [List.length_cons]
        omega
      · split
        · simp
        · simp only [List.length_cons]
          omega
theorem scanL_le (l : List UInt8) : (scanL l).2.1 ≤ l.length := by
  have := scanR_le l 0 0
  unfold scanL
  omega
theorem scanR_lt : ∀ (l : List UInt8) (i acc : Nat), i ≤ 9 → acc < 128 ^ i → (scanR i acc l).1 < 9223372036854775808
  | [], i, acc, _, _ => by simp [scanR]
  | c :: l, i, acc, hi, ha => by
    rw [scanR]
    split
    · simp
    · have hs := step_lt (y := c.toNat) ha
      split
      · exact scanR_lt l (i + 1) _ (by omega) hs
      · split
        · simp
        · have : (128 : Nat) ^ (i + 1) ≤ 9223372036854775808 := Nat.le_trans (Nat.pow_le_pow_right (by decide) (show i + 1 ≤ 9 by omega)) (by decide)
          show acc + c.toNat % 128 * 128 ^ i < _
          omega
theorem scanL_lt (l : List UInt8) : (scanL l).1 < 9223372036854775808 := scanR_lt l 0 0 (by omega) (by decide)

/-- a reader of one's own, at the beginning -/
def GotRd (w : World) (l : List UInt8) (e : Ending) (w' : World) : Prop :=
  ∃ s F, e = .returned (.pointer (some ⟨s, 0, none⟩)) ∧ Rd F w' s l 0 ∧ (∀ k, F k → Fr w w' k) ∧ Upd Nil w w'

theorem rd_Over {F : Nat → Prop} (w : World) {a : Option Addr} (c : Nat) {xs : List UInt8} (hr : Row F w a (bvs xs)) (hx : xs.length ≤ 140737488355328) :
    Calls Tryd.prog 23 #[.slice a xs.length c] w (GotRd w xs) := by
  have H := Lib.hid (slicesCloneB w c hr hx)
  clear hr
  go_enter Tryd.func23, Tryd.ntmps23
  go_wp2_with (go_at_call 53; refine H.out.mono ?_; rintro e w1 ⟨a1, c1, rfl, h1, h2⟩; have HO := Lib.hid h1; have HU := Lib.hid h2; clear h1 h2)
  go_ret
  have z := HU.out.size
  refine ⟨w1.heap.size, fun k => Fr w (w1.alloc (.cells #[.slice a1 xs.length c1, .int .i64 0, .bool true] 102)) k, rfl, ?_, fun k h => h, HU.out.alloc _⟩
  refine ⟨Fr w w1, a1, c1, ⟨z, by simp⟩, fun k hk => ⟨⟨hk.1, by have := hk.2; simp; omega⟩, by have := hk.2; omega⟩, Blk.new w1 _ _, (HO.out.alloc _).row, HO.out.noneCap, HO.out.le.1, HO.out.le.2, Nat.zero_le _⟩

theorem rd_Left {F : Nat → Prop} (w : World) {s : Nat} {l : List UInt8} {p : Nat} (h : Rd F w s l p) :
    Calls Tryd.prog 26 #[.pointer (some ⟨s, 0, none⟩)] w fun e w' => e = .returned (.int .i64 ((l.drop p).length : Nat)) ∧ Upd Nil w w' := by
  have HN := Lib.hid (rd_none_no w h)
  have HR := Lib.hid (rd_rest w h)
  clear h
  obtain ⟨xs, hxs⟩ : ∃ xs, l.drop p = xs := ⟨_, rfl⟩
  rw [hxs] at HR
  rw [hxs]
  clear hxs
  go_enter Tryd.func26, Tryd.ntmps26
  go_wp2_with (first
    | (go_at_call 58; refine HN.out.mono ?_; rintro e w' ⟨rfl, rfl⟩)
    | (go_at_call 56; refine HR.out.mono ?_; rintro e w1 ⟨a1, c1, rfl, _, _, _, _, h5⟩; have HU1 := Lib.hid h5; clear h5))
  go_ret
  exact ⟨rfl, HU1.out⟩

/-- what a call that moves the reader leaves -/
def RdGot (F : Nat → Prop) (w : World) (s : Nat) (v : Value) (l : List UInt8) (q : Nat) (e : Ending) (w' : World) : Prop := e = .returned v ∧ Rd F w' s l q ∧ Upd F w w'

set_option maxHeartbeats 1000000 in
theorem rd_Uint {F : Nat → Prop} (w : World) {s : Nat} {l : List UInt8} {p : Nat} (h : Rd F w s l p) :
    Calls Tryd.prog 24 #[.pointer (some ⟨s, 0, none⟩)] w (RdGot F w s (.tuple #[.int .i64 (scanL (l.drop p)).1, .int .i64 (scanL (l.drop p)).2.2]) l (p + (scanL (l.drop p)).2.1)) := by
  have HD := Lib.hid h
  have HN := Lib.hid (rd_none_no w h)
  have HS := Lib.hid (rd_scan w h)
  have hle := scanL_le (l.drop p)
  have hlt := scanL_lt (l.drop p)
  obtain ⟨R, a, c, h1, h2, h3, h4, h5, h6, h7, h8⟩ := h
  rw [List.length_drop] at hle
  have hc1 : w.cell? ⟨s, 1, none⟩ = some (.int .i64 p) := h3.cell 1
  have hs := h3.lt
  have hcm : c ≤ 9223372036854775807 := le_max h7
  have HB := Lib.hid h3
  have HFs := Lib.hid h1
  obtain ⟨⟨n, k, z⟩, hq⟩ : ∃ q, scanL (l.drop p) = q := ⟨_, rfl⟩
  rw [hq] at HS hle hlt ⊢
  dsimp only at HS hle hlt ⊢
  have HC1 := Lib.hid hc1
  clear h1 h2 h3 h4 h5 hq
  go_enter Tryd.func24, Tryd.ntmps24
  go_wp2_with (first
    | (go_at_call 58; refine HN.out.mono ?_; rintro e w' ⟨rfl, rfl⟩)
    | (go_at_call 59; refine HS.out.mono ?_; rintro e w1 ⟨rfl, g⟩; have HU := Lib.hid g; have hd := g.cell HC1.out (fun f => f); have hf := (HB.out.upd g (fun f => f)).frozen 1; have hs1 := (HB.out.upd g (fun f => f)).lt; clear g))
  go_ret2
  refine ⟨rfl, ?_, HU.out.ofNil.setCell (p := ⟨s, 1, none⟩) (.inl HFs.out) _⟩
  have := (HD.out.keep HU.out).move (q := p + k) (by omega)
  simpa using this
/-- a text at the beginning of bytes, of at most m bytes: it, how many bytes are read, the error -/
def textR (m : Nat) (l : List UInt8) : List UInt8 × Nat × Int :=
  if (scanL l).2.2 ≠ 0 then ([], 0, (scanL l).2.2) else if m < (scanL l).1 then ([], 0, 12) else if l.length - (scanL l).2.1 < (scanL l).1 then ([], 0, 10) else ((l.drop (scanL l).2.1).take (scanL l).1, (scanL l).2.1 + (scanL l).1, 0)

set_option maxRecDepth 100000 in
set_option maxHeartbeats 2000000 in
theorem rd_Text {F : Nat → Prop} (w : World) {s : Nat} {l : List UInt8} {p : Nat} (h : Rd F w s l p) (m : Nat) :
    Calls Tryd.prog 25 #[.pointer (some ⟨s, 0, none⟩), .int .i64 m] w (RdGot F w s (.tuple #[.string (str (textR m (l.drop p)).1), .int .i64 (textR m (l.drop p)).2.2]) l (p + (textR m (l.drop p)).2.1)) := by
  have HD := Lib.hid h
  have HN := Lib.hid (rd_none_no w h)
  have HS := Lib.hid (rd_scan w h)
  have hle := scanL_le (l.drop p)
  have hlt := scanL_lt (l.drop p)
  rw [List.length_drop] at hle
  unfold textR
  obtain ⟨⟨n, k, z⟩, hq⟩ : ∃ q, scanL (l.drop p) = q := ⟨_, rfl⟩
  rw [hq] at HS hle hlt ⊢
  dsimp only at HS hle hlt ⊢
  rw [List.length_drop, List.drop_drop]
  clear hq
  by_cases hz : z = 0
  · subst hz
    rw [if_neg (by decide)]
    by_cases hm : m < n
    · rw [if_pos hm]
      clear h
      go_enter Tryd.func25, Tryd.ntmps25
      go_wp2_with (first
        | (go_at_call 58; refine HN.out.mono ?_; rintro e w' ⟨rfl, rfl⟩)
        | (go_at_call 59; refine HS.out.mono ?_; rintro e w1 ⟨rfl, g⟩; have HU := Lib.hid g; clear g))
      go_ret2
      exact ⟨rfl, HD.out.keep HU.out, HU.out.ofNil⟩
    · rw [if_neg hm]
      have hm' : n ≤ m := by omega
      by_cases hl : l.length - p - k < n
      · rw [if_pos hl]
        clear h hm
        go_enter Tryd.func25, Tryd.ntmps25
        go_wp2_with (first
          | (go_at_call 58; refine HN.out.mono ?_; rintro e w' ⟨rfl, rfl⟩)
          | (go_at_call 59; refine HS.out.mono ?_; rintro e w1 ⟨rfl, g⟩; have HU := Lib.hid g; clear g)
          | (go_at_call 56; refine (rd_rest _ (HD.out.keep HU.out)).mono ?_; rintro e w2 ⟨a1, c1, rfl, _, _, _, _, h5⟩; have HU2 := Lib.hid h5; clear h5))
        go_ret2
        exact ⟨rfl, (HD.out.keep HU.out).keep HU2.out, (HU.out.trans HU2.out (fun _ f _ => f)).ofNil⟩
      · rw [if_neg hl]
        have hl' : n ≤ l.length - p - k := by omega
        obtain ⟨R, a, c, h1, h2, h3, h4, h5, h6, h7, h8⟩ := h
        have hc0 : w.cell? ⟨s, 0, none⟩ = some (.slice a l.length c) := h3.cell 0
        have hc1 : w.cell? ⟨s, 1, none⟩ = some (.int .i64 p) := h3.cell 1
        have hcm : c ≤ 9223372036854775807 := le_max h7
        obtain ⟨q, hq⟩ : ∃ q, p + k + n = q := ⟨_, rfl⟩
        obtain ⟨o, ho⟩ : ∃ o, p + k = o := ⟨_, rfl⟩
        have hcut : ((l.drop o).take n).length = n := by rw [List.length_take, List.length_drop]; omega
        obtain ⟨ys, hys⟩ : ∃ ys, (l.drop o).take n = ys := ⟨_, rfl⟩
        rw [hys] at hcut
        have HYs := Lib.hid hys
        have HCut := Lib.hid hcut
        rw [show (List.take n (l.drop (p + k))) = ys by rw [ho]; exact hys, show p + (k + n) = q by omega]
        clear hys hcut
        have e1 : (p : Int) + ((k : Int) + (n : Int)) = (q : Int) := by omega
        have e2 : (q : Int) - (n : Int) = (o : Int) := by omega
        have e3 : IntKind.i64.wrap ((q : Int) - (n : Int)) = (o : Int) := by rw [IntWalk.i64_in _ (by omega)]; omega
        have e4 : q - o = n := by omega
        have b1 : (0 : Int) ≤ (o : Int) := by omega
        have b2 : (o : Int) ≤ (q : Int) := by omega
        have b3 : (q : Int) ≤ (c : Int) := by omega
        have HB := Lib.hid h3
        have HFs := Lib.hid h1
        have HR := Lib.hid h4
        have HC0 := Lib.hid hc0
        have HC1 := Lib.hid hc1
        clear h1 h2 h3 h4 h5 hc0 hc1
        go_enter Tryd.func25, Tryd.ntmps25
        go_wp2_with (first
          | (go_at_call 58; refine HN.out.mono ?_; rintro e w' ⟨rfl, rfl⟩)
          | (go_at_call 59; refine HS.out.mono ?_; rintro e w1 ⟨rfl, g⟩; have HU := Lib.hid g; clear g)
          | (go_at_call 56; refine (rd_rest _ (HD.out.keep HU.out)).mono ?_; rintro e w2 ⟨a1, c1, rfl, _, _, _, _, h5⟩; have HU2 := Lib.hid (HU.out.trans h5 (fun _ f _ => f)); have hd0 := HU2.out.cell HC0.out (fun f => f); have hd1 := HU2.out.cell HC1.out (fun f => f); have hf := (HB.out.upd HU2.out (fun f => f)).frozen 1; have hs1 := (HB.out.upd HU2.out (fun f => f)).lt; clear h5))
        have hm := (HD.out.keep HU2.out).move (q := q) (by omega)
        have hu := HU2.out.ofNil (G := F) |>.setCell (p := ⟨s, 1, none⟩) (.inl HFs.out) (.int .i64 q)
        have g0 : (w2.setCell ⟨s, 1, none⟩ (.int .i64 q)).cell? ⟨s, 0, none⟩ = some (.slice a l.length c) := by
          have := (((HB.out.upd HU2.out (fun f => f))).set 1 (.int .i64 q)).cell 0
          simpa using this
        have g1 : (w2.setCell ⟨s, 1, none⟩ (.int .i64 q)).cell? ⟨s, 1, none⟩ = some (.int .i64 q) := by
          have := (((HB.out.upd HU2.out (fun f => f))).set 1 (.int .i64 q)).cell 1
          simpa using this
        obtain ⟨W, hW⟩ : ∃ W, w2.setCell ⟨s, 1, none⟩ (.int .i64 q) = W := ⟨_, rfl⟩
        rw [hW] at hm hu g0 g1
        obtain ⟨R', a', c', k1, k2, k3, k4, k5, k6, k7, k8⟩ := id hm
        have g0' : W.cell? ⟨s, 0, none⟩ = some (.slice a' l.length c') := k3.cell 0
        rw [g0] at g0'
        injection g0' with g0'
        injection g0' with ea _ ec
        subst ea; subst ec
        have HM := Lib.hid hm
        have HUW := Lib.hid hu
        have hRl := k4
        rw [hW]
        clear hm hu hW k1 k2 k3 k4 k5 k7 hd0 hd1 hf hs1
        have hys := HYs.out
        have hcut := HCut.out
        by_cases hco : c = o
        · have hy0 : ys = [] := List.eq_nil_of_length_eq_zero (by omega)
          have cv : ∀ (nq : Nat) (e : Nat), (convert 22 9 (.slice a n e)).run Tryd.prog (W.drewN nq) = .ok (.string (str ys)) (W.drewN nq) := fun nq e => by
            have := run_convert_Row (P := Tryd.prog) (F := Nil) (w := W.drewN nq) (a := a) (xs := ys) (by rw [hy0]; exact Row.nil _ _ _) 22 5 9 Tryd.underlying22 Tryd.underlying5 Tryd.underlying9 e
            rwa [hcut] at this
          clear hys hy0 hRl hq ho hcut
          go_quiet (fail)
          go_wp2
          go_ret2
          exact ⟨rfl, HM.out.keep ((Upd.refl Nil W).drewN _), HUW.out.drewN _⟩
        · have hrow : Row R' W (a.map (·.add o)) (bvs ys) := by
            have := (hRl.drop o c (by rw [length_bvs]; omega) (by rw [length_bvs]; exact h6)).take n
            rwa [if_neg hco, ← bvs_drop, ← bvs_take, hys] at this
          have cv : ∀ (nq : Nat) (e : Nat), (convert 22 9 (.slice (a.map (·.add o)) n e)).run Tryd.prog (W.drewN nq) = .ok (.string (str ys)) (W.drewN nq) := fun nq e => by
            have := run_convert_Row (P := Tryd.prog) (hrow.drewN nq) 22 5 9 Tryd.underlying22 Tryd.underlying5 Tryd.underlying9 e
            rwa [hcut] at this
          clear hys hRl hq ho hrow hcut
          go_quiet (fail)
          go_wp2
          go_ret2
          exact ⟨rfl, HM.out.keep ((Upd.refl Nil W).drewN _), HUW.out.drewN _⟩
  · rw [if_pos hz]
    clear h
    have hz' : (z != 0) = true := by rw [bne_iff_ne]; exact hz
    have hz2 : (z == 0) = false := by rw [beq_eq_false_iff_ne]; exact hz
    go_enter Tryd.func25, Tryd.ntmps25
    go_wp2_with (first
      | (go_at_call 58; refine HN.out.mono ?_; rintro e w' ⟨rfl, rfl⟩)
      | (go_at_call 59; refine HS.out.mono ?_; rintro e w1 ⟨rfl, g⟩; have HU := Lib.hid g; clear g))
    go_ret2
    exact ⟨rfl, HD.out.keep HU.out, HU.out.ofNil⟩
end Go.Proofs.YtbaombnnagidcaaDoor

namespace Go.Proofs.YtbaombnnagidcaaDoor
open Go.RowKit

/-- bytes in a frame -/
def frameL (p : List UInt8) : List UInt8 := putL p.length ++ p ++ fourL (sumL p)

theorem put_nil (w : World) (n : Nat) (hn : n < 9223372036854775808) :
    Calls Tryd.prog 14 #[.slice none 0 0, .int .i64 n] w (RetOwn w 5 1 (putL n).length (bvs (putL n))) := by
  have := wire_Put (F := Nil) w (xs := []) 0 (Row.nil _ _ none) (fun _ => rfl) (by decide) (n : Int) (by omega)
  rw [putZ_nat, List.nil_append] at this
  exact this

theorem wire_Frame_no (w : World) (a : Option Addr) {n : Nat} (c : Nat) (h : 65536 < n) :
    Calls Tryd.prog 21 #[.slice a n c] w fun e w' => e = .returned (.tuple #[.slice none 0 0, .int .i64 12]) ∧ w = w' := by
  go_enter Tryd.func21, Tryd.ntmps21
  go_wp2
  go_ret2
  exact ⟨rfl, rfl⟩

theorem concat3 (w : World) {E1 E2 E3 : Nat → Prop} {v1 v2 v3 : Value} {x1 x2 x3 : List UInt8} (h1 : Elem E1 w v1 x1) (h2 : Elem E2 w v2 x2) (h3 : Elem E3 w v3 x3) (hl : (x1 ++ x2 ++ x3).length ≤ 140737488355328) (hp : 1 ≤ (x1 ++ x2 ++ x3).length) :
    Calls Tryd.prog 54 #[.slice (some ⟨w.heap.size, 0, none⟩) 3 3] (w.alloc (.cells #[v1, v2, v3] 22)) (GotCat (w.alloc (.cells #[v1, v2, v3] 22)) (x1 ++ x2 ++ x3)) := by
  have e : ([x1, x2, x3] : List (List UInt8)).flatten = x1 ++ x2 ++ x3 := by simp
  have al : Upd Nil w (w.alloc (.cells #[v1, v2, v3] 22)) := (Upd.refl Nil w).alloc _
  have hrow : Row (One w.heap.size) (w.alloc (.cells #[v1, v2, v3] 22)) (some ⟨w.heap.size, 0, none⟩) [v1, v2, v3] :=
    (Own.lit (t := 22) (sz := 1) w #[v1, v2, v3] 3 (by decide) rfl).row
  have := concat (n := 3) (c := 3) (E := fun _ => True) (w.alloc (.cells #[v1, v2, v3] 22)) (xss := [x1, x2, x3]) hrow ⟨(h1.keep al).mono (fun _ _ => trivial), (h2.keep al).mono (fun _ _ => trivial), (h3.keep al).mono (fun _ _ => trivial), trivial⟩ rfl (by decide) (by rw [e]; exact hl) (by rw [e]; exact hp)
  rw [e] at this
  exact this

/-- bytes of one's own and a code -/
def GotBytes (w : World) (xs : List UInt8) (z : Int) (e : Ending) (w' : World) : Prop := ∃ a c, e = .returned (.tuple #[.slice a xs.length c, .int .i64 z]) ∧ Own (Fr w w') w' 5 1 a xs.length c (bvs xs) ∧ Upd Nil w w'

set_option maxRecDepth 100000 in
set_option maxHeartbeats 1000000 in
theorem wire_Frame_yes {F : Nat → Prop} (w : World) {a : Option Addr} (c : Nat) {xs : List UInt8} (hr : Row F w a (bvs xs)) (hA : a = none → c = 0) (hc : xs.length ≤ c) (hcm : c ≤ maxLen) (hx : xs.length ≤ 65536) (ht : Tab w) :
    Calls Tryd.prog 21 #[.slice a xs.length c] w (GotBytes w (frameL xs) 0) := by
  have HR := Lib.hid hr
  have HAn := Lib.hid hA
  have HT := Lib.hid ht
  have HC := Lib.hid (And.intro hc hcm)
  have hlp := length_putL (n := xs.length) (by omega)
  have hfl : (frameL xs).length = (putL xs.length).length + xs.length + 4 := by rw [frameL, List.length_append, List.length_append, length_fourL]
  obtain ⟨ps, hps⟩ : ∃ ps, putL xs.length = ps := ⟨_, rfl⟩
  obtain ⟨qs, hqs⟩ : ∃ qs, fourL (sumL xs) = qs := ⟨_, rfl⟩
  have hq4 : qs.length = 4 := by rw [← hqs]; rfl
  have hcat : ps ++ xs ++ qs = frameL xs := by rw [frameL, hps, hqs]
  have HPs := Lib.hid hps
  have HQs := Lib.hid hqs
  have HCat := Lib.hid hcat
  have HFl := Lib.hid (show (frameL xs).length ≤ 140737488355328 ∧ 1 ≤ (frameL xs).length by omega)
  have HQ4 := Lib.hid hq4
  clear hr hA ht hc hcm hps hqs hcat hfl hlp hq4
  go_enter Tryd.func21, Tryd.ntmps21
  go_wp2_with (first
    | (go_at_call 14; refine (put_nil _ _ (by omega)).mono ?_; rintro e w1 hg; rw [HPs.out] at hg; obtain ⟨a1, c1, rfl, g1, g2⟩ := hg; have HO1 := Lib.hid g1; have HU1 := Lib.hid g2; clear g1 g2)
    | (go_at_call 55; refine (wire_sum4 _ c (HR.out.keep HU1.out) (by omega) (HT.out.upd HU1.out (fun f => f))).mono ?_; rintro e w2 hg; rw [HQs.out] at hg; obtain ⟨a2, c2, rfl, g1, g2⟩ := hg; have HE2 := Lib.hid (show Elem (Fr w1 w2) w2 (.slice a2 4 c2) qs from ⟨a2, c2, by rw [HQ4.out], g1.row, g1.noneCap, by rw [HQ4.out]; exact g1.le.1, g1.le.2⟩); have HU2 := Lib.hid g2; clear g1 g2)
    | (go_at_call 54; refine (concat3 _ ((HO1.out.keep HU2.out).elem) ⟨a, c, rfl, (HR.out.keep HU1.out).keep HU2.out, HAn.out, HC.out.1, HC.out.2⟩ HE2.out (by rw [HCat.out]; exact HFl.out.1) (by rw [HCat.out]; exact HFl.out.2)).mono ?_; rintro e w3 hg; rw [HCat.out] at hg; obtain ⟨a3, c3, rfl, g1, g2⟩ := hg; have HO3 := Lib.hid g1; have HU3 := Lib.hid g2; clear g1 g2))
  go_ret2
  have z1 := HU1.out.size
  have z2 := HU2.out.size
  refine ⟨a3, c3, rfl, HO3.out.mono (fun k hk => ⟨by have := hk.1; simp only [World.size_alloc] at this; omega, hk.2⟩), ((HU1.out.trans HU2.out (fun _ f _ => f)).alloc _).trans HU3.out (fun _ f _ => f)⟩
end Go.Proofs.YtbaombnnagidcaaDoor

namespace Go.Proofs.YtbaombnnagidcaaDoor
open Go.RowKit

/-- a bool, and nothing that was there has turned -/
def Says (b : Bool) (w : World) (e : Ending) (w' : World) : Prop := e = .returned (.bool b) ∧ Upd Nil w w'

set_option maxHeartbeats 1000000 in
theorem slicesEqualB {F G : Nat → Prop} (w : World) {a b : Option Addr} (c d : Nat) {xs ys : List UInt8} (hx : Row F w a (bvs xs)) (hy : Row G w b (bvs ys)) (hm : xs.length ≤ 9223372036854775807) (hm2 : ys.length ≤ 9223372036854775807) :
    Calls Tryd.prog 57 #[.slice a xs.length c, .slice b ys.length d] w (Says (decide (xs = ys)) w) := by
  have HA := Lib.hid hx
  have HB := Lib.hid hy
  clear hx hy
  by_cases hl : xs.length = ys.length
  · have HL := Lib.hid hl
    rw [← hl]
    clear hl
    go_enter Tryd.func57, Tryd.ntmps57
    go_wp2
    go_loopg [13] xs.length (fun k i wr => ∃ j : Nat, j + k = xs.length ∧ i = .int .i64 j ∧ xs.take j = ys.take j ∧ Upd Nil w wr)
    case atStart => exact ⟨0, by omega, rfl, by simp, Upd.refl _ _⟩
    case round =>
      obtain ⟨j, hjk, rfl, htk, hup⟩ := hrel
      have hjn : j ≤ xs.length := by omega
      have HJ := Lib.hid hjk
      have HT := Lib.hid htk
      have HU := Lib.hid hup
      clear hjk htk hup
      by_cases hlt : j < xs.length
      · have hlt' : j < ys.length := by have := HL.out; omega
        obtain ⟨b1, o1, rfl, _, hc1⟩ := rowAt HA.out (bvs_get xs j hlt)
        obtain ⟨b2, o2, rfl, _, hc2⟩ := rowAt HB.out (bvs_get ys j hlt')
        have hcA := HU.out.cell hc1 (fun f => f)
        have hcB := HU.out.cell hc2 (fun f => f)
        obtain ⟨x, hxe⟩ : ∃ x, xs[j] = x := ⟨_, rfl⟩
        obtain ⟨y, hye⟩ : ∃ y, ys[j] = y := ⟨_, rfl⟩
        rw [hxe] at hcA
        rw [hye] at hcB
        have HX := Lib.hid hxe
        have HY := Lib.hid hye
        have b1' : (0 : Int) ≤ (j : Int) := by omega
        have b2' : (j : Int) < (xs.length : Int) := by omega
        clear hc1 hc2 hxe hye
        by_cases he : x = y
        · subst he
          go_wp2
          go_quiet (fail)
          go_wp2
          go_roundg (gk - 1)
          case measure => have := HJ.out; omega
          case rel =>
            refine ⟨j + 1, by have := HJ.out; omega, by go_num, ?_, HU.out.drewN _⟩
            rw [List.take_succ_eq_append_getElem hlt, List.take_succ_eq_append_getElem hlt', HT.out, HX.out, HY.out]
        · have hne : ((x.toNat : Int) == (y.toNat : Int)) = false := by
            rw [beq_eq_false_iff_ne]
            intro h
            exact he (UInt8.toNat_inj.1 (by omega))
          have hne2 : ((x.toNat : Int) != (y.toNat : Int)) = true := by
            rw [bne_iff_ne]
            intro h
            exact he (UInt8.toNat_inj.1 (by omega))
          have HE := Lib.hid he
          clear he
          go_wp2
          go_quiet (fail)
          go_wp2
          go_ret
          refine ⟨?_, HU.out.drewN _⟩
          show Ending.returned (.bool false) = _
          rw [decide_eq_false]
          rintro rfl
          exact HE.out (HX.out.symm.trans HY.out)
      · go_wp2
        go_ret
        refine ⟨?_, HU.out⟩
        show Ending.returned (.bool true) = _
        rw [decide_eq_true]
        have hj : j = xs.length := by omega
        have := HT.out
        rw [hj, List.take_length] at this
        rw [this, HL.out, List.take_length]
  · have hl' : ((xs.length : Int) == (ys.length : Int)) = false := by
      rw [beq_eq_false_iff_ne]
      omega
    have hlN : ((xs.length : Int) != (ys.length : Int)) = true := by
      rw [bne_iff_ne]
      omega
    have HL := Lib.hid hl
    clear hl
    go_enter Tryd.func57, Tryd.ntmps57
    go_wp2
    go_ret
    refine ⟨?_, Upd.refl _ _⟩
    show Ending.returned (.bool false) = _
    rw [decide_eq_false]
    rintro rfl
    exact HL.out rfl

/-- those of a frame, what stands behind it, the error -/
def unframeL (b : List UInt8) : List UInt8 × List UInt8 × Int :=
  if (scanL b).2.2 ≠ 0 then ([], [], (scanL b).2.2) else if 65536 < (scanL b).1 then ([], [], 12)
  else if (b.drop (scanL b).2.1).length < (scanL b).1 + 4 then ([], [], 10)
  else if fourL (sumL ((b.drop (scanL b).2.1).take (scanL b).1)) = ((b.drop (scanL b).2.1).drop (scanL b).1).take 4 then ((b.drop (scanL b).2.1).take (scanL b).1, (b.drop (scanL b).2.1).drop ((scanL b).1 + 4), 0) else ([], [], 13)

/-- what Unframe answers: two slices of bytes and a code; all of it new -/
def GotTwo (w : World) (t : List UInt8 × List UInt8 × Int) (e : Ending) (w' : World) : Prop :=
  ∃ a c b d, e = .returned (.tuple #[.slice a t.1.length c, .slice b t.2.1.length d, .int .i64 t.2.2]) ∧ Row (Fr w w') w' a (bvs t.1) ∧ (a = none → c = 0) ∧ t.1.length ≤ c ∧ c ≤ maxLen ∧ Own (Fr w w') w' 5 1 b t.2.1.length d (bvs t.2.1) ∧ Upd Nil w w'
theorem GotTwo.none_ {w w' : World} {z : Int} (u : Upd Nil w w') : GotTwo w ([], [], z) (.returned (.tuple #[.slice none 0 0, .slice none 0 0, .int .i64 z])) w' :=
  ⟨none, 0, none, 0, rfl, Row.nil _ _ _, fun _ => rfl, Nat.le_refl _, Nat.zero_le _, Own.none_ _ _ _ _, u⟩

theorem slicesEqualB_at {F G : Nat → Prop} (w : World) {a b : Option Addr} (c d : Nat) {xs ys : List UInt8} {n m : Nat} {r : Bool} (hx : Row F w a (bvs xs)) (hy : Row G w b (bvs ys)) (hn : xs.length = n) (hm : ys.length = m) (hn2 : n ≤ 1000000) (hm2 : m ≤ 1000000) (hr : decide (xs = ys) = r) :
    Calls Tryd.prog 57 #[.slice a n c, .slice b m d] w (Says r w) := by
  subst hn; subst hm; subst hr
  exact slicesEqualB w c d hx hy (by omega) (by omega)
theorem wire_sum4_at {F : Nat → Prop} (w : World) {a : Option Addr} (c : Nat) {xs : List UInt8} {n : Nat} (hr : Row F w a (bvs xs)) (hn : xs.length = n) (hx : n ≤ 1000000) (ht : Tab w) :
    Calls Tryd.prog 55 #[.slice a n c] w (RetOwn w 5 1 4 (bvs (fourL (sumL xs)))) := by
  subst hn
  exact wire_sum4 w c hr (by omega) ht
theorem slicesCloneB_at {F : Nat → Prop} (w : World) {a : Option Addr} (c : Nat) {xs : List UInt8} {n : Nat} (hr : Row F w a (bvs xs)) (hn : xs.length = n) (hx : n ≤ 140737488355328) :
    Calls Tryd.prog 53 #[.slice a n c] w (RetOwn w 5 1 n (bvs xs)) := by
  subst hn
  exact slicesCloneB w c hr hx

set_option maxRecDepth 100000 in
set_option maxHeartbeats 2000000 in
theorem wire_Unframe {F : Nat → Prop} (w : World) {a : Option Addr} (c : Nat) {l : List UInt8} (hr : Row F w a (bvs l)) (hx : l.length ≤ 140737488355328) (ht : Tab w) :
    Calls Tryd.prog 22 #[.slice a l.length c] w (GotTwo w (unframeL l)) := by
  have HR := Lib.hid hr
  have HT := Lib.hid ht
  have h00 := World.block_lt_of_cell? w _ (ht 0 (by decide))
  have hle := scanL_le l
  have hlt := scanL_lt l
  clear hr ht
  unfold unframeL
  have hd0 : l.drop 0 = l := List.drop_zero
  have HD0 := Lib.hid hd0
  clear hd0
  obtain ⟨⟨n, k, z⟩, hq⟩ : ∃ q, scanL l = q := ⟨_, rfl⟩
  have HQ := Lib.hid hq
  rw [hq] at hle hlt ⊢
  dsimp only at hle hlt ⊢
  clear hq
  obtain ⟨xs, hxs⟩ : ∃ xs, l.drop k = xs := ⟨_, rfl⟩
  have hxl : xs.length ≤ 140737488355328 := by rw [← hxs, List.length_drop]; omega
  rw [hxs]
  have HXs := Lib.hid hxs
  have HX0 := Lib.hid (show l.drop (0 + k) = xs by rw [Nat.zero_add]; exact hxs)
  clear hxs
  by_cases hz : z = 0
  · subst hz
    rw [if_neg (by decide)]
    by_cases hn : 65536 < n
    · rw [if_pos hn]
      go_enter Tryd.func22, Tryd.ntmps22
      go_wp2_with (first
        | (go_at_call 23; refine (rd_Over _ c HR.out hx).mono ?_; rintro e w1 ⟨s, F1, rfl, g1, g2, g3⟩; have H1 := Lib.hid g1; have H2 := Lib.hid g2; have HU1 := Lib.hid g3; clear g1 g2 g3)
        | (go_at_call 24; refine (rd_Uint _ H1.out).mono ?_; rintro e w2 hg; rw [HD0.out, HQ.out] at hg; dsimp only at hg; obtain ⟨rfl, g1, g2⟩ := hg; have H3 := Lib.hid g1; have HU2 := Lib.hid g2; clear g1 g2))
      go_ret3
      exact GotTwo.none_ (HU1.out.trans HU2.out (fun k hk hlt => by have := (H2.out k hk).1; omega))
    · rw [if_neg hn]
      by_cases hs : xs.length < n + 4
      · rw [if_pos hs]
        have hs' : (xs.length : Int) < (n : Int) + 4 := by omega
        have hn' : n ≤ 65536 := by omega
        clear hn hs
        go_enter Tryd.func22, Tryd.ntmps22
        go_wp2_with (first
          | (go_at_call 23; refine (rd_Over _ c HR.out hx).mono ?_; rintro e w1 ⟨s, F1, rfl, g1, g2, g3⟩; have H1 := Lib.hid g1; have H2 := Lib.hid g2; have HU1 := Lib.hid g3; clear g1 g2 g3)
          | (go_at_call 24; refine (rd_Uint _ H1.out).mono ?_; rintro e w2 hg; rw [HD0.out, HQ.out] at hg; dsimp only at hg; obtain ⟨rfl, g1, g2⟩ := hg; have H3 := Lib.hid g1; have HU2 := Lib.hid g2; clear g1 g2)
          | (go_at_call 56; refine (rd_rest _ H3.out).mono ?_; rintro e w3 hg; rw [HX0.out] at hg; obtain ⟨a3, c3, rfl, g1, g2, g3, g4, g5⟩ := hg; have HU3 := Lib.hid g5; clear g1 g2 g3 g4 g5))
        go_ret3
        exact GotTwo.none_ ((HU1.out.trans HU2.out (fun k hk hlt => by have := (H2.out k hk).1; omega)).trans HU3.out (fun _ f _ => f))
      · rw [if_neg hs]
        have hs' : n + 4 ≤ xs.length := by omega
        have hlp : (xs.take n).length = n := by rw [List.length_take]; omega
        have hl4 : ((xs.drop n).take 4).length = 4 := by rw [List.length_take, List.length_drop]; omega
        have hlr : (xs.drop (n + 4)).length = xs.length - (n + 4) := by rw [List.length_drop]
        have HLp := Lib.hid hlp
        have HL4 := Lib.hid hl4
        have HLr := Lib.hid hlr
        have hn' : n ≤ 65536 := by omega
        clear hn hs hlp hl4 hlr
        by_cases he : fourL (sumL (xs.take n)) = (xs.drop n).take 4
        · rw [if_pos he]
          have HE := Lib.hid he
          clear he
          go_enter Tryd.func22, Tryd.ntmps22
          go_wp2_with (first
            | (go_at_call 23; refine (rd_Over _ c HR.out hx).mono ?_; rintro e w1 ⟨s, F1, rfl, g1, g2, g3⟩; have H1 := Lib.hid g1; have H2 := Lib.hid g2; have HU1 := Lib.hid g3; clear g1 g2 g3)
            | (go_at_call 24; refine (rd_Uint _ H1.out).mono ?_; rintro e w2 hg; rw [HD0.out, HQ.out] at hg; dsimp only at hg; obtain ⟨rfl, g1, g2⟩ := hg; have H3 := Lib.hid g1; have HU2 := Lib.hid g2; clear g1 g2)
            | (go_at_call 56; refine (rd_rest _ H3.out).mono ?_; rintro e w3 hg; rw [HX0.out] at hg; obtain ⟨a3, c3, rfl, g1, g2, g3, g4, g5⟩ := hg
               have HU3 := Lib.hid g5
               obtain ⟨bk, o, rfl, hFb, _⟩ := g1 (by intro e; have := congrArg List.length e; rw [length_bvs, List.length_nil] at this; omega)
               have hc3 : (xs.length : Int) ≤ (c3 : Int) := by omega
               have hcm : (c3 : Int) ≤ 9223372036854775807 := by have := le_max g4; omega
               have hne : ¬ c3 = n := by omega
               have HRx := Lib.hid g1; have HM3 := Lib.hid g4; clear g1 g2 g4 g5))
          have HT3 := Lib.hid (((HT.out.upd HU1.out (fun f => f)).upd HU2.out (fun f => by have := (H2.out 0 f).1; omega)).upd HU3.out (fun f => f))
          have HRp := Lib.hid (show Row F1 w3 (some ⟨bk, o, none⟩) (bvs (xs.take n)) by rw [bvs_take]; exact HRx.out.take n)
          have HR4 := Lib.hid (show Row F1 w3 (some ⟨bk, o + n, none⟩) (bvs ((xs.drop n).take 4)) by
            have := HRx.out.cut n 4 (b := bk) (o := o) (by rw [← bvs_drop, ← bvs_take]; intro e; have := congrArg List.length e; rw [length_bvs, HL4.out] at this; cases this) rfl
            rwa [← bvs_drop, ← bvs_take] at this)
          have i1 : (0 : Int) ≤ (n : Int) := by omega
          have i2 : (n : Int) + 4 ≤ (xs.length : Int) := by omega
          have i3 : (n : Int) ≤ (n : Int) + 4 := by omega
          have i4 : (n : Int) + 4 ≤ (c3 : Int) := by omega
          have i5 : IntKind.i64.wrap ((n : Int) + 4) = (n : Int) + 4 := IntWalk.i64_in _ (by omega)
          have i6 : ((n : Int) + 4).toNat = n + 4 := by omega
          have i7 : n + 4 - n = 4 := by omega
          have HEq := Lib.hid (decide_eq_true HE.out)
          go_region_law (first
            | (go_simp; go_at_call 55; refine (wire_sum4_at _ n (HRp.out.keep (Upd.refl Nil w3).drew) HLp.out (by omega) (HT3.out.upd (Upd.refl Nil w3).drew (fun f => f))).mono ?_; rintro e w4 ⟨a4, c4, rfl, g1, g2⟩; have HO4 := Lib.hid g1; have HU4 := Lib.hid g2.ofDrew; clear g1 g2)
            | (go_simp; go_at_call 57; refine (slicesEqualB_at (n := 4) (m := 4) _ c4 (c3 - n) HO4.out.row (HR4.out.keep HU4.out) rfl HL4.out (by decide) (by decide) HEq.out).mono ?_; rintro e w5 ⟨rfl, g2⟩; have HU5 := Lib.hid g2; clear g2))
          have HU15 := Lib.hid ((((HU1.out.trans HU2.out (fun k hk hlt => by have := (H2.out k hk).1; omega)).trans HU3.out (fun _ f _ => f)).trans HU4.out (fun _ f _ => f)).trans HU5.out (fun _ f _ => f))
          have HRe := Lib.hid ((HRx.out.keep HU4.out).keep HU5.out)
          have HRq := Lib.hid ((HRp.out.keep HU4.out).keep HU5.out)
          have HF1 := Lib.hid (show ∀ k, F1 k → w.heap.size ≤ k ∧ k < w5.heap.size from fun k hk => ⟨(H2.out k hk).1, by have := (H2.out k hk).2; have := HU2.out.size; have := HU3.out.size; have := HU4.out.size; have := HU5.out.size; omega⟩)
          by_cases hcr : c3 = n + 4
          · have hdr : xs.drop (n + 4) = [] := List.eq_nil_of_length_eq_zero (by rw [List.length_drop]; omega)
            have HDr := Lib.hid hdr
            clear hdr
            go_wp2_with (go_at_call 53; refine (slicesCloneB_at (F := Nil) _ _ (xs := xs.drop (n + 4)) (by rw [HDr.out]; exact Row.nil _ _ _) HLr.out (by omega)).mono ?_; rintro e w6 ⟨a6, c6, rfl, g1, g2⟩; have HO6 := Lib.hid g1; have HU6 := Lib.hid g2; clear g1 g2)
            go_ret3
            have z1 := HU15.out.size
            have z6 := HU6.out.size
            refine ⟨some ⟨bk, o, none⟩, n, a6, c6, ?_, (HRq.out.keep HU6.out).mono (fun k hk => ⟨(HF1.out k hk).1, by have := (HF1.out k hk).2; omega⟩), (fun h => by cases h), ?_, ?_, ?_, HU15.out.trans HU6.out (fun _ f _ => f)⟩
            · show _ = Ending.returned (.tuple #[.slice (some ⟨bk, o, none⟩) (xs.take n).length n, .slice a6 (xs.drop (n + 4)).length c6, .int .i64 0])
              rw [HLp.out, HLr.out]
              rfl
            · show (xs.take n).length ≤ n
              rw [HLp.out]
              exact Nat.le_refl _
            · simp only [maxLen]
              omega
            · show Own (Fr w w6) w6 5 1 a6 (xs.drop (n + 4)).length c6 (bvs (xs.drop (n + 4)))
              rw [HLr.out]
              exact HO6.out.mono (fun k hk => ⟨by have := hk.1; omega, hk.2⟩)
          · have hdw := HRe.out.dropAt (n + 4) c3 (b := bk) (o := o) (by rw [length_bvs]; omega) (by rw [length_bvs]; omega)
            rw [if_neg hcr, ← bvs_drop] at hdw
            have HDw := Lib.hid hdw
            clear hdw
            go_wp2_with (go_at_call 53; refine (slicesCloneB_at _ _ (xs := xs.drop (n + 4)) HDw.out HLr.out (by omega)).mono ?_; rintro e w6 ⟨a6, c6, rfl, g1, g2⟩; have HO6 := Lib.hid g1; have HU6 := Lib.hid g2; clear g1 g2)
            go_ret3
            have z1 := HU15.out.size
            have z6 := HU6.out.size
            refine ⟨some ⟨bk, o, none⟩, n, a6, c6, ?_, (HRq.out.keep HU6.out).mono (fun k hk => ⟨(HF1.out k hk).1, by have := (HF1.out k hk).2; omega⟩), (fun h => by cases h), ?_, ?_, ?_, HU15.out.trans HU6.out (fun _ f _ => f)⟩
            · show _ = Ending.returned (.tuple #[.slice (some ⟨bk, o, none⟩) (xs.take n).length n, .slice a6 (xs.drop (n + 4)).length c6, .int .i64 0])
              rw [HLp.out, HLr.out]
              rfl
            · show (xs.take n).length ≤ n
              rw [HLp.out]
              exact Nat.le_refl _
            · simp only [maxLen]
              omega
            · show Own (Fr w w6) w6 5 1 a6 (xs.drop (n + 4)).length c6 (bvs (xs.drop (n + 4)))
              rw [HLr.out]
              exact HO6.out.mono (fun k hk => ⟨by have := hk.1; omega, hk.2⟩)
        · rw [if_neg he]
          have HE := Lib.hid he
          clear he
          go_enter Tryd.func22, Tryd.ntmps22
          go_wp2_with (first
            | (go_at_call 23; refine (rd_Over _ c HR.out hx).mono ?_; rintro e w1 ⟨s, F1, rfl, g1, g2, g3⟩; have H1 := Lib.hid g1; have H2 := Lib.hid g2; have HU1 := Lib.hid g3; clear g1 g2 g3)
            | (go_at_call 24; refine (rd_Uint _ H1.out).mono ?_; rintro e w2 hg; rw [HD0.out, HQ.out] at hg; dsimp only at hg; obtain ⟨rfl, g1, g2⟩ := hg; have H3 := Lib.hid g1; have HU2 := Lib.hid g2; clear g1 g2)
            | (go_at_call 56; refine (rd_rest _ H3.out).mono ?_; rintro e w3 hg; rw [HX0.out] at hg; obtain ⟨a3, c3, rfl, g1, g2, g3, g4, g5⟩ := hg
               have HU3 := Lib.hid g5
               obtain ⟨bk, o, rfl, hFb, _⟩ := g1 (by intro e; have := congrArg List.length e; rw [length_bvs, List.length_nil] at this; omega)
               have hc3 : (xs.length : Int) ≤ (c3 : Int) := by omega
               have hcm : (c3 : Int) ≤ 9223372036854775807 := by have := le_max g4; omega
               have hne : ¬ c3 = n := by omega
               have HRx := Lib.hid g1; have HM3 := Lib.hid g4; clear g1 g2 g4 g5))
          have HT3 := Lib.hid (((HT.out.upd HU1.out (fun f => f)).upd HU2.out (fun f => by have := (H2.out 0 f).1; omega)).upd HU3.out (fun f => f))
          have HRp := Lib.hid (show Row F1 w3 (some ⟨bk, o, none⟩) (bvs (xs.take n)) by rw [bvs_take]; exact HRx.out.take n)
          have HR4 := Lib.hid (show Row F1 w3 (some ⟨bk, o + n, none⟩) (bvs ((xs.drop n).take 4)) by
            have := HRx.out.cut n 4 (b := bk) (o := o) (by rw [← bvs_drop, ← bvs_take]; intro e; have := congrArg List.length e; rw [length_bvs, HL4.out] at this; cases this) rfl
            rwa [← bvs_drop, ← bvs_take] at this)
          have i1 : (0 : Int) ≤ (n : Int) := by omega
          have i2 : (n : Int) + 4 ≤ (xs.length : Int) := by omega
          have i3 : (n : Int) ≤ (n : Int) + 4 := by omega
          have i4 : (n : Int) + 4 ≤ (c3 : Int) := by omega
          have i5 : IntKind.i64.wrap ((n : Int) + 4) = (n : Int) + 4 := IntWalk.i64_in _ (by omega)
          have i6 : ((n : Int) + 4).toNat = n + 4 := by omega
          have i7 : n + 4 - n = 4 := by omega
          have HEq := Lib.hid (decide_eq_false HE.out)
          go_region_law (first
            | (go_simp; go_at_call 55; refine (wire_sum4_at _ n (HRp.out.keep (Upd.refl Nil w3).drew) HLp.out (by omega) (HT3.out.upd (Upd.refl Nil w3).drew (fun f => f))).mono ?_; rintro e w4 ⟨a4, c4, rfl, g1, g2⟩; have HO4 := Lib.hid g1; have HU4 := Lib.hid g2.ofDrew; clear g1 g2)
            | (go_simp; go_at_call 57; refine (slicesEqualB_at (n := 4) (m := 4) _ c4 (c3 - n) HO4.out.row (HR4.out.keep HU4.out) rfl HL4.out (by decide) (by decide) HEq.out).mono ?_; rintro e w5 ⟨rfl, g2⟩; have HU5 := Lib.hid g2; clear g2))
          go_wp2
          go_ret3
          exact GotTwo.none_ ((((HU1.out.trans HU2.out (fun k hk hlt => by have := (H2.out k hk).1; omega)).trans HU3.out (fun _ f _ => f)).trans HU4.out (fun _ f _ => f)).trans HU5.out (fun _ f _ => f))
  · rw [if_pos hz]
    have hz' : (z != 0) = true := by rw [bne_iff_ne]; exact hz
    have hz2 : (z == 0) = false := by rw [beq_eq_false_iff_ne]; exact hz
    go_enter Tryd.func22, Tryd.ntmps22
    go_wp2_with (first
      | (go_at_call 23; refine (rd_Over _ c HR.out hx).mono ?_; rintro e w1 ⟨s, F1, rfl, g1, g2, g3⟩; have H1 := Lib.hid g1; have H2 := Lib.hid g2; have HU1 := Lib.hid g3; clear g1 g2 g3)
      | (go_at_call 24; refine (rd_Uint _ H1.out).mono ?_; rintro e w2 hg; rw [HD0.out, HQ.out] at hg; dsimp only at hg; obtain ⟨rfl, g1, g2⟩ := hg; have H3 := Lib.hid g1; have HU2 := Lib.hid g2; clear g1 g2))
    go_ret3
    exact GotTwo.none_ (HU1.out.trans HU2.out (fun k hk hlt => by have := (H2.out k hk).1; omega))
end Go.Proofs.YtbaombnnagidcaaDoor

namespace Go.Proofs.YtbaombnnagidcaaDoor
open Go.RowKit

theorem scanR_put : ∀ (k n i acc : Nat) (rest : List UInt8), (putL n).length ≤ k → i + (putL n).length ≤ 9 → (0 < i → 0 < n) → scanR i acc (putL n ++ rest) = (acc + n * 128 ^ i, i + (putL n).length, 0)
  | 0, n, i, acc, rest, hk, _, _ => by have := length_putL_pos n; omega
  | k + 1, n, i, acc, rest, hk, hi, hn => by
    by_cases h : n < 128
    · rw [putL_small h] at hi ⊢
      have ht := toNat_ofNat8 (m := n) (by omega)
      simp only [List.length_cons, List.length_nil] at hi
      rw [List.cons_append, scanR, if_neg (by omega), ht, if_neg (by omega), if_neg (by intro q; have := hn q.2; omega), Nat.mod_eq_of_lt h]
      rfl
    · rw [putL_big h] at hk hi ⊢
      have ht := toNat_ofNat8 (m := n % 128 + 128) (by omega)
      simp only [List.length_cons] at hk hi
      rw [List.cons_append, scanR, if_neg (by omega), ht, if_pos (by omega), scanR_put k (n / 128) (i + 1) _ rest (by omega) (by omega) (fun _ => by omega)]
      have e : (n % 128 + 128) % 128 = n % 128 := by omega
      rw [e, List.length_cons]
      refine Prod.ext ?_ (Prod.ext ?_ rfl)
      · show acc + n % 128 * 128 ^ i + n / 128 * 128 ^ (i + 1) = acc + n * 128 ^ i
        rw [Nat.pow_succ, Nat.mul_comm (128 ^ i) 128, ← Nat.mul_assoc, Nat.add_assoc, ← Nat.add_mul]
        congr 2
        omega
      · show i + 1 + (putL (n / 128)).length = i + ((putL (n / 128)).length + 1)
        omega
theorem scanL_put {n : Nat} (hn : n < 9223372036854775808) (rest : List UInt8) : scanL (putL n ++ rest) = (n, (putL n).length, 0) := by
  have := length_putL hn
  rw [scanL, scanR_put _ n 0 0 rest (Nat.le_refl _) (by omega) (fun h => by omega)]
  simp
theorem scanR_short : ∀ (k n i acc m : Nat), (putL n).length ≤ k → m < (putL n).length → i + m < 9 → (scanR i acc ((putL n).take m)) = (0, 0, 10)
  | 0, n, _, _, _, hk, _, _ => by have := length_putL_pos n; omega
  | k + 1, n, i, acc, m, hk, hm, hi => by
    cases m with
    | zero => rw [List.take_zero, scanR, if_neg (by omega)]
    | succ m =>
      by_cases h : n < 128
      · rw [putL_small h] at hm
        simp at hm
      · rw [putL_big h] at hk hm ⊢
        have ht := toNat_ofNat8 (m := n % 128 + 128) (by omega)
        simp only [List.length_cons] at hk hm
        rw [List.take_succ_cons, scanR, if_neg (by omega), ht, if_pos (by omega)]
        exact scanR_short k (n / 128) (i + 1) _ m (by omega) (by omega) (by omega)

theorem length_frameL (p : List UInt8) : (frameL p).length = (putL p.length).length + p.length + 4 := by rw [frameL, List.length_append, List.length_append, length_fourL]
theorem length_put3 {n : Nat} (h : n ≤ 65536) : (putL n).length ≤ 3 := length_putL_le 2 n (by omega)

/-- no beginning of a frame is one -/
theorem torn_cut {p : List UInt8} (hp : p.length ≤ 65536) {m : Nat} (hm : m < (frameL p).length) : (unframeL ((frameL p).take m)).2.2 ≠ 0 := by
  rw [length_frameL] at hm
  have h3 := length_put3 hp
  by_cases h : m < (putL p.length).length
  · have e : (frameL p).take m = (putL p.length).take m := by
      rw [frameL, List.append_assoc, List.take_append_of_le_length (by omega)]
    have hs : scanL ((putL p.length).take m) = (0, 0, 10) := scanR_short _ p.length 0 0 m (Nat.le_refl _) h (by omega)
    rw [e, unframeL, hs]
    simp
  · obtain ⟨r, hr⟩ : ∃ r, m = (putL p.length).length + r := ⟨m - (putL p.length).length, by omega⟩
    have e : (frameL p).take m = putL p.length ++ (p ++ fourL (sumL p)).take r := by
      rw [frameL, List.append_assoc, hr, List.take_length_add_append]
    rw [e, unframeL, scanL_put (by omega)]
    dsimp only
    rw [if_neg (by decide), if_neg (by omega), List.drop_left, if_pos]
    · decide
    · rw [List.length_take, List.length_append, length_fourL]
      omega

/-! ### a byte turned -/
theorem bitS_inj {a b : Nat} (ha : a < 4294967296) (hb : b < 4294967296) (h : bitS a = bitS b) : a = b := by
  have top : ∀ c, c < 4294967296 → (c / 2 ^^^ 3988292384) / 2147483648 = 1 := fun c hc => by
    have := Nat.xor_div_two_pow (a := c / 2) (b := 3988292384) (n := 31)
    rw [show (2 : Nat) ^ 31 = 2147483648 from rfl] at this
    rw [this, Nat.div_eq_of_lt (by omega), show 3988292384 / 2147483648 = 1 from rfl, Nat.zero_xor]
  unfold bitS at h
  rcases Nat.mod_two_eq_zero_or_one a with h1 | h1 <;> rcases Nat.mod_two_eq_zero_or_one b with h2 | h2
  · rw [if_neg (by omega), if_neg (by omega)] at h
    omega
  · rw [if_neg (by omega), if_pos h2] at h
    have := top b hb
    rw [← h] at this
    omega
  · rw [if_pos h1, if_neg (by omega)] at h
    have := top a ha
    rw [h] at this
    omega
  · rw [if_pos h1, if_pos h2] at h
    have e : a / 2 = b / 2 := by
      have := congrArg (· ^^^ 3988292384) h
      simpa [Nat.xor_assoc] using this
    omega
theorem bitN_inj : ∀ (n : Nat) {a b : Nat}, a < 4294967296 → b < 4294967296 → bitN n a = bitN n b → a = b
  | 0, _, _, _, _, h => h
  | n + 1, _, _, ha, hb, h => bitN_inj n ha hb (bitS_inj (bitN_lt ha n) (bitN_lt hb n) h)
theorem xor_cancel {a b c : Nat} (h : a ^^^ c = b ^^^ c) : a = b := by
  have := congrArg (· ^^^ c) h
  simpa [Nat.xor_assoc] using this
theorem crcFrom_inj : ∀ (l : List UInt8) {a b : Nat}, a < 4294967296 → b < 4294967296 → crcFrom a l = crcFrom b l → a = b
  | [], _, _, _, _, h => h
  | c :: l, a, b, ha, hb, h => by
    have hc : c.toNat < 4294967296 := by have := c.toNat_lt; omega
    have := crcFrom_inj l (stepB_lt ha hc) (stepB_lt hb hc) h
    rw [stepB_bits, stepB_bits] at this
    exact xor_cancel (bitN_inj 8 (xor_lt ha hc) (xor_lt hb hc) this)
theorem crcFrom_append (c : Nat) (l r : List UInt8) : crcFrom c (l ++ r) = crcFrom (crcFrom c l) r := by simp [crcFrom, List.foldl_append]
/-- one with a byte turned has another sum -/
theorem sumL_set {p : List UInt8} {i : Nat} (hi : i < p.length) {y : UInt8} (hy : y ≠ p[i]) : sumL (p.set i y) ≠ sumL p := by
  intro h
  have h := xor_cancel h
  have e1 : p.set i y = p.take i ++ y :: p.drop (i + 1) := by rw [List.set_eq_take_append_cons_drop, if_pos hi]
  have e2 : p = p.take i ++ p[i] :: p.drop (i + 1) := by rw [← List.drop_eq_getElem_cons hi, List.take_append_drop]
  rw [e1] at h
  conv at h => rhs; rw [e2]
  rw [crcFrom_append, crcFrom_append] at h
  have hc := crcFrom_lt (l := p.take i) (c := 4294967295) (by decide)
  have hyl : y.toNat < 4294967296 := by have := y.toNat_lt; omega
  have hpl : (p[i]).toNat < 4294967296 := by have := (p[i]).toNat_lt; omega
  have := crcFrom_inj (p.drop (i + 1)) (stepB_lt hc hyl) (stepB_lt hc hpl) h
  rw [stepB_bits, stepB_bits] at this
  have := bitN_inj 8 (xor_lt hc hyl) (xor_lt hc hpl) this
  rw [Nat.xor_comm, Nat.xor_comm _ (p[i]).toNat] at this
  exact hy (UInt8.toNat_inj.1 (xor_cancel this))

/-- a frame's bytes behind the length, one of them turned: another sum -/
theorem torn_turn {p : List UInt8} (hp : p.length ≤ 65536) {j : Nat} (hj : j < p.length + 4) {y : UInt8} (hy : y ≠ (p ++ fourL (sumL p))[j]'(by rw [List.length_append, length_fourL]; exact hj)) :
    unframeL (putL p.length ++ (p ++ fourL (sumL p)).set j y) = ([], [], 13) := by
  have hl : ((p ++ fourL (sumL p)).set j y).length = p.length + 4 := by rw [List.length_set, List.length_append, length_fourL]
  rw [unframeL, scanL_put (by omega)]
  dsimp only
  rw [if_neg (by decide), if_neg (by omega), List.drop_left, if_neg (by omega), if_neg]
  by_cases h : j < p.length
  · have e1 : (p ++ fourL (sumL p)).set j y = p.set j y ++ fourL (sumL p) := by rw [List.set_append, if_pos h]
    rw [e1, List.take_left' (by simp), List.drop_left' (by simp), List.take_of_length_le (by rw [length_fourL]; exact Nat.le_refl _)]
    intro hc
    rw [List.getElem_append_left h] at hy
    exact sumL_set h hy (fourL_inj (sumL_lt _) (sumL_lt _) hc)
  · have e1 : (p ++ fourL (sumL p)).set j y = p ++ (fourL (sumL p)).set (j - p.length) y := by rw [List.set_append, if_neg h]
    rw [e1, List.take_left, List.drop_left, List.take_of_length_le (by rw [List.length_set, length_fourL]; exact Nat.le_refl _)]
    intro hc
    rw [List.getElem_append_right (by omega)] at hy
    have hq : j - p.length < (fourL (sumL p)).length := by rw [length_fourL]; omega
    have := congrArg (fun l => l[j - p.length]?) hc
    simp only [List.getElem?_set_self hq, List.getElem?_eq_getElem hq, Option.some.injEq] at this
    exact hy this.symm
end Go.Proofs.YtbaombnnagidcaaDoor
