/- The document's reader: Uint of bytes, the reader's Uint and Text. -/
import Derived.Test.YtbaombnnagidcaaDoorReadReply
namespace Go.Proofs.YtbaombnnagidcaaDoor
open Go.RowKit

theorem add_step {acc y j : Nat} (hy : y < 256) (hj : j ≤ 8) (ha : acc < 128 ^ j) : wrap64 ((acc : Int) + wrap64 (wrap64 (bits .and .u8 (y : Int) 127) * 2 ^ (7 * j))) = ((acc + y % 128 * 128 ^ j : Nat) : Int) := by
  have e1 : bits .and .u8 (y : Int) 127 = ((y % 128 : Nat) : Int) := by
    rw [show (127 : Int) = ((127 : Nat) : Int) from rfl, u8_and_nat y 127 hy (by decide)]
    congr 1
    exact Nat.and_two_pow_sub_one_eq_mod y 7
  have hp := pow_le9 hj
  have hm : y % 128 * 128 ^ j ≤ 127 * 72057594037927936 := Nat.mul_le_mul (by omega) hp
  have e2 : wrap64 ((y % 128 : Nat) : Int) = ((y % 128 : Nat) : Int) := by unfold wrap64; omega
  have e3 : ((y % 128 : Nat) : Int) * 2 ^ (7 * j) = ((y % 128 * 128 ^ j : Nat) : Int) := by rw [← pow128]; push_cast; rfl
  have e4 : wrap64 ((y % 128 * 128 ^ j : Nat) : Int) = ((y % 128 * 128 ^ j : Nat) : Int) := by unfold wrap64; omega
  rw [e1, e2, e3, e4]
  unfold wrap64
  omega

set_option maxRecDepth 100000 in
set_option maxHeartbeats 2000000 in
theorem ref_Uint {F : Nat → Prop} (w : World) {a : Option Addr} (c : Nat) {xs : List UInt8} (hr : Row F w a (bvs xs)) :
    Calls Tryd.prog 98 #[.slice a xs.length c] w fun e w' => e = .returned (.tuple #[.int .i64 (scanL xs).1, .int .i64 (scanL xs).2.1, .int .i64 (scanL xs).2.2]) ∧ w = w' := by
  have HR1 := Lib.hid hr
  clear hr
  go_enter Tryd.func98, Tryd.ntmps98
  go_wp2
  go_loopg [5, 7] 9 (fun k v i wr => ∃ j acc : Nat, j + k = 9 ∧ i = .int .i64 j ∧ v = .int .i64 (acc : Int) ∧ acc < 128 ^ j ∧ scanL xs = scanR j acc (xs.drop j) ∧ w = wr)
  case atStart => exact ⟨0, 0, by omega, rfl, rfl, by decide, rfl, rfl⟩
  case round =>
    obtain ⟨j, acc, hjk, rfl, rfl, hacc, hsc, rfl⟩ := hrel
    have hjn : j ≤ 9 := by omega
    have HJ := Lib.hid hjk
    have HAcc := Lib.hid hacc
    have HSc := Lib.hid hsc
    clear hjk hacc hsc
    by_cases hj9 : j = 9
    · subst hj9
      have hs := HSc.out
      have h9 : scanR 9 acc (xs.drop 9) = (0, 0, 11) := by
        cases xs.drop 9 with
        | nil => rfl
        | cons x r => rw [scanR, if_pos rfl]
      rw [h9] at hs
      have HS := Lib.hid hs
      clear hs h9
      go_wp2
      go_ret3
      rw [HS.out]
      exact ⟨rfl, rfl⟩
    have hj8 : j ≤ 8 := by omega
    by_cases hlt : j < xs.length
    · obtain ⟨b, o, rfl, _, hcell⟩ := rowAt HR1.out (bvs_get xs j hlt)
      have hb : (xs[j]).toNat < 256 := (xs[j]).toNat_lt
      obtain ⟨y, hy⟩ : ∃ y, (xs[j]).toNat = y := ⟨_, rfl⟩
      rw [hy] at hb hcell
      have hs := HSc.out
      rw [List.drop_eq_getElem_cons hlt, scanR, if_neg hj9, hy] at hs
      have HS := Lib.hid hs
      have hst := add_step hb hj8 HAcc.out
      have HSt := Lib.hid hst
      clear hs hst hy
      by_cases h128 : 128 ≤ y
      · have h1 := HS.out
        rw [if_pos h128] at h1
        have H1 := Lib.hid h1
        clear h1
        go_wp2
        go_roundg (gk - 1)
        case measure => have := HJ.out; omega
        case rel => exact ⟨j + 1, acc + y % 128 * 128 ^ j, by have := HJ.out; omega, by go_num, by rw [← HSt.out], step_lt HAcc.out, H1.out, rfl⟩
      · have h1 := HS.out
        rw [if_neg h128] at h1
        have h127 : y < 128 := by omega
        by_cases hz : y = 0
        · subst hz
          by_cases hj0 : 0 < j
          · rw [if_pos ⟨rfl, hj0⟩] at h1
            have H1 := Lib.hid h1
            clear h1
            go_wp2
            go_ret3
            rw [H1.out]
            exact ⟨rfl, rfl⟩
          · rw [if_neg (fun q => hj0 q.2)] at h1
            have H1 := Lib.hid h1
            clear h1
            go_wp2
            go_ret3
            rw [H1.out]
            refine ⟨?_, rfl⟩
            rw [← HSt.out]
            rfl
        · rw [if_neg (fun q => hz q.1)] at h1
          have H1 := Lib.hid h1
          have hz' : ((y : Int) == 0) = false := by rw [beq_eq_false_iff_ne]; omega
          have HZ := Lib.hid hz
          clear h1 hz
          go_wp2
          all_goals
            go_ret3
            rw [H1.out]
            refine ⟨?_, rfl⟩
            rw [← HSt.out]
            rfl
    · have hs := HSc.out
      rw [List.drop_eq_nil_of_le (by omega), scanR, if_neg (by omega)] at hs
      have HS := Lib.hid hs
      clear hs
      go_wp2
      go_ret3
      rw [HS.out]
      exact ⟨rfl, rfl⟩
/-- The document's reader at block s, over the bytes l that are left. -/
def Xr (F : Nat → Prop) (w : World) (s : Nat) (l : List UInt8) : Prop :=
  ∃ (R : Nat → Prop) (a : Option Addr) (c : Nat), F s ∧ (∀ k, R k → F k ∧ k ≠ s) ∧ Blk w s 113 #[.slice a l.length c] ∧ Row R w a (bvs l) ∧ l.length ≤ c ∧ c ≤ maxLen ∧ (a = none → c = 0)
theorem Xr.upd {F G : Nat → Prop} {w w' : World} {s : Nat} {l : List UInt8} (h : Xr F w s l) (u : Upd G w w') (hd : ∀ k, F k → ¬ G k) : Xr F w' s l := by
  obtain ⟨R, a, c, h1, h2, h3, h4, h5⟩ := h
  exact ⟨R, a, c, h1, h2, h3.upd u (hd _ h1), h4.upd u (fun k hk => hd k (h2 k hk).1), h5⟩
theorem Xr.keep {F : Nat → Prop} {w w' : World} {s : Nat} {l : List UInt8} (h : Xr F w s l) (u : Upd Nil w w') : Xr F w' s l := h.upd u (fun _ _ f => f)
def XrGot (F : Nat → Prop) (w : World) (s : Nat) (v : Value) (l : List UInt8) (e : Ending) (w' : World) : Prop := e = .returned v ∧ Xr F w' s l ∧ Upd F w w'
theorem scanR_err : ∀ (l : List UInt8) (i acc : Nat), (scanR i acc l).2.2 ≠ 0 → (scanR i acc l).1 = 0 ∧ (scanR i acc l).2.1 = 0
  | [], i, acc, _ => by simp [scanR]
  | c :: l, i, acc, h => by
    rw [scanR] at h ⊢
    split
    · exact ⟨rfl, rfl⟩
    · rename_i h9
      rw [if_neg h9] at h
      split
      · rename_i h1
        rw [if_pos h1] at h
        exact scanR_err l _ _ h
      · rename_i h1
        rw [if_neg h1] at h
        split
        · exact ⟨rfl, rfl⟩
        · rename_i h2
          rw [if_neg h2] at h
          exact absurd rfl h
theorem scanL_err {l : List UInt8} (h : (scanL l).2.2 ≠ 0) : (scanL l).1 = 0 ∧ (scanL l).2.1 = 0 := scanR_err l 0 0 h

/-- 'r.B = r.B[k:]' -/
theorem Xr.cut {F : Nat → Prop} {w : World} {s : Nat} {l : List UInt8} {R : Nat → Prop} {a : Option Addr} {c k : Nat} (h1 : F s) (h2 : ∀ k, R k → F k ∧ k ≠ s) (h3 : Blk w s 113 #[.slice a l.length c]) (h4 : Row R w a (bvs l)) (h5 : l.length ≤ c) (h6 : c ≤ maxLen) (h7 : a = none → c = 0) (hk : k ≤ l.length) :
    Xr F (w.setCell ⟨s, 0, none⟩ (.slice (if c = k then a else a.map (·.add k)) (l.length - k) (c - k))) s (l.drop k) := by
  refine ⟨R, (if c = k then a else a.map (·.add k)), c - k, h1, h2, ?_, ?_, by rw [List.length_drop]; omega, by simp only [maxLen] at h6 ⊢; omega, ?_⟩
  · rw [List.length_drop]
    exact h3.set 0 _
  · have := h4.drop k c (by rw [length_bvs]; exact hk) (by rw [length_bvs]; exact h5)
    rw [← bvs_drop] at this
    refine this.upd ((Upd.refl (One s) w).setCell (p := ⟨s, 0, none⟩) (.inl rfl) _) (fun q hq e => (h2 q hq).2 e)
  · intro ha
    have : a = none := by
      split at ha
      · exact ha
      · cases a with
        | none => rfl
        | some _ => cases ha
    have := h7 this
    omega

end Go.Proofs.YtbaombnnagidcaaDoor
