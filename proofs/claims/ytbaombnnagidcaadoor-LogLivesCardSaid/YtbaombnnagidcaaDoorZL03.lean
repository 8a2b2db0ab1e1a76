/- A request's name: IsID, of the program and of the document. -/
import Derived.Test.YtbaombnnagidcaaDoorZL02

namespace Go.Proofs.YtbaombnnagidcaaDoor
open Go.RowKit

/-- a byte of a name -/
def isC (c : UInt8) : Bool := decide (48 ≤ c.toNat ∧ c.toNat ≤ 57 ∨ 97 ≤ c.toNat ∧ c.toNat ≤ 122 ∨ 65 ≤ c.toNat ∧ c.toNat ≤ 90)
/-- a name -/
def isIDL (s : ByteArray) : Bool := decide (s.size ≠ 0 ∧ s.size ≤ 8 ∧ ∀ i (h : i < s.size), isC s[i] = true)
theorem not_id {s : ByteArray} {j : Nat} (hj : j < s.size) {x : UInt8} (hx : s[j] = x) (h : isC x = false) : isIDL s = false := by
  unfold isIDL
  rw [decide_eq_false]
  rintro ⟨_, _, h3⟩
  have := h3 j hj
  rw [hx, h] at this
  cases this
theorem id_step {s : ByteArray} {j : Nat} (hj : j < s.size) {x : UInt8} (hx : s[j] = x) (h : isC x = true) (hall : ∀ t, t < j → ∀ h : t < s.size, isC s[t] = true) : ∀ t, t < j + 1 → ∀ h : t < s.size, isC s[t] = true := fun t ht hs => by
  by_cases e : t = j
  · subst e
    rw [hx]
    exact h
  · exact hall t (by omega) hs
theorem size_ne (s : ByteArray) (h : s.size ≠ 0) : s.toList.isEmpty = false := by
  rw [List.isEmpty_eq_false_iff, ByteArray.toList_eq]
  intro e
  have := congrArg List.length e
  rw [Array.length_toList] at this
  exact h this
theorem size_eq {s : ByteArray} (h : s.size = 0) : s = ⟨#[]⟩ := by
  have : s.data.size = 0 := h
  have h2 : s.data = #[] := Array.eq_empty_of_size_eq_zero this
  cases s
  simp only at h2
  rw [h2]

theorem ret_bool {a b : Bool} (h : a = b) : Ending.returned (.bool b) = Ending.returned (.bool a) := by rw [h]

set_option maxHeartbeats 2000000 in
theorem net_IsID (w : World) (s : ByteArray) (hs : s.size ≤ 140737488355328) :
    Calls Tryd.prog 31 #[.string s] w fun e w' => e = .returned (.bool (isIDL s)) ∧ w = w' := by
  go_enter Tryd.func31, Tryd.ntmps31
  go_wp2
  go_loopg [7] s.size (fun k i wr => ∃ j : Nat, j + k = s.size ∧ i = .int .i64 j ∧ (∀ t, t < j → ∀ h : t < s.size, isC s[t] = true) ∧ w = wr)
  case atStart => exact ⟨0, by omega, rfl, fun t ht => absurd ht (Nat.not_lt_zero t), rfl⟩
  case round =>
    obtain ⟨j, hjk, rfl, hall, rfl⟩ := hrel
    have HJ := Lib.hid hjk
    have HA := Lib.hid hall
    have hjn : j ≤ s.size := by omega
    clear hjk hall
    by_cases hlt : j < s.size
    · obtain ⟨x, hx⟩ : ∃ x, s[j] = x := ⟨_, rfl⟩
      have HX := Lib.hid hx
      have h1 : (0 : Int) ≤ (j : Int) := by omega
      have h2 : (j : Int) < (s.size : Int) := by omega
      by_cases hc : 48 ≤ x.toNat ∧ x.toNat ≤ 57 ∨ 97 ≤ x.toNat ∧ x.toNat ≤ 122 ∨ 65 ≤ x.toNat ∧ x.toNat ≤ 90
      · have HC := Lib.hid (show isC x = true from decide_eq_true hc)
        rcases hc with h | h | h
        all_goals
          go_wp2
          go_roundg (gk - 1)
          case measure => have := HJ.out; omega
          case rel => exact ⟨j + 1, by have := HJ.out; omega, by go_num, id_step hlt HX.out HC.out HA.out, rfl⟩
      · have HC := Lib.hid (show isC x = false from decide_eq_false hc)
        have hc' : x.toNat < 48 ∨ (57 < x.toNat ∧ x.toNat < 65) ∨ (90 < x.toNat ∧ x.toNat < 97) ∨ 122 < x.toNat := by omega
        clear hc
        rcases hc' with h | h | h | h
        all_goals
          go_wp2
          go_ret
          exact ⟨ret_bool (not_id hlt HX.out HC.out), rfl⟩
    · obtain rfl : j = s.size := by omega
      by_cases h0 : s.size = 0
      · obtain rfl := size_eq h0
        go_wp2
        go_ret
        exact ⟨rfl, rfl⟩
      · have hE := size_ne s h0
        have hN : ¬ s.toList = [] := by
          intro e
          rw [e] at hE
          cases hE
        go_wp2
        · go_ret
          refine ⟨congrArg (fun b => Ending.returned (Value.bool b)) ?_, rfl⟩
          show decide ((s.size : Int) ≤ 8) = isIDL s
          by_cases h8 : s.size ≤ 8
          · rw [show isIDL s = true from decide_eq_true ⟨h0, h8, fun t ht => HA.out t ht ht⟩]
            exact decide_eq_true (by omega)
          · rw [show isIDL s = false from decide_eq_false (fun h => h8 h.2.1)]
            exact decide_eq_false (by omega)

set_option maxHeartbeats 2000000 in
theorem ref_IsID (w : World) (s : ByteArray) (hs : s.size ≤ 140737488355328) :
    Calls Tryd.prog 32 #[.string s] w fun e w' => e = .returned (.bool (isIDL s)) ∧ w = w' := by
  by_cases h0 : s.size < 1
  · go_enter Tryd.func32, Tryd.ntmps32
    go_wp2
    go_ret
    exact ⟨ret_bool (show isIDL s = false from decide_eq_false (fun h => h.1 (by omega))), rfl⟩
  by_cases h8 : 8 < s.size
  · go_enter Tryd.func32, Tryd.ntmps32
    go_wp2
    go_ret
    exact ⟨ret_bool (show isIDL s = false from decide_eq_false (fun h => absurd h.2.1 (by omega))), rfl⟩
  have h8' : s.size ≤ 8 := by omega
  go_enter Tryd.func32, Tryd.ntmps32
  go_wp2
  go_loopg [3] s.size (fun k i wr => ∃ j : Nat, j + k = s.size ∧ i = .int .i64 j ∧ (∀ t, t < j → ∀ h : t < s.size, isC s[t] = true) ∧ w = wr)
  case atStart => exact ⟨0, by omega, rfl, fun t ht => absurd ht (Nat.not_lt_zero t), rfl⟩
  case round =>
    obtain ⟨j, hjk, rfl, hall, rfl⟩ := hrel
    have HJ := Lib.hid hjk
    have HA := Lib.hid hall
    have hjn : j ≤ s.size := by omega
    clear hjk hall
    by_cases hlt : j < s.size
    · obtain ⟨x, hx⟩ : ∃ x, s[j] = x := ⟨_, rfl⟩
      have HX := Lib.hid hx
      have h1 : (0 : Int) ≤ (j : Int) := by omega
      have h2 : (j : Int) < (s.size : Int) := by omega
      by_cases hc : 48 ≤ x.toNat ∧ x.toNat ≤ 57 ∨ 97 ≤ x.toNat ∧ x.toNat ≤ 122 ∨ 65 ≤ x.toNat ∧ x.toNat ≤ 90
      · have HC := Lib.hid (show isC x = true from decide_eq_true hc)
        rcases hc with h | h | h
        all_goals
          go_wp2
          go_roundg (gk - 1)
          case measure => have := HJ.out; omega
          case rel => exact ⟨j + 1, by have := HJ.out; omega, by go_num, id_step hlt HX.out HC.out HA.out, rfl⟩
      · have HC := Lib.hid (show isC x = false from decide_eq_false hc)
        have hc' : x.toNat < 48 ∨ (57 < x.toNat ∧ x.toNat < 65) ∨ (90 < x.toNat ∧ x.toNat < 97) ∨ 122 < x.toNat := by omega
        clear hc
        rcases hc' with h | h | h | h
        all_goals
          go_wp2
          go_ret
          exact ⟨ret_bool (not_id hlt HX.out HC.out), rfl⟩
    · obtain rfl : j = s.size := by omega
      go_wp2
      go_ret
      exact ⟨ret_bool (show isIDL s = true from decide_eq_true ⟨by omega, h8', fun t ht => HA.out t ht ht⟩), rfl⟩
end Go.Proofs.YtbaombnnagidcaaDoor
