/- LogRoom: what Append answers, in numbers; a log over noughts. -/
import Derived.Test.YtbaombnnagidcaaDoorLogOpen
import Derived.Test.YtbaombnnagidcaaDoorDiskNew
namespace Go.Proofs.YtbaombnnagidcaaDoor
open Go.RowKit

theorem length_recL_at {r : List UInt8} (h : r.length ≤ 2000) : (recL r).length = r.length + (if r.length < 128 then 1 else 2) := by
  rw [recL, List.length_append]
  split
  · rename_i h1
    rw [putL_small h1]
    simp only [List.length_cons, List.length_nil]
    omega
  · rename_i h1
    rw [putL_big h1, putL_small (by omega)]
    simp only [List.length_cons, List.length_nil]
    omega
theorem LFine.append {S : LogS} (h : LFine S) (r : List UInt8) : LFine (appendS S r) := by
  unfold appendS
  split
  · rename_i hc
    have h1 := h.stream
    have h2 := h.durable
    have h3 := h.forced
    have h4 := h.next
    unfold appendC at hc
    split at hc
    · cases hc
    · split at hc
      · cases hc
      · split at hc
        · cases hc
        · rename_i q1 q2 q3
          have hl := length_recL (r := r) (by omega)
          exact ⟨h.pos, h.le, by show (S.stream ++ recL r).length ≤ S.sectors * 112; rw [List.length_append]; omega, by show S.durable ≤ (S.stream ++ recL r).length; rw [List.length_append]; omega, h.first, h.first2, by show S.last + 1 ≤ _; omega, by show S.forced ≤ S.last + 1; omega, by show S.first ≤ S.last + 1 + 1; omega, fun _ => by show S.first ≤ S.last + 1; omega⟩
  · exact h
theorem readSec_noughts (i : Nat) : readSec noughts128 i = none := by
  unfold readSec
  rw [if_neg]
  rintro ⟨_, h, _⟩
  have e : numOf ((noughts128.drop 4).take 8) = 0 := by rfl
  omega
theorem openR_noughts (n : Nat) (hn : 1 ≤ n) : openR (List.replicate n noughts128) 0 n = (0, 1, []) := by
  obtain ⟨m, rfl⟩ : ∃ m, n = m + 1 := ⟨n - 1, by omega⟩
  unfold openR
  rw [openGo]
  have e : (List.replicate (m + 1) noughts128).getD (0 + 0) [] = noughts128 := by simp [List.replicate_succ]
  rw [e, readSec_noughts]
theorem splitL_nil : splitL [] = ([], 0) := by
  have h : ¬ ((textR 2000 []).2.2 = 0 ∧ (textR 2000 []).1 ≠ []) := fun h => by
    have := textR_used h.2
    simp at this
    omega
  exact splitL_no h
theorem openS_noughts (n : Nat) (hn : 1 ≤ n) : openS (List.replicate n noughts128) 0 n = { fr := 0, sectors := n, first := 1, last := 0, forced := 0, stream := [], durable := 0 } := by
  unfold openS
  rw [openR_noughts n hn, splitL_nil]
  rfl
theorem zerosL_noughts {n : Nat} : ∀ (m j : Nat), j + m ≤ n → zerosL (List.replicate n noughts128) 0 j m = []
  | 0, _, _ => rfl
  | m + 1, j, h => by
    have e : (List.replicate n noughts128).getD (0 + j) [] = noughts128 := by
      rw [Nat.zero_add, List.getD_eq_getElem?_getD, List.getElem?_replicate, if_pos (by omega)]
      rfl
    rw [zerosL, e, if_pos rfl, zerosL_noughts m (j + 1) (by omega)]
    rfl
theorem openW_noughts (n : Nat) (hn : 1 ≤ n) : openW (List.replicate n noughts128) 0 n = [] := by
  unfold openW
  rw [openS_noughts n hn, openR_noughts n hn, cleanW, lastW, if_neg (fun h => absurd h.1 (Nat.lt_irrefl 0))]
  show zerosL (List.replicate n noughts128) 0 (min 0 _) (n - min 0 _) = []
  rw [Nat.zero_min]
  exact zerosL_noughts (n - 0) 0 (by omega)
theorem fine_noughts {n : Nat} (h1 : 1 ≤ n) (h2 : n ≤ 4096) : Fine (List.replicate n noughts128) [] :=
  ⟨by rw [List.length_replicate]; exact h1, by rw [List.length_replicate]; exact h2, fun b hb => by rw [(List.mem_replicate.1 hb).2]; exact length_noughts128, fun _ h => by cases h⟩
/-- how many bytes a record's text has -/
def recN (n : Nat) : Nat := n + (if n < 128 then 1 else 2)
theorem append_may {S : LogS} {r : List UInt8} (hl : S.last < 4611686018427387904) (h1 : 0 < r.length) (h2 : r.length ≤ 2000) (h3 : recN r.length ≤ S.sectors * 112 - S.stream.length) :
    appendC S r = 0 ∧ appendN S r = S.last + 1 ∧ appendS S r = { S with stream := S.stream ++ recL r, last := S.last + 1 } := by
  have hr : (recL r).length = recN r.length := length_recL_at h2
  have hc : appendC S r = 0 := by
    unfold appendC
    rw [if_neg (by omega), if_neg (by omega), if_neg (by omega)]
  exact ⟨hc, if_pos hc, if_pos hc⟩
theorem append_not {S : LogS} {r : List UInt8} (h : r.length = 0 ∨ 2000 < r.length ∨ (r.length ≤ 2000 ∧ S.sectors * 112 - S.stream.length < recN r.length)) :
    appendC S r ≠ 0 ∧ appendN S r = 0 ∧ appendS S r = S := by
  have hc : appendC S r ≠ 0 := by
    unfold appendC
    rcases h with h | h | ⟨h, h'⟩
    · rw [if_pos h]; decide
    · by_cases q : r.length = 0
      · rw [if_pos q]; decide
      · rw [if_neg q, if_pos h]; decide
    · have hr : (recL r).length = recN r.length := length_recL_at h
      by_cases q : r.length = 0
      · rw [if_pos q]; decide
      · rw [if_neg q, if_neg (by omega), if_pos (.inl (by omega))]; decide
  exact ⟨hc, if_neg hc, if_neg hc⟩
end Go.Proofs.YtbaombnnagidcaaDoor
