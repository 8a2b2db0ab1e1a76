/- The log in plain lists: sectors read, records of a stream, what is written. -/
import Derived.Test.YtbaombnnagidcaaDoorLog1
import Derived.Test.YtbaombnnagidcaaDoorDisk3
namespace Go.Proofs.YtbaombnnagidcaaDoor
open Go.RowKit

/-- load number i of a stream -/
def chunkL (s : List UInt8) (i : Nat) : List UInt8 := (s.drop (i * 112)).take 112
theorem length_chunkL (s : List UInt8) (i : Nat) : (chunkL s i).length ≤ 112 := by rw [chunkL, List.length_take]; omega
/-- the number that bytes are, the lowest first -/
def numOf : List UInt8 → Nat
  | [] => 0
  | b :: l => b.toNat + 256 * numOf l
theorem numOf_lt : ∀ (l : List UInt8), numOf l < 256 ^ l.length
  | [] => by simp [numOf]
  | b :: l => by
    have h1 := numOf_lt l
    have h2 := b.toNat_lt
    rw [numOf, List.length_cons, Nat.pow_succ]
    omega
/-- a sector's load and its number; none: it is not right -/
def readSec (b : List UInt8) (place : Nat) : Option (List UInt8 × Nat) :=
  if (b.getD 1 0).toNat ≤ 112 ∧ 1 ≤ numOf ((b.drop 4).take 8) ∧ numOf ((b.drop 4).take 8) ≤ 4611686018427387904 ∧ sectorL place (numOf ((b.drop 4).take 8)) ((b.drop 12).take (b.getD 1 0).toNat) = b
  then some ((b.drop 12).take (b.getD 1 0).toNat, numOf ((b.drop 4).take 8)) else none
theorem readSec_some {b : List UInt8} {place : Nat} {load : List UInt8} {f : Nat} (h : readSec b place = some (load, f)) : load.length ≤ 112 ∧ 1 ≤ f ∧ f ≤ 4611686018427387904 ∧ sectorL place f load = b := by
  unfold readSec at h
  split at h
  · rename_i hc
    injection h with h
    injection h with h1 h2
    subst h1; subst h2
    refine ⟨?_, hc.2.1, hc.2.2.1, hc.2.2.2⟩
    rw [List.length_take]
    omega
  · cases h
/-- the sectors that are used, the number, the stream: from sector j on, at most m of them -/
def openGo (rd : Nat → List UInt8) : Nat → Nat → Nat → List UInt8 → Nat × Nat × List UInt8
  | 0, j, first, s => (j, first, s)
  | m + 1, j, first, s => match readSec (rd j) j with
    | none => (j, first, s)
    | some (load, f) => if 0 < j ∧ f ≠ first then (j, first, s) else if load.length < 112 then (j + 1, f, s ++ load) else openGo rd m (j + 1) f (s ++ load)
theorem openGo_facts (rd : Nat → List UInt8) : ∀ (m j first : Nat) (s : List UInt8), s.length ≤ j * 112 → 1 ≤ first → first ≤ 4611686018427387904 →
    (openGo rd m j first s).2.2.length ≤ (openGo rd m j first s).1 * 112 ∧ (openGo rd m j first s).1 ≤ j + m ∧ 1 ≤ (openGo rd m j first s).2.1 ∧ (openGo rd m j first s).2.1 ≤ 4611686018427387904
  | 0, j, first, s, hs, h1, h2 => ⟨hs, Nat.le_refl _, h1, h2⟩
  | m + 1, j, first, s, hs, h1, h2 => by
    rw [openGo]
    split
    · exact ⟨hs, by omega, h1, h2⟩
    · rename_i load f hr
      obtain ⟨hl, hf1, hf2, _⟩ := readSec_some hr
      have hsl : (s ++ load).length ≤ (j + 1) * 112 := by rw [List.length_append]; omega
      split
      · exact ⟨hs, by omega, h1, h2⟩
      · split
        · exact ⟨hsl, by omega, hf1, hf2⟩
        · have := openGo_facts rd m (j + 1) f (s ++ load) hsl hf1 hf2
          omega

/-- the records of a stream, and how many bytes they have -/
def splitL (l : List UInt8) : List (List UInt8) × Nat :=
  if _h : (textR 2000 l).2.2 = 0 ∧ (textR 2000 l).1 ≠ [] then
    ((textR 2000 l).1 :: (splitL (l.drop (textR 2000 l).2.1)).1, (textR 2000 l).2.1 + (splitL (l.drop (textR 2000 l).2.1)).2)
  else ([], 0)
termination_by l.length
decreasing_by
  all_goals
    have h1 := _h.2
    have h2 : 0 < (textR 2000 l).2.1 ∧ (textR 2000 l).2.1 ≤ l.length := by
      unfold textR at h1 ⊢
      split at h1
      · exact absurd rfl h1
      · split at h1
        · exact absurd rfl h1
        · split at h1
          · exact absurd rfl h1
          · rename_i q1 q2 q3
            rw [if_neg q1, if_neg q2, if_neg q3]
            have hl : 0 < (List.take (scanL l).1 (List.drop (scanL l).2.1 l)).length := List.length_pos_iff.2 h1
            rw [List.length_take, List.length_drop] at hl
            have := scanL_le l
            dsimp only
            omega
    rw [List.length_drop]
    omega

/-- a log -/
structure LogS where
  fr : Nat
  sectors : Nat
  first : Nat
  last : Nat
  forced : Nat
  stream : List UInt8
  durable : Nat

/-- noughts into all sectors from j on that are none, m of them -/
def zerosL (B : List (List UInt8)) (fr : Nat) : Nat → Nat → List Snt
  | _, 0 => []
  | j, m + 1 => (if B.getD (fr + j) [] = noughts128 then [] else [(fr + j, noughts128)]) ++ zerosL B fr (j + 1) m
where noughts128 : List UInt8 := List.replicate 128 0
end Go.Proofs.YtbaombnnagidcaaDoor
