/- The log in plain lists: what a sector that was written is read as, what Open finds behind Force and Reset. -/
import Derived.Test.YtbaombnnagidcaaDoorLogRoom
namespace Go.Proofs.YtbaombnnagidcaaDoor
open Go.RowKit

theorem numOf_littleL : ∀ (k n : Nat), n < 256 ^ k → numOf (littleL n k) = n
  | 0, n, h => by simp at h; subst h; rfl
  | k + 1, n, h => by
    rw [littleL, numOf, numOf_littleL k (n / 256) (by rw [Nat.pow_succ] at h; omega), toNat_ofNat8 (by omega)]
    omega
/-- a sector that was written is read -/
theorem readSec_sectorL (i : Nat) {f : Nat} {load : List UInt8} (hl : load.length ≤ 112) (h1 : 1 ≤ f) (h2 : f ≤ 4611686018427387904) : readSec (sectorL i f load) i = some (load, f) := by
  obtain ⟨L, hL⟩ : ∃ L : List UInt8, littleL i 2 = L := ⟨_, rfl⟩
  have hL2 : L.length = 2 := by rw [← hL]; exact length_littleL i 2
  obtain ⟨M, hM⟩ : ∃ M, littleL f 8 = M := ⟨_, rfl⟩
  have hM8 : M.length = 8 := by rw [← hM]; exact length_littleL f 8
  obtain ⟨R, hR⟩ : ∃ R, List.replicate (124 - ([76, UInt8.ofNat load.length] ++ L ++ M ++ load).length) (0 : UInt8) ++ fourL (sumL (headL i f load)) = R := ⟨_, rfl⟩
  have e : sectorL i f load = 76 :: UInt8.ofNat load.length :: (L ++ (M ++ (load ++ R))) := by
    rw [← hR, ← hM, ← hL, sectorL]
    simp [headL, padL, List.append_assoc]
  have e1 : (sectorL i f load).getD 1 0 = UInt8.ofNat load.length := by rw [e]; rfl
  have e2 : ((sectorL i f load).drop 4).take 8 = M := by
    rw [e]
    show ((L ++ (M ++ (load ++ R))).drop 2).take 8 = M
    rw [List.drop_left' hL2, List.take_left' hM8]
  have e3 : (sectorL i f load).drop 12 = load ++ R := by
    rw [e]
    show (L ++ (M ++ (load ++ R))).drop 10 = _
    rw [← List.append_assoc, List.drop_left' (by rw [List.length_append]; omega)]
  have e4 : numOf M = f := by rw [← hM]; exact numOf_littleL 8 f (by omega)
  have e5 : (UInt8.ofNat load.length).toNat = load.length := toNat_ofNat8 (by omega)
  unfold readSec
  rw [e1, e2, e3, e4, e5, List.take_left, if_pos ⟨hl, h1, h2, rfl⟩]

/-- what stands in a sector behind writes -/
theorem applyP_at {i : Nat} : ∀ (l : List Snt) (B : List (List UInt8)), i < B.length → (∃ p ∈ l, p.1 = i ∧ (applyP B l).getD i [] = p.2) ∨ ((∀ p ∈ l, p.1 ≠ i) ∧ (applyP B l).getD i [] = B.getD i [])
  | [], B, _ => .inr ⟨(fun p h => by cases h), rfl⟩
  | q :: l, B, hi => by
    have ih := applyP_at l (B.set q.1 q.2) (by rw [List.length_set]; exact hi)
    rw [show applyP B (q :: l) = applyP (B.set q.1 q.2) l from rfl]
    rcases ih with ⟨p, hp, h1, h2⟩ | ⟨h1, h2⟩
    · exact .inl ⟨p, List.mem_cons_of_mem _ hp, h1, h2⟩
    · by_cases hq : q.1 = i
      · refine .inl ⟨q, List.mem_cons_self, hq, ?_⟩
        rw [h2, List.getD_eq_getElem?_getD, hq, List.getElem?_set_self hi]
        rfl
      · refine .inr ⟨fun p hp => ?_, ?_⟩
        · rcases List.mem_cons.1 hp with rfl | hp
          · exact hq
          · exact h1 p hp
        · rw [h2, List.getD_eq_getElem?_getD, List.getElem?_set_ne hq, ← List.getD_eq_getElem?_getD]

/-- no sector behind the first has a number above so many -/
def NoStale (B : List (List UInt8)) (last : Nat) : Prop := ∀ i, 1 ≤ i → i < B.length → ∀ load f, readSec (B.getD i []) i = some (load, f) → f ≤ last
theorem NoStale.apply {B : List (List UInt8)} {last last' : Nat} (h : NoStale B last) (hl : last ≤ last') {l : List Snt} (hp : ∀ p ∈ l, 1 ≤ p.1 → ∀ load f, readSec p.2 p.1 = some (load, f) → f ≤ last') : NoStale (applyP B l) last' := by
  intro i h1 h2 load f hr
  rw [length_applyP] at h2
  rcases applyP_at l B h2 with ⟨p, hpl, rfl, e⟩ | ⟨_, e⟩
  · rw [e] at hr
    exact hp p hpl h1 load f hr
  · rw [e] at hr
    exact Nat.le_trans (h i h1 h2 load f hr) hl

theorem forceL_mem {fr first : Nat} {s : List UInt8} {j : Nat} : ∀ {m : Nat} {p : Snt}, p ∈ forceL fr first s j m → ∃ k, j ≤ k ∧ k < j + m ∧ p = (fr + k, sectorL k first (chunkL s k))
  | 0, _, h => by cases h
  | m + 1, p, h => by
    rw [forceL] at h
    rcases List.mem_append.1 h with h | h
    · obtain ⟨k, h1, h2, h3⟩ := forceL_mem h
      exact ⟨k, h1, by omega, h3⟩
    · exact ⟨j + m, by omega, by omega, List.mem_singleton.1 h⟩
theorem forceL_has {fr first : Nat} {s : List UInt8} {j : Nat} : ∀ {m k : Nat}, j ≤ k → k < j + m → (fr + k, sectorL k first (chunkL s k)) ∈ forceL fr first s j m
  | 0, _, _, _ => by omega
  | m + 1, k, h1, h2 => by
    rw [forceL]
    rcases Nat.lt_or_ge k (j + m) with h | h
    · exact List.mem_append_left _ (forceL_has h1 h)
    · rw [show k = j + m by omega]
      exact List.mem_append_right _ List.mem_cons_self
/-- Force lays no sector with a number above the last -/
theorem NoStale.force {B : List (List UInt8)} {S : LogS} (h : NoStale B S.last) (hf : LFine S) (h0 : S.fr = 0) : NoStale (applyP B (forceN S)) S.last := by
  refine h.apply (Nat.le_refl _) (fun p hp h1 load f hr => ?_)
  unfold forceN at hp
  split at hp
  · cases hp
  · obtain ⟨k, hk1, hk2, rfl⟩ := forceL_mem hp
    have hs : S.stream ≠ [] := by
      rintro e
      rw [e, List.length_nil] at hk2
      omega
    dsimp only at hr
    rw [h0, Nat.zero_add, readSec_sectorL k (length_chunkL _ _) hf.first hf.first2] at hr
    injection hr with hr
    injection hr with _ hr
    subst hr
    exact hf.some hs
theorem NoStale.reset {B : List (List UInt8)} {S : LogS} (h : NoStale B S.last) (h0 : S.fr = 0) : NoStale (applyP B (resetN S)) (resetS S).last := by
  have e : (resetS S).last = S.last := by unfold resetS; split <;> rfl
  rw [e]
  refine h.apply (Nat.le_refl _) (fun p hp h1 load f hr => ?_)
  unfold resetN at hp
  split at hp
  · cases hp
  · rw [List.mem_singleton.1 hp] at h1
    dsimp only at h1
    omega
theorem NoStale.append {B : List (List UInt8)} {S : LogS} (h : NoStale B S.last) (r : List UInt8) : NoStale B (appendS S r).last := by
  unfold appendS
  split
  · exact fun i h1 h2 load f hr => Nat.le_succ_of_le (h i h1 h2 load f hr)
  · exact h
theorem LFine.force {S : LogS} (h : LFine S) : LFine (forceS S) := by
  unfold forceS
  split
  · exact h
  · exact ⟨h.pos, h.le, h.stream, Nat.le_refl _, h.first, h.first2, h.last, Nat.le_refl _, h.next, h.some⟩
theorem LFine.reset {S : LogS} (h : LFine S) : LFine (resetS S) := by
  unfold resetS
  split
  · exact h
  · exact ⟨h.pos, h.le, Nat.zero_le _, Nat.le_refl _, by show 1 ≤ S.last + 1; omega, by show S.last + 1 ≤ _; omega, h.last, Nat.le_refl _, Nat.le_refl _, fun q => absurd rfl q⟩

/-- the sectors that Open used are right, of its number -/
theorem openGo_used (rd : Nat → List UInt8) : ∀ (m j first : Nat) (s : List UInt8), ∀ i, j ≤ i → i < (openGo rd m j first s).1 → 1 ≤ i → (j = 0 ∨ True) → ∃ load, readSec (rd i) i = some (load, (openGo rd m j first s).2.1)
  | 0, j, first, s, i, h1, h2, _, _ => by rw [openGo] at h2; dsimp only at h2; omega
  | m + 1, j, first, s, i, h1, h2, h3, _ => by
    rw [openGo] at h2 ⊢
    split at h2
    · dsimp only at h2; omega
    · rename_i load f hr
      split at h2
      · dsimp only at h2; omega
      · rename_i hb
        split at h2
        · rename_i hlt
          dsimp only at h2
          rw [if_neg hb, if_pos hlt]
          rw [show i = j by omega]
          exact ⟨load, hr⟩
        · rename_i hlt
          rw [if_neg hb, if_neg hlt]
          rcases Nat.eq_or_lt_of_le h1 with rfl | h1
          · obtain ⟨f', hf'⟩ : ∃ f', (openGo rd m (j + 1) f (s ++ load)).2.1 = f' := ⟨_, rfl⟩
            have : f' = f := by rw [← hf']; exact openGo_first rd m (j + 1) f (s ++ load) (by omega)
            rw [hf', this]
            exact ⟨load, hr⟩
          · exact openGo_used rd m (j + 1) f (s ++ load) i h1 h2 h3 (.inr trivial)
where openGo_first (rd : Nat → List UInt8) : ∀ (m j first : Nat) (s : List UInt8), 0 < j → (openGo rd m j first s).2.1 = first
  | 0, _, _, _, _ => rfl
  | m + 1, j, first, s, h => by
    rw [openGo]
    split
    · rfl
    · rename_i load f hr
      split
      · rfl
      · rename_i hb
        have hf : f = first := by
          rcases Nat.decEq f first with q | q
          · exact absurd ⟨h, q⟩ hb
          · exact q
        subst hf
        split
        · rfl
        · exact openGo_first rd m (j + 1) f (s ++ load) (by omega)

theorem zerosL_not {B : List (List UInt8)} {fr : Nat} : ∀ {m j i : Nat}, j ≤ i → i < j + m → (∀ p ∈ zerosL B fr j m, p.1 ≠ fr + i) → B.getD (fr + i) [] = noughts128
  | 0, j, i, h1, h2, _ => by omega
  | m + 1, j, i, h1, h2, h => by
    rw [zerosL] at h
    rcases Nat.eq_or_lt_of_le h1 with rfl | h1
    · by_cases q : B.getD (fr + j) [] = noughts128
      · exact q
      · exact absurd rfl (h (fr + j, noughts128) (List.mem_append_left _ (by rw [if_neg q]; exact List.mem_cons_self)))
    · exact zerosL_not h1 (by omega) (fun p hp => h p (List.mem_append_right _ hp))
theorem zerosL_val {B : List (List UInt8)} {fr : Nat} : ∀ {m j : Nat} {p : Snt}, p ∈ zerosL B fr j m → p.2 = noughts128
  | 0, _, _, h => by cases h
  | m + 1, j, p, h => by
    rw [zerosL] at h
    rcases List.mem_append.1 h with h | h
    · split at h
      · cases h
      · rw [List.mem_singleton.1 h]
    · exact zerosL_val h

theorem openR_facts (B : List (List UInt8)) (fr n : Nat) : (openR B fr n).2.2.length ≤ (openR B fr n).1 * 112 ∧ (openR B fr n).1 ≤ n ∧ 1 ≤ (openR B fr n).2.1 ∧ (openR B fr n).2.1 ≤ 4611686018427387904 := by
  have := openGo_facts (fun j => B.getD (fr + j) []) n 0 1 [] (Nat.le_refl _) (Nat.le_refl _) (by decide)
  rw [Nat.zero_add] at this
  exact this
theorem splitL_some {l : List UInt8} (h : (splitL l).2 ≠ 0) : 1 ≤ (splitL l).1.length := by
  by_cases q : (textR 2000 l).2.2 = 0 ∧ (textR 2000 l).1 ≠ []
  · rw [splitL_yes q.1 q.2]
    exact Nat.succ_le_succ (Nat.zero_le _)
  · rw [splitL_no q] at h
    exact absurd rfl h
theorem openS_fine {B : List (List UInt8)} {fr n : Nat} (h1 : 1 ≤ n) (h2 : fr + n ≤ 4096) : LFine (openS B fr n) := by
  obtain ⟨f1, f2, f3, f4⟩ := openR_facts B fr n
  obtain ⟨g1, g2⟩ := splitL_facts _ (openR B fr n).2.2 (Nat.le_refl _)
  have hm : (openR B fr n).1 * 112 ≤ n * 112 := Nat.mul_le_mul_right _ f2
  have hl : ((openR B fr n).2.2.take (splitL (openR B fr n).2.2).2).length = (splitL (openR B fr n).2.2).2 := by rw [List.length_take]; omega
  refine ⟨h1, h2, ?_, ?_, f3, f4, ?_, Nat.le_refl _, ?_, fun h => ?_⟩
  · show ((openR B fr n).2.2.take (splitL (openR B fr n).2.2).2).length ≤ n * 112
    rw [hl]; omega
  · show (splitL (openR B fr n).2.2).2 ≤ ((openR B fr n).2.2.take (splitL (openR B fr n).2.2).2).length
    rw [hl]; exact Nat.le_refl _
  · show (openR B fr n).2.1 + (splitL (openR B fr n).2.2).1.length - 1 ≤ _
    omega
  · show (openR B fr n).2.1 ≤ (openR B fr n).2.1 + (splitL (openR B fr n).2.2).1.length - 1 + 1
    omega
  · have h' : (openR B fr n).2.2.take (splitL (openR B fr n).2.2).2 ≠ [] := h
    have : (splitL (openR B fr n).2.2).2 ≠ 0 := fun q => h' (by rw [q]; rfl)
    have := splitL_some this
    show (openR B fr n).2.1 ≤ (openR B fr n).2.1 + (splitL (openR B fr n).2.2).1.length - 1
    omega
/-- Open leaves no sector with a number above the last -/
theorem NoStale.opened {B : List (List UInt8)} {n : Nat} (hn : B.length = n) : NoStale (applyP B (openW B 0 n)) (openS B 0 n).last := by
  obtain ⟨f1, f2, f3, f4⟩ := openR_facts B 0 n
  obtain ⟨g1, g2⟩ := splitL_facts _ (openR B 0 n).2.2 (Nat.le_refl _)
  intro i h1 h2 load f hr
  rw [length_applyP] at h2
  have hsome : (openS B 0 n).durable ≠ 0 → (openR B 0 n).2.1 ≤ (openS B 0 n).last := fun h => by
    have := splitL_some (l := (openR B 0 n).2.2) h
    show (openR B 0 n).2.1 ≤ (openR B 0 n).2.1 + (splitL (openR B 0 n).2.2).1.length - 1
    omega
  have hd : (openS B 0 n).durable ≤ (openR B 0 n).2.2.length := g1
  have hdl : (openS B 0 n).stream.length = (openS B 0 n).durable := by
    show ((openR B 0 n).2.2.take (splitL (openR B 0 n).2.2).2).length = (splitL (openR B 0 n).2.2).2
    rw [List.length_take]
    omega
  rcases applyP_at (openW B 0 n) B h2 with ⟨p, hp, rfl, e⟩ | ⟨hno, e⟩
  · rw [e] at hr
    unfold openW cleanW at hp
    rcases List.mem_append.1 hp with hp | hp
    · unfold lastW at hp
      split at hp
      · rename_i hc
        have ep := List.mem_singleton.1 hp
        have e0 : p.1 = ((openS B 0 n).durable - 1) / 112 := by rw [ep]; exact Nat.zero_add _
        have e2 : p.2 = sectorL (((openS B 0 n).durable - 1) / 112) (openS B 0 n).first ((openS B 0 n).stream.drop (((openS B 0 n).durable - 1) / 112 * 112)) := by rw [ep]
        rw [e0, e2, readSec_sectorL (f := (openS B 0 n).first) _ (by rw [List.length_drop]; omega) f3 f4] at hr
        injection hr with hr
        injection hr with _ hr
        rw [← hr]
        exact hsome (by omega)
      · cases hp
    · rw [zerosL_val hp, readSec_noughts] at hr
      cases hr
  · rw [e] at hr
    by_cases hk : i < min (openR B 0 n).1 (((openS B 0 n).durable - 1) / 112 + 1)
    · obtain ⟨load', hl'⟩ := openGo_used (fun j => B.getD (0 + j) []) n 0 1 [] i (Nat.zero_le _) (show i < (openR B 0 n).1 by omega) h1 (.inl rfl)
      rw [Nat.zero_add, hr] at hl'
      injection hl' with hl'
      injection hl' with _ hl'
      rw [hl']
      exact hsome (by omega)
    · have := zerosL_not (B := B) (fr := 0) (j := min (openR B 0 n).1 (((openS B 0 n).durable - 1) / 112 + 1)) (m := (openS B 0 n).sectors - min (openR B 0 n).1 (((openS B 0 n).durable - 1) / 112 + 1)) (i := i) (by omega) (by show i < _ + (n - _); omega) (fun p hp => by
        rw [Nat.zero_add]
        exact hno p (List.mem_append_right _ hp))
      rw [Nat.zero_add] at this
      rw [this, readSec_noughts] at hr
      cases hr

/-- what Open finds of a stream that was laid in chunks -/
theorem openGo_chunks {rd : Nat → List UInt8} {f m : Nat} {s : List UInt8} (h1 : 1 ≤ f) (h2 : f ≤ 4611686018427387904) (hlo : (m - 1) * 112 < s.length) (hhi : s.length ≤ m * 112) (hrd : ∀ j, j < m → rd j = sectorL j f (chunkL s j)) :
    ∀ (k j first : Nat), m ≤ j + k → j ≤ m → (0 < j → first = f) → (j = m → s.length = m * 112) → (s.length = m * 112 → m < j + k → ∀ load g, readSec (rd m) m = some (load, g) → g ≠ f) → openGo rd k j first (s.take (j * 112)) = (m, f, s)
  | 0, j, first, hk, hj, hfi, hend, _ => by
    have hm : j = m := by omega
    have := hend hm
    have hs : 0 < s.length := by omega
    rw [openGo, hfi (by omega), hm, List.take_of_length_le (by omega)]
  | k + 1, j, first, hk, hj, hfi, hend, hst => by
    by_cases hm : j = m
    · have he := hend hm
      have hf : first = f := hfi (by omega)
      rw [hm, List.take_of_length_le (by omega), openGo]
      split
      · rw [hf]
      · rename_i load g hr
        rw [if_pos ⟨by omega, by rw [hf]; exact hst he (by omega) load g hr⟩, hf]
    · have hr : readSec (rd j) j = some (chunkL s j, f) := by rw [hrd j (by omega)]; exact readSec_sectorL j (length_chunkL _ _) h1 h2
      have hcl : (chunkL s j).length = min 112 (s.length - j * 112) := by rw [chunkL, List.length_take, List.length_drop]
      have hap : s.take (j * 112) ++ chunkL s j = s.take ((j + 1) * 112) := by
        rw [chunkL, Nat.add_mul, Nat.one_mul, List.take_add]
      rw [openGo, hr]
      dsimp only
      rw [if_neg (fun q => q.2 (hfi q.1).symm), hap]
      split
      · rename_i hlt
        rw [hcl] at hlt
        have : j + 1 = m := by omega
        rw [this, List.take_of_length_le hhi]
      · rename_i hlt
        rw [hcl] at hlt
        exact openGo_chunks h1 h2 hlo hhi hrd k (j + 1) f (by omega) (by omega) (fun _ => rfl) (by omega) (fun q1 q2 => hst q1 (by omega))
theorem textR_recL {r : List UInt8} (h : r.length ≤ 2000) : textR 2000 (recL r) = (r, (recL r).length, 0) := by
  rw [textR, recL, scanL_put (by omega)]
  dsimp only
  rw [if_neg (by decide), if_neg (by omega), List.drop_left, if_neg (by rw [List.length_append]; omega), List.take_of_length_le (Nat.le_refl _), List.length_append]
theorem splitL_recL {r : List UInt8} (h0 : r ≠ []) (h : r.length ≤ 2000) : splitL (recL r) = ([r], (recL r).length) := by
  rw [splitL_yes (by rw [textR_recL h]) (by rw [textR_recL h]; exact h0), textR_recL h]
  dsimp only
  rw [List.drop_of_length_le (Nat.le_refl _), splitL_nil]
  rfl

/-- behind Reset the disk's log has no record -/
theorem openR_reset {B : List (List UInt8)} {S : LogS} (hf : LFine S) (h0 : S.fr = 0) (hn : S.sectors = B.length) (hl : S.last < 4611686018427387904) : openR (applyP B (resetN S)) 0 B.length = (1, S.last + 1, []) := by
  have hp := hf.pos
  have e : applyP B (resetN S) = B.set 0 (sectorL 0 (S.last + 1) []) := by
    unfold resetN
    rw [if_neg (by omega), h0]
    rfl
  obtain ⟨m, hm⟩ : ∃ m, B.length = m + 1 := ⟨B.length - 1, by omega⟩
  rw [e, hm, openR, openGo]
  have e2 : (B.set 0 (sectorL 0 (S.last + 1) [])).getD (0 + 0) [] = sectorL 0 (S.last + 1) [] := by
    rw [Nat.zero_add, List.getD_eq_getElem?_getD, List.getElem?_set_self (by omega)]
    rfl
  rw [e2, readSec_sectorL 0 (Nat.zero_le _) (by omega) (by omega)]
  rfl
/-- behind Reset, Append and Force it has that one -/
theorem openR_force {B : List (List UInt8)} {S : LogS} {r : List UInt8} (hf : LFine S) (h0 : S.fr = 0) (hn : S.sectors = B.length) (hd : S.durable = 0) (hne : S.forced ≠ S.last) (hs : S.stream = recL r) (hst : NoStale B (S.first - 1)) :
    (openR (applyP B (forceN S)) 0 B.length).2.2 = recL r := by
  have hp := hf.pos
  have hlen := hf.stream
  have hfi := hf.first
  have hrl : 1 ≤ (recL r).length := by have := length_putL_pos r.length; rw [recL, List.length_append]; omega
  rw [hs] at hlen
  obtain ⟨m, hm⟩ : ∃ m, ((recL r).length + 111) / 112 = m := ⟨_, rfl⟩
  have e : forceN S = forceL 0 S.first (recL r) 0 m := by
    unfold forceN
    rw [if_neg hne, h0, hs, hd, Nat.zero_div, hm, Nat.sub_zero]
  rw [e]
  have hat : ∀ j, j < m → (applyP B (forceL 0 S.first (recL r) 0 m)).getD (0 + j) [] = sectorL j S.first (chunkL (recL r) j) := fun j hj => by
    rw [Nat.zero_add]
    rcases applyP_at (i := j) (forceL 0 S.first (recL r) 0 m) B (by omega) with ⟨p, hp, h1, h2⟩ | ⟨h1, _⟩
    · obtain ⟨k, _, _, rfl⟩ := forceL_mem hp
      have : k = j := by dsimp only at h1; omega
      subst this
      exact h2
    · exact absurd (Nat.zero_add j) (h1 _ (forceL_has (fr := 0) (Nat.zero_le _) (by omega)))
  have hgo := openGo_chunks (rd := fun j => (applyP B (forceL 0 S.first (recL r) 0 m)).getD (0 + j) []) (f := S.first) (m := m) (s := recL r) hfi hf.first2 (by omega) (by omega) hat B.length 0 1 (by omega) (Nat.zero_le _) (fun h => absurd h (Nat.lt_irrefl 0)) (by omega) (fun q1 q2 load g hr => by
    rw [Nat.zero_add] at hr
    rcases applyP_at (i := m) (forceL 0 S.first (recL r) 0 m) B (by omega) with ⟨p, hp, h1, h2⟩ | ⟨_, h2⟩
    · obtain ⟨k, _, _, rfl⟩ := forceL_mem hp
      dsimp only at h1
      omega
    · rw [h2] at hr
      have := hst m (by omega) (by omega) load g hr
      omega)
  rw [Nat.zero_mul, List.take_zero] at hgo
  rw [openR, hgo]
end Go.Proofs.YtbaombnnagidcaaDoor
