/- Which places a list of places marks: plain Lean, no program in sight. -/
import Derived.Test.YtbaombnnagidcaaDisk3
namespace Go.Proofs.Ytbaombnnagidcaa

/-- places that are there, are not marked yet and come once are all marked -/
theorem mark_all : ∀ {ks : List Int} {st : List Bool}, (∀ k ∈ ks, 0 ≤ k ∧ k < st.length ∧ st[k.toNat]? = some false) → ks.Nodup →
    ∃ st', mark st ks = some st' ∧ st'.length = st.length ∧ ∀ i (hi : i < st.length), st'[i]? = some (st[i] || decide ((i : Int) ∈ ks))
  | [], st, _, _ => ⟨st, rfl, rfl, fun i hi => by simp [hi]⟩
  | k :: ks, st, h, hn => by
    obtain ⟨h0, h1, h2⟩ := h k (List.mem_cons_self ..)
    obtain ⟨hk, hn'⟩ := List.nodup_cons.1 hn
    have hlt : k.toNat < st.length := by omega
    obtain ⟨st', e1, e2, e3⟩ := mark_all (ks := ks) (st := st.set k.toNat true) (fun q hq => by
      obtain ⟨g0, g1, g2⟩ := h q (List.mem_cons_of_mem _ hq)
      refine ⟨g0, by simpa using g1, ?_⟩
      rw [List.getElem?_set_ne (fun e => hk (by have : k = q := by omega
                                                rw [this]; exact hq))]
      exact g2) hn'
    refine ⟨st', ?_, by rw [e2, List.length_set], fun i hi => ?_⟩
    · simp only [mark]
      rw [if_neg]
      · exact e1
      · rintro (g | g | g)
        · omega
        · omega
        · rw [h2] at g
          cases g
    · rw [e3 i (by simpa using hi), List.getElem_set]
      congr 1
      by_cases e : k.toNat = i
      · have : (i : Int) = k := by omega
        rw [if_pos e, this]
        simp
      · have : ¬ (i : Int) = k := by omega
        rw [if_neg e]
        simp [this]

/-- what is kept of l is what the marks say -/
theorem mark_bits {β : Nat → Bool} {m : Nat} {ks : List Int} (hk : ∀ k ∈ ks, 0 ≤ k ∧ k < m) (hn : ks.Nodup) (hb : ∀ i, i < m → (decide ((i : Int) ∈ ks)) = β i) :
    mark (List.replicate m false) ks = some ((List.range m).map β) := by
  obtain ⟨st', e1, e2, e3⟩ := mark_all (ks := ks) (st := List.replicate m false) (fun k hk' => by
    obtain ⟨a, b⟩ := hk k hk'
    refine ⟨a, by simpa using b, ?_⟩
    rw [List.getElem?_replicate, if_pos (by omega)]) hn
  rw [e1]
  congr 1
  rw [List.length_replicate] at e2
  apply List.ext_getElem?
  intro i
  by_cases hi : i < m
  · rw [e3 i (by simpa using hi), List.getElem_replicate, Bool.false_or, hb i hi]
    simp [hi]
  · rw [List.getElem?_eq_none (by omega), List.getElem?_eq_none (by simp; omega)]
end Go.Proofs.Ytbaombnnagidcaa
