/- Two images that are one; sectors behind writes have their size. -/
import Derived.Test.YtbaombnnagidcaaDoorDisk3
namespace Go.Proofs.YtbaombnnagidcaaDoor
open Go.RowKit

theorem sameImage_yes {F G E E' : Nat → Prop} (w : World) {A B : Option Addr} (c d : Nat) {n m : Nat} {vs us : List Value} {xss : List (List UInt8)} (hA : Row F w A vs) (hB : Row G w B us)
    (h1 : All2 (Elem E w) vs xss) (h2 : All2 (Elem E' w) us xss) (hn : xss.length = n) (hm : xss.length = m) (hl : xss.length ≤ 9223372036854775807) :
    Calls Tryd.prog 113 #[.slice A n c, .slice B m d] w fun e w' => e = .returned (.bool true) ∧ w = w' := by
  subst hn
  subst hm
  exact (sameImage w c d hA hB h1 h2 hl hl).mono fun _ _ ⟨he, hw⟩ => ⟨by rw [he, decide_eq_true rfl], hw⟩

theorem size_applyP {n : Nat} : ∀ {l : List Snt} {B : List (List UInt8)}, (∀ b ∈ B, b.length = n) → (∀ p ∈ l, p.2.length = n) → ∀ b ∈ applyP B l, b.length = n
  | [], _, hB, _ => hB
  | p :: l, B, hB, hl => by
    show ∀ b ∈ applyP (B.set p.1 p.2) l, b.length = n
    refine size_applyP (fun b hb => ?_) (fun q hq => hl q (List.mem_cons_of_mem _ hq))
    rcases List.mem_or_eq_of_mem_set hb with h | rfl
    · exact hB b h
    · exact hl p (List.mem_cons_self ..)
theorem kept_mem {p : Snt} : ∀ {st : List Bool} {l : List Snt}, p ∈ kept st l → p ∈ l := by
  intro st l
  induction l generalizing st with
  | nil => cases st <;> simp [kept]
  | cons q l ih =>
    cases st with
    | nil => simp [kept]
    | cons b st =>
      cases b
      · intro h
        exact List.mem_cons_of_mem _ (ih (by simpa [kept] using h))
      · intro h
        have h' : p = q ∨ p ∈ kept st l := by simpa [kept] using h
        rcases h' with rfl | h
        · exact List.mem_cons_self ..
        · exact List.mem_cons_of_mem _ (ih h)
end Go.Proofs.YtbaombnnagidcaaDoor
