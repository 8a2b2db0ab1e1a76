/- Both nets: one contract a method, whatever comes in. -/
import Derived.Test.YtbaombnnagidcaaRefNet
namespace Go.Proofs.Ytbaombnnagidcaa
open Go.RowKit

/-- what a net of at most 64 messages of at most 4096 bytes is -/
def Fits (l : List (List UInt8)) : Prop := l.length ≤ 64 ∧ ∀ x ∈ l, x.length ≤ 4096
def Place (l : List (List UInt8)) (i : Int) : Prop := 0 ≤ i ∧ i < (l.length : Int)
instance (l : List (List UInt8)) (i : Int) : Decidable (Place l i) := by unfold Place; infer_instance
def sendV (l : List (List UInt8)) (b : List UInt8) : Int := if 4096 < b.length then 12 else if 64 ≤ l.length then 4 else 0
def sendL (l : List (List UInt8)) (b : List UInt8) : List (List UInt8) := if 4096 < b.length then l else if 64 ≤ l.length then l else l ++ [b]
def placeV (l : List (List UInt8)) (i : Int) : Int := if Place l i then 0 else 190
def dropL (l : List (List UInt8)) (i : Int) : List (List UInt8) := if Place l i then l.eraseIdx i.toNat else l
def tellB (l : List (List UInt8)) (i : Int) : List UInt8 := if Place l i then l.getD i.toNat [] else []
def twiceV (l : List (List UInt8)) (i : Int) : Int := if Place l i then sendV l (tellB l i) else 190
def twiceL (l : List (List UInt8)) (i : Int) : List (List UInt8) := if Place l i then sendL l (tellB l i) else l

theorem Place.nat {l : List (List UInt8)} {i : Int} (h : Place l i) : ∃ m : Nat, i = m ∧ m < l.length := ⟨i.toNat, by have := h.1; omega, by have := h.1; have := h.2; omega⟩
theorem noPlace {l : List (List UInt8)} {i : Int} (h : ¬ Place l i) : NoPlace l i := by
  unfold Place at h
  unfold NoPlace
  omega
theorem tellB_nat {l : List (List UInt8)} {m : Nat} (hm : m < l.length) : tellB l (m : Int) = l[m] := by
  rw [tellB, if_pos ⟨by omega, by omega⟩]
  simp [List.getD, hm]
theorem Fits.at {l : List (List UInt8)} (h : Fits l) {m : Nat} (hm : m < l.length) : l[m].length ≤ 4096 := h.2 _ (List.getElem_mem hm)
theorem Fits.send {l : List (List UInt8)} (h : Fits l) (b : List UInt8) : Fits (sendL l b) := by
  unfold sendL
  split
  · exact h
  · split
    · exact h
    · refine ⟨by simp; omega, fun x hx => ?_⟩
      rcases List.mem_append.1 hx with hx | hx
      · exact h.2 x hx
      · have : x = b := by simpa using hx
        subst this
        omega
theorem Fits.drop {l : List (List UInt8)} (h : Fits l) (i : Int) : Fits (dropL l i) := by
  unfold dropL
  split
  · exact ⟨Nat.le_trans (List.length_eraseIdx_le _ _) h.1, fun x hx => h.2 x (List.mem_of_mem_eraseIdx hx)⟩
  · exact h
theorem Fits.twice {l : List (List UInt8)} (h : Fits l) (i : Int) : Fits (twiceL l i) := by
  unfold twiceL
  split
  · exact h.send _
  · exact h
theorem Fits.nil : Fits [] := ⟨by simp, fun x hx => by cases hx⟩

theorem Bag.same {t : TypeId} {cells : List Value} {F : Nat → Prop} {w : World} {s : Nat} {l : List (List UInt8)} (h : Bag t cells F w s l) (v : Value) : BagGot t cells F w s v l (.returned v) w :=
  ⟨rfl, F, h, Upd.refl _ _, fun _ hk => .inl hk⟩
theorem Bag.still {t : TypeId} {cells : List Value} {F : Nat → Prop} {w w' : World} {s : Nat} {l : List (List UInt8)} (h : Bag t cells F w s l) (v : Value) (u : Upd Nil w w') : BagGot t cells F w s v l (.returned v) w' :=
  ⟨rfl, F, h.upd u (fun _ _ f => f), u.ofNil, fun _ hk => .inl hk⟩

theorem net_Send_any {F G : Nat → Prop} (w : World) {s : Nat} {l : List (List UInt8)} (h : NetRep F w s l) {a : Option Addr} (c : Nat) {xs : List UInt8} (hr : Row G w a (bvs xs)) :
    Calls Try.prog 13 #[.pointer (some ⟨s, 0, none⟩), .slice a xs.length c] w (NetGot F w s (.int .i64 (sendV l xs)) (sendL l xs)) := by
  unfold sendV sendL
  by_cases h1 : 4096 < xs.length
  · rw [if_pos h1, if_pos h1]
    exact (net_send_long w h a _ c h1).mono fun e w' ⟨he, hw⟩ => by subst he; subst hw; exact h.same _
  · rw [if_neg h1, if_neg h1]
    by_cases h2 : 64 ≤ l.length
    · rw [if_pos h2, if_pos h2]
      exact (net_send_full w h a _ c (by omega) h2).mono fun e w' ⟨he, hw⟩ => by subst he; subst hw; exact h.same _
    · rw [if_neg h2, if_neg h2]
      exact net_send w h c hr (by omega) (by omega)
theorem ref_Send_any {F G : Nat → Prop} (w : World) {s : Nat} {l : List (List UInt8)} (h : RefRep F w s l) {a : Option Addr} (c : Nat) {xs : List UInt8} (hr : Row G w a (bvs xs)) (hA : a = none → c = 0) :
    Calls Try.prog 27 #[.pointer (some ⟨s, 0, none⟩), .slice a xs.length c] w (RefGot F w s (.int .i64 (sendV l xs)) (sendL l xs)) := by
  unfold sendV sendL
  by_cases h1 : 4096 < xs.length
  · rw [if_pos h1, if_pos h1]
    exact (ref_send_long w s a _ c h1).mono fun e w' ⟨he, hw⟩ => by subst he; subst hw; exact h.same _
  · rw [if_neg h1, if_neg h1]
    by_cases h2 : 64 ≤ l.length
    · rw [if_pos h2, if_pos h2]
      exact (ref_send_full w h a _ c (by omega) h2).mono fun e w' ⟨he, hw⟩ => by subst he; subst hw; exact h.same _
    · rw [if_neg h2, if_neg h2]
      exact ref_send w h c hr hA (by omega) (by omega)

theorem net_Drop_any {F : Nat → Prop} (w : World) {s : Nat} {l : List (List UInt8)} (h : NetRep F w s l) (hf : Fits l) (i : Int) :
    Calls Try.prog 17 #[.pointer (some ⟨s, 0, none⟩), .int .i64 i] w (NetGot F w s (.int .i64 (placeV l i)) (dropL l i)) := by
  unfold placeV dropL
  by_cases h1 : Place l i
  · rw [if_pos h1, if_pos h1]
    obtain ⟨m, rfl, hm⟩ := h1.nat
    exact net_Drop_yes w h hm (by have := hf.1; omega)
  · rw [if_neg h1, if_neg h1]
    exact (net_Drop_no w h (noPlace h1)).mono fun e w' ⟨he, hw⟩ => by subst he; subst hw; exact h.same _
theorem ref_Drop_any {F : Nat → Prop} (w : World) {s : Nat} {l : List (List UInt8)} (h : RefRep F w s l) (hf : Fits l) (i : Int) :
    Calls Try.prog 29 #[.pointer (some ⟨s, 0, none⟩), .int .i64 i] w (RefGot F w s (.int .i64 (placeV l i)) (dropL l i)) := by
  unfold placeV dropL
  by_cases h1 : Place l i
  · rw [if_pos h1, if_pos h1]
    obtain ⟨m, rfl, hm⟩ := h1.nat
    exact ref_Drop_yes w h hm (by have := hf.1; omega) (by have := hf.at hm; omega)
  · rw [if_neg h1, if_neg h1]
    exact (ref_Drop_no w h (noPlace h1)).mono fun e w' ⟨he, hw⟩ => by subst he; subst hw; exact h.same _

theorem net_Twice_any {F : Nat → Prop} (w : World) {s : Nat} {l : List (List UInt8)} (h : NetRep F w s l) (hf : Fits l) (i : Int) :
    Calls Try.prog 18 #[.pointer (some ⟨s, 0, none⟩), .int .i64 i] w (NetGot F w s (.int .i64 (twiceV l i)) (twiceL l i)) := by
  unfold twiceV twiceL
  by_cases h1 : Place l i
  · rw [if_pos h1, if_pos h1]
    obtain ⟨m, rfl, hm⟩ := h1.nat
    have hx := hf.at hm
    rw [tellB_nat hm]
    unfold sendV sendL
    have h3 : ¬ 4096 < l[m].length := by omega
    rw [if_neg h3, if_neg h3]
    by_cases h2 : 64 ≤ l.length
    · rw [if_pos h2, if_pos h2]
      exact (net_Twice_full w h hm h2 hx).mono fun e w' ⟨he, hw⟩ => by subst he; exact h.still _ hw
    · rw [if_neg h2, if_neg h2]
      exact net_Twice_yes w h hm (by omega) hx
  · rw [if_neg h1, if_neg h1]
    exact (net_Twice_no w h (noPlace h1)).mono fun e w' ⟨he, hw⟩ => by subst he; subst hw; exact h.same _
theorem ref_Twice_any {F : Nat → Prop} (w : World) {s : Nat} {l : List (List UInt8)} (h : RefRep F w s l) (hf : Fits l) (i : Int) :
    Calls Try.prog 30 #[.pointer (some ⟨s, 0, none⟩), .int .i64 i] w (RefGot F w s (.int .i64 (twiceV l i)) (twiceL l i)) := by
  unfold twiceV twiceL
  by_cases h1 : Place l i
  · rw [if_pos h1, if_pos h1]
    obtain ⟨m, rfl, hm⟩ := h1.nat
    have hx := hf.at hm
    rw [tellB_nat hm]
    unfold sendV sendL
    have h3 : ¬ 4096 < l[m].length := by omega
    rw [if_neg h3, if_neg h3]
    by_cases h2 : 64 ≤ l.length
    · rw [if_pos h2, if_pos h2]
      exact (ref_Twice_full w h hm h2 hx).mono fun e w' ⟨he, hw⟩ => by subst he; exact h.still _ hw
    · rw [if_neg h2, if_neg h2]
      exact ref_Twice_yes w h hm (by omega) hx
  · rw [if_neg h1, if_neg h1]
    exact (ref_Twice_no w h (noPlace h1)).mono fun e w' ⟨he, hw⟩ => by subst he; subst hw; exact h.same _

/-- bytes and an error that are told; the net is as it was -/
def Told (w : World) (xs : List UInt8) (v : Int) (e : Ending) (w' : World) : Prop := ∃ a c, e = .returned (.tuple #[.slice a xs.length c, .int .i64 v]) ∧ Own (Fr w w') w' 5 1 a xs.length c (bvs xs) ∧ Upd Nil w w'
/-- bytes and an error that are delivered -/
def Took (t : TypeId) (cells : List Value) (F : Nat → Prop) (w : World) (s : Nat) (xs : List UInt8) (v : Int) (l' : List (List UInt8)) (e : Ending) (w' : World) : Prop :=
  ∃ a c, e = .returned (.tuple #[.slice a xs.length c, .int .i64 v]) ∧ Own (Fr w w') w' 5 1 a xs.length c (bvs xs) ∧ ∃ F', Bag t cells F' w' s l' ∧ Upd F w w' ∧ ∀ k, F' k → F k ∨ Fr w w' k

theorem net_Look_any {F : Nat → Prop} (w : World) {s : Nat} {l : List (List UInt8)} (h : NetRep F w s l) (hf : Fits l) (i : Int) :
    Calls Try.prog 16 #[.pointer (some ⟨s, 0, none⟩), .int .i64 i] w (Told w (tellB l i) (placeV l i)) := by
  by_cases h1 : Place l i
  · unfold placeV
    rw [if_pos h1]
    obtain ⟨m, rfl, hm⟩ := h1.nat
    rw [tellB_nat hm]
    exact net_Look_yes w h hm (by have := hf.at hm; omega)
  · unfold placeV tellB
    rw [if_neg h1, if_neg h1]
    exact (net_Look_no w h (noPlace h1)).mono fun e w' ⟨he, hw⟩ => by subst he; subst hw; exact ⟨none, 0, rfl, Own.none_ _ _ _ _, Upd.refl _ _⟩
theorem ref_Look_any {F : Nat → Prop} (w : World) {s : Nat} {l : List (List UInt8)} (h : RefRep F w s l) (hf : Fits l) (i : Int) :
    Calls Try.prog 32 #[.pointer (some ⟨s, 0, none⟩), .int .i64 i] w (Told w (tellB l i) (placeV l i)) := by
  by_cases h1 : Place l i
  · unfold placeV
    rw [if_pos h1]
    obtain ⟨m, rfl, hm⟩ := h1.nat
    rw [tellB_nat hm]
    exact ref_Look_yes w h hm (by have := hf.at hm; omega)
  · unfold placeV tellB
    rw [if_neg h1, if_neg h1]
    exact (ref_Look_no w h (noPlace h1)).mono fun e w' ⟨he, hw⟩ => by subst he; subst hw; exact ⟨none, 0, rfl, Own.none_ _ _ _ _, Upd.refl _ _⟩
theorem net_Take_any {F : Nat → Prop} (w : World) {s : Nat} {l : List (List UInt8)} (h : NetRep F w s l) (hf : Fits l) (i : Int) :
    Calls Try.prog 14 #[.pointer (some ⟨s, 0, none⟩), .int .i64 i] w (Took 33 [.bool true] F w s (tellB l i) (placeV l i) (dropL l i)) := by
  by_cases h1 : Place l i
  · unfold placeV dropL
    rw [if_pos h1, if_pos h1]
    obtain ⟨m, rfl, hm⟩ := h1.nat
    rw [tellB_nat hm]
    exact net_Take_yes w h hm (by have := hf.1; omega) (by have := hf.at hm; omega)
  · unfold placeV tellB dropL
    rw [if_neg h1, if_neg h1, if_neg h1]
    exact (net_Take_no w h (noPlace h1)).mono fun e w' ⟨he, hw⟩ => by subst he; subst hw; exact ⟨none, 0, rfl, Own.none_ _ _ _ _, F, h, Upd.refl _ _, fun _ hk => .inl hk⟩
theorem ref_Take_any {F : Nat → Prop} (w : World) {s : Nat} {l : List (List UInt8)} (h : RefRep F w s l) (hf : Fits l) (i : Int) :
    Calls Try.prog 31 #[.pointer (some ⟨s, 0, none⟩), .int .i64 i] w (Took 56 [] F w s (tellB l i) (placeV l i) (dropL l i)) := by
  by_cases h1 : Place l i
  · unfold placeV dropL
    rw [if_pos h1, if_pos h1]
    obtain ⟨m, rfl, hm⟩ := h1.nat
    rw [tellB_nat hm]
    exact ref_Take_yes w h hm (by have := hf.1; omega) (by have := hf.at hm; omega)
  · unfold placeV tellB dropL
    rw [if_neg h1, if_neg h1, if_neg h1]
    exact (ref_Take_no w h (noPlace h1)).mono fun e w' ⟨he, hw⟩ => by subst he; subst hw; exact ⟨none, 0, rfl, Own.none_ _ _ _ _, F, h, Upd.refl _ _, fun _ hk => .inl hk⟩

/-- a new net -/
theorem net_New (w : World) : Calls Try.prog 12 #[] w fun e w' => e = .returned (.pointer (some ⟨w.heap.size, 0, none⟩)) ∧ w' = w.alloc (.cells #[.slice none 0 0, .bool true] 33) := by
  go_enter Try.func12, Try.ntmps12
  go_wp2
  go_ret
  exact ⟨rfl, rfl⟩
theorem Bag.new (t : TypeId) (cells : List Value) (w : World) : Bag t cells (One w.heap.size) (w.alloc (.cells (Value.slice none 0 0 :: cells).toArray t)) w.heap.size [] :=
  ⟨Nil, Nil, none, 0, [], rfl, by simp, fun _ f => f.elim, fun _ f => f.elim, Blk.new w t _, Own.none_ _ _ _ _, trivial⟩
end Go.Proofs.Ytbaombnnagidcaa
