/- Contracts for whatever a call is handed: Write, Read, Crash, of both disks; the two disks side by side. -/
import Derived.Test.YtbaombnnagidcaaDoorRefDisk2
import Derived.Test.YtbaombnnagidcaaDoorSameDisks
namespace Go.Proofs.YtbaombnnagidcaaDoor
open Go.RowKit

/-! ### what the calls answer -/
def isSector (B : List (List UInt8)) (i : Int) : Prop := 0 ≤ i ∧ i < B.length
instance (B : List (List UInt8)) (i : Int) : Decidable (isSector B i) := by unfold isSector; infer_instance
def wCode (B : List (List UInt8)) (i : Int) (n : Nat) : Int := if isSector B i ∧ n = 128 then 0 else 1
def wPend (B : List (List UInt8)) (P : List Snt) (i : Int) (xs : List UInt8) : List Snt := if isSector B i ∧ xs.length = 128 then P ++ [(i.toNat, xs)] else P
def rCode (B : List (List UInt8)) (i : Int) : Int := if isSector B i then 0 else 1
def rBytes (B : List (List UInt8)) (P : List Snt) (i : Int) : List UInt8 := if h : isSector B i then readOf B P i.toNat (by unfold isSector at h; omega) else []
def cCode (P : List Snt) (ks : List Int) : Int := match mark (List.replicate P.length false) ks with | none => 20 | some _ => 0
def cSects (B : List (List UInt8)) (P : List Snt) (ks : List Int) : List (List UInt8) := match mark (List.replicate P.length false) ks with | none => B | some st => applyP B (kept st P)
def cPend (P : List Snt) (ks : List Int) : List Snt := match mark (List.replicate P.length false) ks with | none => P | some _ => []

theorem notSector {B : List (List UInt8)} {i : Int} (h : ¬ isSector B i) : NoSector B i := by
  unfold isSector at h
  unfold NoSector
  omega

theorem Fine.write {B : List (List UInt8)} {P : List Snt} (h : Fine B P) (i : Int) (xs : List UInt8) : Fine B (wPend B P i xs) := by
  unfold wPend
  split
  · rename_i hs
    refine ⟨h.pos, h.le, h.size, fun p hp => ?_⟩
    rcases List.mem_append.1 hp with hp | hp
    · exact h.sent p hp
    · rw [List.mem_singleton.1 hp]
      have := hs.1
      unfold isSector at this
      exact ⟨by show i.toNat < _; omega, hs.2⟩
  · exact h
theorem fine_apply {B : List (List UInt8)} {P : List Snt} (h : Fine B P) {l : List Snt} (hl : ∀ p ∈ l, p ∈ P) : Fine (applyP B l) [] :=
  ⟨by rw [length_applyP]; exact h.pos, by rw [length_applyP]; exact h.le, size_applyP h.size (fun p hp => (h.sent p (hl p hp)).2), fun _ hp => by cases hp⟩
theorem Fine.crash {B : List (List UInt8)} {P : List Snt} (h : Fine B P) (ks : List Int) : Fine (cSects B P ks) (cPend P ks) := by
  unfold cSects cPend
  split
  · exact h
  · exact fine_apply h (fun p hp => kept_mem hp)
theorem Fine.flush {B : List (List UInt8)} {P : List Snt} (h : Fine B P) : Fine (applyP B P) [] := fine_apply h (fun _ hp => hp)
theorem length_wPend (B : List (List UInt8)) (P : List Snt) (i : Int) (xs : List UInt8) : (wPend B P i xs).length ≤ P.length + 1 := by
  unfold wPend
  split <;> simp
theorem length_cPend (P : List Snt) (ks : List Int) : (cPend P ks).length ≤ P.length := by
  unfold cPend
  split <;> simp

/-- bytes and a code that are told -/
def ToldAny (w : World) (xs : List UInt8) (z : Int) (e : Ending) (w' : World) : Prop := ∃ a c, e = .returned (.tuple #[.slice a xs.length c, .int .i64 z]) ∧ Own (Fr w w') w' 5 1 a xs.length c (bvs xs) ∧ Upd Nil w w'

theorem DGot.same {t : TypeId} {F : Nat → Prop} {w : World} {s : Nat} {B : List (List UInt8)} {P : List Snt} {v : Value} (h : DRep t F w s B P) : DGot t F w s v B P (.returned v) w :=
  ⟨rfl, F, h, Upd.refl _ _, fun _ h => .inl h⟩

theorem disk_Write_any {F G : Nat → Prop} (w : World) {s : Nat} {B : List (List UInt8)} {P : List Snt} (h : DiskRep F w s B P) (hf : Fine B P) (hP : P.length ≤ 4000000000000) (i : Int) {a : Option Addr} (c : Nat) {xs : List UInt8} (hr : Row G w a (bvs xs)) :
    Calls Tryd.prog 76 #[.pointer (some ⟨s, 0, none⟩), .int .i64 i, .slice a xs.length c] w (DGot 76 F w s (.int .i64 (wCode B i xs.length)) B (wPend B P i xs)) := by
  unfold wCode wPend
  by_cases hs : isSector B i
  · obtain ⟨m, rfl⟩ : ∃ m : Nat, i = m := ⟨i.toNat, by unfold isSector at hs; omega⟩
    have hm : m < B.length := by unfold isSector at hs; omega
    by_cases hx : xs.length = 128
    · rw [if_pos ⟨hs, hx⟩, if_pos ⟨hs, hx⟩]
      exact disk_Write_yes w h hm hP c hr hx
    · rw [if_neg (fun q => hx q.2), if_neg (fun q => hx q.2)]
      exact (disk_Write_len w h hm a xs.length c hx).mono fun e w' ⟨he, hw⟩ => by subst he; subst hw; exact DGot.same h
  · rw [if_neg (fun q => hs q.1), if_neg (fun q => hs q.1)]
    exact (disk_Write_no w h hf.pos (notSector hs) a xs.length c).mono fun e w' ⟨he, hw⟩ => by subst he; subst hw; exact DGot.same h
theorem x_Write_any {F G : Nat → Prop} (w : World) {s : Nat} {B : List (List UInt8)} {P : List Snt} (h : XRep F w s B P) (hP : P.length ≤ 4000000000000) (i : Int) {a : Option Addr} (c : Nat) {xs : List UInt8} (hr : Row G w a (bvs xs)) (hA : a = none → c = 0) :
    Calls Tryd.prog 117 #[.pointer (some ⟨s, 0, none⟩), .int .i64 i, .slice a xs.length c] w (DGot 155 F w s (.int .i64 (wCode B i xs.length)) B (wPend B P i xs)) := by
  unfold wCode wPend
  by_cases hs : isSector B i
  · obtain ⟨m, rfl⟩ : ∃ m : Nat, i = m := ⟨i.toNat, by unfold isSector at hs; omega⟩
    have hm : m < B.length := by unfold isSector at hs; omega
    by_cases hx : xs.length = 128
    · rw [if_pos ⟨hs, hx⟩, if_pos ⟨hs, hx⟩]
      exact x_Write_yes w h hm hP c hr hA hx
    · rw [if_neg (fun q => hx q.2), if_neg (fun q => hx q.2)]
      exact (x_Write_len w h hm a xs.length c hx).mono fun e w' ⟨he, hw⟩ => by subst he; subst hw; exact DGot.same h
  · rw [if_neg (fun q => hs q.1), if_neg (fun q => hs q.1)]
    exact (x_Write_no w h (notSector hs) a xs.length c).mono fun e w' ⟨he, hw⟩ => by subst he; subst hw; exact DGot.same h

theorem disk_Read_any {F : Nat → Prop} (w : World) {s : Nat} {B : List (List UInt8)} {P : List Snt} (h : DiskRep F w s B P) (hf : Fine B P) (hP : P.length ≤ 4000000000000) (i : Int) :
    Calls Tryd.prog 71 #[.pointer (some ⟨s, 0, none⟩), .int .i64 i] w (ToldAny w (rBytes B P i) (rCode B i)) := by
  unfold rBytes rCode
  by_cases hs : isSector B i
  · obtain ⟨m, rfl⟩ : ∃ m : Nat, i = m := ⟨i.toNat, by unfold isSector at hs; omega⟩
    rw [if_pos hs, dif_pos hs]
    exact (disk_Read_yes w h hf hP (by unfold isSector at hs; omega))
  · rw [if_neg hs, dif_neg hs]
    exact (disk_Read_no w h hf.pos (notSector hs)).mono fun e w' ⟨he, hw⟩ => ⟨none, 0, he, Own.none_ _ _ _ _, hw⟩
theorem x_Read_any {F : Nat → Prop} (w : World) {s : Nat} {B : List (List UInt8)} {P : List Snt} (h : XRep F w s B P) (hf : Fine B P) (hP : P.length ≤ 4000000000000) (i : Int) :
    Calls Tryd.prog 109 #[.pointer (some ⟨s, 0, none⟩), .int .i64 i] w (ToldAny w (rBytes B P i) (rCode B i)) := by
  unfold rBytes rCode
  by_cases hs : isSector B i
  · obtain ⟨m, rfl⟩ : ∃ m : Nat, i = m := ⟨i.toNat, by unfold isSector at hs; omega⟩
    rw [if_pos hs, dif_pos hs]
    exact (x_Read_yes w h hf hP (by unfold isSector at hs; omega))
  · rw [if_neg hs, dif_neg hs]
    exact (x_Read_no w h (notSector hs)).mono fun e w' ⟨he, hw⟩ => by subst hw; exact ⟨none, 0, he, Own.none_ _ _ _ _, Upd.refl _ _⟩


/-! ### both disks side by side -/
structure Pair (w : World) (s1 s2 : Nat) (F1 F2 : Nat → Prop) (B1 : List (List UInt8)) (P1 : List Snt) (B2 : List (List UInt8)) (P2 : List Snt) : Prop where
  prog : DiskRep F1 w s1 B1 P1
  ref : XRep F2 w s2 B2 P2
  in1 : ∀ k, F1 k → k < w.heap.size
  in2 : ∀ k, F2 k → k < w.heap.size
  apart : ∀ k, F1 k → ¬ F2 k
namespace Pair
variable {w w' : World} {s1 s2 : Nat} {F1 F2 : Nat → Prop} {B1 B2 : List (List UInt8)} {P1 P2 : List Snt}
theorem far {G : Nat → Prop} (h : Pair w s1 s2 F1 F2 B1 P1 B2 P2) (u : Upd G w w') (h1 : ∀ k, F1 k → ¬ G k) (h2 : ∀ k, F2 k → ¬ G k) : Pair w' s1 s2 F1 F2 B1 P1 B2 P2 :=
  ⟨h.prog.upd u h1, h.ref.upd u h2, fun k hk => Nat.lt_of_lt_of_le (h.in1 k hk) u.size, fun k hk => Nat.lt_of_lt_of_le (h.in2 k hk) u.size, h.apart⟩
theorem keep (h : Pair w s1 s2 F1 F2 B1 P1 B2 P2) (u : Upd Nil w w') : Pair w' s1 s2 F1 F2 B1 P1 B2 P2 := h.far u (fun _ _ f => f) (fun _ _ f => f)
theorem drew (h : Pair w s1 s2 F1 F2 B1 P1 B2 P2) : Pair w.drew s1 s2 F1 F2 B1 P1 B2 P2 := h.keep (Upd.refl Nil w).drew
theorem alloc (h : Pair w s1 s2 F1 F2 B1 P1 B2 P2) (o : Obj) : Pair (w.alloc o) s1 s2 F1 F2 B1 P1 B2 P2 := h.keep ((Upd.refl Nil w).alloc o)
theorem stepProg {F1' : Nat → Prop} {B' : List (List UInt8)} {P' : List Snt} (h : Pair w s1 s2 F1 F2 B1 P1 B2 P2) (hb : DiskRep F1' w' s1 B' P') (u : Upd F1 w w') (hF : ∀ k, F1' k → F1 k ∨ Fr w w' k) : Pair w' s1 s2 F1' F2 B' P' B2 P2 := by
  have hz := u.size
  refine ⟨hb, h.ref.upd u (fun k h2 h1 => h.apart k h1 h2), fun k hk => ?_, fun k hk => Nat.lt_of_lt_of_le (h.in2 k hk) hz, fun k hk h2 => ?_⟩
  · rcases hF k hk with h1 | h1
    · exact Nat.lt_of_lt_of_le (h.in1 k h1) hz
    · exact h1.2
  · rcases hF k hk with h1 | h1
    · exact h.apart k h1 h2
    · have := h.in2 k h2
      have := h1.1
      omega
theorem stepRef {F2' : Nat → Prop} {B' : List (List UInt8)} {P' : List Snt} (h : Pair w s1 s2 F1 F2 B1 P1 B2 P2) (hb : XRep F2' w' s2 B' P') (u : Upd F2 w w') (hF : ∀ k, F2' k → F2 k ∨ Fr w w' k) : Pair w' s1 s2 F1 F2' B1 P1 B' P' := by
  have hz := u.size
  refine ⟨h.prog.upd u h.apart, hb, fun k hk => Nat.lt_of_lt_of_le (h.in1 k hk) hz, fun k hk => ?_, fun k h1 hk => ?_⟩
  · rcases hF k hk with h2 | h2
    · exact Nat.lt_of_lt_of_le (h.in2 k h2) hz
    · exact h2.2
  · rcases hF k hk with h2 | h2
    · exact h.apart k h1 h2
    · have := h.in1 k h1
      have := h2.1
      omega
end Pair
end Go.Proofs.YtbaombnnagidcaaDoor
