/- The disk: its memory, and the contracts of its methods. -/
import Derived.Test.YtbaombnnagidcaaDoorZL00
import Derived.Test.YtbaombnnagidcaaDoorZL01
import Derived.Test.YtbaombnnagidcaaDoorZL06
import Derived.Test.YtbaombnnagidcaaDoorZL05
import Derived.ArgAppend

namespace Go.Proofs.YtbaombnnagidcaaDoor
open Go.RowKit

theorem infoSent : (Tryd.prog.info? 145).map (fun i => (i.zero, i.size, i.bytes)) = some (some (.agg #[.int .i64 0, .slice none 0 0]), 2, 32) := by kernel_rfl

abbrev Snt := Nat × List UInt8

/-- Cells that hold writes: two each. -/
def Sents (E : Nat → Prop) (w : World) : List Value → List Snt → Prop
  | [], [] => True
  | a :: v :: us, (s, xs) :: l => a = .int .i64 s ∧ Elem E w v xs ∧ Sents E w us l
  | _, _ => False
namespace Sents
variable {E E' G : Nat → Prop} {w w' : World}
theorem length : ∀ {us : List Value} {l : List Snt}, Sents E w us l → us.length = l.length * 2
  | [], [], _ => rfl
  | _ :: _ :: _, _ :: _, h => by have := length h.2.2; simp only [List.length_cons]; omega
  | [_], _ :: _, h => h.elim
  | [_], [], h => h.elim
  | _ :: _ :: _, [], h => h.elim
  | [], _ :: _, h => h.elim
theorem mono (hR : ∀ v x, Elem E w v x → Elem E' w' v x) : ∀ {us : List Value} {l : List Snt}, Sents E w us l → Sents E' w' us l
  | [], [], _ => trivial
  | _ :: _ :: _, (_, _) :: _, h => ⟨h.1, hR _ _ h.2.1, mono hR h.2.2⟩
  | [_], _ :: _, h => h.elim
  | [_], [], h => h.elim
  | _ :: _ :: _, [], h => h.elim
  | [], _ :: _, h => h.elim
theorem upd (u : Upd G w w') (hd : ∀ k, E k → ¬ G k) {us : List Value} {l : List Snt} (h : Sents E w us l) : Sents E w' us l := h.mono (fun _ _ h => h.upd u hd)
theorem snoc {v : Value} {s : Nat} {xs : List UInt8} : ∀ {us : List Value} {l : List Snt}, Sents E w us l → Elem E w v xs → Sents E w (us ++ [.int .i64 s, v]) (l ++ [(s, xs)])
  | [], [], _, k => ⟨rfl, k, trivial⟩
  | _ :: _ :: _, (_, _) :: _, h, k => ⟨h.1, h.2.1, snoc h.2.2 k⟩
  | [_], _ :: _, h, _ => h.elim
  | [_], [], h, _ => h.elim
  | _ :: _ :: _, [], h, _ => h.elim
  | [], _ :: _, h, _ => h.elim
theorem get : ∀ {us : List Value} {l : List Snt}, Sents E w us l → ∀ {i : Nat} (hi : i < l.length), us[i * 2]? = some (.int .i64 (l[i]).1) ∧ ∃ v, us[i * 2 + 1]? = some v ∧ Elem E w v (l[i]).2
  | _ :: v :: _, (_, _) :: _, h, 0, _ => ⟨by simp [h.1], v, rfl, h.2.1⟩
  | _ :: _ :: us, (_, _) :: l, h, i + 1, hi => by
    obtain ⟨h1, v, h2, h3⟩ := get (i := i) h.2.2 (by simpa using hi)
    refine ⟨?_, v, ?_, by simpa using h3⟩
    · rw [show (i + 1) * 2 = i * 2 + 1 + 1 from by omega]; simpa using h1
    · rw [show (i + 1) * 2 + 1 = i * 2 + 1 + 1 + 1 from by omega]; simpa using h2
  | [], [], _, _, hi => by simp at hi
  | [_], _ :: _, h, _, _ => h.elim
  | _ :: _ :: _, [], h, _, _ => h.elim
  | [], _ :: _, h, _, _ => h.elim
theorem oneCell : ∀ {us : List Value} {l : List Snt}, Sents E w us l → ∀ u ∈ us, u.oneCell' = true
  | [], [], _, _, hu => by cases hu
  | _ :: _ :: _, (_, _) :: _, h, u, hu => by
    rcases List.mem_cons.1 hu with rfl | hu
    · rw [h.1]; rfl
    · rcases List.mem_cons.1 hu with rfl | hu
      · exact h.2.1.oneCell
      · exact oneCell h.2.2 u hu
  | [_], _ :: _, h, _, _ => h.elim
  | [_], [], h, _, _ => h.elim
  | _ :: _ :: _, [], h, _, _ => h.elim
  | [], _ :: _, h, _, _ => h.elim
end Sents

/-- the two cells of a row's write, and where they lie -/
theorem sentAt {F E : Nat → Prop} {w : World} {A : Option Addr} {us : List Value} {l : List Snt} {n c : Nat} (h : Own F w 145 2 A n c us) (hs : Sents E w us l) {i : Nat} (hi : i < l.length) :
    ∃ b v, A = some ⟨b, 0, none⟩ ∧ F b ∧ w.cell? ⟨b, i * 2, none⟩ = some (.int .i64 (l[i]).1) ∧ w.cell? ⟨b, i * 2 + 1, none⟩ = some v ∧ Elem E w v (l[i]).2 := by
  obtain ⟨h1, v, h2, h3⟩ := hs.get hi
  have hl := hs.length
  have hn : n ≠ 0 := by
    rintro rfl
    have := h.1
    omega
  obtain ⟨g, rfl, hg⟩ := h.isNone hn
  obtain ⟨b, o, e, _, hc⟩ := h.row (by rintro rfl; simp at h1)
  obtain ⟨rfl, rfl⟩ : g = b ∧ 0 = o := by simpa using e
  exact ⟨g, v, rfl, hg, by simpa using hc _ _ h1, by simpa using hc _ _ h2, h3⟩

/-- At block s lies a disk (of type t: the program's or the document's): the durable sectors B, the pending writes P. All of it in blocks of F. -/
def DRep (t : TypeId) (F : Nat → Prop) (w : World) (s : Nat) (B : List (List UInt8)) (P : List Snt) : Prop :=
  ∃ (R Q E : Nat → Prop) (a : Option Addr) (c : Nat) (vs : List Value) (p : Option Addr) (d : Nat) (us : List Value), F s ∧
    (∀ k, R k → F k ∧ k ≠ s ∧ k < w.heap.size) ∧ (∀ k, Q k → F k ∧ k ≠ s ∧ ¬ R k ∧ k < w.heap.size) ∧ (∀ k, E k → F k ∧ k ≠ s ∧ ¬ R k ∧ ¬ Q k ∧ k < w.heap.size) ∧
    Blk w s t #[.slice a B.length c, .slice p P.length d] ∧ Own R w 22 1 a B.length c vs ∧ Own Q w 145 2 p P.length d us ∧ All2 (Elem E w) vs B ∧ Sents E w us P

theorem DRep.upd {t : TypeId} {F G : Nat → Prop} {w w' : World} {s : Nat} {B : List (List UInt8)} {P : List Snt} (h : DRep t F w s B P) (u : Upd G w w') (hd : ∀ k, F k → ¬ G k) : DRep t F w' s B P := by
  obtain ⟨R, Q, E, a, c, vs, p, d, us, h1, h3, h4, h5, h6, h7, h8, h9, h10⟩ := h
  have hz := u.size
  refine ⟨R, Q, E, a, c, vs, p, d, us, h1, fun k hk => ?_, fun k hk => ?_, fun k hk => ?_, h6.upd u (hd s h1), h7.upd u (fun k hk => hd k (h3 k hk).1), h8.upd u (fun k hk => hd k (h4 k hk).1), h9.mono (fun v x h => h.upd u (fun k hk => hd k (h5 k hk).1)), h10.upd u (fun k hk => hd k (h5 k hk).1)⟩
  · obtain ⟨e1, e2, e3⟩ := h3 k hk
    exact ⟨e1, e2, by omega⟩
  · obtain ⟨e1, e2, e3, e4⟩ := h4 k hk
    exact ⟨e1, e2, e3, by omega⟩
  · obtain ⟨e1, e2, e3, e4, e5⟩ := h5 k hk
    exact ⟨e1, e2, e3, e4, by omega⟩
theorem DRep.mono {t : TypeId} {F F' : Nat → Prop} {w : World} {s : Nat} {B : List (List UInt8)} {P : List Snt} (h : DRep t F w s B P) (hF : ∀ k, F k → F' k) : DRep t F' w s B P := by
  obtain ⟨R, Q, E, a, c, vs, p, d, us, h1, h3, h4, h5, h6⟩ := h
  exact ⟨R, Q, E, a, c, vs, p, d, us, hF _ h1, fun k hk => ⟨hF _ (h3 k hk).1, (h3 k hk).2⟩, fun k hk => ⟨hF _ (h4 k hk).1, (h4 k hk).2⟩, fun k hk => ⟨hF _ (h5 k hk).1, (h5 k hk).2⟩, h6⟩
theorem DRep.inHeap {t : TypeId} {F : Nat → Prop} {w : World} {s : Nat} {B : List (List UInt8)} {P : List Snt} (h : DRep t F w s B P) : DRep t (fun k => F k ∧ k < w.heap.size) w s B P := by
  obtain ⟨R, Q, E, a, c, vs, p, d, us, h1, h3, h4, h5, h6, h7⟩ := h
  refine ⟨R, Q, E, a, c, vs, p, d, us, ⟨h1, h6.lt⟩, fun k hk => ?_, fun k hk => ?_, fun k hk => ?_, h6, h7⟩
  · obtain ⟨e1, e2, e3⟩ := h3 k hk
    exact ⟨⟨e1, e3⟩, e2, e3⟩
  · obtain ⟨e1, e2, e3, e4⟩ := h4 k hk
    exact ⟨⟨e1, e4⟩, e2, e3, e4⟩
  · obtain ⟨e1, e2, e3, e4, e5⟩ := h5 k hk
    exact ⟨⟨e1, e5⟩, e2, e3, e4, e5⟩

def DGot (t : TypeId) (F : Nat → Prop) (w : World) (s : Nat) (v : Value) (B : List (List UInt8)) (P : List Snt) (e : Ending) (w' : World) : Prop :=
  e = .returned v ∧ ∃ F', DRep t F' w' s B P ∧ Upd F w w' ∧ ∀ k, F' k → F k ∨ Fr w w' k

abbrev DiskRep := DRep 76

/-- a disk's sizes -/
structure Fine (B : List (List UInt8)) (P : List Snt) : Prop where
  pos : 1 ≤ B.length
  le : B.length ≤ 4096
  size : ∀ b ∈ B, b.length = 128
  sent : ∀ p ∈ P, p.1 < B.length ∧ p.2.length = 128

/-- What the last store of an append of a fresh write leaves. -/
theorem write_end {t : TypeId} {F R Q E : Nat → Prop} {w w1 w2 : World} {s i : Nat} {B : List (List UInt8)} {P : List Snt} {xs : List UInt8} {a p a1 p2 : Option Addr} {c d c1 d2 : Nat} {vs us : List Value} {o : Obj}
    (hFs : F s) (hR : ∀ k, R k → F k ∧ k ≠ s ∧ k < w.heap.size) (hQ : ∀ k, Q k → F k ∧ k ≠ s ∧ ¬ R k ∧ k < w.heap.size) (hE : ∀ k, E k → F k ∧ k ≠ s ∧ ¬ R k ∧ ¬ Q k ∧ k < w.heap.size)
    (hb : Blk w s t #[.slice a B.length c, .slice p P.length d]) (hr : Own R w 22 1 a B.length c vs) (hall : All2 (Elem E w) vs B) (hsent : Sents E w us P)
    (hown1 : Own (Fr w w1) w1 5 1 a1 xs.length c1 (bvs xs)) (hup1 : Upd Nil w w1)
    (hown2 : Own (fun k => Q k ∨ Fr (w1.alloc o) w2 k) w2 145 2 p2 (P.length + 1) d2 (us ++ [.int .i64 i, .slice a1 xs.length c1])) (hup2 : Upd Q (w1.alloc o) w2) :
    ∃ F', DRep t F' (w2.setCell ⟨s, 1, none⟩ (.slice p2 (P.length + 1) d2)) s B (P ++ [(i, xs)]) ∧ Upd F w (w2.setCell ⟨s, 1, none⟩ (.slice p2 (P.length + 1) d2)) ∧ ∀ k, F' k → F k ∨ Fr w (w2.setCell ⟨s, 1, none⟩ (.slice p2 (P.length + 1) d2)) k := by
  have hs := hb.lt
  have hz1 := hup1.size
  have hz2 := hup2.size
  simp only [World.size_alloc] at hz2
  have hsz : (w2.setCell ⟨s, 1, none⟩ (.slice p2 (P.length + 1) d2)).heap.size = w2.heap.size := by simp
  have hQs : ¬ Q s := fun h => (hQ s h).2.1 rfl
  have b1 : Blk w1 s t _ := hb.upd hup1 (fun f => f)
  have b2 : Blk w2 s t _ := (b1.alloc o).upd hup2 hQs
  have b3 := b2.set 1 (.slice p2 (P.length + 1) d2)
  have one : Upd (One s) w2 (w2.setCell ⟨s, 1, none⟩ (.slice p2 (P.length + 1) d2)) := (Upd.refl (One s) w2).setCell (p := ⟨s, 1, none⟩) (.inl rfl) _
  have elem : ∀ v x, Elem E w v x → Elem (fun k => E k ∨ Fr w w1 k) (w2.setCell ⟨s, 1, none⟩ (.slice p2 (P.length + 1) d2)) v x := fun v x h =>
    ((((h.upd hup1 (fun k _ f => f)).keep ((Upd.refl Nil w1).alloc o)).upd hup2 (fun k he hq => (hE k he).2.2.2.1 hq)).upd one (fun k he e => (hE k he).2.1 e)).mono (fun k h => Or.inl h)
  have hnew : Elem (fun k => E k ∨ Fr w w1 k) (w2.setCell ⟨s, 1, none⟩ (.slice p2 (P.length + 1) d2)) (.slice a1 xs.length c1) xs := by
    refine ((((hown1.elem).keep ((Upd.refl Nil w1).alloc o)).upd hup2 ?_).upd one ?_).mono (fun k h => Or.inr h)
    · rintro k ⟨h1, _⟩ hq
      have := (hQ k hq).2.2.2
      omega
    · rintro k ⟨h1, _⟩ rfl
      omega
  refine ⟨fun k => F k ∨ Fr w w2 k, ⟨R, fun k => Q k ∨ Fr (w1.alloc o) w2 k, fun k => E k ∨ Fr w w1 k, a, c, vs, p2, d2, us ++ [.int .i64 i, .slice a1 xs.length c1], .inl hFs, ?_, ?_, ?_, ?_, ?_, ?_, ?_, ?_⟩, ?_, ?_⟩
  · intro k hk
    obtain ⟨e1, e2, e3⟩ := hR k hk
    exact ⟨.inl e1, e2, by omega⟩
  · rintro k (h | ⟨h1, h2⟩)
    · obtain ⟨e1, e2, e3, e4⟩ := hQ k h
      exact ⟨.inl e1, e2, e3, by omega⟩
    · simp only [World.size_alloc] at h1
      exact ⟨.inr ⟨by omega, h2⟩, by omega, fun r => by have := (hR k r).2.2; omega, by omega⟩
  · rintro k (h | ⟨h1, h2⟩)
    · obtain ⟨e1, e2, e3, e4, e5⟩ := hE k h
      refine ⟨.inl e1, e2, e3, ?_, by omega⟩
      rintro (r | ⟨r, _⟩)
      · exact e4 r
      · simp only [World.size_alloc] at r
        omega
    · refine ⟨.inr ⟨h1, by omega⟩, by omega, fun r => by have := (hR k r).2.2; omega, ?_, by omega⟩
      rintro (r | ⟨r, _⟩)
      · have := (hQ k r).2.2.2
        omega
      · simp only [World.size_alloc] at r
        omega
  · simpa using b3
  · exact (((hr.upd hup1 (fun _ _ f => f)).alloc o).upd hup2 (fun k h q => (hQ k q).2.2.1 h)).upd one (fun k h e => (hR k h).2.1 e)
  · have := hown2.upd one (by
      rintro k (h | ⟨h1, h2⟩) rfl
      · exact hQs h
      · simp only [World.size_alloc] at h1
        omega)
    simpa using this
  · exact hall.mono elem
  · exact (hsent.mono elem).snoc hnew
  · refine (((hup1.ofNil (G := F)).alloc o).trans (hup2.mono (fun k h => (hQ k h).1)) (fun k h _ => h)).setCell (p := ⟨s, 1, none⟩) (.inl hFs) _
  · rintro k (h | ⟨h1, h2⟩)
    · exact .inl h
    · exact .inr ⟨h1, by omega⟩

/-- What a sector that is written leaves. -/
theorem take_end {t : TypeId} {F : Nat → Prop} {w w1 : World} {s i : Nat} {B : List (List UInt8)} {P : List Snt} {xs : List UInt8} {a1 a : Option Addr} {c1 c n : Nat} (h : DRep t F w s B P) (hc : w.cell? ⟨s, 0, none⟩ = some (.slice a n c)) {g : Nat} (ha : a = some ⟨g, 0, none⟩)
    (hown1 : Own (Fr w w1) w1 5 1 a1 xs.length c1 (bvs xs)) (hup1 : Upd Nil w w1) :
    F g ∧ ∃ F', DRep t F' (w1.setCell ⟨g, i, none⟩ (.slice a1 xs.length c1)) s (B.set i xs) P ∧ Upd F w (w1.setCell ⟨g, i, none⟩ (.slice a1 xs.length c1)) ∧ ∀ k, F' k → F k ∨ Fr w (w1.setCell ⟨g, i, none⟩ (.slice a1 xs.length c1)) k := by
  obtain ⟨R, Q, E, a', c', vs, p, d, us, hFs, hR, hQ, hE, hb, hr, hq, hall, hsent⟩ := h
  have hs := hb.lt
  have hcs : w.cell? ⟨s, 0, none⟩ = some (.slice a' B.length c') := hb.cell 0
  rw [hc] at hcs
  injection hcs with hcs
  injection hcs with e1 e2 e3
  subst e1; subst e2; subst e3; subst ha
  have hRg : R g := by
    rcases hr.2 with ⟨h, _⟩ | ⟨g', cur, h1, h2, _⟩
    · cases h
    · obtain rfl : g = g' := by simpa using h1
      exact h2
  have hz1 := hup1.size
  have hsz : (w1.setCell ⟨g, i, none⟩ (.slice a1 xs.length c1)).heap.size = w1.heap.size := by simp
  have one : Upd (One g) w1 (w1.setCell ⟨g, i, none⟩ (.slice a1 xs.length c1)) := (Upd.refl (One g) w1).setCell (p := ⟨g, i, none⟩) (.inl rfl) _
  have elem : ∀ v x, Elem E w v x → Elem (fun k => E k ∨ Fr w w1 k) (w1.setCell ⟨g, i, none⟩ (.slice a1 xs.length c1)) v x := fun v x h =>
    ((h.upd hup1 (fun k _ f => f)).upd one (fun k he e => (hE k he).2.2.1 (e ▸ hRg))).mono (fun k h => Or.inl h)
  have hnew : Elem (fun k => E k ∨ Fr w w1 k) (w1.setCell ⟨g, i, none⟩ (.slice a1 xs.length c1)) (.slice a1 xs.length c1) xs := by
    refine ((hown1.elem).upd one ?_).mono (fun k h => Or.inr h)
    rintro k ⟨h1, _⟩ rfl
    have := (hR _ hRg).2.2
    omega
  refine ⟨(hR _ hRg).1, fun k => F k ∨ Fr w w1 k, ⟨R, Q, fun k => E k ∨ Fr w w1 k, some ⟨g, 0, none⟩, c, vs.set i (.slice a1 xs.length c1), p, d, us, .inl hFs, ?_, ?_, ?_, ?_, ?_, ?_, ?_, ?_⟩, ?_, ?_⟩
  · intro k hk
    obtain ⟨e1, e2, e3⟩ := hR k hk
    exact ⟨.inl e1, e2, by omega⟩
  · intro k hk
    obtain ⟨e1, e2, e3, e4⟩ := hQ k hk
    exact ⟨.inl e1, e2, e3, by omega⟩
  · rintro k (h | ⟨h1, h2⟩)
    · obtain ⟨e1, e2, e3, e4, e5⟩ := hE k h
      exact ⟨.inl e1, e2, e3, e4, by omega⟩
    · exact ⟨.inr ⟨h1, by omega⟩, by omega, fun r => by have := (hR k r).2.2; omega, fun q => by have := (hQ k q).2.2.2; omega, by omega⟩
  · have := (hb.upd hup1 (fun f => f)).upd one (fun e => (hR _ hRg).2.1 e.symm)
    simpa using this
  · have := (hr.upd hup1 (fun _ _ f => f)).stored rfl i (.slice a1 xs.length c1)
    simpa using this
  · exact (hq.upd hup1 (fun _ _ f => f)).upd one (fun k h e => (hQ k h).2.2.1 (e ▸ hRg))
  · exact (hall.mono elem).set i hnew
  · exact hsent.mono elem
  · exact (hup1.ofNil (G := F)).setCell (p := ⟨g, i, none⟩) (.inl (hR _ hRg).1) _
  · rintro k (h | ⟨h1, h2⟩)
    · exact .inl h
    · exact .inr ⟨h1, by omega⟩
end Go.Proofs.YtbaombnnagidcaaDoor

namespace Go.Proofs.YtbaombnnagidcaaDoor
open Go.RowKit

def NoSector (B : List (List UInt8)) (i : Int) : Prop := i < 0 ∨ (B.length : Int) ≤ i

theorem disk_Sectors {F : Nat → Prop} (w : World) {s : Nat} {B : List (List UInt8)} {P : List Snt} (h : DiskRep F w s B P) :
    Calls Tryd.prog 39 #[.pointer (some ⟨s, 0, none⟩)] w fun e w' => e = .returned (.int .i64 B.length) ∧ w = w' := by
  obtain ⟨R, Q, E, a, c, vs, p, d, us, hFs, hR, hQ, hE, hb, hr, hq, hall, hsent⟩ := h
  have hc0 : w.cell? ⟨s, 0, none⟩ = some (.slice a B.length c) := hb.cell 0
  clear hb hr hq hall hsent hR hQ hE
  go_enter Tryd.func39, Tryd.ntmps39
  go_wp2
  go_ret
  exact ⟨rfl, rfl⟩

theorem disk_look_yes {F : Nat → Prop} (w : World) {s : Nat} {B : List (List UInt8)} {P : List Snt} (h : DiskRep F w s B P) {i : Nat} (hi : i < B.length) :
    Calls Tryd.prog 99 #[.pointer (some ⟨s, 0, none⟩), .int .i64 i] w fun e w' => e = .returned (.int .i64 0) ∧ w = w' := by
  have HS := Lib.hid (disk_Sectors w h)
  obtain ⟨R, Q, E, a, c, vs, p, d, us, hFs, hR, hQ, hE, hb, hr, hq, hall, hsent⟩ := h
  have hc0 : w.cell? ⟨s, 0, none⟩ = some (.slice a B.length c) := hb.cell 0
  clear hb hr hq hall hsent hR hQ hE
  have hne : ((B.length : Int) == 0) = false := by rw [beq_eq_false_iff_ne]; omega
  go_enter Tryd.func99, Tryd.ntmps99
  go_wp2_with (go_at_call 39; refine HS.out.mono ?_; rintro e w' ⟨rfl, rfl⟩)
  go_ret
  exact ⟨rfl, rfl⟩

theorem disk_look_no {F : Nat → Prop} (w : World) {s : Nat} {B : List (List UInt8)} {P : List Snt} (h : DiskRep F w s B P) (hB : 1 ≤ B.length) {i : Int} (hi : NoSector B i) :
    Calls Tryd.prog 99 #[.pointer (some ⟨s, 0, none⟩), .int .i64 i] w fun e w' => e = .returned (.int .i64 1) ∧ w = w' := by
  have HS := Lib.hid (disk_Sectors w h)
  obtain ⟨R, Q, E, a, c, vs, p, d, us, hFs, hR, hQ, hE, hb, hr, hq, hall, hsent⟩ := h
  have hc0 : w.cell? ⟨s, 0, none⟩ = some (.slice a B.length c) := hb.cell 0
  clear hb hr hq hall hsent hR hQ hE
  have hne : ((B.length : Int) == 0) = false := by rw [beq_eq_false_iff_ne]; omega
  by_cases h0 : i < 0
  · clear hi
    go_enter Tryd.func99, Tryd.ntmps99
    go_wp2_with (go_at_call 39; refine HS.out.mono ?_; rintro e w' ⟨rfl, rfl⟩)
    go_ret
    exact ⟨rfl, rfl⟩
  · obtain ⟨m, rfl⟩ : ∃ m : Nat, i = m := ⟨i.toNat, by omega⟩
    have hi' : B.length ≤ m := by
      rcases hi with hi | hi <;> omega
    clear hi h0
    go_enter Tryd.func99, Tryd.ntmps99
    go_wp2_with (go_at_call 39; refine HS.out.mono ?_; rintro e w' ⟨rfl, rfl⟩)
    go_ret
    exact ⟨rfl, rfl⟩

theorem disk_Write_no {F : Nat → Prop} (w : World) {s : Nat} {B : List (List UInt8)} {P : List Snt} (h : DiskRep F w s B P) (hB : 1 ≤ B.length) {i : Int} (hi : NoSector B i) (a : Option Addr) (n c : Nat) :
    Calls Tryd.prog 76 #[.pointer (some ⟨s, 0, none⟩), .int .i64 i, .slice a n c] w fun e w' => e = .returned (.int .i64 1) ∧ w = w' := by
  have HL := Lib.hid (disk_look_no w h hB hi)
  clear h hi
  go_enter Tryd.func76, Tryd.ntmps76
  go_wp2_with (go_at_call 99; refine HL.out.mono ?_; rintro e w' ⟨rfl, rfl⟩)
  go_ret
  exact ⟨rfl, rfl⟩

theorem disk_Write_len {F : Nat → Prop} (w : World) {s : Nat} {B : List (List UInt8)} {P : List Snt} (h : DiskRep F w s B P) {i : Nat} (hi : i < B.length) (a : Option Addr) (n c : Nat) (hn : n ≠ 128) :
    Calls Tryd.prog 76 #[.pointer (some ⟨s, 0, none⟩), .int .i64 i, .slice a n c] w fun e w' => e = .returned (.int .i64 1) ∧ w = w' := by
  have HL := Lib.hid (disk_look_yes w h hi)
  clear h hi
  have hne : ((n : Int) != 128) = true := by rw [bne_iff_ne]; omega
  have hne' : ((n : Int) == 128) = false := by rw [beq_eq_false_iff_ne]; omega
  go_enter Tryd.func76, Tryd.ntmps76
  go_wp2_with (go_at_call 99; refine HL.out.mono ?_; rintro e w' ⟨rfl, rfl⟩)
  go_ret
  exact ⟨rfl, rfl⟩

set_option maxHeartbeats 1000000 in
theorem disk_Write_yes {F G : Nat → Prop} (w : World) {s : Nat} {B : List (List UInt8)} {P : List Snt} (h : DiskRep F w s B P) {i : Nat} (hi : i < B.length) (hP : P.length ≤ 4000000000000) {a : Option Addr} (c : Nat) {xs : List UInt8} (hr : Row G w a (bvs xs)) (hx : xs.length = 128) :
    Calls Tryd.prog 76 #[.pointer (some ⟨s, 0, none⟩), .int .i64 i, .slice a xs.length c] w (DGot 76 F w s (.int .i64 0) B (P ++ [(i, xs)])) := by
  have HL := Lib.hid (disk_look_yes w h hi)
  have HD := Lib.hid h
  obtain ⟨R, Q, E, al, cl, vs, p, d, us, hFs, hR, hQ, hE, hb, hrow, hq, hall, hsent⟩ := h
  have hc1 : w.cell? ⟨s, 1, none⟩ = some (.slice p P.length d) := hb.cell 1
  obtain ⟨i0, hi1, hz0, hz1, hz2⟩ := info_parts infoSent
  have hi0 := Lib.hid (And.intro hi1 (And.intro hz0 (And.intro hz1 hz2)))
  clear hi1 hz0 hz1 hz2
  have HC1 := Lib.hid hc1
  have HB := Lib.hid hb
  have HQ := Lib.hid hq
  have HR := Lib.hid hr
  have HRow := Lib.hid hrow
  have HA := Lib.hid hall
  have HSe := Lib.hid hsent
  have HRs := Lib.hid hR
  have HQs := Lib.hid hQ
  have HEs := Lib.hid hE
  have HX := Lib.hid hx
  clear hb hq hr hrow hall hsent hR hQ hE
  rw [hx]
  clear hx
  go_enter Tryd.func76, Tryd.ntmps76
  go_wp2_with (go_at_call 99; refine HL.out.mono ?_; rintro e w' ⟨rfl, rfl⟩)
  go_region_law (first
    | (go_simp; go_at_call 13; rw [← HX.out]; refine (bytesClone _ c HR.out.drew (by rw [HX.out]; decide)).mono ?_; rintro e w1 ⟨a1, c1, rfl, hown1, hup1⟩
       have HO1 := Lib.hid hown1; have HU1 := Lib.hid hup1; clear hown1 hup1
       have hd0 := HU1.out.cell (a := ⟨s, 1, none⟩) HC1.out (fun f => f); have hlt1 : s < w1.heap.size := World.block_lt_of_cell? w1 _ hd0)
    | (refine step_append_Own rfl (.tmp 21) (.tmp 26) 74 rfl Tryd.underlying74 hi0.out.1 hi0.out.2.1 hi0.out.2.2.1 hi0.out.2.2.2 rfl (by decide) rfl ((HQ.out.drew.keep HU1.out).alloc _) rfl (Own.lit (t := 145) (sz := 2) w1 #[.int .i64 i, .slice a1 xs.length c1] 1 (by decide) rfl).row (by simp) (by simp [Value.oneCell']) (by intro h; cases h) (by simp only [maxLen]; omega) (by omega) ?_
       intro a2 c2 w2 hown2 hup2 hne2
       have hb2 := ((HB.out.drew.upd HU1.out (fun f => f)).alloc (.cells #[.int .i64 i, .slice a1 xs.length c1] 145)).upd hup2 (fun f => (HQs.out _ f).2.1 rfl)
       have HO2 := Lib.hid hown2; have HU2 := Lib.hid hup2; clear hown2 hup2 hne2
       have he0 := hb2.cell 1; have hf0 := hb2.frozen 1
       clear hb2))
  all_goals go_wp2
  all_goals go_ret
  all_goals
    obtain ⟨F', hrep, hup, hF⟩ := write_end (t := 76) hFs HRs.out HQs.out HEs.out HB.out HRow.out HA.out HSe.out (show Own (Fr w w1) w1 _ 1 _ _ _ _ from HO1.out) HU1.out.ofDrew HO2.out HU2.out
    exact ⟨rfl, F', hrep, hup, hF⟩

set_option maxHeartbeats 1000000 in
theorem disk_take {F G : Nat → Prop} (w : World) {s : Nat} {B : List (List UInt8)} {P : List Snt} (h : DiskRep F w s B P) {i : Nat} (hi : i < B.length) {v : Value} {xs : List UInt8} (hr : Elem G w v xs) (hx : xs.length = 128) :
    Calls Tryd.prog 103 #[.pointer (some ⟨s, 0, none⟩), .agg #[.int .i64 i, v]] w fun e w' => DGot 76 F w s (.tuple #[]) (B.set i xs) P e w' ∧ w'.cell? ⟨s, 1, none⟩ = w.cell? ⟨s, 1, none⟩ := by
  have HD := Lib.hid h
  obtain ⟨R, Q, E, al, cl, vs, p, d, us, hFs, hR, hQ, hE, hb, hrow, hq, hall, hsent⟩ := h
  have hc0 : w.cell? ⟨s, 0, none⟩ = some (.slice al B.length cl) := hb.cell 0
  obtain ⟨g, rfl, hRg⟩ := hrow.isNone (by omega)
  obtain ⟨a, c, rfl, hra, hac⟩ := hr
  have HB := Lib.hid hb
  have HRow := Lib.hid hrow
  have HR := Lib.hid hra
  have HX := Lib.hid hx
  have hgs : g ≠ s := (hR g hRg).2.1
  have hc1 : w.cell? ⟨s, 1, none⟩ = some (.slice p P.length d) := hb.cell 1
  have hs := hb.lt
  have hgl := (hR g hRg).2.2
  have hil := hi
  clear hb hrow hq hall hsent hR hQ hE hra hac hx
  go_enter Tryd.func103, Tryd.ntmps103
  go_wp2
  have HCA := Lib.hid (((Upd.refl Nil w).alloc (.cells #[.int .i64 i, .slice a xs.length c] 145)).cell hc0 (fun f => f))
  have HBx := Lib.hid (Blk.new w 145 #[.int .i64 i, .slice a xs.length c])
  go_region_law (go_simp; go_at_call 13; refine (bytesClone _ c (HR.out.alloc _).drew (by rw [HX.out]; decide)).mono ?_; rintro e w1 ⟨a1, c1, rfl, hown1, hup1⟩
                 have hup1 := hup1.ofDrew
                 have hown1 : Own (Fr (w.alloc (.cells #[.int .i64 i, .slice a xs.length c] 145)) w1) w1 5 1 a1 xs.length c1 (bvs xs) := hown1
                 have hrow1 := (HRow.out.alloc (.cells #[.int .i64 i, .slice a xs.length c] 145)).upd hup1 (fun _ _ f => f)
                 have hd0 := hup1.cell HCA.out (fun f => f)
                 have hx0 : w1.cell? ⟨w.heap.size, 0, none⟩ = some (.int .i64 i) := (HBx.out.upd hup1 (fun f => f)).cell 0
                 have hx1 : w1.cell? ⟨w.heap.size, 1, none⟩ = some (.slice a xs.length c) := (HBx.out.upd hup1 (fun f => f)).cell 1
                 have hf1 : w1.frozen? ⟨g, i, none⟩ = false := hrow1.frozen rfl i
                 obtain ⟨u, hu⟩ := hrow1.there rfl (j := i) (by have := hrow1.le; omega)
                 have HO1 := Lib.hid hown1; have HU1 := Lib.hid hup1; clear hown1 hup1 hrow1)
  all_goals go_wp2
  all_goals go_end0
  all_goals
    have hup : Upd Nil w w1 := ((Upd.refl Nil w).alloc _).trans HU1.out (fun _ f _ => f)
    have hown : Own (Fr w w1) w1 5 1 a1 xs.length c1 (bvs xs) := HO1.out.mono (fun k hk => ⟨by have := hk.1; simp only [World.size_alloc] at this; omega, hk.2⟩)
    obtain ⟨_, F', hrep, hupF, hF⟩ := take_end (i := i) HD.out hc0 rfl hown hup
    refine ⟨⟨rfl, F', hrep, hupF, hF⟩, ?_⟩
    rw [hc1]
    exact (Upd.refl (One g) w1).setCell (p := ⟨g, i, none⟩) (.inl rfl) _ |>.cell (hup.cell hc1 (fun f => f)) (fun e => hgs e.symm)

set_option maxHeartbeats 1000000 in
theorem platter_image {F : Nat → Prop} (w : World) {s : Nat} {B : List (List UInt8)} {P : List Snt} (h : DiskRep F w s B P) (hl : B.length ≤ 1000000) (hx : ∀ x ∈ B, x.length ≤ 140737488355328) :
    Calls Tryd.prog 106 #[.pointer (some ⟨s, 0, none⟩)] w (GotRows w B) := by
  obtain ⟨R, Q, E, al, cl, vs, p, d, us, hFs, hR, hQ, hE, hb, hown, hq, hall, hsent⟩ := h
  have hc0 : w.cell? ⟨s, 0, none⟩ = some (.slice al B.length cl) := hb.cell 0
  obtain ⟨i0, hi, hz0, hz1, hz2⟩ := info_parts infoBytes
  have hi0 := Lib.hid (And.intro hi (And.intro hz0 (And.intro hz1 hz2)))
  clear hi hz0 hz1 hz2
  have HO := Lib.hid hown
  have HA := Lib.hid hall
  have HX := Lib.hid hx
  clear hb hown hq hall hsent hR hQ hE hx
  go_enter Tryd.func106, Tryd.ntmps106
  go_wp2
  go_loopg [3, 11] B.length (fun k v i wr => ∃ j : Nat, j + k = B.length ∧ i = .int .i64 j ∧ ∃ (R' E' : Nat → Prop) (a : Option Addr) (c : Nat) (us : List Value), v = .slice a j c ∧ Rows R' E' wr a j c us (B.take j) ∧ (∀ q, R' q → Fr w wr q) ∧ (∀ q, E' q → Fr w wr q) ∧ Upd Nil w wr)
  case atStart => exact ⟨0, by omega, rfl, Nil, Nil, none, 0, [], rfl, ⟨Own.none_ _ _ _ _, trivial, rfl, fun _ f => f.elim, fun _ f => f.elim, fun _ f => f.elim⟩, fun _ f => f.elim, fun _ f => f.elim, Upd.refl _ _⟩
  case round =>
    obtain ⟨j, hjk, rfl, R', E', a, c, us, rfl, hrows, hR', hE', hup⟩ := hrel
    have hjn : j ≤ B.length := by omega
    have HJ := Lib.hid hjk
    have HRw := Lib.hid hrows
    have HR' := Lib.hid hR'
    have HE' := Lib.hid hE'
    have HU := Lib.hid hup
    clear hjk hrows hR' hE' hup
    by_cases hlt : j < B.length
    · obtain ⟨v, hv, ax, cx, rfl, rx, _⟩ := HA.out.get hlt
      obtain ⟨b, o, rfl, _, hcell0⟩ := rowAt HO.out.row hv
      have hcell := HU.out.cell hcell0 (fun f => f)
      have HRx := Lib.hid (rx.keep HU.out)
      clear hv hcell0 rx
      go_wp2_with (first
        | (go_at_call 13; refine (bytesClone _ cx HRx.out (HX.out _ (List.getElem_mem hlt))).mono ?_; rintro e w1 ⟨a1, c1, rfl, hown1, hup1⟩; have HO1 := Lib.hid hown1; have HU1 := Lib.hid hup1; clear hown1 hup1)
        | (at_builtin; refine wpList_append_Own rfl _ _ _ rfl Tryd.underlying59 hi0.out.1 hi0.out.2.1 hi0.out.2.2.1 hi0.out.2.2.2 rfl (by decide) rfl ((HRw.out.own.keep HU1.out).alloc _) rfl (one_row w1 _ _) (by simp) (by simp [Value.oneCell']) (by intro h; cases h) (by simp only [maxLen]; omega) (by omega) ?_
           intro a2 c2 w2 hown2 hup2 hne2; have HO2 := Lib.hid hown2; have HU2 := Lib.hid hup2; clear hown2 hup2 hne2))
      go_roundg (gk - 1)
      case measure => have := HJ.out; omega
      case rel =>
        obtain ⟨f0, f1, f2⟩ := fr_grow HU.out HU1.out HU2.out
        have hrows' := HRw.out.snoc HO1.out HU1.out HO2.out HU2.out
        rw [← List.take_succ_eq_append_getElem hlt] at hrows'
        refine ⟨j + 1, by have := HJ.out; omega, by go_num, _, _, a2, c2, _, rfl, hrows', ?_, ?_, ?_⟩
        · rintro q (h | h)
          · exact f0 q (HR'.out q h)
          · exact f2 q h
        · rintro q (h | h)
          · exact f0 q (HE'.out q h)
          · exact f1 q h
        · exact ((HU.out.trans HU1.out (fun _ f _ => f)).alloc _).trans HU2.out (fun k hk hlt => by have := (HR'.out k hk).1; omega)
    · obtain rfl : j = B.length := by omega
      go_wp2
      go_ret
      have hr := HRw.out
      rw [List.take_length] at hr
      exact ⟨R', E', a, c, us, rfl, hr, HR'.out, HE'.out, HU.out⟩

theorem disk_Image {F : Nat → Prop} (w : World) {s : Nat} {B : List (List UInt8)} {P : List Snt} (h : DiskRep F w s B P) (hl : B.length ≤ 1000000) (hx : ∀ x ∈ B, x.length ≤ 140737488355328) :
    Calls Tryd.prog 114 #[.pointer (some ⟨s, 0, none⟩)] w (GotRows w B) := by
  have HI := Lib.hid (platter_image w h hl hx)
  clear h hx
  go_enter Tryd.func114, Tryd.ntmps114
  go_wp2_with (go_at_call 106; refine HI.out.mono ?_; rintro e w1 ⟨R', E', a, c, us, rfl, h1, h2, h3, h4⟩; have H1 := Lib.hid h1; have H4 := Lib.hid h4; clear h1 h4)
  go_ret
  exact ⟨R', E', a, c, us, rfl, H1.out, h2, h3, H4.out⟩

/-! ### a list of writes in a row of one's own -/
structure SRows (R E : Nat → Prop) (w : World) (a : Option Addr) (n c : Nat) (us : List Value) (l : List Snt) : Prop where
  own : Own R w 145 2 a n c us
  all : Sents E w us l
  len : l.length = n
  inR : ∀ k, R k → k < w.heap.size
  inE : ∀ k, E k → k < w.heap.size
  apart : ∀ k, E k → ¬ R k

theorem SRows.none_ (w : World) : SRows Nil Nil w none 0 0 [] [] := ⟨Own.none_ _ _ _ _, trivial, rfl, fun _ f => f.elim, fun _ f => f.elim, fun _ f => f.elim⟩
theorem SRows.keep {R E : Nat → Prop} {w w' : World} {a : Option Addr} {n c : Nat} {us : List Value} {l : List Snt} (h : SRows R E w a n c us l) (u : Upd Nil w w') : SRows R E w' a n c us l :=
  ⟨h.own.keep u, h.all.upd u (fun _ _ f => f), h.len, fun k hk => Nat.lt_of_lt_of_le (h.inR k hk) u.size, fun k hk => Nat.lt_of_lt_of_le (h.inE k hk) u.size, h.apart⟩

theorem SRows.snoc {R E : Nat → Prop} {w w1 w2 : World} {a a1 a2 : Option Addr} {n c c1 c2 i : Nat} {us : List Value} {l : List Snt} {xs : List UInt8} {o : Obj} (h : SRows R E w a n c us l)
    (hown1 : Own (Fr w w1) w1 5 1 a1 xs.length c1 (bvs xs)) (hup1 : Upd Nil w w1)
    (hown2 : Own (fun k => R k ∨ Fr (w1.alloc o) w2 k) w2 145 2 a2 (n + 1) c2 (us ++ [.int .i64 i, .slice a1 xs.length c1])) (hup2 : Upd R (w1.alloc o) w2) :
    SRows (fun k => R k ∨ Fr (w1.alloc o) w2 k) (fun k => E k ∨ Fr w w1 k) w2 a2 (n + 1) c2 (us ++ [.int .i64 i, .slice a1 xs.length c1]) (l ++ [(i, xs)]) := by
  have hz1 := hup1.size
  have hz2 := hup2.size
  simp only [World.size_alloc] at hz2
  refine ⟨hown2, ?_, by simp [h.len], ?_, ?_, ?_⟩
  · have hold : Sents (fun k => E k ∨ Fr w w1 k) w2 us l := h.all.mono (fun v x hh => by
      refine (((hh.upd hup1 (fun k _ f => f)).keep ((Upd.refl Nil w1).alloc o)).upd hup2 ?_).mono (fun k h => Or.inl h)
      exact fun k he hr => h.apart k he hr)
    refine hold.snoc ?_
    refine (((hown1.elem).keep ((Upd.refl Nil w1).alloc o)).upd hup2 ?_).mono (fun k h => Or.inr h)
    rintro k ⟨h1, _⟩ hr
    have := h.inR k hr
    omega
  · rintro k (hk | ⟨_, hk⟩)
    · have := h.inR k hk
      omega
    · exact hk
  · rintro k (hk | ⟨_, hk⟩)
    · have := h.inE k hk
      omega
    · omega
  · rintro k (hk | ⟨h1, h2⟩) (hr | ⟨h3, h4⟩)
    · exact h.apart k hk hr
    · have := h.inE k hk
      simp only [World.size_alloc] at h3
      omega
    · have := h.inR k hr
      omega
    · simp only [World.size_alloc] at h3
      omega

/-- a list of writes that is handed back, all of it new -/
def GotSents (w : World) (l : List Snt) (e : Ending) (w' : World) : Prop :=
  ∃ R E a c us, e = .returned (.slice a l.length c) ∧ SRows R E w' a l.length c us l ∧ (∀ k, R k → Fr w w' k) ∧ (∀ k, E k → Fr w w' k) ∧ Upd Nil w w'

set_option maxHeartbeats 1000000 in
theorem disk_Pending {F : Nat → Prop} (w : World) {s : Nat} {B : List (List UInt8)} {P : List Snt} (h : DiskRep F w s B P) (hl : P.length ≤ 4000000000000) (hx : ∀ x ∈ P, x.2.length ≤ 140737488355328) :
    Calls Tryd.prog 107 #[.pointer (some ⟨s, 0, none⟩)] w (GotSents w P) := by
  obtain ⟨R, Q, E, al, cl, vs, p, d, us, hFs, hR, hQ, hE, hb, hown, hq, hall, hsent⟩ := h
  have hc0 : w.cell? ⟨s, 1, none⟩ = some (.slice p P.length d) := hb.cell 1
  obtain ⟨i0, hi, hz0, hz1, hz2⟩ := info_parts infoSent
  have hi0 := Lib.hid (And.intro hi (And.intro hz0 (And.intro hz1 hz2)))
  clear hi hz0 hz1 hz2
  have HO := Lib.hid hq
  have HA := Lib.hid hsent
  have HX := Lib.hid hx
  clear hb hown hq hall hsent hR hQ hE hx
  go_enter Tryd.func107, Tryd.ntmps107
  go_wp2
  go_loopg [3, 13] P.length (fun k v i wr => ∃ j : Nat, j + k = P.length ∧ i = .int .i64 j ∧ ∃ (R' E' : Nat → Prop) (a : Option Addr) (c : Nat) (us : List Value), v = .slice a j c ∧ SRows R' E' wr a j c us (P.take j) ∧ (∀ q, R' q → Fr w wr q) ∧ (∀ q, E' q → Fr w wr q) ∧ Upd Nil w wr)
  case atStart => exact ⟨0, by omega, rfl, Nil, Nil, none, 0, [], rfl, SRows.none_ _, fun _ f => f.elim, fun _ f => f.elim, Upd.refl _ _⟩
  case round =>
    obtain ⟨j, hjk, rfl, R', E', a, c, us', rfl, hrows, hR', hE', hup⟩ := hrel
    have hjn : j ≤ P.length := by omega
    have HJ := Lib.hid hjk
    have HRw := Lib.hid hrows
    have HR' := Lib.hid hR'
    have HE' := Lib.hid hE'
    have HU := Lib.hid hup
    clear hjk hrows hR' hE' hup
    by_cases hlt : j < P.length
    · obtain ⟨b, v, rfl, _, hcell0, hcell1, ax, cx, rfl, rx, _⟩ := sentAt HO.out HA.out hlt
      have hcellA := HU.out.cell hcell0 (fun f => f)
      have hcellB := HU.out.cell hcell1 (fun f => f)
      have hxj := HX.out _ (List.getElem_mem hlt)
      have htk := List.take_succ_eq_append_getElem hlt
      obtain ⟨⟨i, xs⟩, hij⟩ : ∃ q, P[j] = q := ⟨_, rfl⟩
      rw [hij] at rx hcellA hcellB hxj htk
      have HRx := Lib.hid (rx.keep HU.out)
      have HXj := Lib.hid hxj
      have HTk := Lib.hid htk
      clear hcell0 hcell1 rx hxj htk hij
      go_wp2
      obtain ⟨W1, hW1⟩ : ∃ W1, wr.alloc (.cells #[.int .i64 i, .slice ax xs.length cx] 145) = W1 := ⟨_, rfl⟩
      have hU1 : Upd Nil wr W1 := by rw [← hW1]; exact (Upd.refl Nil wr).alloc _
      have hB1 : Blk W1 wr.heap.size 145 #[.int .i64 i, .slice ax xs.length cx] := by rw [← hW1]; exact Blk.new wr _ _
      have hy0 : W1.cell? ⟨wr.heap.size, 0, none⟩ = some (.int .i64 i) := hB1.cell 0
      have hy1 : W1.cell? ⟨wr.heap.size, 1, none⟩ = some (.slice ax xs.length cx) := hB1.cell 1
      have HUW := Lib.hid hU1
      have HBW := Lib.hid hB1
      rw [hW1]
      clear hU1 hB1 hW1
      go_region_law (first
        | (go_simp; go_at_call 13; refine (bytesClone _ cx (HRx.out.keep HUW.out).drew HXj.out).mono ?_; rintro e w1 ⟨a1, c1, rfl, hown1, hup1⟩
           have hup1 := hup1.ofDrew
           have hown1 : Own (Fr W1 w1) w1 5 1 a1 xs.length c1 (bvs xs) := hown1
           have hx0 : w1.cell? ⟨wr.heap.size, 0, none⟩ = some (.int .i64 i) := (HBW.out.upd hup1 (fun f => f)).cell 0
           have hx1 : w1.cell? ⟨wr.heap.size, 1, none⟩ = some (.slice ax xs.length cx) := (HBW.out.upd hup1 (fun f => f)).cell 1
           have HO1 := Lib.hid hown1; have HU1 := Lib.hid hup1; clear hown1 hup1)
        | (refine step_append_Own rfl (.tmp 17) (.tmp 24) 74 rfl Tryd.underlying74 hi0.out.1 hi0.out.2.1 hi0.out.2.2.1 hi0.out.2.2.2 rfl (by decide) rfl ((((HRw.out.own.keep HUW.out).keep HU1.out)).alloc _) rfl (Own.lit (t := 145) (sz := 2) w1 #[.int .i64 i, .slice a1 xs.length c1] 1 (by decide) rfl).row (by simp) (by simp [Value.oneCell']) (by intro h; cases h) (by simp only [maxLen]; omega) (by omega) ?_
           intro a2 c2 w2 hown2 hup2 hne2; have HO2 := Lib.hid hown2; have HU2 := Lib.hid hup2; clear hown2 hup2 hne2))
      all_goals go_wp2
      all_goals go_roundg (gk - 1)
      all_goals first
        | (have := HJ.out; omega)
        | (obtain ⟨f0, f1, f2⟩ := fr_grow (HU.out.trans HUW.out (fun _ f _ => f)) HU1.out HU2.out
           have hz := HUW.out.size
           have hrows' := (HRw.out.keep HUW.out).snoc HO1.out HU1.out HO2.out HU2.out
           rw [← HTk.out] at hrows'
           refine ⟨j + 1, by have := HJ.out; omega, by go_num, _, _, a2, c2, _, rfl, hrows', ?_, ?_, ?_⟩
           · rintro q (h | h)
             · have := HR'.out q h
               exact f0 q ⟨this.1, by have := this.2; omega⟩
             · exact f2 q h
           · rintro q (h | h)
             · have := HE'.out q h
               exact f0 q ⟨this.1, by have := this.2; omega⟩
             · exact f1 q h
           · exact (((HU.out.trans HUW.out (fun _ f _ => f)).trans HU1.out (fun _ f _ => f)).alloc _).trans HU2.out (fun k hk hlt => by have := (HR'.out k hk).1; omega))
    · obtain rfl : j = P.length := by omega
      go_wp2
      go_ret
      have hr := HRw.out
      rw [List.take_length] at hr
      exact ⟨R', E', a, c, us', rfl, hr, HR'.out, HE'.out, HU.out⟩
end Go.Proofs.YtbaombnnagidcaaDoor

namespace Go.Proofs.YtbaombnnagidcaaDoor
open Go.RowKit

/-! ### what a list of writes makes of the sectors -/
def applyP (B : List (List UInt8)) (l : List Snt) : List (List UInt8) := l.foldl (fun B p => B.set p.1 p.2) B
theorem applyP_snoc (B : List (List UInt8)) (l : List Snt) (p : Snt) : applyP B (l ++ [p]) = (applyP B l).set p.1 p.2 := by simp [applyP]
theorem length_applyP (B : List (List UInt8)) (l : List Snt) : (applyP B l).length = B.length := by
  induction l generalizing B with
  | nil => rfl
  | cons p l ih => rw [show applyP B (p :: l) = applyP (B.set p.1 p.2) l from rfl, ih, List.length_set]

/-- the store 'd.pending = nil' -/
theorem clear_end {t : TypeId} {F : Nat → Prop} {w : World} {s : Nat} {B : List (List UInt8)} {P : List Snt} (h : DRep t F w s B P) : DRep t F (w.setCell ⟨s, 1, none⟩ (.slice none 0 0)) s B [] := by
  obtain ⟨R, Q, E, a, c, vs, p, d, us, hFs, hR, hQ, hE, hb, hr, hq, hall, hsent⟩ := h
  have hsz : (w.setCell ⟨s, 1, none⟩ (.slice none 0 0)).heap.size = w.heap.size := by simp
  have one : Upd (One s) w (w.setCell ⟨s, 1, none⟩ (.slice none 0 0)) := (Upd.refl (One s) w).setCell (p := ⟨s, 1, none⟩) (.inl rfl) _
  refine ⟨R, Q, E, a, c, vs, none, 0, [], hFs, fun k hk => ?_, fun k hk => ?_, fun k hk => ?_, ?_, hr.upd one (fun k hk e => (hR k hk).2.1 e), Own.none_ _ _ _ _, hall.mono (fun v x h => h.upd one (fun k hk e => (hE k hk).2.1 e)), trivial⟩
  · rw [hsz]; exact hR k hk
  · rw [hsz]; exact hQ k hk
  · rw [hsz]; exact hE k hk
  · have := hb.set 1 (.slice none 0 0)
    simpa using this

set_option maxHeartbeats 1000000 in
theorem disk_Flush {F : Nat → Prop} (w : World) {s : Nat} {B : List (List UInt8)} {P : List Snt} (h : DiskRep F w s B P) (hf : Fine B P) (hP : P.length ≤ 4000000000000) :
    Calls Tryd.prog 78 #[.pointer (some ⟨s, 0, none⟩)] w (DGot 76 F w s (.int .i64 0) (applyP B P) []) := by
  have H0 := Lib.hid (disk_Sectors w h)
  have hne : ((B.length : Int) == 0) = false := by rw [beq_eq_false_iff_ne]; have := hf.pos; omega
  have hF0 := Lib.hid hf
  have HRep := Lib.hid h
  obtain ⟨R, Q, E, a, c, vs, p, d, us, hFs, hR, hQ, hE, hb, hr, hq, hall, hsent⟩ := h
  have hc1 : w.cell? ⟨s, 1, none⟩ = some (.slice p P.length d) := hb.cell 1
  have HC1 := Lib.hid hc1
  clear hR hQ hE hb hr hq hall hsent hf
  go_enter Tryd.func78, Tryd.ntmps78
  go_wp2_with (go_at_call 39; refine H0.out.mono ?_; rintro e w' ⟨rfl, rfl⟩)
  go_loopg [13] P.length (fun k i wr => ∃ j : Nat, j + k = P.length ∧ i = .int .i64 j ∧ ∃ F', DiskRep F' wr s (applyP B (P.take j)) P ∧ wr.cell? ⟨s, 1, none⟩ = some (.slice p P.length d) ∧ Upd F w wr ∧ ∀ k, F' k → F k ∨ Fr w wr k)
  case atStart => exact ⟨0, by omega, rfl, F, HRep.out, hc1, Upd.refl _ _, fun _ h => .inl h⟩
  case round =>
    obtain ⟨j, hjk, rfl, F', hrep, hcp, hup, hF'⟩ := hrel
    have hjn : j ≤ P.length := by omega
    have HJ := Lib.hid hjk
    have HR := Lib.hid hrep
    have HCp := Lib.hid hcp
    have HU := Lib.hid hup
    have HF := Lib.hid hF'
    clear hjk hrep hup hF'
    by_cases hlt : j < P.length
    · have hsent := hF0.out.sent _ (List.getElem_mem hlt)
      have htk := List.take_succ_eq_append_getElem hlt
      obtain ⟨R', Q', E', a', c', vs', p', d', us', _, _, _, _, hb', _, hq', _, hs'⟩ := HR.out
      have e1 : wr.cell? ⟨s, 1, none⟩ = some (.slice p' P.length d') := hb'.cell 1
      rw [hcp] at e1
      injection e1 with e1
      injection e1 with e1 _ e3
      subst e1; subst e3
      obtain ⟨b, v, rfl, _, hcA, hcB, hel⟩ := sentAt hq' hs' hlt
      obtain ⟨⟨i, xs⟩, hij⟩ : ∃ q, P[j] = q := ⟨_, rfl⟩
      rw [hij] at hsent htk hcA hel
      have hv1 : ∃ ax cx, v = .slice ax xs.length cx := by obtain ⟨ax, cx, e, _⟩ := hel; exact ⟨ax, cx, e⟩
      obtain ⟨ax, cx, rfl⟩ := hv1
      have HEl := Lib.hid hel
      have HTk := Lib.hid htk
      have HSe := Lib.hid hsent
      clear hb' hq' hs' hel htk hsent hij
      go_wp2
      obtain ⟨W1, hW1⟩ : ∃ W1, wr.alloc (.cells #[.int .i64 i, .slice ax xs.length cx] 145) = W1 := ⟨_, rfl⟩
      have hU1 : Upd Nil wr W1 := by rw [← hW1]; exact (Upd.refl Nil wr).alloc _
      have hB1 : Blk W1 wr.heap.size 145 #[.int .i64 i, .slice ax xs.length cx] := by rw [← hW1]; exact Blk.new wr _ _
      have hy0 : W1.cell? ⟨wr.heap.size, 0, none⟩ = some (.int .i64 i) := hB1.cell 0
      have hy1 : W1.cell? ⟨wr.heap.size, 1, none⟩ = some (.slice ax xs.length cx) := hB1.cell 1
      have HUW := Lib.hid hU1
      rw [hW1]
      clear hU1 hB1 hW1
      go_region_law (go_simp; go_at_call 103; refine (disk_take _ (HR.out.upd HUW.out.drew (fun _ _ f => f)) (i := i) (by rw [length_applyP]; exact HSe.out.1) ((HEl.out.keep HUW.out.drew)) HSe.out.2).mono ?_; rintro e w2 ⟨⟨rfl, F2, hb2, hu2, hF2⟩, hc2⟩
                     have hu2 := hu2.ofDrew
                     have hF2 : ∀ k, F2 k → F' k ∨ Fr W1 w2 k := hF2
                     have HB2 := Lib.hid hb2; have HU2 := Lib.hid hu2; have HF2 := Lib.hid hF2; have HC2 := Lib.hid hc2; clear hb2 hu2 hF2 hc2)
      all_goals go_wp2
      all_goals go_roundg (gk - 1)
      all_goals first
        | (have := HJ.out; omega)
        | (have hz1 := HUW.out.size
           have hz2 := HU2.out.size
           refine ⟨j + 1, by have := HJ.out; omega, by go_num, F2, ?_, ?_, ?_, ?_⟩
           · rw [HTk.out, applyP_snoc]
             exact HB2.out
           · rw [HC2.out]
             exact HUW.out.cell HCp.out (fun f => f)
           · refine (HU.out.trans HUW.out (fun _ f _ => f.elim)).trans HU2.out (fun k hk hlt => ?_)
             rcases HF.out k hk with h | h
             · exact h
             · have := h.1
               omega
           · intro k hk
             rcases HF2.out k hk with h | h
             · rcases HF.out k h with h | h
               · exact .inl h
               · exact .inr ⟨h.1, by have := h.2; omega⟩
             · have hz0 := HU.out.size
               exact .inr ⟨by have := h.1; omega, h.2⟩)
    · obtain rfl : j = P.length := by omega
      have hr := HR.out
      rw [List.take_length] at hr
      have hcs := hcp
      obtain ⟨_, _, _, _, _, _, _, _, _, _, _, _, _, hb', _⟩ := HR.out
      have hf0 := hb'.frozen 1
      clear hb'
      have HR2 := Lib.hid hr
      clear hr
      go_wp2
      go_ret
      exact ⟨rfl, F', clear_end HR2.out, HU.out.setCell (p := ⟨s, 1, none⟩) (.inl hFs) _, fun k hk => by rcases HF.out k hk with h | h; exact .inl h; exact .inr ⟨h.1, by simpa using h.2⟩⟩

/-! ### Crash -/
/-- the places that are kept, marked one by one; none: one is no place, or comes twice -/
def mark : List Bool → List Int → Option (List Bool)
  | st, [] => some st
  | st, k :: ks => if k < 0 ∨ (st.length : Int) ≤ k ∨ st[k.toNat]? = some true then none else mark (st.set k.toNat true) ks
theorem mark_append : ∀ (st : List Bool) (a b : List Int), mark st (a ++ b) = (mark st a).bind (fun s => mark s b)
  | _, [], _ => rfl
  | st, k :: a, b => by
    simp only [List.cons_append, mark]
    split
    · rfl
    · exact mark_append _ a b
theorem mark_length : ∀ {st st' : List Bool} {ks : List Int}, mark st ks = some st' → st'.length = st.length
  | st, st', [], h => by simp only [mark, Option.some.injEq] at h; rw [h]
  | st, st', k :: ks, h => by
    simp only [mark] at h
    split at h
    · cases h
    · rw [mark_length h, List.length_set]
/-- the writes at the marked places -/
def kept : List Bool → List Snt → List Snt
  | b :: st, p :: l => if b then p :: kept st l else kept st l
  | _, _ => []
theorem kept_snoc : ∀ {st : List Bool} {l : List Snt} (j : Nat) (hs : j < st.length) (hl : j < l.length), kept (st.take (j + 1)) (l.take (j + 1)) = kept (st.take j) (l.take j) ++ (if st[j] then [l[j]] else [])
  | b :: st, p :: l, 0, _, _ => by cases b <;> simp [kept]
  | b :: st, p :: l, j + 1, hs, hl => by
    have := kept_snoc (st := st) (l := l) j (by simpa using hs) (by simpa using hl)
    cases b
    · simp only [List.take_succ_cons, kept, Bool.false_eq_true, if_false, List.getElem_cons_succ, this]
    · simp only [List.take_succ_cons, kept, if_true, List.getElem_cons_succ, this, List.cons_append]
  | [], _, _, hs, _ => by simp at hs
  | _ :: _, [], _, _, hl => by simp at hl

def ivs (ks : List Int) : List Value := ks.map (fun k => .int .i64 k)
@[simp] theorem length_ivs (ks : List Int) : (ivs ks).length = ks.length := by simp [ivs]
def bls (st : List Bool) : List Value := st.map .bool
@[simp] theorem length_bls (st : List Bool) : (bls st).length = st.length := by simp [bls]
theorem bls_get {st : List Bool} {i : Nat} (h : i < st.length) : (bls st)[i]? = some (.bool st[i]) := by simp [bls, h]
theorem bls_set (st : List Bool) (i : Nat) (b : Bool) : (bls st).set i (.bool b) = bls (st.set i b) := by simp [bls, List.map_set]
theorem own_falses (w : World) {n : Nat} (hn : n ≤ maxLen) : Own (One w.heap.size) (w.alloc (.cells (Array.replicate n (Value.bool false)) 4)) 4 1 (some ⟨w.heap.size, 0, none⟩) n n (bls (List.replicate n false)) := by
  have := Own.lit (t := 4) (sz := 1) w (Array.replicate n (Value.bool false)) n hn (by simp)
  simpa [bls] using this
/-- a cell of a row of one's own -/
theorem Own.cellAt {F : Nat → Prop} {w : World} {t : TypeId} {g n c : Nat} {cs : List Value} (h : Own F w t 1 (some ⟨g, 0, none⟩) n c cs) {i : Nat} {v : Value} (hv : cs[i]? = some v) : w.cell? ⟨g, i, none⟩ = some v := by
  obtain ⟨b, o, e, _, hc⟩ := h.row (by rintro rfl; simp at hv)
  obtain ⟨rfl, rfl⟩ : g = b ∧ 0 = o := by simpa using e
  simpa using hc i v hv
/-- what Crash answers -/
def CrashGot (t : TypeId) (F : Nat → Prop) (w : World) (s : Nat) (B : List (List UInt8)) (P : List Snt) (ks : List Int) (e : Ending) (w' : World) : Prop :=
  match mark (List.replicate P.length false) ks with
  | none => e = .returned (.int .i64 20) ∧ Upd Nil w w'
  | some st => DGot t F w s (.int .i64 0) (applyP B (kept st P)) [] e w'

theorem copy_end {t : TypeId} {w w1 w2 : World} {R E Q E2 : Nat → Prop} {B : List (List UInt8)} {P : List Snt} {a p : Option Addr} {c d : Nat} {vs us : List Value}
    (h1 : Rows R E w1 a B.length c vs B) (hR : ∀ k, R k → Fr w w1 k) (hE : ∀ k, E k → Fr w w1 k) (hu1 : Upd Nil w w1)
    (h2 : SRows Q E2 w2 p P.length d us P) (hQ : ∀ k, Q k → Fr w1 w2 k) (hE2 : ∀ k, E2 k → Fr w1 w2 k) (hu2 : Upd Nil w1 w2) :
    DRep t (fun k => Fr w (w2.alloc (.cells #[.slice a B.length c, .slice p P.length d] t)) k) (w2.alloc (.cells #[.slice a B.length c, .slice p P.length d] t)) w2.heap.size B P := by
  have hz1 := hu1.size
  have hz2 := hu2.size
  have hsz : (w2.alloc (.cells #[.slice a B.length c, .slice p P.length d] t)).heap.size = w2.heap.size + 1 := by simp
  have al : Upd Nil w2 (w2.alloc (.cells #[.slice a B.length c, .slice p P.length d] t)) := (Upd.refl Nil w2).alloc _
  refine ⟨R, Q, fun k => E k ∨ E2 k, a, c, vs, p, d, us, ⟨by omega, by omega⟩, fun k hk => ?_, fun k hk => ?_, ?_, Blk.new w2 t _, (h1.own.keep hu2).keep al, h2.own.keep al, h1.all.mono (fun v x h => ((h.keep hu2).keep al).mono (fun k h => .inl h)), h2.all.mono (fun v x h => (h.keep al).mono (fun k h => .inr h))⟩
  · have := hR k hk
    exact ⟨⟨this.1, by have := this.2; omega⟩, by have := this.2; omega, by have := this.2; omega⟩
  · have := hQ k hk
    refine ⟨⟨by have := this.1; omega, by have := this.2; omega⟩, by have := this.2; omega, fun r => ?_, by have := this.2; omega⟩
    have := (hR k r).2
    have := (hQ k hk).1
    omega
  · rintro k (hk | hk)
    · have h := hE k hk
      refine ⟨⟨h.1, by have := h.2; omega⟩, by have := h.2; omega, h1.apart k hk, fun q => ?_, by have := h.2; omega⟩
      have := (hQ k q).1
      have := h.2
      omega
    · have h := hE2 k hk
      refine ⟨⟨by have := h.1; omega, by have := h.2; omega⟩, by have := h.2; omega, fun r => ?_, h2.apart k hk, by have := h.2; omega⟩
      have := (hR k r).2
      have := h.1
      omega

/-- another disk, in blocks of its own -/
def GotCopy (t : TypeId) (w : World) (B : List (List UInt8)) (P : List Snt) (e : Ending) (w' : World) : Prop :=
  ∃ s F, e = .returned (.pointer (some ⟨s, 0, none⟩)) ∧ DRep t F w' s B P ∧ (∀ k, F k → Fr w w' k) ∧ Upd Nil w w'

theorem disk_Copy {F : Nat → Prop} (w : World) {s : Nat} {B : List (List UInt8)} {P : List Snt} (h : DiskRep F w s B P) (hf : Fine B P) (hP : P.length ≤ 4000000000000) :
    Calls Tryd.prog 81 #[.pointer (some ⟨s, 0, none⟩)] w (GotCopy 76 w B P) := by
  have H0 := Lib.hid (disk_Sectors w h)
  have hne : ((B.length : Int) == 0) = false := by rw [beq_eq_false_iff_ne]; have := hf.pos; omega
  have HI := Lib.hid (platter_image w h (by have := hf.le; omega) (fun x hx => by rw [hf.size x hx]; decide))
  have HRep := Lib.hid h
  have HF := Lib.hid hf
  clear h hf
  go_enter Tryd.func81, Tryd.ntmps81
  go_wp2_with (first
    | (go_at_call 39; refine H0.out.mono ?_; rintro e w' ⟨rfl, rfl⟩)
    | (go_at_call 106; refine HI.out.mono ?_; rintro e w1 ⟨R, E, a, c, vs, rfl, h1, h2, h3, h4⟩; have H1 := Lib.hid h1; have H2 := Lib.hid h2; have H3 := Lib.hid h3; have H4 := Lib.hid h4; clear h1 h2 h3 h4)
    | (go_at_call 107; refine (disk_Pending _ (HRep.out.upd H4.out (fun _ _ f => f)) hP (fun x hx => by rw [(HF.out.sent x hx).2]; decide)).mono ?_; rintro e w2 ⟨Q, E2, p, d, us, rfl, h1, h2, h3, h4⟩; have H5 := Lib.hid h1; have H6 := Lib.hid h2; have H7 := Lib.hid h3; have H8 := Lib.hid h4; clear h1 h2 h3 h4))
  go_ret
  exact ⟨w2.heap.size, _, rfl, copy_end H1.out H2.out H3.out H4.out H5.out H6.out H7.out H8.out, fun k hk => hk, (H4.out.trans H8.out (fun _ f _ => f)).alloc _⟩
end Go.Proofs.YtbaombnnagidcaaDoor

namespace Go.Proofs.YtbaombnnagidcaaDoor
open Go.RowKit

/-- load number i of a stream -/
def chunkL (s : List UInt8) (i : Nat) : List UInt8 := (s.drop (i * 112)).take 112
theorem length_chunkL (s : List UInt8) (i : Nat) : (chunkL s i).length ≤ 112 := by rw [chunkL, List.length_take]; omega
/-- the number that bytes are, the lowest first -/
def numOf : List UInt8 → Nat
  | [] => 0
  | b :: l => b.toNat + 256 * numOf l
theorem numOf_lt : ∀ (l : List UInt8), numOf l < 256 ^ l.length
  | [] => by simp [numOf]
  | b :: l => by
    have h1 := numOf_lt l
    have h2 := b.toNat_lt
    rw [numOf, List.length_cons, Nat.pow_succ]
    omega
/-- a sector's load and its number; none: it is not right -/
def readSec (b : List UInt8) (place : Nat) : Option (List UInt8 × Nat) :=
  if (b.getD 1 0).toNat ≤ 112 ∧ 1 ≤ numOf ((b.drop 4).take 8) ∧ numOf ((b.drop 4).take 8) ≤ 4611686018427387904 ∧ sectorL place (numOf ((b.drop 4).take 8)) ((b.drop 12).take (b.getD 1 0).toNat) = b
  then some ((b.drop 12).take (b.getD 1 0).toNat, numOf ((b.drop 4).take 8)) else none
theorem readSec_some {b : List UInt8} {place : Nat} {load : List UInt8} {f : Nat} (h : readSec b place = some (load, f)) : load.length ≤ 112 ∧ 1 ≤ f ∧ f ≤ 4611686018427387904 ∧ sectorL place f load = b := by
  unfold readSec at h
  split at h
  · rename_i hc
    injection h with h
    injection h with h1 h2
    subst h1; subst h2
    refine ⟨?_, hc.2.1, hc.2.2.1, hc.2.2.2⟩
    rw [List.length_take]
    omega
  · cases h
/-- the sectors that are used, the number, the stream: from sector j on, at most m of them -/
def openGo (rd : Nat → List UInt8) : Nat → Nat → Nat → List UInt8 → Nat × Nat × List UInt8
  | 0, j, first, s => (j, first, s)
  | m + 1, j, first, s => match readSec (rd j) j with
    | none => (j, first, s)
    | some (load, f) => if 0 < j ∧ f ≠ first then (j, first, s) else if load.length < 112 then (j + 1, f, s ++ load) else openGo rd m (j + 1) f (s ++ load)
theorem openGo_facts (rd : Nat → List UInt8) : ∀ (m j first : Nat) (s : List UInt8), s.length ≤ j * 112 → 1 ≤ first → first ≤ 4611686018427387904 →
    (openGo rd m j first s).2.2.length ≤ (openGo rd m j first s).1 * 112 ∧ (openGo rd m j first s).1 ≤ j + m ∧ 1 ≤ (openGo rd m j first s).2.1 ∧ (openGo rd m j first s).2.1 ≤ 4611686018427387904
  | 0, j, first, s, hs, h1, h2 => ⟨hs, Nat.le_refl _, h1, h2⟩
  | m + 1, j, first, s, hs, h1, h2 => by
    rw [openGo]
    split
    · exact ⟨hs, by omega, h1, h2⟩
    · rename_i load f hr
      obtain ⟨hl, hf1, hf2, _⟩ := readSec_some hr
      have hsl : (s ++ load).length ≤ (j + 1) * 112 := by rw [List.length_append]; omega
      split
      · exact ⟨hs, by omega, h1, h2⟩
      · split
        · exact ⟨hsl, by omega, hf1, hf2⟩
        · have := openGo_facts rd m (j + 1) f (s ++ load) hsl hf1 hf2
          omega

/-- the records of a stream, and how many bytes they have -/
def splitL (l : List UInt8) : List (List UInt8) × Nat :=
  if _h : (textR 2000 l).2.2 = 0 ∧ (textR 2000 l).1 ≠ [] then
    ((textR 2000 l).1 :: (splitL (l.drop (textR 2000 l).2.1)).1, (textR 2000 l).2.1 + (splitL (l.drop (textR 2000 l).2.1)).2)
  else ([], 0)
termination_by l.length
decreasing_by
  all_goals
    have h1 := _h.2
    have h2 : 0 < (textR 2000 l).2.1 ∧ (textR 2000 l).2.1 ≤ l.length := by
      unfold textR at h1 ⊢
      split at h1
      · exact absurd rfl h1
      · split at h1
        · exact absurd rfl h1
        · split at h1
          · exact absurd rfl h1
          · rename_i q1 q2 q3
            rw [if_neg q1, if_neg q2, if_neg q3]
            have hl : 0 < (List.take (scanL l).1 (List.drop (scanL l).2.1 l)).length := List.length_pos_iff.2 h1
            rw [List.length_take, List.length_drop] at hl
            have := scanL_le l
            dsimp only
            omega
    rw [List.length_drop]
    omega

/-- a log -/
structure LogS where
  fr : Nat
  sectors : Nat
  first : Nat
  last : Nat
  forced : Nat
  stream : List UInt8
  durable : Nat

/-- noughts into all sectors from j on that are none, m of them -/
def zerosL (B : List (List UInt8)) (fr : Nat) : Nat → Nat → List Snt
  | _, 0 => []
  | j, m + 1 => (if B.getD (fr + j) [] = noughts128 then [] else [(fr + j, noughts128)]) ++ zerosL B fr (j + 1) m
where noughts128 : List UInt8 := List.replicate 128 0
end Go.Proofs.YtbaombnnagidcaaDoor

namespace Go.Proofs.YtbaombnnagidcaaDoor
open Go.RowKit

/-- a slice of bytes that an append may be laid behind: a row of its own, or one whose capacity is spent -/
def Held (g : Bool) (R : Nat → Prop) (w : World) (a : Option Addr) (c : Nat) (xs : List UInt8) : Prop :=
  Row R w a (bvs xs) ∧ (a = none → c = 0) ∧ xs.length ≤ c ∧ c ≤ maxLen ∧ (g = true → Own R w 5 1 a xs.length c (bvs xs) ∨ c = xs.length)
namespace Held
variable {g : Bool} {R R' G : Nat → Prop} {w w' : World} {a : Option Addr} {c : Nat} {xs : List UInt8}
theorem upd (h : Held g R w a c xs) (u : Upd G w w') (hd : ∀ k, R k → ¬ G k) : Held g R w' a c xs :=
  ⟨h.1.upd u hd, h.2.1, h.2.2.1, h.2.2.2.1, fun e => (h.2.2.2.2 e).elim (fun q => .inl (q.upd u hd)) .inr⟩
theorem mono (h : Held g R w a c xs) (hR : ∀ k, R k → R' k) : Held g R' w a c xs :=
  ⟨h.1.mono hR, h.2.1, h.2.2.1, h.2.2.2.1, fun e => (h.2.2.2.2 e).elim (fun q => .inl (q.mono hR)) .inr⟩
theorem none_ (g : Bool) (w : World) : Held g Nil w none 0 [] := ⟨Row.nil _ _ _, fun _ => rfl, Nat.le_refl _, Nat.zero_le _, fun _ => .inr rfl⟩
theorem own (h : Own R w 5 1 a xs.length c (bvs xs)) : Held g R w a c xs := ⟨h.row, h.noneCap, h.le.1, h.le.2, fun _ => .inl h⟩
/-- s[:n:n] of a row of one's own -/
theorem cut (h : Row R w a (bvs xs)) (hc : xs.length ≤ maxLen) (ha : a = none → xs.length = 0) : Held g R w a xs.length xs := ⟨h, ha, Nat.le_refl _, hc, fun _ => .inr rfl⟩
end Held

section
variable {P : Program}
theorem wpList_append_Held {ops : Array Oper} {rest : List Oper} {o : Oper} {act : Act} {Q : Exit → Act → World → Prop} {R G : Nat → Prop} {w : World} (hgd : o.guard = none) (s x : Operand) (ts : TypeId)
    (ho : o.op = .call { callee := .builtin .append, args := #[s, x], argTypes := #[ts, ts] })
    {i : TypeInfo} {a : Option Addr} {c n m : Nat} {xs ys : List UInt8} (ht : P.underlying ts = some (.slice 5)) (hi : P.info? 5 = some i) (hz : i.zero = some (.int .u8 0)) (hsize : i.size = 1) (hby : i.bytes = 1)
    (hs : act.eval s = .slice a n c) (hn : xs.length = n) (h : Held true R w a c xs)
    {A : Option Addr} {d : Nat} (hx : act.eval x = .slice A m d) (hm : ys.length = m) (hr : Row G w A (bvs ys)) (h0 : ys ≠ []) (hlen : xs.length + ys.length ≤ 140737488355328)
    (K : ∀ a' c' w', Own (fun k => R k ∨ Fr w w' k) w' 5 1 a' (xs ++ ys).length c' (bvs (xs ++ ys)) → Upd R w w' → wpList P ops Q rest (act.put o.dst (.slice a' (xs ++ ys).length c')) w') : wpList P ops Q (o :: rest) act w := by
  subst hn; subst hm
  have hml : xs.length + ys.length ≤ maxLen := by simp only [maxLen]; omega
  obtain ⟨b, q, rfl, _, hcell⟩ := hr (by intro e; exact h0 (by cases ys with | nil => rfl | cons _ _ => simp [bvs] at e))
  have e0 : (xs ++ ys).length = xs.length + ys.length := List.length_append
  rw [e0, bvs_append] at K
  rcases h.2.2.2.2 rfl with ho' | hc
  · refine wpList_append_Own hgd s x ts ho ht hi hz hsize hby rfl (by decide) hs ho' hx (R := G) (fun _ => ⟨b, q, rfl, by assumption, hcell⟩) (by rw [length_bvs, Nat.mul_one]) (bvs_one ys) (fun e => by cases e) hml (by omega) ?_
    intro a' c' w' g1 g2 _
    exact K a' c' w' g1 g2
  · cases a with
    | none =>
      have hx0 : xs = [] := List.eq_nil_of_length_eq_zero (by have := h.2.1 rfl; omega)
      subst hx0
      have hc0 : c = 0 := h.2.1 rfl
      subst hc0
      refine wpList_append_Own hgd s x ts ho ht hi hz hsize hby rfl (by decide) hs (Own.none_ R w 5 1) hx (R := G) (fun _ => ⟨b, q, rfl, by assumption, hcell⟩) (by rw [length_bvs, Nat.mul_one]) (bvs_one ys) (fun e => by cases e) (by simpa using hml) (by simpa using hlen) ?_
      intro a' c' w' g1 g2 _
      exact K a' c' w' (by simpa [bvs] using g1) g2
    | some ad =>
      refine wpList_plain hgd fun K' hK' => ?_
      have holds : ∀ j u, (bvs xs)[j]? = some u → w.cell? (ad.add j) = some u := by
        intro j u hj
        obtain ⟨b', o', e, _, hc'⟩ := h.1 (by rintro e; rw [e] at hj; cases hj)
        injection e with e
        subst e
        rw [Addr.add_lit]
        exact hc' j u hj
      have hpos : 0 < ys.length := List.length_pos_iff.2 h0
      obtain ⟨v', w', hrun, r1, r2⟩ := run_append_arg_grows (P := P) w ts o.type 5 i (.int .u8 0) 1 1 ht hi hz hsize hby rfl (by decide) ad xs.length c (bvs xs) (by rw [length_bvs, Nat.mul_one]) holds ⟨b, q, none⟩ ys.length d (bvs ys) (by rw [length_bvs, Nat.mul_one]) (fun j u hj => by rw [Addr.add_lit]; exact hcell j u hj) (by omega) hml (by omega)
      obtain ⟨a', c', rfl, hown⟩ := Own.ofRow (F := fun k => w.heap.size ≤ k) (by
        have := r1
        rcases this with ⟨q1, q2⟩
        exact ⟨q1, q2.imp id (fun ⟨g, cap, cur, e1, _, e3⟩ => ⟨g, cap, cur, e1, Nat.zero_le _, e3⟩)⟩) (fun k hk => (r1.lt k hk).1)
      have hup : Upd R w w' := Upd.ofGrown r2 (fun k hk => by cases hk)
      unfold Oper.wp execOp
      simp only [ho, resolve, invoke, builtin, Sem.run_bind, Sem.run_pure, Result.andThen_ok, List.map_toArray, List.map_cons, List.map_nil, hs, hx, hrun]
      exact hK' _ _ (K a' c' w' (hown.inHeap.mono (fun k hk => .inr ⟨hk.1, hk.2⟩)) hup)
end

def logCells (d : Nat) (S : LogS) (a : Option Addr) (c : Nat) : Array Value :=
  #[.pointer (some ⟨d, 0, none⟩), .int .i64 (S.fr : Int), .int .i64 (S.sectors : Int), .int .i64 (S.first : Int), .int .i64 (S.last : Int), .int .i64 (S.forced : Int), .slice a S.stream.length c, .int .i64 (S.durable : Int)]
/-- At block s lies a log over the disk at block d: of type t (the program's or the document's). -/
def LRep (t : TypeId) (g : Bool) (F : Nat → Prop) (w : World) (s d : Nat) (S : LogS) : Prop :=
  ∃ (R : Nat → Prop) (a : Option Addr) (c : Nat), F s ∧ (∀ k, R k → F k ∧ k ≠ s ∧ k < w.heap.size) ∧ Blk w s t (logCells d S a c) ∧ Held g R w a c S.stream
theorem LRep.upd {t : TypeId} {g : Bool} {F G : Nat → Prop} {w w' : World} {s d : Nat} {S : LogS} (h : LRep t g F w s d S) (u : Upd G w w') (hd : ∀ k, F k → ¬ G k) : LRep t g F w' s d S := by
  obtain ⟨R, a, c, h1, h2, h3, h4⟩ := h
  exact ⟨R, a, c, h1, fun k hk => ⟨(h2 k hk).1, (h2 k hk).2.1, Nat.lt_of_lt_of_le (h2 k hk).2.2 u.size⟩, h3.upd u (hd _ h1), h4.upd u (fun k hk => hd k (h2 k hk).1)⟩
theorem LRep.keep {t : TypeId} {g : Bool} {F : Nat → Prop} {w w' : World} {s d : Nat} {S : LogS} (h : LRep t g F w s d S) (u : Upd Nil w w') : LRep t g F w' s d S := h.upd u (fun _ _ f => f)
theorem LRep.mono {t : TypeId} {g : Bool} {F F' : Nat → Prop} {w : World} {s d : Nat} {S : LogS} (h : LRep t g F w s d S) (hF : ∀ k, F k → F' k) : LRep t g F' w s d S := by
  obtain ⟨R, a, c, h1, h2, h3⟩ := h
  exact ⟨R, a, c, hF _ h1, fun k hk => ⟨hF _ (h2 k hk).1, (h2 k hk).2⟩, h3⟩
/-- what a call that turns the log alone leaves -/
def LGot (t : TypeId) (g : Bool) (F : Nat → Prop) (w : World) (s d : Nat) (v : Value) (S : LogS) (e : Ending) (w' : World) : Prop :=
  e = .returned v ∧ ∃ F', LRep t g F' w' s d S ∧ Upd F w w' ∧ ∀ k, F' k → F k ∨ Fr w w' k
theorem LGot.same {t : TypeId} {g : Bool} {F : Nat → Prop} {w w' : World} {s d : Nat} {v : Value} {S : LogS} (h : LRep t g F w s d S) (u : Upd Nil w w') : LGot t g F w s d v S (.returned v) w' :=
  ⟨rfl, F, h.keep u, u.ofNil, fun _ hk => .inl hk⟩
end Go.Proofs.YtbaombnnagidcaaDoor

namespace Go.Proofs.YtbaombnnagidcaaDoor
open Go.RowKit

theorem numOf_append : ∀ (l r : List UInt8), numOf (l ++ r) = numOf l + 256 ^ l.length * numOf r
  | [], r => by simp [numOf]
  | b :: l, r => by
    rw [List.cons_append, numOf, numOf, numOf_append l r, List.length_cons, Nat.pow_succ, Nat.mul_add, ← Nat.add_assoc, ← Nat.mul_assoc, Nat.mul_comm 256 (256 ^ l.length)]
theorem numOf_step {xs : List UInt8} {j : Nat} (h : 4 + j < xs.length) : numOf ((xs.drop 4).take (j + 1)) = numOf ((xs.drop 4).take j) + xs[4 + j].toNat * 256 ^ j := by
  have hd : j < (xs.drop 4).length := by rw [List.length_drop]; omega
  rw [List.take_succ_eq_append_getElem hd, numOf_append, List.length_take, Nat.min_eq_left (by omega), List.getElem_drop]
  simp [numOf, Nat.mul_comm]

theorem u64_or (a b : Nat) (ha : a < 18446744073709551616) (hb : b < 18446744073709551616) : bits .or .u64 (a : Int) (b : Int) = ((a ||| b : Nat) : Int) := by
  have hx : a ||| b < 2 ^ 64 := Nat.or_lt_two_pow (by omega) (by omega)
  show IntKind.u64.wrap ((BitVec.ofInt 64 (a : Int) ||| BitVec.ofInt 64 (b : Int)).toNat : Int) = _
  rw [BitVec.toNat_or, BitVec.ofInt_natCast, BitVec.ofInt_natCast, BitVec.toNat_ofNat, BitVec.toNat_ofNat, Nat.mod_eq_of_lt (by omega), Nat.mod_eq_of_lt (by omega)]
  exact IntWalk.u64_in _ (by omega)
theorem pow256 (j : Nat) : (2 : Nat) ^ (8 * j) = 256 ^ j := by rw [Nat.pow_mul]
theorem or_step64 {acc y j : Nat} (hy : y < 256) (hj : j < 8) (ha : acc < 256 ^ j) : bits .or .u64 (acc : Int) (IntKind.u64.wrap ((y : Int) * 2 ^ (8 * j))) = ((acc + y * 256 ^ j : Nat) : Int) := by
  have h1 : (256 : Nat) ^ (j + 1) ≤ 256 ^ 8 := Nat.pow_le_pow_right (by decide) (by omega)
  have h2 : y * 256 ^ j + 256 ^ j ≤ 256 ^ (j + 1) := by
    rw [Nat.pow_succ, Nat.mul_comm (256 ^ j) 256]
    have : (y + 1) * 256 ^ j ≤ 256 * 256 ^ j := Nat.mul_le_mul_right _ (by omega)
    rw [Nat.add_mul] at this
    omega
  have h3 : (256 : Nat) ^ 8 = 18446744073709551616 := by decide
  have h4 : 0 < 256 ^ j := Nat.pos_of_ne_zero (by simp)
  have e : (y : Int) * 2 ^ (8 * j) = ((y * 256 ^ j : Nat) : Int) := by rw [← pow256]; push_cast; rfl
  rw [e, IntWalk.u64_in _ (by omega), u64_or _ _ (by omega) (by omega)]
  congr 1
  rw [← pow256] at ha ⊢
  have := Nat.shiftLeft_add_eq_or_of_lt ha y
  rw [Nat.shiftLeft_eq] at this
  rw [Nat.or_comm, ← this, Nat.add_comm]

/-- what parse answers: of a sector that is right its load, a cut of it -/
def GotSec (F : Nat → Prop) (w : World) : Option (List UInt8 × Nat) → Ending → World → Prop
  | none, e, w' => Upd Nil w w' ∧ ∃ v z, e = .returned (.tuple #[v, z, .bool false])
  | some (load, f), e, w' => Upd Nil w w' ∧ ∃ a c, e = .returned (.tuple #[.slice a load.length c, .int .i64 (f : Int), .bool true]) ∧ Row F w' a (bvs load) ∧ load.length ≤ c ∧ c ≤ maxLen ∧ (a = none → c = 0)

set_option maxRecDepth 100000 in
set_option maxHeartbeats 4000000 in
theorem log_parse {F : Nat → Prop} (w : World) {a : Option Addr} (c : Nat) {xs : List UInt8} (hr : Row F w a (bvs xs)) (hlc : xs.length ≤ c) (hcm : c ≤ maxLen) (hx : xs.length = 128) (place : Nat) (hp : place < 65536) (tab : Tab w) :
    Calls Tryd.prog 72 #[.slice a 128 c, .int .i64 (place : Int)] w (GotSec F w (readSec xs place)) := by
  obtain ⟨b, o, rfl, hFb, hcell⟩ := hr (by intro e; have := congrArg List.length e; rw [length_bvs, List.length_nil] at this; omega)
  have HR := Lib.hid hr
  have HC := Lib.hid hcell
  have HT := Lib.hid tab
  have HX := Lib.hid hx
  have HLC := Lib.hid (And.intro hlc hcm)
  have hcm' := le_max hcm
  have hc128 : 128 ≤ c := by omega
  obtain ⟨r, hrd⟩ : ∃ r, readSec xs place = r := ⟨_, rfl⟩
  have HRd := Lib.hid hrd
  rw [hrd]
  clear hr hcell tab hlc hcm hrd
  go_enter Tryd.func72, Tryd.ntmps72
  go_wp2
  go_loopg [7, 11] 8 (fun q fv iv wr => ∃ j : Nat, j + q = 8 ∧ iv = .int .i64 j ∧ fv = .int .u64 ((numOf ((xs.drop 4).take j) : Nat) : Int) ∧ w = wr)
  case atStart => exact ⟨0, by omega, rfl, by simp [numOf], rfl⟩
  case round =>
    obtain ⟨j, hjk, rfl, rfl, rfl⟩ := hrel
    have hj8 : j ≤ 8 := by omega
    have HJ := Lib.hid hjk
    clear hjk
    have hacc := numOf_lt ((xs.drop 4).take j)
    rw [List.length_take, List.length_drop, Nat.min_eq_left (by omega)] at hacc
    obtain ⟨acc, ha⟩ : ∃ n, numOf ((xs.drop 4).take j) = n := ⟨_, rfl⟩
    rw [ha] at hacc ⊢
    have HA := Lib.hid ha
    have HAc := Lib.hid hacc
    clear ha hacc
    by_cases hlt : j < 8
    · have hc := HC.out (4 + j) _ (bvs_get xs (4 + j) (by omega))
      have hst := numOf_step (xs := xs) (j := j) (by omega)
      rw [HA.out] at hst
      obtain ⟨y, hy⟩ : ∃ y, (xs[4 + j]'(by omega)).toNat = y := ⟨_, rfl⟩
      have hy256 : y < 256 := by rw [← hy]; exact UInt8.toNat_lt _
      rw [hy] at hc hst
      have HSt := Lib.hid hst
      clear hst hy
      have hor := or_step64 hy256 hlt HAc.out
      have HOr := Lib.hid hor
      clear hor
      go_wp2
      go_roundg (gk - 1)
      case measure => have := HJ.out; omega
      case rel => exact ⟨j + 1, by have := HJ.out; omega, by go_num, by rw [HSt.out, ← HOr.out], rfl⟩
    · obtain rfl : j = 8 := by omega
      have hn := HC.out 1 _ (bvs_get xs 1 (by omega))
      have hgd : xs.getD 1 0 = xs[1]'(by omega) := by rw [List.getD_eq_getElem?_getD, List.getElem?_eq_getElem (by omega)]; rfl
      have hsp : readSec xs place = r := HRd.out
      unfold readSec at hsp
      rw [HA.out, hgd] at hsp
      have hn256 : (xs[1]'(by omega)).toNat < 256 := UInt8.toNat_lt _
      obtain ⟨n, hnn⟩ : ∃ n, (xs[1]'(by omega)).toNat = n := ⟨_, rfl⟩
      rw [hnn] at hn hsp hn256
      have hacc : acc < 18446744073709551616 := by have := HAc.out; omega
      clear hnn hgd
      by_cases h1 : n ≤ 112 ∧ 1 ≤ acc ∧ acc ≤ 4611686018427387904
      · obtain ⟨h1a, h1b, h1c⟩ := h1
        obtain ⟨load, hload⟩ : ∃ l, (xs.drop 12).take n = l := ⟨_, rfl⟩
        rw [hload] at hsp
        have hll : load.length = n := by rw [← hload, List.length_take, List.length_drop]; omega
        have hrow : Row F w (some ⟨b, o + 12, none⟩) (bvs load) := by
          have := (HR.out.dropAt 12 c (by rw [length_bvs]; omega) (by rw [length_bvs]; omega)).take n
          rwa [if_neg (by omega), ← bvs_drop, ← bvs_take, hload] at this
        have HRl := Lib.hid hrow
        have HLl := Lib.hid hll
        have i1 : (0 : Int) ≤ 12 + (n : Int) := by omega
        have i2 : (12 : Int) ≤ 12 + (n : Int) := by omega
        have i3 : (12 : Int) + (n : Int) ≤ (c : Int) := by omega
        have i4 : (12 + (n : Int)).toNat = 12 + n := by omega
        have i5 : 12 + n - 12 = n := by omega
        have i6 : ¬ c = 12 := by omega
        have v1 : IntKind.i64.wrap (acc : Int) = (acc : Int) := IntWalk.i64_in _ (by omega)
        have v2 : IntKind.i64.wrap (12 + (n : Int)) = 12 + (n : Int) := IntWalk.i64_in _ (by omega)
        obtain ⟨S, hS⟩ : ∃ S, sectorL place acc load = S := ⟨_, rfl⟩
        rw [hS] at hsp
        have hSl : S.length = 128 := by rw [← hS]; exact length_sectorL (by omega)
        have HS := Lib.hid hS
        have HSl := Lib.hid hSl
        clear hload hll hrow hS hSl
        obtain ⟨B, hB⟩ : ∃ B, decide (S = xs) = B := ⟨_, rfl⟩
        have HB := Lib.hid hB
        have hif : (if n ≤ 112 ∧ 1 ≤ acc ∧ acc ≤ 4611686018427387904 ∧ S = xs then some (load, acc) else none) = if B = true then some (load, acc) else none := by
          rw [← hB]
          by_cases he : S = xs
          · rw [if_pos ⟨h1a, h1b, h1c, he⟩, if_pos (decide_eq_true he)]
          · rw [if_neg (fun h => he h.2.2.2), if_neg (by rw [decide_eq_true_eq]; exact he)]
        rw [hif] at hsp
        have HSp := Lib.hid hsp
        clear hB hif hsp
        go_wp2_with (first
          | (go_at_call 77; refine (log_sector w place acc hp (by omega) (c - 12) HRl.out (fun h => by cases h) (by have := HLl.out; omega) (by have := HLC.out.2; simp only [maxLen] at this ⊢; omega) HLl.out h1a HT.out).mono ?_; rintro e w1 hg; rw [HS.out] at hg; obtain ⟨a1, c1, rfl, g1, g2⟩ := hg; have HO1 := Lib.hid g1; have HU1 := Lib.hid g2; clear g1 g2)
          | (go_at_call 16; have heq := bytesEqual w1 c1 c HO1.out.row (HR.out.keep HU1.out); rw [HSl.out, HX.out, HB.out] at heq; refine heq.mono ?_; clear heq; rintro e w' ⟨rfl, rfl⟩))
        go_ret3
        rw [← HSp.out]
        cases B
        · exact ⟨HU1.out, _, _, rfl⟩
        · refine ⟨HU1.out, some ⟨b, o + 12, none⟩, c - 12, ?_, HRl.out.keep HU1.out, by have := HLl.out; omega, by have := HLC.out.2; simp only [maxLen] at this ⊢; omega, fun h => by cases h⟩
          rw [HLl.out]
          rfl
      · rw [if_neg (fun h => h1 ⟨h.1, h.2.1, h.2.2.1⟩)] at hsp
        have HSp := Lib.hid hsp
        clear hsp
        have h2 : 112 < n ∨ (n ≤ 112 ∧ acc < 1) ∨ (n ≤ 112 ∧ 1 ≤ acc ∧ 4611686018427387904 < acc) := by omega
        clear h1
        rcases h2 with h2 | ⟨h2, h3⟩ | ⟨h2, h3, h4⟩
        all_goals
          go_wp2
          go_ret3
          rw [← HSp.out]
          exact ⟨Upd.refl _ _, _, _, rfl⟩
end Go.Proofs.YtbaombnnagidcaaDoor
