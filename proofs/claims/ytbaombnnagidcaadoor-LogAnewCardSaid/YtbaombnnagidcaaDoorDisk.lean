/- The disk: its memory, and the contracts of its methods. -/
import Derived.Test.YtbaombnnagidcaaDoorGrow
namespace Go.Proofs.YtbaombnnagidcaaDoor
open Go.RowKit

theorem infoSent : (Tryd.prog.info? 145).map (fun i => (i.zero, i.size, i.bytes)) = some (some (.agg #[.int .i64 0, .slice none 0 0]), 2, 32) := by kernel_rfl

abbrev Snt := Nat × List UInt8

/-- Cells that hold writes: two each. -/
def Sents (E : Nat → Prop) (w : World) : List Value → List Snt → Prop
  | [], [] => True
  | a :: v :: us, (s, xs) :: l => a = .int .i64 s ∧ Elem E w v xs ∧ Sents E w us l
  | _, _ => False
namespace Sents
variable {E E' G : Nat → Prop} {w w' : World}
theorem length : ∀ {us : List Value} {l : List Snt}, Sents E w us l → us.length = l.length * 2
  | [], [], _ => rfl
  | _ :: _ :: _, _ :: _, h => by have := length h.2.2; simp only [List.length_cons]; omega
  | [_], _ :: _, h => h.elim
  | [_], [], h => h.elim
  | _ :: _ :: _, [], h => h.elim
  | [], _ :: _, h => h.elim
theorem mono (hR : ∀ v x, Elem E w v x → Elem E' w' v x) : ∀ {us : List Value} {l : List Snt}, Sents E w us l → Sents E' w' us l
  | [], [], _ => trivial
  | _ :: _ :: _, (_, _) :: _, h => ⟨h.1, hR _ _ h.2.1, mono hR h.2.2⟩
  | [_], _ :: _, h => h.elim
  | [_], [], h => h.elim
  | _ :: _ :: _, [], h => h.elim
  | [], _ :: _, h => h.elim
theorem upd (u : Upd G w w') (hd : ∀ k, E k → ¬ G k) {us : List Value} {l : List Snt} (h : Sents E w us l) : Sents E w' us l := h.mono (fun _ _ h => h.upd u hd)
theorem snoc {v : Value} {s : Nat} {xs : List UInt8} : ∀ {us : List Value} {l : List Snt}, Sents E w us l → Elem E w v xs → Sents E w (us ++ [.int .i64 s, v]) (l ++ [(s, xs)])
  | [], [], _, k => ⟨rfl, k, trivial⟩
  | _ :: _ :: _, (_, _) :: _, h, k => ⟨h.1, h.2.1, snoc h.2.2 k⟩
  | [_], _ :: _, h, _ => h.elim
  | [_], [], h, _ => h.elim
  | _ :: _ :: _, [], h, _ => h.elim
  | [], _ :: _, h, _ => h.elim
theorem get : ∀ {us : List Value} {l : List Snt}, Sents E w us l → ∀ {i : Nat} (hi : i < l.length), us[i * 2]? = some (.int .i64 (l[i]).1) ∧ ∃ v, us[i * 2 + 1]? = some v ∧ Elem E w v (l[i]).2
  | _ :: v :: _, (_, _) :: _, h, 0, _ => ⟨by simp [h.1], v, rfl, h.2.1⟩
  | _ :: _ :: us, (_, _) :: l, h, i + 1, hi => by
    obtain ⟨h1, v, h2, h3⟩ := get (i := i) h.2.2 (by simpa using hi)
    refine ⟨?_, v, ?_, by simpa using h3⟩
    · rw [show (i + 1) * 2 = i * 2 + 1 + 1 from by omega]; simpa using h1
    · rw [show (i + 1) * 2 + 1 = i * 2 + 1 + 1 + 1 from by omega]; simpa using h2
  | [], [], _, _, hi => by simp at hi
  | [_], _ :: _, h, _, _ => h.elim
  | _ :: _ :: _, [], h, _, _ => h.elim
  | [], _ :: _, h, _, _ => h.elim
theorem oneCell : ∀ {us : List Value} {l : List Snt}, Sents E w us l → ∀ u ∈ us, u.oneCell' = true
  | [], [], _, _, hu => by cases hu
  | _ :: _ :: _, (_, _) :: _, h, u, hu => by
    rcases List.mem_cons.1 hu with rfl | hu
    · rw [h.1]; rfl
    · rcases List.mem_cons.1 hu with rfl | hu
      · exact h.2.1.oneCell
      · exact oneCell h.2.2 u hu
  | [_], _ :: _, h, _, _ => h.elim
  | [_], [], h, _, _ => h.elim
  | _ :: _ :: _, [], h, _, _ => h.elim
  | [], _ :: _, h, _, _ => h.elim
end Sents

/-- the two cells of a row's write, and where they lie -/
theorem sentAt {F E : Nat → Prop} {w : World} {A : Option Addr} {us : List Value} {l : List Snt} {n c : Nat} (h : Own F w 145 2 A n c us) (hs : Sents E w us l) {i : Nat} (hi : i < l.length) :
    ∃ b v, A = some ⟨b, 0, none⟩ ∧ F b ∧ w.cell? ⟨b, i * 2, none⟩ = some (.int .i64 (l[i]).1) ∧ w.cell? ⟨b, i * 2 + 1, none⟩ = some v ∧ Elem E w v (l[i]).2 := by
  obtain ⟨h1, v, h2, h3⟩ := hs.get hi
  have hl := hs.length
  have hn : n ≠ 0 := by
    rintro rfl
    have := h.1
    omega
  obtain ⟨g, rfl, hg⟩ := h.isNone hn
  obtain ⟨b, o, e, _, hc⟩ := h.row (by rintro rfl; simp at h1)
  obtain ⟨rfl, rfl⟩ : g = b ∧ 0 = o := by simpa using e
  exact ⟨g, v, rfl, hg, by simpa using hc _ _ h1, by simpa using hc _ _ h2, h3⟩

/-- At block s lies a disk (of type t: the program's or the document's): the durable sectors B, the pending writes P. All of it in blocks of F. -/
def DRep (t : TypeId) (F : Nat → Prop) (w : World) (s : Nat) (B : List (List UInt8)) (P : List Snt) : Prop :=
  ∃ (R Q E : Nat → Prop) (a : Option Addr) (c : Nat) (vs : List Value) (p : Option Addr) (d : Nat) (us : List Value), F s ∧
    (∀ k, R k → F k ∧ k ≠ s ∧ k < w.heap.size) ∧ (∀ k, Q k → F k ∧ k ≠ s ∧ ¬ R k ∧ k < w.heap.size) ∧ (∀ k, E k → F k ∧ k ≠ s ∧ ¬ R k ∧ ¬ Q k ∧ k < w.heap.size) ∧
    Blk w s t #[.slice a B.length c, .slice p P.length d] ∧ Own R w 22 1 a B.length c vs ∧ Own Q w 145 2 p P.length d us ∧ All2 (Elem E w) vs B ∧ Sents E w us P

theorem DRep.upd {t : TypeId} {F G : Nat → Prop} {w w' : World} {s : Nat} {B : List (List UInt8)} {P : List Snt} (h : DRep t F w s B P) (u : Upd G w w') (hd : ∀ k, F k → ¬ G k) : DRep t F w' s B P := by
  obtain ⟨R, Q, E, a, c, vs, p, d, us, h1, h3, h4, h5, h6, h7, h8, h9, h10⟩ := h
  have hz := u.size
  refine ⟨R, Q, E, a, c, vs, p, d, us, h1, fun k hk => ?_, fun k hk => ?_, fun k hk => ?_, h6.upd u (hd s h1), h7.upd u (fun k hk => hd k (h3 k hk).1), h8.upd u (fun k hk => hd k (h4 k hk).1), h9.mono (fun v x h => h.upd u (fun k hk => hd k (h5 k hk).1)), h10.upd u (fun k hk => hd k (h5 k hk).1)⟩
  · obtain ⟨e1, e2, e3⟩ := h3 k hk
    exact ⟨e1, e2, by omega⟩
  · obtain ⟨e1, e2, e3, e4⟩ := h4 k hk
    exact ⟨e1, e2, e3, by omega⟩
  · obtain ⟨e1, e2, e3, e4, e5⟩ := h5 k hk
    exact ⟨e1, e2, e3, e4, by omega⟩
theorem DRep.mono {t : TypeId} {F F' : Nat → Prop} {w : World} {s : Nat} {B : List (List UInt8)} {P : List Snt} (h : DRep t F w s B P) (hF : ∀ k, F k → F' k) : DRep t F' w s B P := by
  obtain ⟨R, Q, E, a, c, vs, p, d, us, h1, h3, h4, h5, h6⟩ := h
  exact ⟨R, Q, E, a, c, vs, p, d, us, hF _ h1, fun k hk => ⟨hF _ (h3 k hk).1, (h3 k hk).2⟩, fun k hk => ⟨hF _ (h4 k hk).1, (h4 k hk).2⟩, fun k hk => ⟨hF _ (h5 k hk).1, (h5 k hk).2⟩, h6⟩
theorem DRep.inHeap {t : TypeId} {F : Nat → Prop} {w : World} {s : Nat} {B : List (List UInt8)} {P : List Snt} (h : DRep t F w s B P) : DRep t (fun k => F k ∧ k < w.heap.size) w s B P := by
  obtain ⟨R, Q, E, a, c, vs, p, d, us, h1, h3, h4, h5, h6, h7⟩ := h
  refine ⟨R, Q, E, a, c, vs, p, d, us, ⟨h1, h6.lt⟩, fun k hk => ?_, fun k hk => ?_, fun k hk => ?_, h6, h7⟩
  · obtain ⟨e1, e2, e3⟩ := h3 k hk
    exact ⟨⟨e1, e3⟩, e2, e3⟩
  · obtain ⟨e1, e2, e3, e4⟩ := h4 k hk
    exact ⟨⟨e1, e4⟩, e2, e3, e4⟩
  · obtain ⟨e1, e2, e3, e4, e5⟩ := h5 k hk
    exact ⟨⟨e1, e5⟩, e2, e3, e4, e5⟩

def DGot (t : TypeId) (F : Nat → Prop) (w : World) (s : Nat) (v : Value) (B : List (List UInt8)) (P : List Snt) (e : Ending) (w' : World) : Prop :=
  e = .returned v ∧ ∃ F', DRep t F' w' s B P ∧ Upd F w w' ∧ ∀ k, F' k → F k ∨ Fr w w' k

abbrev DiskRep := DRep 76

/-- a disk's sizes -/
structure Fine (B : List (List UInt8)) (P : List Snt) : Prop where
  pos : 1 ≤ B.length
  le : B.length ≤ 4096
  size : ∀ b ∈ B, b.length = 128
  sent : ∀ p ∈ P, p.1 < B.length ∧ p.2.length = 128

/-- What the last store of an append of a fresh write leaves. -/
theorem write_end {t : TypeId} {F R Q E : Nat → Prop} {w w1 w2 : World} {s i : Nat} {B : List (List UInt8)} {P : List Snt} {xs : List UInt8} {a p a1 p2 : Option Addr} {c d c1 d2 : Nat} {vs us : List Value} {o : Obj}
    (hFs : F s) (hR : ∀ k, R k → F k ∧ k ≠ s ∧ k < w.heap.size) (hQ : ∀ k, Q k → F k ∧ k ≠ s ∧ ¬ R k ∧ k < w.heap.size) (hE : ∀ k, E k → F k ∧ k ≠ s ∧ ¬ R k ∧ ¬ Q k ∧ k < w.heap.size)
    (hb : Blk w s t #[.slice a B.length c, .slice p P.length d]) (hr : Own R w 22 1 a B.length c vs) (hall : All2 (Elem E w) vs B) (hsent : Sents E w us P)
    (hown1 : Own (Fr w w1) w1 5 1 a1 xs.length c1 (bvs xs)) (hup1 : Upd Nil w w1)
    (hown2 : Own (fun k => Q k ∨ Fr (w1.alloc o) w2 k) w2 145 2 p2 (P.length + 1) d2 (us ++ [.int .i64 i, .slice a1 xs.length c1])) (hup2 : Upd Q (w1.alloc o) w2) :
    ∃ F', DRep t F' (w2.setCell ⟨s, 1, none⟩ (.slice p2 (P.length + 1) d2)) s B (P ++ [(i, xs)]) ∧ Upd F w (w2.setCell ⟨s, 1, none⟩ (.slice p2 (P.length + 1) d2)) ∧ ∀ k, F' k → F k ∨ Fr w (w2.setCell ⟨s, 1, none⟩ (.slice p2 (P.length + 1) d2)) k := by
  have hs := hb.lt
  have hz1 := hup1.size
  have hz2 := hup2.size
  simp only [World.size_alloc] at hz2
  have hsz : (w2.setCell ⟨s, 1, none⟩ (.slice p2 (P.length + 1) d2)).heap.size = w2.heap.size := by simp
  have hQs : ¬ Q s := fun h => (hQ s h).2.1 rfl
  have b1 : Blk w1 s t _ := hb.upd hup1 (fun f => f)
  have b2 : Blk w2 s t _ := (b1.alloc o).upd hup2 hQs
  have b3 := b2.set 1 (.slice p2 (P.length + 1) d2)
  have one : Upd (One s) w2 (w2.setCell ⟨s, 1, none⟩ (.slice p2 (P.length + 1) d2)) := (Upd.refl (One s) w2).setCell (p := ⟨s, 1, none⟩) (.inl rfl) _
  have elem : ∀ v x, Elem E w v x → Elem (fun k => E k ∨ Fr w w1 k) (w2.setCell ⟨s, 1, none⟩ (.slice p2 (P.length + 1) d2)) v x := fun v x h =>
    ((((h.upd hup1 (fun k _ f => f)).keep ((Upd.refl Nil w1).alloc o)).upd hup2 (fun k he hq => (hE k he).2.2.2.1 hq)).upd one (fun k he e => (hE k he).2.1 e)).mono (fun k h => Or.inl h)
  have hnew : Elem (fun k => E k ∨ Fr w w1 k) (w2.setCell ⟨s, 1, none⟩ (.slice p2 (P.length + 1) d2)) (.slice a1 xs.length c1) xs := by
    refine ((((hown1.elem).keep ((Upd.refl Nil w1).alloc o)).upd hup2 ?_).upd one ?_).mono (fun k h => Or.inr h)
    · rintro k ⟨h1, _⟩ hq
      have := (hQ k hq).2.2.2
      omega
    · rintro k ⟨h1, _⟩ rfl
      omega
  refine ⟨fun k => F k ∨ Fr w w2 k, ⟨R, fun k => Q k ∨ Fr (w1.alloc o) w2 k, fun k => E k ∨ Fr w w1 k, a, c, vs, p2, d2, us ++ [.int .i64 i, .slice a1 xs.length c1], .inl hFs, ?_, ?_, ?_, ?_, ?_, ?_, ?_, ?_⟩, ?_, ?_⟩
  · intro k hk
    obtain ⟨e1, e2, e3⟩ := hR k hk
    exact ⟨.inl e1, e2, by omega⟩
  · rintro k (h | ⟨h1, h2⟩)
    · obtain ⟨e1, e2, e3, e4⟩ := hQ k h
      exact ⟨.inl e1, e2, e3, by omega⟩
    · simp only [World.size_alloc] at h1
      exact ⟨.inr ⟨by omega, h2⟩, by omega, fun r => by have := (hR k r).2.2; omega, by omega⟩
  · rintro k (h | ⟨h1, h2⟩)
    · obtain ⟨e1, e2, e3, e4, e5⟩ := hE k h
      refine ⟨.inl e1, e2, e3, ?_, by omega⟩
      rintro (r | ⟨r, _⟩)
      · exact e4 r
      · simp only [World.size_alloc] at r
        omega
    · refine ⟨.inr ⟨h1, by omega⟩, by omega, fun r => by have := (hR k r).2.2; omega, ?_, by omega⟩
      rintro (r | ⟨r, _⟩)
      · have := (hQ k r).2.2.2
        omega
      · simp only [World.size_alloc] at r
        omega
  · simpa using b3
  · exact (((hr.upd hup1 (fun _ _ f => f)).alloc o).upd hup2 (fun k h q => (hQ k q).2.2.1 h)).upd one (fun k h e => (hR k h).2.1 e)
  · have := hown2.upd one (by
      rintro k (h | ⟨h1, h2⟩) rfl
      · exact hQs h
      · simp only [World.size_alloc] at h1
        omega)
    simpa using this
  · exact hall.mono elem
  · exact (hsent.mono elem).snoc hnew
  · refine (((hup1.ofNil (G := F)).alloc o).trans (hup2.mono (fun k h => (hQ k h).1)) (fun k h _ => h)).setCell (p := ⟨s, 1, none⟩) (.inl hFs) _
  · rintro k (h | ⟨h1, h2⟩)
    · exact .inl h
    · exact .inr ⟨h1, by omega⟩

/-- What a sector that is written leaves. -/
theorem take_end {t : TypeId} {F : Nat → Prop} {w w1 : World} {s i : Nat} {B : List (List UInt8)} {P : List Snt} {xs : List UInt8} {a1 a : Option Addr} {c1 c n : Nat} (h : DRep t F w s B P) (hc : w.cell? ⟨s, 0, none⟩ = some (.slice a n c)) {g : Nat} (ha : a = some ⟨g, 0, none⟩)
    (hown1 : Own (Fr w w1) w1 5 1 a1 xs.length c1 (bvs xs)) (hup1 : Upd Nil w w1) :
    F g ∧ ∃ F', DRep t F' (w1.setCell ⟨g, i, none⟩ (.slice a1 xs.length c1)) s (B.set i xs) P ∧ Upd F w (w1.setCell ⟨g, i, none⟩ (.slice a1 xs.length c1)) ∧ ∀ k, F' k → F k ∨ Fr w (w1.setCell ⟨g, i, none⟩ (.slice a1 xs.length c1)) k := by
  obtain ⟨R, Q, E, a', c', vs, p, d, us, hFs, hR, hQ, hE, hb, hr, hq, hall, hsent⟩ := h
  have hs := hb.lt
  have hcs : w.cell? ⟨s, 0, none⟩ = some (.slice a' B.length c') := hb.cell 0
  rw [hc] at hcs
  injection hcs with hcs
  injection hcs with e1 e2 e3
  subst e1; subst e2; subst e3; subst ha
  have hRg : R g := by
    rcases hr.2 with ⟨h, _⟩ | ⟨g', cur, h1, h2, _⟩
    · cases h
    · obtain rfl : g = g' := by simpa using h1
      exact h2
  have hz1 := hup1.size
  have hsz : (w1.setCell ⟨g, i, none⟩ (.slice a1 xs.length c1)).heap.size = w1.heap.size := by simp
  have one : Upd (One g) w1 (w1.setCell ⟨g, i, none⟩ (.slice a1 xs.length c1)) := (Upd.refl (One g) w1).setCell (p := ⟨g, i, none⟩) (.inl rfl) _
  have elem : ∀ v x, Elem E w v x → Elem (fun k => E k ∨ Fr w w1 k) (w1.setCell ⟨g, i, none⟩ (.slice a1 xs.length c1)) v x := fun v x h =>
    ((h.upd hup1 (fun k _ f => f)).upd one (fun k he e => (hE k he).2.2.1 (e ▸ hRg))).mono (fun k h => Or.inl h)
  have hnew : Elem (fun k => E k ∨ Fr w w1 k) (w1.setCell ⟨g, i, none⟩ (.slice a1 xs.length c1)) (.slice a1 xs.length c1) xs := by
    refine ((hown1.elem).upd one ?_).mono (fun k h => Or.inr h)
    rintro k ⟨h1, _⟩ rfl
    have := (hR _ hRg).2.2
    omega
  refine ⟨(hR _ hRg).1, fun k => F k ∨ Fr w w1 k, ⟨R, Q, fun k => E k ∨ Fr w w1 k, some ⟨g, 0, none⟩, c, vs.set i (.slice a1 xs.length c1), p, d, us, .inl hFs, ?_, ?_, ?_, ?_, ?_, ?_, ?_, ?_⟩, ?_, ?_⟩
  · intro k hk
    obtain ⟨e1, e2, e3⟩ := hR k hk
    exact ⟨.inl e1, e2, by omega⟩
  · intro k hk
    obtain ⟨e1, e2, e3, e4⟩ := hQ k hk
    exact ⟨.inl e1, e2, e3, by omega⟩
  · rintro k (h | ⟨h1, h2⟩)
    · obtain ⟨e1, e2, e3, e4, e5⟩ := hE k h
      exact ⟨.inl e1, e2, e3, e4, by omega⟩
    · exact ⟨.inr ⟨h1, by omega⟩, by omega, fun r => by have := (hR k r).2.2; omega, fun q => by have := (hQ k q).2.2.2; omega, by omega⟩
  · have := (hb.upd hup1 (fun f => f)).upd one (fun e => (hR _ hRg).2.1 e.symm)
    simpa using this
  · have := (hr.upd hup1 (fun _ _ f => f)).stored rfl i (.slice a1 xs.length c1)
    simpa using this
  · exact (hq.upd hup1 (fun _ _ f => f)).upd one (fun k h e => (hQ k h).2.2.1 (e ▸ hRg))
  · exact (hall.mono elem).set i hnew
  · exact hsent.mono elem
  · exact (hup1.ofNil (G := F)).setCell (p := ⟨g, i, none⟩) (.inl (hR _ hRg).1) _
  · rintro k (h | ⟨h1, h2⟩)
    · exact .inl h
    · exact .inr ⟨h1, by omega⟩
end Go.Proofs.YtbaombnnagidcaaDoor
