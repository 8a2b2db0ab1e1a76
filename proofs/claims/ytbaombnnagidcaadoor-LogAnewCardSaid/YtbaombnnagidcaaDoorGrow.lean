/- Slices of bytes in a row of one's own, grown one by one. -/
import Derived.Test.YtbaombnnagidcaaDoorImage
namespace Go.Proofs.YtbaombnnagidcaaDoor
open Go.RowKit

/-- Slices of bytes in a row of one's own. -/
structure Rows (R E : Nat → Prop) (w : World) (a : Option Addr) (n c : Nat) (vs : List Value) (l : List (List UInt8)) : Prop where
  own : Own R w 22 1 a n c vs
  all : All2 (Elem E w) vs l
  len : l.length = n
  inR : ∀ k, R k → k < w.heap.size
  inE : ∀ k, E k → k < w.heap.size
  apart : ∀ k, E k → ¬ R k

theorem Rows.snoc {R E : Nat → Prop} {w w1 w2 : World} {a a1 a2 : Option Addr} {n c c1 c2 : Nat} {vs : List Value} {l : List (List UInt8)} {xs : List UInt8} {o : Obj} (h : Rows R E w a n c vs l)
    (hown1 : Own (Fr w w1) w1 5 1 a1 xs.length c1 (bvs xs)) (hup1 : Upd Nil w w1)
    (hown2 : Own (fun k => R k ∨ Fr (w1.alloc o) w2 k) w2 22 1 a2 (n + 1) c2 (vs ++ [.slice a1 xs.length c1])) (hup2 : Upd R (w1.alloc o) w2) :
    Rows (fun k => R k ∨ Fr (w1.alloc o) w2 k) (fun k => E k ∨ Fr w w1 k) w2 a2 (n + 1) c2 (vs ++ [.slice a1 xs.length c1]) (l ++ [xs]) := by
  have hz1 := hup1.size
  have hz2 := hup2.size
  simp only [World.size_alloc] at hz2
  refine ⟨hown2, ?_, by simp [h.len], ?_, ?_, ?_⟩
  · have hold : All2 (Elem (fun k => E k ∨ Fr w w1 k) w2) vs l := h.all.mono (fun v x hh => by
      refine (((hh.upd hup1 (fun k _ f => f)).keep ((Upd.refl Nil w1).alloc o)).upd hup2 ?_).mono (fun k h => Or.inl h)
      exact fun k he hr => h.apart k he hr)
    refine hold.snoc ?_
    refine (((hown1.elem).keep ((Upd.refl Nil w1).alloc o)).upd hup2 ?_).mono (fun k h => Or.inr h)
    rintro k ⟨h1, _⟩ hr
    have := h.inR k hr
    omega
  · rintro k (hk | ⟨_, hk⟩)
    · have := h.inR k hk
      omega
    · exact hk
  · rintro k (hk | ⟨_, hk⟩)
    · have := h.inE k hk
      omega
    · omega
  · rintro k (hk | ⟨h1, h2⟩) (hr | ⟨h3, h4⟩)
    · exact h.apart k hk hr
    · have := h.inE k hk
      simp only [World.size_alloc] at h3
      omega
    · have := h.inR k hr
      omega
    · simp only [World.size_alloc] at h3
      omega

/-- slices of bytes that are handed back, all of them new -/
def GotRows (w : World) (l : List (List UInt8)) (e : Ending) (w' : World) : Prop :=
  ∃ R E a c vs, e = .returned (.slice a l.length c) ∧ Rows R E w' a l.length c vs l ∧ (∀ k, R k → Fr w w' k) ∧ (∀ k, E k → Fr w w' k) ∧ Upd Nil w w'

theorem fr_grow {w wr w1 w2 : World} {o : Obj} {R : Nat → Prop} (h0 : Upd Nil w wr) (h1 : Upd Nil wr w1) (h2 : Upd R (w1.alloc o) w2) : (∀ k, Fr w wr k → Fr w w2 k) ∧ (∀ k, Fr wr w1 k → Fr w w2 k) ∧ (∀ k, Fr (w1.alloc o) w2 k → Fr w w2 k) := by
  have z0 := h0.size
  have z1 := h1.size
  have z2 := h2.size
  simp only [World.size_alloc] at z2
  refine ⟨fun k hk => ⟨hk.1, by have := hk.2; omega⟩, fun k hk => ⟨by have := hk.1; omega, by have := hk.2; omega⟩, fun k hk => ⟨by have := hk.1; simp only [World.size_alloc] at this; omega, hk.2⟩⟩

/-- a message that is told: a copy of one's own -/
def ToldBytes (w : World) (xs : List UInt8) (e : Ending) (w' : World) : Prop := ∃ a c, e = .returned (.tuple #[.slice a xs.length c, .int .i64 0]) ∧ Own (Fr w w') w' 5 1 a xs.length c (bvs xs) ∧ Upd Nil w w'
end Go.Proofs.YtbaombnnagidcaaDoor
