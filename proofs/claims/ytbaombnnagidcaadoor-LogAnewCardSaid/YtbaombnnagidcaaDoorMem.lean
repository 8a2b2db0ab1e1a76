/- Words for memory: which blocks a step may have turned; a slice that reads as a list of cells; a slice that lies in a row of its own. Plain lemmas, over any program. -/
import Derived.Test.YtbaombnnagidcaaDoorBase
import Derived.Maps.AppendAt
import Derived.Deep.RegionLaw
import Derived.Deep.LoopGhost
import Derived.Deep.DeepCutAuto
import Derived.WalkSpells
import Derived.WalkLawsBesides
namespace Go.Proofs.YtbaombnnagidcaaDoor
open Go.RowKit

/-- Of the old blocks at most those of G have turned. -/
structure Upd (G : Nat → Prop) (w w' : World) : Prop where
  os : w'.os = w.os
  tape : w'.tape = w.tape
  output : w'.output = w.output
  size : w.heap.size ≤ w'.heap.size
  block : ∀ k, k < w.heap.size → ¬ G k → w'.heap[k]? = w.heap[k]?

/-- No block. -/
def Nil : Nat → Prop := fun _ => False
/-- The blocks that are new in w'. -/
def Fr (w w' : World) : Nat → Prop := fun k => w.heap.size ≤ k ∧ k < w'.heap.size
/-- The one block b. -/
def One (b : Nat) : Nat → Prop := fun k => k = b

namespace Upd
variable {G G' : Nat → Prop} {w w' w'' : World}
theorem refl (G : Nat → Prop) (w : World) : Upd G w w := ⟨rfl, rfl, rfl, Nat.le_refl _, fun _ _ _ => rfl⟩
theorem trans (h : Upd G w w') (k : Upd G' w' w'') (hG : ∀ k, G' k → k < w.heap.size → G k) : Upd G w w'' :=
  ⟨k.os.trans h.os, k.tape.trans h.tape, k.output.trans h.output, Nat.le_trans h.size k.size, fun i hi hg =>
    (k.block i (Nat.lt_of_lt_of_le hi h.size) (fun g => hg (hG i g hi))).trans (h.block i hi hg)⟩
theorem mono (h : Upd G w w') (hG : ∀ k, G k → G' k) : Upd G' w w' := ⟨h.os, h.tape, h.output, h.size, fun i hi hg => h.block i hi (fun g => hg (hG i g))⟩
theorem ofNil (h : Upd Nil w w') : Upd G w w' := h.mono (fun _ f => f.elim)
theorem drew (h : Upd G w w') : Upd G w w'.drew := ⟨h.os, h.tape, h.output, h.size, h.block⟩
theorem drewN (h : Upd G w w') (n : Nat) : Upd G w (w'.drewN n) := ⟨h.os, h.tape, h.output, h.size, h.block⟩
theorem ofDrew (h : Upd G w.drew w') : Upd G w w' := ⟨h.os, h.tape, h.output, h.size, h.block⟩
theorem ofDrewN {n : Nat} (h : Upd G (w.drewN n) w') : Upd G w w' := ⟨h.os, h.tape, h.output, h.size, h.block⟩
theorem alloc (h : Upd G w w') (o : Obj) : Upd G w (w'.alloc o) :=
  ⟨h.os, h.tape, h.output, Nat.le_trans h.size (by simp), fun k hk hg => (Below.heap_alloc _ _ _ (Nat.lt_of_lt_of_le hk h.size)).trans (h.block k hk hg)⟩
theorem setCell (h : Upd G w w') {p : Addr} (hp : G p.block ∨ w.heap.size ≤ p.block) (u : Value) : Upd G w (w'.setCell p u) :=
  ⟨h.os, h.tape, h.output, by simpa [World.setCell] using h.size, fun k hk hg => (Below.heap_setCell _ _ _ _ (by
    rintro rfl
    rcases hp with hp | hp
    · exact hg hp
    · omega)).trans (h.block k hk hg)⟩
theorem below (h : Upd Nil w w') : Below w.heap.size w w' := ⟨h.os, h.tape, h.output, h.size, fun k hk => h.block k hk (fun f => f)⟩
theorem ofBelow (h : Below w.heap.size w w') : Upd G w w' := ⟨h.os, h.tape, h.output, h.size, fun k hk _ => h.block k hk⟩
theorem grown {row : Option Nat} (h : Upd G w w') (hg : w'.grownBy w'' row) (hr : ∀ k, row = some k → G k ∨ w.heap.size ≤ k) : Upd G w w'' :=
  ⟨hg.os.trans h.os, hg.tape.trans h.tape, hg.output.trans h.output, Nat.le_trans h.size hg.size, fun k hk hn =>
    (hg.block k (Nat.lt_of_lt_of_le hk h.size) (fun e => by
      rcases hr k e.symm with g | g
      · exact hn g
      · omega)).trans (h.block k hk hn)⟩
theorem ofGrown {row : Option Nat} (hg : w.grownBy w' row) (hr : ∀ k, row = some k → G k ∨ w.heap.size ≤ k) : Upd G w w' := (refl G w).grown hg hr
theorem cell (h : Upd G w w') {a : Addr} {v : Value} (hc : w.cell? a = some v) (hg : ¬ G a.block) : w'.cell? a = some v :=
  (World.cell?_of_block (h.block a.block (World.block_lt_of_cell? w a hc) hg)).trans hc
theorem heap (h : Upd G w w') {b : Nat} {o : Obj} (hb : w.heap[b]? = some o) (hg : ¬ G b) : w'.heap[b]? = some o :=
  (h.block b (Array.getElem?_eq_some_iff.1 hb).1 hg).trans hb
end Upd

/-! ### A block that is known whole -/
def Blk (w : World) (g : Nat) (t : TypeId) (cs : Array Value) : Prop := w.heap[g]? = some (.cells cs t (0, 0))
namespace Blk
variable {G : Nat → Prop} {w w' : World} {g : Nat} {t : TypeId} {cs : Array Value}
theorem lt (h : Blk w g t cs) : g < w.heap.size := (Array.getElem?_eq_some_iff.1 h).1
theorem cell (h : Blk w g t cs) (i : Nat) : w.cell? ⟨g, i, none⟩ = cs[i]? := cell_of_row w g i cs t (0, 0) h
theorem frozen (h : Blk w g t cs) (i : Nat) : w.frozen? ⟨g, i, none⟩ = false := frozen_of_row w g i cs t h
theorem new (w : World) (t : TypeId) (cs : Array Value) : Blk (w.alloc (.cells cs t)) w.heap.size t cs := heap_alloc_new w _
theorem drew (h : Blk w g t cs) : Blk w.drew g t cs := h
theorem drewN (h : Blk w g t cs) (n : Nat) : Blk (w.drewN n) g t cs := h
theorem alloc (h : Blk w g t cs) (o : Obj) : Blk (w.alloc o) g t cs := (Below.heap_alloc w o g h.lt).trans h
theorem set (h : Blk w g t cs) (i : Nat) (u : Value) : Blk (w.setCell ⟨g, i, none⟩ u) g t (cs.setIfInBounds i u) := heap_setCell_same w g i cs t u h
theorem far (h : Blk w g t cs) {p : Addr} (hp : g ≠ p.block) (u : Value) : Blk (w.setCell p u) g t cs := (Below.heap_setCell w p u g hp).trans h
theorem upd (h : Blk w g t cs) (u : Upd G w w') (hg : ¬ G g) : Blk w' g t cs := u.heap h hg
end Blk

/-! ### A slice that reads as a list of cells -/
/-- The slice at address a reads the cells cs; they lie in a block of F. -/
def Row (F : Nat → Prop) (w : World) (a : Option Addr) (cs : List Value) : Prop :=
  cs ≠ [] → ∃ b o, a = some ⟨b, o, none⟩ ∧ F b ∧ ∀ i u, cs[i]? = some u → w.cell? ⟨b, o + i, none⟩ = some u
namespace Row
variable {F F' G : Nat → Prop} {w w' : World} {a : Option Addr} {cs : List Value}
theorem nil (F : Nat → Prop) (w : World) (a : Option Addr) : Row F w a [] := fun h => absurd rfl h
theorem mono (h : Row F w a cs) (hF : ∀ k, F k → F' k) : Row F' w a cs := fun hn => by
  obtain ⟨b, o, h1, h2, h3⟩ := h hn
  exact ⟨b, o, h1, hF _ h2, h3⟩
theorem upd (h : Row F w a cs) (u : Upd G w w') (hd : ∀ k, F k → ¬ G k) : Row F w' a cs := fun hn => by
  obtain ⟨b, o, h1, h2, h3⟩ := h hn
  exact ⟨b, o, h1, h2, fun i v hv => u.cell (h3 i v hv) (hd b h2)⟩
theorem keep (h : Row F w a cs) (u : Upd Nil w w') : Row F w' a cs := h.upd u (fun _ _ f => f)
theorem drew (h : Row F w a cs) : Row F w.drew a cs := h
theorem drewN (h : Row F w a cs) (n : Nat) : Row F (w.drewN n) a cs := h
theorem alloc (h : Row F w a cs) (o : Obj) : Row F (w.alloc o) a cs := h.keep ((Upd.refl Nil w).alloc o)
/-- all blocks lie in the heap -/
theorem inHeap (h : Row F w a cs) : Row (fun k => F k ∧ k < w.heap.size) w a cs := fun hn => by
  obtain ⟨b, o, h1, h2, h3⟩ := h hn
  refine ⟨b, o, h1, ⟨h2, ?_⟩, h3⟩
  match cs, hn with
  | c :: _, _ => exact World.block_lt_of_cell? w _ (h3 0 c rfl)
/-- the cut s[k:m] -/
theorem cut (h : Row F w a cs) (k m : Nat) {b o : Nat} (hk : (cs.drop k).take m ≠ []) (ha : a = some ⟨b, o, none⟩) : Row F w (some ⟨b, o + k, none⟩) ((cs.drop k).take m) := fun _ => by
  have hne : cs ≠ [] := by rintro rfl; simp at hk
  obtain ⟨b', o', h1, h2, h3⟩ := h hne
  rw [ha] at h1
  obtain ⟨rfl, rfl⟩ : b = b' ∧ o = o' := by simpa using h1
  refine ⟨b, o + k, rfl, h2, fun i v hv => ?_⟩
  rw [Nat.add_assoc]
  refine h3 (k + i) v ?_
  rw [List.getElem?_take] at hv
  split at hv
  · rwa [List.getElem?_drop] at hv
  · cases hv
theorem take (h : Row F w a cs) (m : Nat) : Row F w a (cs.take m) := fun hn => by
  obtain ⟨b, o, h1, h2, h3⟩ := h (by rintro rfl; simp at hn)
  refine ⟨b, o, h1, h2, fun i v hv => h3 i v ?_⟩
  rw [List.getElem?_take] at hv
  split at hv
  · exact hv
  · cases hv
/-- the model's own spelling of a cut's address -/
theorem drop (h : Row F w a cs) (k c : Nat) (hk : k ≤ cs.length) (hc : cs.length ≤ c) : Row F w (if c = k then a else a.map (·.add k)) (cs.drop k) := fun hn => by
  have hlt : k < cs.length := by
    rcases Nat.lt_or_ge k cs.length with h | h
    · exact h
    · simp [List.drop_eq_nil_of_le h] at hn
  obtain ⟨b, o, rfl, h2, h3⟩ := h (by rintro rfl; simp at hlt)
  rw [if_neg (by omega)]
  refine ⟨b, o + k, by simp [Addr.add_lit], h2, fun i v hv => ?_⟩
  rw [Nat.add_assoc]
  rw [List.getElem?_drop] at hv
  exact h3 _ v hv
/-- the same, the address written out -/
theorem dropAt {b o : Nat} (h : Row F w (some ⟨b, o, none⟩) cs) (k c : Nat) (hk : k ≤ cs.length) (hc : cs.length ≤ c) : Row F w (if c = k then some ⟨b, o, none⟩ else some ⟨b, o + k, none⟩) (cs.drop k) := by
  have := h.drop k c hk hc
  simpa [Addr.add_lit] using this
end Row

/-! ### bytes -/
def bv (x : UInt8) : Value := .int .u8 (x.toNat : Int)
def bvs (xs : List UInt8) : List Value := xs.map bv
@[simp] theorem length_bvs (xs : List UInt8) : (bvs xs).length = xs.length := by simp [bvs]
theorem bvs_append (xs ys : List UInt8) : bvs (xs ++ ys) = bvs xs ++ bvs ys := by simp [bvs]
theorem bvs_take (xs : List UInt8) (n : Nat) : bvs (xs.take n) = (bvs xs).take n := by simp [bvs]
theorem bvs_drop (xs : List UInt8) (n : Nat) : bvs (xs.drop n) = (bvs xs).drop n := by simp [bvs]
theorem bvs_one (xs : List UInt8) : ∀ u ∈ bvs xs, u.oneCell' = true := by
  intro u hu
  obtain ⟨x, _, rfl⟩ := List.mem_map.1 hu
  rfl
theorem bvs_get (xs : List UInt8) (i : Nat) (h : i < xs.length) : (bvs xs)[i]? = some (.int .u8 (xs[i].toNat : Int)) := by simp [bvs, bv, h]
theorem bvs_inj {xs ys : List UInt8} (h : bvs xs = bvs ys) : xs = ys := by
  induction xs generalizing ys with
  | nil => cases ys with
    | nil => rfl
    | cons _ _ => simp [bvs] at h
  | cons x xs ih => cases ys with
    | nil => simp [bvs] at h
    | cons y ys =>
      simp only [bvs, List.map_cons, List.cons.injEq, bv, Value.int.injEq, true_and] at h
      have hxy : x = y := UInt8.toNat_inj.1 (by omega)
      rw [hxy, ih h.2]
theorem Row.byteAt {F : Nat → Prop} {w : World} {a : Option Addr} {xs : List UInt8} (h : Row F w a (bvs xs)) {i : Nat} (hi : i < xs.length) :
    ∃ b o, a = some ⟨b, o, none⟩ ∧ F b ∧ w.cell? ⟨b, o + i, none⟩ = some (.int .u8 (xs[i].toNat : Int)) := by
  obtain ⟨b, o, h1, h2, h3⟩ := h (by intro e; have := congrArg List.length e; simp at this; subst this; simp at hi)
  exact ⟨b, o, h1, h2, h3 i _ (bvs_get xs i hi)⟩

/-! ### A slice in a row of its own -/
/-- '.slice a n c' is nil, or begins a row of elements of type t (sz cells each) whose block is one of F, not frozen; its first n elements' cells are cs. -/
def Own (F : Nat → Prop) (w : World) (t : TypeId) (sz : Nat) (a : Option Addr) (n c : Nat) (cs : List Value) : Prop :=
  cs.length = n * sz ∧ ((a = none ∧ n = 0 ∧ c = 0) ∨
    ∃ g cur, a = some ⟨g, 0, none⟩ ∧ F g ∧ w.heap[g]? = some (.cells cur t (0, 0)) ∧ n ≤ c ∧ c ≤ maxLen ∧ cur.size = c * sz ∧ cur.toList.take (n * sz) = cs)
namespace Own
variable {F F' G : Nat → Prop} {w w' : World} {t : TypeId} {sz : Nat} {a : Option Addr} {n c : Nat} {cs : List Value}
theorem none_ (F : Nat → Prop) (w : World) (t : TypeId) (sz : Nat) : Own F w t sz none 0 0 [] := ⟨by simp, .inl ⟨rfl, rfl, rfl⟩⟩
theorem mono (h : Own F w t sz a n c cs) (hF : ∀ k, F k → F' k) : Own F' w t sz a n c cs := by
  refine ⟨h.1, ?_⟩
  rcases h.2 with h | ⟨g, cur, h1, h2, h3⟩
  · exact .inl h
  · exact .inr ⟨g, cur, h1, hF _ h2, h3⟩
theorem upd (h : Own F w t sz a n c cs) (u : Upd G w w') (hd : ∀ k, F k → ¬ G k) : Own F w' t sz a n c cs := by
  refine ⟨h.1, ?_⟩
  rcases h.2 with h | ⟨g, cur, h1, h2, h3, h4⟩
  · exact .inl h
  · exact .inr ⟨g, cur, h1, h2, u.heap h3 (hd g h2), h4⟩
theorem keep (h : Own F w t sz a n c cs) (u : Upd Nil w w') : Own F w' t sz a n c cs := h.upd u (fun _ _ f => f)
theorem drew (h : Own F w t sz a n c cs) : Own F w.drew t sz a n c cs := h
theorem drewN (h : Own F w t sz a n c cs) (k : Nat) : Own F (w.drewN k) t sz a n c cs := h
theorem alloc (h : Own F w t sz a n c cs) (o : Obj) : Own F (w.alloc o) t sz a n c cs := h.keep ((Upd.refl Nil w).alloc o)
theorem inHeap (h : Own F w t sz a n c cs) : Own (fun k => F k ∧ k < w.heap.size) w t sz a n c cs := by
  refine ⟨h.1, ?_⟩
  rcases h.2 with h | ⟨g, cur, h1, h2, h3, h4⟩
  · exact .inl h
  · exact .inr ⟨g, cur, h1, ⟨h2, (Array.getElem?_eq_some_iff.1 h3).1⟩, h3, h4⟩
theorem le (h : Own F w t sz a n c cs) : n ≤ c ∧ c ≤ maxLen := by
  rcases h.2 with ⟨_, rfl, rfl⟩ | ⟨g, cur, _, _, _, h4, h5, _⟩
  · simp
  · exact ⟨h4, h5⟩
theorem row (h : Own F w t sz a n c cs) : Row F w a cs := fun hn => by
  rcases h.2 with ⟨_, rfl, _⟩ | ⟨g, cur, h1, h2, h3, _, _, _, h7⟩
  · exact absurd (List.eq_nil_of_length_eq_zero (by simpa using h.1)) hn
  · refine ⟨g, 0, h1, h2, fun i u hu => ?_⟩
    rw [Nat.zero_add, cell_of_row w g i cur t (0, 0) h3]
    rw [← h7, List.getElem?_take] at hu
    split at hu
    · simpa using hu
    · cases hu
theorem ownsRow (h : Own F w t sz a n c cs) : w.ownsRow 0 t sz (.slice a n c) n cs := by
  refine ⟨h.1, ?_⟩
  rcases h.2 with ⟨rfl, rfl, rfl⟩ | ⟨g, cur, rfl, _, h3, h4, h5, h6, h7⟩
  · exact .inl ⟨rfl, rfl⟩
  · exact .inr ⟨g, c, cur, rfl, Nat.zero_le _, h3, h4, h5, h6, h7⟩
theorem ofRow {v : Value} (h : w.ownsRow 0 t sz v n cs) (hF : ∀ k, v.ownBlock = some k → F k) : ∃ a c, v = .slice a n c ∧ Own F w t sz a n c cs := by
  rcases h.2 with ⟨rfl, rfl⟩ | ⟨g, c, cur, rfl, _, h3, h4, h5, h6, h7⟩
  · exact ⟨none, 0, rfl, h.1, .inl ⟨rfl, rfl, rfl⟩⟩
  · exact ⟨_, c, rfl, h.1, .inr ⟨g, cur, rfl, hF g rfl, h3, h4, h5, h6, h7⟩⟩
/-- a row just made: n elements, all of them in use -/
theorem lit (w : World) (cur : Array Value) (n : Nat) (hm : n ≤ maxLen) (hs : cur.size = n * sz) : Own (One w.heap.size) (w.alloc (.cells cur t)) t sz (some ⟨w.heap.size, 0, none⟩) n n cur.toList :=
  ⟨by simpa using hs, .inr ⟨w.heap.size, cur, rfl, rfl, heap_alloc_new w _, Nat.le_refl _, hm, hs, List.take_of_length_le (by simp [hs])⟩⟩
/-- s[:m] of a row of one's own -/
theorem shorten (h : Own F w t sz a n c cs) {m : Nat} (hm : m ≤ n) : Own F w t sz a m c (cs.take (m * sz)) := by
  have hle : m * sz ≤ n * sz := Nat.mul_le_mul_right _ hm
  refine ⟨by rw [List.length_take, h.1]; omega, ?_⟩
  rcases h.2 with ⟨rfl, rfl, rfl⟩ | ⟨g, cur, h1, h2, h3, h4, h5, h6, h7⟩
  · exact .inl ⟨rfl, by omega, rfl⟩
  · refine .inr ⟨g, cur, h1, h2, h3, by omega, h5, h6, ?_⟩
    rw [← h7, List.take_take, Nat.min_eq_left hle]
/-- a store into one of its cells -/
theorem stored (h : Own F w t sz a n c cs) {g : Nat} (hg : a = some ⟨g, 0, none⟩) (j : Nat) (u : Value) : Own F (w.setCell ⟨g, j, none⟩ u) t sz a n c (cs.set j u) := by
  refine ⟨by simpa using h.1, ?_⟩
  rcases h.2 with ⟨rfl, _, _⟩ | ⟨g', cur, h1, h2, h3, h4, h5, h6, h7⟩
  · cases hg
  · rw [h1] at hg
    obtain rfl : g' = g := by simpa using hg
    refine .inr ⟨g', cur.setIfInBounds j u, h1, h2, heap_setCell_same w g' j cur t u h3, h4, h5, by simpa using h6, ?_⟩
    rw [Array.toList_setIfInBounds, ← h7, List.take_set]
theorem frozen (h : Own F w t sz a n c cs) {g : Nat} (hg : a = some ⟨g, 0, none⟩) (j : Nat) : w.frozen? ⟨g, j, none⟩ = false := by
  rcases h.2 with ⟨rfl, _, _⟩ | ⟨g', cur, h1, h2, h3, _⟩
  · cases hg
  · rw [h1] at hg
    obtain rfl : g' = g := by simpa using hg
    exact frozen_of_row w g' j cur t h3
/-- each cell up to the capacity is there -/
theorem there (h : Own F w t sz a n c cs) {g : Nat} (hg : a = some ⟨g, 0, none⟩) {j : Nat} (hj : j < c * sz) : ∃ u, w.cell? ⟨g, j, none⟩ = some u := by
  rcases h.2 with ⟨rfl, _, _⟩ | ⟨g', cur, h1, h2, h3, h4, h5, h6, h7⟩
  · cases hg
  · rw [h1] at hg
    obtain rfl : g' = g := by simpa using hg
    rw [cell_of_row w g' j cur t (0, 0) h3]
    exact ⟨cur[j]'(by omega), Array.getElem?_eq_getElem (by omega)⟩
/-- a store behind the cells in use -/
theorem behind (h : Own F w t sz a n c cs) {g : Nat} (hg : a = some ⟨g, 0, none⟩) {j : Nat} (hj : n * sz ≤ j) (u : Value) : Own F (w.setCell ⟨g, j, none⟩ u) t sz a n c cs := by
  have := h.stored hg j u
  rwa [List.set_eq_of_length_le (by rw [h.1]; exact hj)] at this
theorem noneCap (h : Own F w t sz a n c cs) (ha : a = none) : c = 0 := by
  rcases h.2 with ⟨_, _, hc⟩ | ⟨g, cur, h1, _⟩
  · exact hc
  · rw [ha] at h1; cases h1
theorem isNone (h : Own F w t sz a n c cs) (hn : n ≠ 0) : ∃ g, a = some ⟨g, 0, none⟩ ∧ F g := by
  rcases h.2 with ⟨_, rfl, _⟩ | ⟨g, cur, h1, h2, _⟩
  · exact absurd rfl hn
  · exact ⟨g, h1, h2⟩
end Own

/-- the one cell of a literal of one element -/
theorem one_row (w : World) (v : Value) (t : TypeId) : Row (One w.heap.size) (w.alloc (.cells #[v] t)) (some ⟨w.heap.size, 0, none⟩) [v] := fun _ =>
  ⟨_, 0, rfl, rfl, fun i u hu => by
    rw [Nat.zero_add, World.cell?_alloc_new]
    simpa using hu⟩

/-! ### the text of a slice of bytes -/
def str (xs : List UInt8) : ByteArray := ⟨xs.toArray⟩
theorem str_toList (xs : List UInt8) : (str xs).toList = xs := by
  rw [ByteArray.toList_eq]
  rfl
theorem run_convert_Row {P : Program} {F : Nat → Prop} {w : World} {a : Option Addr} {xs : List UInt8} (h : Row F w a (bvs xs)) (src e dst : TypeId) (hs : P.underlying src = some (.slice e)) (he : P.underlying e = some (.int .u8)) (hd : P.underlying dst = some .string) (c : Nat) :
    (convert src dst (.slice a xs.length c)).run P w = .ok (.string (str xs)) w := by
  cases xs with
  | nil =>
    rw [run_convert_bytes_string w src dst e _ _ c hs he hd]
    cases a <;> simp [Conv.bytesToString, loadCells]
    all_goals rfl
  | cons x xs =>
    obtain ⟨b, o, rfl, _, hc⟩ := h (by simp [bvs])
    have := run_convert_bytes_arg (P := P) w src e hs he b o (x :: xs).length c ((x :: xs).map fun y => (y.toNat : Int)) (by simp) (fun i hi => by
      rw [hc i _ (bvs_get (x :: xs) i hi)]
      rw [List.getD, List.getElem?_eq_getElem (show i < ((x :: xs).map fun y => (y.toNat : Int)).length by simpa using hi), Option.getD_some, List.getElem_map]) dst hd
    rw [this]
    congr 2
    simp only [strOfNums, str, List.map_map]
    congr 1
    have : ((fun n : Int => UInt8.ofNat n.toNat) ∘ fun y : UInt8 => (y.toNat : Int)) = id := by
      funext y
      simp
    rw [this, List.map_id]

theorem le_max {n : Nat} (h : n ≤ maxLen) : n ≤ 9223372036854775807 := by
  simp only [maxLen] at h
  omega

/-! ### append onto a row of one's own, from whatever source -/
section
variable {P : Program}
theorem run_append_Own {F R : Nat → Prop} {w : World} {t : TypeId} (ts ty : TypeId) {i : TypeInfo} {z : Value} {sz bytes : Nat} (ht : P.underlying ts = some (.slice t)) (hi : P.info? t = some i) (hz : i.zero = some z)
    (hsize : i.size = sz) (hby : i.bytes = bytes) (hzs : z.cells.size = sz) (hsz : 0 < sz) {a : Option Addr} {n c : Nat} {cs : List Value} (hown : Own F w t sz a n c cs)
    {A : Option Addr} {m d : Nat} {news : List Value} (hr : Row R w A news) (hl : news.length = m * sz) (h1 : ∀ u ∈ news, u.oneCell' = true) (hA : A = none → d = 0)
    (h63 : n + m ≤ maxLen) (hbytes : (n + m) * bytes ≤ 140737488355328) :
    ∃ a' c' w', (Builtin.append_ #[ts, ts] ty #[.slice a n c, .slice A m d]).run P w = .ok (.slice a' (n + m) c') w' ∧ Own (fun k => F k ∨ Fr w w' k) w' t sz a' (n + m) c' (cs ++ news) ∧ Upd F w w' ∧
      (a ≠ none → a' ≠ none) := by
  have src : ∃ v' w', (Builtin.append_ #[ts, ts] ty #[.slice a n c, .slice A m d]).run P w = .ok v' w' ∧ w'.ownsRow 0 t sz v' (n + m) (cs ++ news) ∧ w.grownBy w' (Value.slice a n c).ownBlock ∧
      (v'.ownBlock = (Value.slice a n c).ownBlock ∨ v'.ownBlock = some w.heap.size) ∧ (a ≠ none → v' ≠ .slice none 0 0) := by
    by_cases hm : news = []
    · subst hm
      obtain rfl : m = 0 := by
        rcases Nat.eq_zero_or_pos m with h | h
        · exact h
        · have := Nat.mul_pos h hsz
          simp at hl
          omega
      cases A with
      | none =>
        obtain rfl := hA rfl
        refine ⟨.slice a n c, w, run_append_owned_none (P := P) w 0 ts ty t i sz ht hi _ n cs hown.ownsRow, by simpa using hown.ownsRow, ⟨rfl, rfl, rfl, Nat.le_refl _, fun _ _ _ => rfl⟩, .inl rfl, fun hne => ?_⟩
        intro e
        injection e with e
        exact hne e
      | some ad =>
        obtain ⟨v', w', r1, r2, r3, r4, r5⟩ := run_append_own_at (P := P) w 0 ts ty t i z sz bytes ht hi hz hsize hby hzs hsz _ n cs hown.ownsRow ad 0 d [] (by simp) (fun j u hu => by simp at hu) (fun u hu => by cases hu) h63 hbytes (Nat.zero_le _)
        exact ⟨v', w', r1, r2, r3, r5, fun hne e => hne (by have := (r4.1 e).1; injection this)⟩
    · obtain ⟨b, o, rfl, _, hc⟩ := hr hm
      obtain ⟨v', w', r1, r2, r3, r4, r5⟩ := run_append_own_at (P := P) w 0 ts ty t i z sz bytes ht hi hz hsize hby hzs hsz _ n cs hown.ownsRow ⟨b, o, none⟩ m d news hl (fun j u hu => by rw [Addr.add_lit]; exact hc j u hu) h1 h63 hbytes (Nat.zero_le _)
      exact ⟨v', w', r1, r2, r3, r5, fun hne e => hne (by have := (r4.1 e).1; injection this)⟩
  obtain ⟨v', w', r1, r2, r3, r4, r5⟩ := src
  have hF : ∀ k, (Value.slice a n c).ownBlock = some k → F k := by
    intro k hk
    rcases hown.2 with ⟨rfl, _, _⟩ | ⟨g, cur, rfl, h2, _⟩
    · simp [Value.ownBlock] at hk
    · simp [Value.ownBlock] at hk
      exact hk ▸ h2
  obtain ⟨a', c', rfl, hown'⟩ := Own.ofRow (F := fun k => F k ∨ Fr w w' k) r2 (fun k hk => by
    have hlt := (r2.lt k hk).2
    rcases r4 with e | e
    · rw [e] at hk
      exact .inl (hF k hk)
    · rw [e] at hk
      injection hk with hk
      exact .inr ⟨by omega, hlt⟩)
  exact ⟨a', c', w', r1, hown', Upd.ofGrown r3 (fun k hk => .inl (hF k hk)), fun hne e => r5 hne (by
    subst e
    rcases hown'.2 with ⟨_, h1, h2⟩ | ⟨g, _, h1, _⟩
    · rw [h1, h2]
    · cases h1)⟩

theorem wpList_append_Own {ops : Array Oper} {rest : List Oper} {o : Oper} {act : Act} {Q : Exit → Act → World → Prop} {F R : Nat → Prop} {w : World} {t : TypeId} (hgd : o.guard = none) (s x : Operand) (ts : TypeId)
    (ho : o.op = .call { callee := .builtin .append, args := #[s, x], argTypes := #[ts, ts] })
    {i : TypeInfo} {z : Value} {sz bytes : Nat} (ht : P.underlying ts = some (.slice t)) (hi : P.info? t = some i) (hz : i.zero = some z)
    (hsize : i.size = sz) (hby : i.bytes = bytes) (hzs : z.cells.size = sz) (hsz : 0 < sz) {a : Option Addr} {n c : Nat} {cs : List Value} (hs : act.eval s = .slice a n c) (hown : Own F w t sz a n c cs)
    {A : Option Addr} {m d : Nat} {news : List Value} (hx : act.eval x = .slice A m d) (hr : Row R w A news) (hl : news.length = m * sz) (h1 : ∀ u ∈ news, u.oneCell' = true) (hA : A = none → d = 0)
    (h63 : n + m ≤ maxLen) (hbytes : (n + m) * bytes ≤ 140737488355328)
    (h : ∀ a' c' w', Own (fun k => F k ∨ Fr w w' k) w' t sz a' (n + m) c' (cs ++ news) → Upd F w w' → (a ≠ none → a' ≠ none) → wpList P ops Q rest (act.put o.dst (.slice a' (n + m) c')) w') : wpList P ops Q (o :: rest) act w := by
  refine wpList_plain hgd fun K hK => ?_
  obtain ⟨a', c', w', hrun, h2, h3, h4⟩ := run_append_Own (P := P) ts o.type ht hi hz hsize hby hzs hsz hown hr hl h1 hA h63 hbytes
  unfold Oper.wp execOp
  simp only [ho, resolve, invoke, builtin, Sem.run_bind, Sem.run_pure, Result.andThen_ok, List.map_toArray, List.map_cons, List.map_nil, hs, hx, hrun]
  exact hK _ _ (h a' c' w' h2 h3 h4)

/-- The same as one step of a region that draws. -/
theorem step_append_Own {ops : Array Oper} {o : Oper} {act : Act} {K : Act → World → Prop} {Q : Exit → Act → World → Prop} {E : Prop} {F R : Nat → Prop} {w : World} {t : TypeId} (hgd : o.guard = none) (s x : Operand) (ts : TypeId)
    (ho : o.op = .call { callee := .builtin .append, args := #[s, x], argTypes := #[ts, ts] })
    {i : TypeInfo} {z : Value} {sz bytes : Nat} (ht : P.underlying ts = some (.slice t)) (hi : P.info? t = some i) (hz : i.zero = some z)
    (hsize : i.size = sz) (hby : i.bytes = bytes) (hzs : z.cells.size = sz) (hsz : 0 < sz) {a : Option Addr} {n c : Nat} {cs : List Value} (hs : act.eval s = .slice a n c) (hown : Own F w t sz a n c cs)
    {A : Option Addr} {m d : Nat} {news : List Value} (hx : act.eval x = .slice A m d) (hr : Row R w A news) (hl : news.length = m * sz) (h1 : ∀ u ∈ news, u.oneCell' = true) (hA : A = none → d = 0)
    (h63 : n + m ≤ maxLen) (hbytes : (n + m) * bytes ≤ 140737488355328)
    (h : ∀ a' c' w', Own (fun k => F k ∨ Fr w w' k) w' t sz a' (n + m) c' (cs ++ news) → Upd F w w' → (a ≠ none → a' ≠ none) → K (act.put o.dst (.slice a' (n + m) c')) w') :
    if Region.wanted o (yielded ops act.tmps) = true then Oper.wp P o act w K Q else E := by
  have hw : Region.wanted o (yielded ops act.tmps) = true := by simp [Region.wanted, hgd]
  rw [if_pos hw]
  obtain ⟨a', c', w', hrun, h2, h3, h4⟩ := run_append_Own (P := P) ts o.type ht hi hz hsize hby hzs hsz hown hr hl h1 hA h63 hbytes
  unfold Oper.wp execOp
  simp only [ho, resolve, invoke, builtin, Sem.run_bind, Sem.run_pure, Result.andThen_ok, List.map_toArray, List.map_cons, List.map_nil, hs, hx, hrun]
  exact h a' c' w' h2 h3 h4

theorem run_append_fits_Own {F R : Nat → Prop} {w : World} {t : TypeId} (ts ty : TypeId) {i : TypeInfo} {sz : Nat} (ht : P.underlying ts = some (.slice t)) (hi : P.info? t = some i)
    (hsize : i.size = sz) (hsz : 0 < sz) {a : Option Addr} {n c : Nat} {cs : List Value} (hown : Own F w t sz a n c cs)
    {A : Option Addr} {m d : Nat} {news : List Value} (hr : Row R w A news) (hl : news.length = m * sz) (h1 : ∀ u ∈ news, u.oneCell' = true) (hA : A = none → d = 0) (hroom : n + m ≤ c) :
    ∃ w', (Builtin.append_ #[ts, ts] ty #[.slice a n c, .slice A m d]).run P w = .ok (.slice a (n + m) c) w' ∧ Own F w' t sz a (n + m) c (cs ++ news) ∧ Upd F w w' := by
  rcases hown.2 with ⟨rfl, rfl, rfl⟩ | ⟨g, cur, rfl, h2, h3, h4, h5, h6, h7⟩
  · obtain rfl : m = 0 := by omega
    obtain rfl : news = [] := List.eq_nil_of_length_eq_zero (by simpa using hl)
    refine ⟨w, ?_, by simpa using hown, Upd.refl _ _⟩
    cases A <;> simp [Builtin.append_, run_underlying ht, sizeOf, typeInfo, hi, Builtin.lenOf, Builtin.firstCells, loadCells, loadCellsFrom]
  · by_cases hm : news = []
    · subst hm
      obtain rfl : m = 0 := by
        rcases Nat.eq_zero_or_pos m with h | h
        · exact h
        · have := Nat.mul_pos h hsz
          simp at hl
          omega
      cases A with
      | none =>
        obtain rfl := hA rfl
        exact ⟨w, run_append_owned_none (P := P) w 0 ts ty t i sz ht hi _ n cs hown.ownsRow, by simpa using hown, Upd.refl _ _⟩
      | some ad =>
        obtain ⟨w', r1, r2, r3⟩ := run_append_fits (P := P) w 0 ts ty t i sz ht hi hsize g n c cs hown.ownsRow ad 0 d [] (by simp) (fun j u hu => by simp at hu) (fun u hu => by cases hu) hroom
        obtain ⟨a', c', e, ho⟩ := Own.ofRow (F := F) r2 (fun k hk => by simp [Value.ownBlock] at hk; exact hk ▸ h2)
        injection e with e1 e2 e3
        subst e1; subst e3
        exact ⟨w', r1, ho, Upd.ofGrown r3 (fun k hk => by injection hk with hk; exact .inl (hk ▸ h2))⟩
    · obtain ⟨b, o, rfl, _, hc⟩ := hr hm
      obtain ⟨w', r1, r2, r3⟩ := run_append_fits (P := P) w 0 ts ty t i sz ht hi hsize g n c cs hown.ownsRow ⟨b, o, none⟩ m d news hl (fun j u hu => by rw [Addr.add_lit]; exact hc j u hu) h1 hroom
      obtain ⟨a', c', e, ho⟩ := Own.ofRow (F := F) r2 (fun k hk => by simp [Value.ownBlock] at hk; exact hk ▸ h2)
      injection e with e1 e2 e3
      subst e1; subst e3
      exact ⟨w', r1, ho, Upd.ofGrown r3 (fun k hk => by injection hk with hk; exact .inl (hk ▸ h2))⟩

theorem wpList_append_fits_Own {ops : Array Oper} {rest : List Oper} {o : Oper} {act : Act} {Q : Exit → Act → World → Prop} {F R : Nat → Prop} {w : World} {t : TypeId} (hgd : o.guard = none) (s x : Operand) (ts : TypeId)
    (ho : o.op = .call { callee := .builtin .append, args := #[s, x], argTypes := #[ts, ts] })
    {i : TypeInfo} {sz : Nat} (ht : P.underlying ts = some (.slice t)) (hi : P.info? t = some i) (hsize : i.size = sz) (hsz : 0 < sz) {a : Option Addr} {n c : Nat} {cs : List Value} (hs : act.eval s = .slice a n c) (hown : Own F w t sz a n c cs)
    {A : Option Addr} {m d : Nat} {news : List Value} (hx : act.eval x = .slice A m d) (hr : Row R w A news) (hl : news.length = m * sz) (h1 : ∀ u ∈ news, u.oneCell' = true) (hA : A = none → d = 0) (hroom : n + m ≤ c)
    (h : ∀ w', Own F w' t sz a (n + m) c (cs ++ news) → Upd F w w' → wpList P ops Q rest (act.put o.dst (.slice a (n + m) c)) w') : wpList P ops Q (o :: rest) act w := by
  refine wpList_plain hgd fun K hK => ?_
  obtain ⟨w', hrun, h2, h3⟩ := run_append_fits_Own (P := P) ts o.type ht hi hsize hsz hown hr hl h1 hA hroom
  unfold Oper.wp execOp
  simp only [ho, resolve, invoke, builtin, Sem.run_bind, Sem.run_pure, Result.andThen_ok, List.map_toArray, List.map_cons, List.map_nil, hs, hx, hrun]
  exact hK _ _ (h w' h2 h3)

theorem step_append_fits_Own {ops : Array Oper} {o : Oper} {act : Act} {K : Act → World → Prop} {Q : Exit → Act → World → Prop} {E : Prop} {F R : Nat → Prop} {w : World} {t : TypeId} (hgd : o.guard = none) (s x : Operand) (ts : TypeId)
    (ho : o.op = .call { callee := .builtin .append, args := #[s, x], argTypes := #[ts, ts] })
    {i : TypeInfo} {sz : Nat} (ht : P.underlying ts = some (.slice t)) (hi : P.info? t = some i) (hsize : i.size = sz) (hsz : 0 < sz) {a : Option Addr} {n c : Nat} {cs : List Value} (hs : act.eval s = .slice a n c) (hown : Own F w t sz a n c cs)
    {A : Option Addr} {m d : Nat} {news : List Value} (hx : act.eval x = .slice A m d) (hr : Row R w A news) (hl : news.length = m * sz) (h1 : ∀ u ∈ news, u.oneCell' = true) (hA : A = none → d = 0) (hroom : n + m ≤ c)
    (h : ∀ w', Own F w' t sz a (n + m) c (cs ++ news) → Upd F w w' → K (act.put o.dst (.slice a (n + m) c)) w') :
    if Region.wanted o (yielded ops act.tmps) = true then Oper.wp P o act w K Q else E := by
  have hw : Region.wanted o (yielded ops act.tmps) = true := by simp [Region.wanted, hgd]
  rw [if_pos hw]
  obtain ⟨w', hrun, h2, h3⟩ := run_append_fits_Own (P := P) ts o.type ht hi hsize hsz hown hr hl h1 hA hroom
  unfold Oper.wp execOp
  simp only [ho, resolve, invoke, builtin, Sem.run_bind, Sem.run_pure, Result.andThen_ok, List.map_toArray, List.map_cons, List.map_nil, hs, hx, hrun]
  exact h w' h2 h3

/-- 'clear(s)' of one element of one cell. -/
theorem wpList_clear_one {ops : Array Oper} {rest : List Oper} {o : Oper} {act : Act} {Q : Exit → Act → World → Prop} {w : World} {t : TypeId} (hgd : o.guard = none) (x : Operand) (ts : TypeId)
    (ho : o.op = .call { callee := .builtin .clear, args := #[x], argTypes := #[ts] }) (ht : P.underlying ts = some (.slice t)) {z : Value} (hv : ∀ w, (zeroValue t).run P w = .ok z w) (hz : z.cells = #[z]) (h1 : z.oneCell' = true)
    {b q d : Nat} (hx : act.eval x = .slice (some ⟨b, q, none⟩) 1 d) (hc : ∃ u, w.cell? ⟨b, q, none⟩ = some u) (hf : w.frozen? ⟨b, q, none⟩ = false)
    (h : wpList P ops Q rest (act.put o.dst (.tuple #[])) (w.setCell ⟨b, q, none⟩ z)) : wpList P ops Q (o :: rest) act w := by
  refine wpList_plain hgd fun K hK => ?_
  obtain ⟨u, hu⟩ := hc
  have hrun := Lib.run_clear_slice (P := P) w ts t o.type z ht hv hz h1 b q 1 d (by decide) (fun j hj => by obtain rfl : j = 0 := (by omega); simp [hu]) (fun j hj => by obtain rfl : j = 0 := (by omega); simpa using hf)
  have hs : w.setCells b q (List.replicate 1 z) = w.setCell ⟨b, q, none⟩ z := by simp [World.setCells]
  rw [hs] at hrun
  unfold Oper.wp execOp
  simp only [ho, resolve, invoke, builtin, Sem.run_bind, Sem.run_pure, Result.andThen_ok, List.map_toArray, List.map_cons, List.map_nil, hx, hrun]
  exact hK _ _ h
end
end Go.Proofs.YtbaombnnagidcaaDoor
