/- The last step of a law's row: a call that returns true and leaves all old memory as it was meets the row's statement. -/
import Derived.Test.YtbaombnnagidcaaDoorRows
import Derived.WalkKit
import Derived.ProofKit
import Derived.OpenShut
import Derived.Lib.Hide
import Derived.Deep.QuietTactic
import Derived.BigQuiet
import Derived.Deep.DeepHandedRow
import Derived.Deep.Draws
import Derived.Deep.Slices
import Derived.Maps.AppendAt
import Derived.Deep.RegionLaw
import Derived.Deep.LoopGhost
import Derived.Deep.DeepCutAuto
import Derived.WalkSpells
import Derived.WalkLawsBesides

namespace Go.Proofs.YtbaombnnagidcaaDoor
open Go.ChangeShapes Go.WideShapes Go.ChangeAt Go.RowKit

theorem laidOut : laidOutB Tryd.prog = true := by kernel_rfl
theorem own : ownKnob Tryd.prog.godebug = none := by kernel_rfl

section
variable {H : Type} {enc : TypeId × Value → H} {P : Program}

/-- Arguments read in a world that below the old heap's size is as it was. -/
theorem trodAll_below (hl : laidOutB P = true) {W W' : World} (hb : Below W.heap.size W W') (sp : Nat → Bool) : ∀ {ts : List TypeId} {vs : List Value} {ds : List (DataW H)} {ps : List MemPlace},
    (∀ t ∈ ts, P.readableRec t = true ∧ t < P.types.size) → (∀ p ∈ ps, p.block < W.heap.size ∧ sp p.block = true) →
    DataW.TrodAll enc P W 0 (fun _ => true) true ts vs ds ps → DataW.TrodAll enc P W' 0 sp true ts vs ds ps
  | [], _, _, _, _, _, h => by
    obtain ⟨rfl, rfl, rfl⟩ := trodAll_nil h
    exact trodAll_mk0
  | t :: ts, _, _, _, hr, hp, h => by
    obtain ⟨v, vs1, d, ds1, a, b, rfl, rfl, rfl, h1, h2⟩ := trodAll_cons h
    have hpa : ∀ p ∈ a, p.block < W.heap.size ∧ sp p.block = true := fun p hm => hp p (List.mem_append_left _ hm)
    have hpb : ∀ p ∈ b, p.block < W.heap.size ∧ sp p.block = true := fun p hm => hp p (List.mem_append_right _ hm)
    exact trodAll_cons_mk (WideElems.Trod_stays hl (hr t (List.mem_cons_self ..)).1 (hr t (List.mem_cons_self ..)).2 h1 (fun x hx => hb.same (hpa x hx).1) (fun x hx => (hpa x hx).2))
      (trodAll_below hl hb sp (fun t ht => hr t (List.mem_cons_of_mem _ ht)) hpb h2)

/-- THE POST OF A LAW: true, and nothing that was there has turned. -/
theorem post_law {f : Func} {s : ChangeSpec} {fresh handsOn again : Bool} {W W' : World} {args : Array Value} {ds gs : List (DataW H)} {before : List MemPlace} {tb : TypeId}
    (hl : laidOutB P = true) (hread : ∀ t ∈ f.params.toList, P.readableRec t = true ∧ t < P.types.size) (hres : f.resultTypes = #[tb]) (htb : P.underlying tb = some .bool) (hvars : s.vars = [])
    (hspec : s.fn H (ds ++ gs) = { results := [.lit (.bool true)], args := ds })
    (hW : DataW.Whole enc P f.params.toList s.vars false W args.toList ds gs before) (hb : Below W.heap.size W W') :
    s.post enc P f false fresh handsOn again W args (.bool true) W' := by
  have hlt : ∀ p ∈ before, p.block < W.heap.size := fun p hp => hW.lt p hp
  obtain ⟨p, q, hA, hV, hpq, hz, hn⟩ := id hW
  rw [hvars] at hV
  obtain ⟨rfl, rfl⟩ := trodVars_none hV
  have hpe : before = p := by rw [hpq, List.append_nil]
  subst hpe
  have hr : ∀ (b : Nat) (sp : Nat → Bool) (hd : Bool), DataW.TrodAll enc P W' b sp hd f.resultTypes.toList ((Value.bool true).resultList f.resultTypes.size) (s.fn H (ds ++ [])).results [] := by
    intro b sp hd
    rw [hspec, hres]
    exact trodAll_cons_mk (shut_bool htb _) trodAll_mk0
  have ha : ∀ sp : Nat → Bool, (∀ p ∈ before, sp p.block = true) → DataW.TrodAll enc P W' 0 sp true f.params.toList args.toList (s.fn H (ds ++ [])).args before := by
    intro sp hsp
    rw [hspec]
    exact trodAll_below hl hb sp hread (fun p hp => ⟨hlt p hp, hsp p hp⟩) hA
  have hv : ∀ sp : Nat → Bool, DataW.TrodVars enc P W' sp s.vars (s.fn H (ds ++ [])).vars [] := by
    intro sp
    rw [hspec, hvars]
    exact rfl
  have hold : ∀ p ∈ before, (fun b => decide (b < W.heap.size)) p.block = true := fun p hp => by simpa using hlt p hp
  refine ⟨ds, [], before, [], before, [], hW, hr _ _ _, ha _ hold, hv _, World.keptBut_mono (fun p hp => ⟨hp, Or.inr (Or.inl hp)⟩) (hb.frame (· ∈ before)), fun _ => ?_⟩
  refine ⟨ok_one hres rfl (okWide_bool_mk htb _), _, _, ([] ++ before) ++ [], ⟨[] ++ before, [], trodAll_append (ha _ (fun _ _ => rfl)) (hr _ _ _), hv _, rfl, ?_, ?_⟩, ?_⟩
  · intro b off hp
    have hin : MemPlace.cell b off ∈ before := by simpa using hp
    rw [hb.frozen (hlt _ hin)]
    exact hz b off hin
  · intro ha
    cases ha
  · intro p hp _
    simpa using hp
end
end Go.Proofs.YtbaombnnagidcaaDoor

namespace Go.Proofs.YtbaombnnagidcaaDoor
open Go.RowKit

/-- Of the old blocks at most those of G have turned. -/
structure Upd (G : Nat → Prop) (w w' : World) : Prop where
  os : w'.os = w.os
  tape : w'.tape = w.tape
  output : w'.output = w.output
  size : w.heap.size ≤ w'.heap.size
  block : ∀ k, k < w.heap.size → ¬ G k → w'.heap[k]? = w.heap[k]?

/-- No block. -/
def Nil : Nat → Prop := fun _ => False
/-- The blocks that are new in w'. -/
def Fr (w w' : World) : Nat → Prop := fun k => w.heap.size ≤ k ∧ k < w'.heap.size
/-- The one block b. -/
def One (b : Nat) : Nat → Prop := fun k => k = b

namespace Upd
variable {G G' : Nat → Prop} {w w' w'' : World}
theorem refl (G : Nat → Prop) (w : World) : Upd G w w := ⟨rfl, rfl, rfl, Nat.le_refl _, fun _ _ _ => rfl⟩
theorem trans (h : Upd G w w') (k : Upd G' w' w'') (hG : ∀ k, G' k → k < w.heap.size → G k) : Upd G w w'' :=
  ⟨k.os.trans h.os, k.tape.trans h.tape, k.output.trans h.output, Nat.le_trans h.size k.size, fun i hi hg =>
    (k.block i (Nat.lt_of_lt_of_le hi h.size) (fun g => hg (hG i g hi))).trans (h.block i hi hg)⟩
theorem mono (h : Upd G w w') (hG : ∀ k, G k → G' k) : Upd G' w w' := ⟨h.os, h.tape, h.output, h.size, fun i hi hg => h.block i hi (fun g => hg (hG i g))⟩
theorem ofNil (h : Upd Nil w w') : Upd G w w' := h.mono (fun _ f => f.elim)
theorem drew (h : Upd G w w') : Upd G w w'.drew := ⟨h.os, h.tape, h.output, h.size, h.block⟩
theorem drewN (h : Upd G w w') (n : Nat) : Upd G w (w'.drewN n) := ⟨h.os, h.tape, h.output, h.size, h.block⟩
theorem ofDrew (h : Upd G w.drew w') : Upd G w w' := ⟨h.os, h.tape, h.output, h.size, h.block⟩
theorem ofDrewN {n : Nat} (h : Upd G (w.drewN n) w') : Upd G w w' := ⟨h.os, h.tape, h.output, h.size, h.block⟩
theorem alloc (h : Upd G w w') (o : Obj) : Upd G w (w'.alloc o) :=
  ⟨h.os, h.tape, h.output, Nat.le_trans h.size (by simp), fun k hk hg => (Below.heap_alloc _ _ _ (Nat.lt_of_lt_of_le hk h.size)).trans (h.block k hk hg)⟩
theorem setCell (h : Upd G w w') {p : Addr} (hp : G p.block ∨ w.heap.size ≤ p.block) (u : Value) : Upd G w (w'.setCell p u) :=
  ⟨h.os, h.tape, h.output, by simpa [World.setCell] using h.size, fun k hk hg => (Below.heap_setCell _ _ _ _ (by
    rintro rfl
    rcases hp with hp | hp
    · exact hg hp
    · omega)).trans (h.block k hk hg)⟩
theorem below (h : Upd Nil w w') : Below w.heap.size w w' := ⟨h.os, h.tape, h.output, h.size, fun k hk => h.block k hk (fun f => f)⟩
theorem ofBelow (h : Below w.heap.size w w') : Upd G w w' := ⟨h.os, h.tape, h.output, h.size, fun k hk _ => h.block k hk⟩
theorem grown {row : Option Nat} (h : Upd G w w') (hg : w'.grownBy w'' row) (hr : ∀ k, row = some k → G k ∨ w.heap.size ≤ k) : Upd G w w'' :=
  ⟨hg.os.trans h.os, hg.tape.trans h.tape, hg.output.trans h.output, Nat.le_trans h.size hg.size, fun k hk hn =>
    (hg.block k (Nat.lt_of_lt_of_le hk h.size) (fun e => by
      rcases hr k e.symm with g | g
      · exact hn g
      · omega)).trans (h.block k hk hn)⟩
theorem ofGrown {row : Option Nat} (hg : w.grownBy w' row) (hr : ∀ k, row = some k → G k ∨ w.heap.size ≤ k) : Upd G w w' := (refl G w).grown hg hr
theorem cell (h : Upd G w w') {a : Addr} {v : Value} (hc : w.cell? a = some v) (hg : ¬ G a.block) : w'.cell? a = some v :=
  (World.cell?_of_block (h.block a.block (World.block_lt_of_cell? w a hc) hg)).trans hc
theorem heap (h : Upd G w w') {b : Nat} {o : Obj} (hb : w.heap[b]? = some o) (hg : ¬ G b) : w'.heap[b]? = some o :=
  (h.block b (Array.getElem?_eq_some_iff.1 hb).1 hg).trans hb
end Upd

/-! ### A block that is known whole -/
def Blk (w : World) (g : Nat) (t : TypeId) (cs : Array Value) : Prop := w.heap[g]? = some (.cells cs t (0, 0))
namespace Blk
variable {G : Nat → Prop} {w w' : World} {g : Nat} {t : TypeId} {cs : Array Value}
theorem lt (h : Blk w g t cs) : g < w.heap.size := (Array.getElem?_eq_some_iff.1 h).1
theorem cell (h : Blk w g t cs) (i : Nat) : w.cell? ⟨g, i, none⟩ = cs[i]? := cell_of_row w g i cs t (0, 0) h
theorem frozen (h : Blk w g t cs) (i : Nat) : w.frozen? ⟨g, i, none⟩ = false := frozen_of_row w g i cs t h
theorem new (w : World) (t : TypeId) (cs : Array Value) : Blk (w.alloc (.cells cs t)) w.heap.size t cs := heap_alloc_new w _
theorem drew (h : Blk w g t cs) : Blk w.drew g t cs := h
theorem drewN (h : Blk w g t cs) (n : Nat) : Blk (w.drewN n) g t cs := h
theorem alloc (h : Blk w g t cs) (o : Obj) : Blk (w.alloc o) g t cs := (Below.heap_alloc w o g h.lt).trans h
theorem set (h : Blk w g t cs) (i : Nat) (u : Value) : Blk (w.setCell ⟨g, i, none⟩ u) g t (cs.setIfInBounds i u) := heap_setCell_same w g i cs t u h
theorem far (h : Blk w g t cs) {p : Addr} (hp : g ≠ p.block) (u : Value) : Blk (w.setCell p u) g t cs := (Below.heap_setCell w p u g hp).trans h
theorem upd (h : Blk w g t cs) (u : Upd G w w') (hg : ¬ G g) : Blk w' g t cs := u.heap h hg
end Blk

/-! ### A slice that reads as a list of cells -/
/-- The slice at address a reads the cells cs; they lie in a block of F. -/
def Row (F : Nat → Prop) (w : World) (a : Option Addr) (cs : List Value) : Prop :=
  cs ≠ [] → ∃ b o, a = some ⟨b, o, none⟩ ∧ F b ∧ ∀ i u, cs[i]? = some u → w.cell? ⟨b, o + i, none⟩ = some u
namespace Row
variable {F F' G : Nat → Prop} {w w' : World} {a : Option Addr} {cs : List Value}
theorem nil (F : Nat → Prop) (w : World) (a : Option Addr) : Row F w a [] := fun h => absurd rfl h
theorem mono (h : Row F w a cs) (hF : ∀ k, F k → F' k) : Row F' w a cs := fun hn => by
  obtain ⟨b, o, h1, h2, h3⟩ := h hn
  exact ⟨b, o, h1, hF _ h2, h3⟩
theorem upd (h : Row F w a cs) (u : Upd G w w') (hd : ∀ k, F k → ¬ G k) : Row F w' a cs := fun hn => by
  obtain ⟨b, o, h1, h2, h3⟩ := h hn
  exact ⟨b, o, h1, h2, fun i v hv => u.cell (h3 i v hv) (hd b h2)⟩
theorem keep (h : Row F w a cs) (u : Upd Nil w w') : Row F w' a cs := h.upd u (fun _ _ f => f)
theorem drew (h : Row F w a cs) : Row F w.drew a cs := h
theorem drewN (h : Row F w a cs) (n : Nat) : Row F (w.drewN n) a cs := h
theorem alloc (h : Row F w a cs) (o : Obj) : Row F (w.alloc o) a cs := h.keep ((Upd.refl Nil w).alloc o)
/-- all blocks lie in the heap -/
theorem inHeap (h : Row F w a cs) : Row (fun k => F k ∧ k < w.heap.size) w a cs := fun hn => by
  obtain ⟨b, o, h1, h2, h3⟩ := h hn
  refine ⟨b, o, h1, ⟨h2, ?_⟩, h3⟩
  match cs, hn with
  | c :: _, _ => exact World.block_lt_of_cell? w _ (h3 0 c rfl)
/-- the cut s[k:m] -/
theorem cut (h : Row F w a cs) (k m : Nat) {b o : Nat} (hk : (cs.drop k).take m ≠ []) (ha : a = some ⟨b, o, none⟩) : Row F w (some ⟨b, o + k, none⟩) ((cs.drop k).take m) := fun _ => by
  have hne : cs ≠ [] := by rintro rfl; simp at hk
  obtain ⟨b', o', h1, h2, h3⟩ := h hne
  rw [ha] at h1
  obtain ⟨rfl, rfl⟩ : b = b' ∧ o = o' := by simpa using h1
  refine ⟨b, o + k, rfl, h2, fun i v hv => ?_⟩
  rw [Nat.add_assoc]
  refine h3 (k + i) v ?_
  rw [List.getElem?_take] at hv
  split at hv
  · rwa [List.getElem?_drop] at hv
  · cases hv
theorem take (h : Row F w a cs) (m : Nat) : Row F w a (cs.take m) := fun hn => by
  obtain ⟨b, o, h1, h2, h3⟩ := h (by rintro rfl; simp at hn)
  refine ⟨b, o, h1, h2, fun i v hv => h3 i v ?_⟩
  rw [List.getElem?_take] at hv
  split at hv
  · exact hv
  · cases hv
/-- the model's own spelling of a cut's address -/
theorem drop (h : Row F w a cs) (k c : Nat) (hk : k ≤ cs.length) (hc : cs.length ≤ c) : Row F w (if c = k then a else a.map (·.add k)) (cs.drop k) := fun hn => by
  have hlt : k < cs.length := by
    rcases Nat.lt_or_ge k cs.length with h | h
    · exact h
    · simp [List.drop_eq_nil_of_le h] at hn
  obtain ⟨b, o, rfl, h2, h3⟩ := h (by rintro rfl; simp at hlt)
  rw [if_neg (by omega)]
  refine ⟨b, o + k, by simp [Addr.add_lit], h2, fun i v hv => ?_⟩
  rw [Nat.add_assoc]
  rw [List.getElem?_drop] at hv
  exact h3 _ v hv
/-- the same, the address written out -/
theorem dropAt {b o : Nat} (h : Row F w (some ⟨b, o, none⟩) cs) (k c : Nat) (hk : k ≤ cs.length) (hc : cs.length ≤ c) : Row F w (if c = k then some ⟨b, o, none⟩ else some ⟨b, o + k, none⟩) (cs.drop k) := by
  have := h.drop k c hk hc
  simpa [Addr.add_lit] using this
end Row

/-! ### bytes -/
def bv (x : UInt8) : Value := .int .u8 (x.toNat : Int)
def bvs (xs : List UInt8) : List Value := xs.map bv
@[simp] theorem length_bvs (xs : List UInt8) : (bvs xs).length = xs.length := by simp [bvs]
theorem bvs_append (xs ys : List UInt8) : bvs (xs ++ ys) = bvs xs ++ bvs ys := by simp [bvs]
theorem bvs_take (xs : List UInt8) (n : Nat) : bvs (xs.take n) = (bvs xs).take n := by simp [bvs]
theorem bvs_drop (xs : List UInt8) (n : Nat) : bvs (xs.drop n) = (bvs xs).drop n := by simp [bvs]
theorem bvs_one (xs : List UInt8) : ∀ u ∈ bvs xs, u.oneCell' = true := by
  intro u hu
  obtain ⟨x, _, rfl⟩ := List.mem_map.1 hu
  rfl
theorem bvs_get (xs : List UInt8) (i : Nat) (h : i < xs.length) : (bvs xs)[i]? = some (.int .u8 (xs[i].toNat : Int)) := by simp [bvs, bv, h]
theorem bvs_inj {xs ys : List UInt8} (h : bvs xs = bvs ys) : xs = ys := by
  induction xs generalizing ys with
  | nil => cases ys with
    | nil => rfl
    | cons _ _ => simp [bvs] at h
  | cons x xs ih => cases ys with
    | nil => simp [bvs] at h
    | cons y ys =>
      simp only [bvs, List.map_cons, List.cons.injEq, bv, Value.int.injEq, true_and] at h
      have hxy : x = y := UInt8.toNat_inj.1 (by omega)
      rw [hxy, ih h.2]
theorem Row.byteAt {F : Nat → Prop} {w : World} {a : Option Addr} {xs : List UInt8} (h : Row F w a (bvs xs)) {i : Nat} (hi : i < xs.length) :
    ∃ b o, a = some ⟨b, o, none⟩ ∧ F b ∧ w.cell? ⟨b, o + i, none⟩ = some (.int .u8 (xs[i].toNat : Int)) := by
  obtain ⟨b, o, h1, h2, h3⟩ := h (by intro e; have := congrArg List.length e; simp at this; subst this; simp at hi)
  exact ⟨b, o, h1, h2, h3 i _ (bvs_get xs i hi)⟩

/-! ### A slice in a row of its own -/
/-- '.slice a n c' is nil, or begins a row of elements of type t (sz cells each) whose block is one of F, not frozen; its first n elements' cells are cs. -/
def Own (F : Nat → Prop) (w : World) (t : TypeId) (sz : Nat) (a : Option Addr) (n c : Nat) (cs : List Value) : Prop :=
  cs.length = n * sz ∧ ((a = none ∧ n = 0 ∧ c = 0) ∨
    ∃ g cur, a = some ⟨g, 0, none⟩ ∧ F g ∧ w.heap[g]? = some (.cells cur t (0, 0)) ∧ n ≤ c ∧ c ≤ maxLen ∧ cur.size = c * sz ∧ cur.toList.take (n * sz) = cs)
namespace Own
variable {F F' G : Nat → Prop} {w w' : World} {t : TypeId} {sz : Nat} {a : Option Addr} {n c : Nat} {cs : List Value}
theorem none_ (F : Nat → Prop) (w : World) (t : TypeId) (sz : Nat) : Own F w t sz none 0 0 [] := ⟨by simp, .inl ⟨rfl, rfl, rfl⟩⟩
theorem mono (h : Own F w t sz a n c cs) (hF : ∀ k, F k → F' k) : Own F' w t sz a n c cs := by
  refine ⟨h.1, ?_⟩
  rcases h.2 with h | ⟨g, cur, h1, h2, h3⟩
  · exact .inl h
  · exact .inr ⟨g, cur, h1, hF _ h2, h3⟩
theorem upd (h : Own F w t sz a n c cs) (u : Upd G w w') (hd : ∀ k, F k → ¬ G k) : Own F w' t sz a n c cs := by
  refine ⟨h.1, ?_⟩
  rcases h.2 with h | ⟨g, cur, h1, h2, h3, h4⟩
  · exact .inl h
  · exact .inr ⟨g, cur, h1, h2, u.heap h3 (hd g h2), h4⟩
theorem keep (h : Own F w t sz a n c cs) (u : Upd Nil w w') : Own F w' t sz a n c cs := h.upd u (fun _ _ f => f)
theorem drew (h : Own F w t sz a n c cs) : Own F w.drew t sz a n c cs := h
theorem drewN (h : Own F w t sz a n c cs) (k : Nat) : Own F (w.drewN k) t sz a n c cs := h
theorem alloc (h : Own F w t sz a n c cs) (o : Obj) : Own F (w.alloc o) t sz a n c cs := h.keep ((Upd.refl Nil w).alloc o)
theorem inHeap (h : Own F w t sz a n c cs) : Own (fun k => F k ∧ k < w.heap.size) w t sz a n c cs := by
  refine ⟨h.1, ?_⟩
  rcases h.2 with h | ⟨g, cur, h1, h2, h3, h4⟩
  · exact .inl h
  · exact .inr ⟨g, cur, h1, ⟨h2, (Array.getElem?_eq_some_iff.1 h3).1⟩, h3, h4⟩
theorem le (h : Own F w t sz a n c cs) : n ≤ c ∧ c ≤ maxLen := by
  rcases h.2 with ⟨_, rfl, rfl⟩ | ⟨g, cur, _, _, _, h4, h5, _⟩
  · simp
  · exact ⟨h4, h5⟩
theorem row (h : Own F w t sz a n c cs) : Row F w a cs := fun hn => by
  rcases h.2 with ⟨_, rfl, _⟩ | ⟨g, cur, h1, h2, h3, _, _, _, h7⟩
  · exact absurd (List.eq_nil_of_length_eq_zero (by simpa using h.1)) hn
  · refine ⟨g, 0, h1, h2, fun i u hu => ?_⟩
    rw [Nat.zero_add, cell_of_row w g i cur t (0, 0) h3]
    rw [← h7, List.getElem?_take] at hu
    split at hu
    · simpa using hu
    · cases hu
theorem ownsRow (h : Own F w t sz a n c cs) : w.ownsRow 0 t sz (.slice a n c) n cs := by
  refine ⟨h.1, ?_⟩
  rcases h.2 with ⟨rfl, rfl, rfl⟩ | ⟨g, cur, rfl, _, h3, h4, h5, h6, h7⟩
  · exact .inl ⟨rfl, rfl⟩
  · exact .inr ⟨g, c, cur, rfl, Nat.zero_le _, h3, h4, h5, h6, h7⟩
theorem ofRow {v : Value} (h : w.ownsRow 0 t sz v n cs) (hF : ∀ k, v.ownBlock = some k → F k) : ∃ a c, v = .slice a n c ∧ Own F w t sz a n c cs := by
  rcases h.2 with ⟨rfl, rfl⟩ | ⟨g, c, cur, rfl, _, h3, h4, h5, h6, h7⟩
  · exact ⟨none, 0, rfl, h.1, .inl ⟨rfl, rfl, rfl⟩⟩
  · exact ⟨_, c, rfl, h.1, .inr ⟨g, cur, rfl, hF g rfl, h3, h4, h5, h6, h7⟩⟩
/-- a row just made: n elements, all of them in use -/
theorem lit (w : World) (cur : Array Value) (n : Nat) (hm : n ≤ maxLen) (hs : cur.size = n * sz) : Own (One w.heap.size) (w.alloc (.cells cur t)) t sz (some ⟨w.heap.size, 0, none⟩) n n cur.toList :=
  ⟨by simpa using hs, .inr ⟨w.heap.size, cur, rfl, rfl, heap_alloc_new w _, Nat.le_refl _, hm, hs, List.take_of_length_le (by simp [hs])⟩⟩
/-- s[:m] of a row of one's own -/
theorem shorten (h : Own F w t sz a n c cs) {m : Nat} (hm : m ≤ n) : Own F w t sz a m c (cs.take (m * sz)) := by
  have hle : m * sz ≤ n * sz := Nat.mul_le_mul_right _ hm
  refine ⟨by rw [List.length_take, h.1]; omega, ?_⟩
  rcases h.2 with ⟨rfl, rfl, rfl⟩ | ⟨g, cur, h1, h2, h3, h4, h5, h6, h7⟩
  · exact .inl ⟨rfl, by omega, rfl⟩
  · refine .inr ⟨g, cur, h1, h2, h3, by omega, h5, h6, ?_⟩
    rw [← h7, List.take_take, Nat.min_eq_left hle]
/-- a store into one of its cells -/
theorem stored (h : Own F w t sz a n c cs) {g : Nat} (hg : a = some ⟨g, 0, none⟩) (j : Nat) (u : Value) : Own F (w.setCell ⟨g, j, none⟩ u) t sz a n c (cs.set j u) := by
  refine ⟨by simpa using h.1, ?_⟩
  rcases h.2 with ⟨rfl, _, _⟩ | ⟨g', cur, h1, h2, h3, h4, h5, h6, h7⟩
  · cases hg
  · rw [h1] at hg
    obtain rfl : g' = g := by simpa using hg
    refine .inr ⟨g', cur.setIfInBounds j u, h1, h2, heap_setCell_same w g' j cur t u h3, h4, h5, by simpa using h6, ?_⟩
    rw [Array.toList_setIfInBounds, ← h7, List.take_set]
theorem frozen (h : Own F w t sz a n c cs) {g : Nat} (hg : a = some ⟨g, 0, none⟩) (j : Nat) : w.frozen? ⟨g, j, none⟩ = false := by
  rcases h.2 with ⟨rfl, _, _⟩ | ⟨g', cur, h1, h2, h3, _⟩
  · cases hg
  · rw [h1] at hg
    obtain rfl : g' = g := by simpa using hg
    exact frozen_of_row w g' j cur t h3
/-- each cell up to the capacity is there -/
theorem there (h : Own F w t sz a n c cs) {g : Nat} (hg : a = some ⟨g, 0, none⟩) {j : Nat} (hj : j < c * sz) : ∃ u, w.cell? ⟨g, j, none⟩ = some u := by
  rcases h.2 with ⟨rfl, _, _⟩ | ⟨g', cur, h1, h2, h3, h4, h5, h6, h7⟩
  · cases hg
  · rw [h1] at hg
    obtain rfl : g' = g := by simpa using hg
    rw [cell_of_row w g' j cur t (0, 0) h3]
    exact ⟨cur[j]'(by omega), Array.getElem?_eq_getElem (by omega)⟩
/-- a store behind the cells in use -/
theorem behind (h : Own F w t sz a n c cs) {g : Nat} (hg : a = some ⟨g, 0, none⟩) {j : Nat} (hj : n * sz ≤ j) (u : Value) : Own F (w.setCell ⟨g, j, none⟩ u) t sz a n c cs := by
  have := h.stored hg j u
  rwa [List.set_eq_of_length_le (by rw [h.1]; exact hj)] at this
theorem noneCap (h : Own F w t sz a n c cs) (ha : a = none) : c = 0 := by
  rcases h.2 with ⟨_, _, hc⟩ | ⟨g, cur, h1, _⟩
  · exact hc
  · rw [ha] at h1; cases h1
theorem isNone (h : Own F w t sz a n c cs) (hn : n ≠ 0) : ∃ g, a = some ⟨g, 0, none⟩ ∧ F g := by
  rcases h.2 with ⟨_, rfl, _⟩ | ⟨g, cur, h1, h2, _⟩
  · exact absurd rfl hn
  · exact ⟨g, h1, h2⟩
end Own

/-- the one cell of a literal of one element -/
theorem one_row (w : World) (v : Value) (t : TypeId) : Row (One w.heap.size) (w.alloc (.cells #[v] t)) (some ⟨w.heap.size, 0, none⟩) [v] := fun _ =>
  ⟨_, 0, rfl, rfl, fun i u hu => by
    rw [Nat.zero_add, World.cell?_alloc_new]
    simpa using hu⟩

/-! ### the text of a slice of bytes -/
def str (xs : List UInt8) : ByteArray := ⟨xs.toArray⟩
theorem str_toList (xs : List UInt8) : (str xs).toList = xs := by
  rw [ByteArray.toList_eq]
  rfl
theorem run_convert_Row {P : Program} {F : Nat → Prop} {w : World} {a : Option Addr} {xs : List UInt8} (h : Row F w a (bvs xs)) (src e dst : TypeId) (hs : P.underlying src = some (.slice e)) (he : P.underlying e = some (.int .u8)) (hd : P.underlying dst = some .string) (c : Nat) :
    (convert src dst (.slice a xs.length c)).run P w = .ok (.string (str xs)) w := by
  cases xs with
  | nil =>
    rw [run_convert_bytes_string w src dst e _ _ c hs he hd]
    cases a <;> simp [Conv.bytesToString, loadCells]
    all_goals rfl
  | cons x xs =>
    obtain ⟨b, o, rfl, _, hc⟩ := h (by simp [bvs])
    have := run_convert_bytes_arg (P := P) w src e hs he b o (x :: xs).length c ((x :: xs).map fun y => (y.toNat : Int)) (by simp) (fun i hi => by
      rw [hc i _ (bvs_get (x :: xs) i hi)]
      rw [List.getD, List.getElem?_eq_getElem (show i < ((x :: xs).map fun y => (y.toNat : Int)).length by simpa using hi), Option.getD_some, List.getElem_map]) dst hd
    rw [this]
    congr 2
    simp only [strOfNums, str, List.map_map]
    congr 1
    have : ((fun n : Int => UInt8.ofNat n.toNat) ∘ fun y : UInt8 => (y.toNat : Int)) = id := by
      funext y
      simp
    rw [this, List.map_id]

theorem le_max {n : Nat} (h : n ≤ maxLen) : n ≤ 9223372036854775807 := by
  simp only [maxLen] at h
  omega

/-! ### append onto a row of one's own, from whatever source -/
section
variable {P : Program}
theorem run_append_Own {F R : Nat → Prop} {w : World} {t : TypeId} (ts ty : TypeId) {i : TypeInfo} {z : Value} {sz bytes : Nat} (ht : P.underlying ts = some (.slice t)) (hi : P.info? t = some i) (hz : i.zero = some z)
    (hsize : i.size = sz) (hby : i.bytes = bytes) (hzs : z.cells.size = sz) (hsz : 0 < sz) {a : Option Addr} {n c : Nat} {cs : List Value} (hown : Own F w t sz a n c cs)
    {A : Option Addr} {m d : Nat} {news : List Value} (hr : Row R w A news) (hl : news.length = m * sz) (h1 : ∀ u ∈ news, u.oneCell' = true) (hA : A = none → d = 0)
    (h63 : n + m ≤ maxLen) (hbytes : (n + m) * bytes ≤ 140737488355328) :
    ∃ a' c' w', (Builtin.append_ #[ts, ts] ty #[.slice a n c, .slice A m d]).run P w = .ok (.slice a' (n + m) c') w' ∧ Own (fun k => F k ∨ Fr w w' k) w' t sz a' (n + m) c' (cs ++ news) ∧ Upd F w w' ∧
      (a ≠ none → a' ≠ none) := by
  have src : ∃ v' w', (Builtin.append_ #[ts, ts] ty #[.slice a n c, .slice A m d]).run P w = .ok v' w' ∧ w'.ownsRow 0 t sz v' (n + m) (cs ++ news) ∧ w.grownBy w' (Value.slice a n c).ownBlock ∧
      (v'.ownBlock = (Value.slice a n c).ownBlock ∨ v'.ownBlock = some w.heap.size) ∧ (a ≠ none → v' ≠ .slice none 0 0) := by
    by_cases hm : news = []
    · subst hm
      obtain rfl : m = 0 := by
        rcases Nat.eq_zero_or_pos m with h | h
        · exact h
        · have := Nat.mul_pos h hsz
          simp at hl
          omega
      cases A with
      | none =>
        obtain rfl := hA rfl
        refine ⟨.slice a n c, w, run_append_owned_none (P := P) w 0 ts ty t i sz ht hi _ n cs hown.ownsRow, by simpa using hown.ownsRow, ⟨rfl, rfl, rfl, Nat.le_refl _, fun _ _ _ => rfl⟩, .inl rfl, fun hne => ?_⟩
        intro e
        injection e with e
        exact hne e
      | some ad =>
        obtain ⟨v', w', r1, r2, r3, r4, r5⟩ := run_append_own_at (P := P) w 0 ts ty t i z sz bytes ht hi hz hsize hby hzs hsz _ n cs hown.ownsRow ad 0 d [] (by simp) (fun j u hu => by simp at hu) (fun u hu => by cases hu) h63 hbytes (Nat.zero_le _)
        exact ⟨v', w', r1, r2, r3, r5, fun hne e => hne (by have := (r4.1 e).1; injection this)⟩
    · obtain ⟨b, o, rfl, _, hc⟩ := hr hm
      obtain ⟨v', w', r1, r2, r3, r4, r5⟩ := run_append_own_at (P := P) w 0 ts ty t i z sz bytes ht hi hz hsize hby hzs hsz _ n cs hown.ownsRow ⟨b, o, none⟩ m d news hl (fun j u hu => by rw [Addr.add_lit]; exact hc j u hu) h1 h63 hbytes (Nat.zero_le _)
      exact ⟨v', w', r1, r2, r3, r5, fun hne e => hne (by have := (r4.1 e).1; injection this)⟩
  obtain ⟨v', w', r1, r2, r3, r4, r5⟩ := src
  have hF : ∀ k, (Value.slice a n c).ownBlock = some k → F k := by
    intro k hk
    rcases hown.2 with ⟨rfl, _, _⟩ | ⟨g, cur, rfl, h2, _⟩
    · simp [Value.ownBlock] at hk
    · simp [Value.ownBlock] at hk
      exact hk ▸ h2
  obtain ⟨a', c', rfl, hown'⟩ := Own.ofRow (F := fun k => F k ∨ Fr w w' k) r2 (fun k hk => by
    have hlt := (r2.lt k hk).2
    rcases r4 with e | e
    · rw [e] at hk
      exact .inl (hF k hk)
    · rw [e] at hk
      injection hk with hk
      exact .inr ⟨by omega, hlt⟩)
  exact ⟨a', c', w', r1, hown', Upd.ofGrown r3 (fun k hk => .inl (hF k hk)), fun hne e => r5 hne (by
    subst e
    rcases hown'.2 with ⟨_, h1, h2⟩ | ⟨g, _, h1, _⟩
    · rw [h1, h2]
    · cases h1)⟩

theorem wpList_append_Own {ops : Array Oper} {rest : List Oper} {o : Oper} {act : Act} {Q : Exit → Act → World → Prop} {F R : Nat → Prop} {w : World} {t : TypeId} (hgd : o.guard = none) (s x : Operand) (ts : TypeId)
    (ho : o.op = .call { callee := .builtin .append, args := #[s, x], argTypes := #[ts, ts] })
    {i : TypeInfo} {z : Value} {sz bytes : Nat} (ht : P.underlying ts = some (.slice t)) (hi : P.info? t = some i) (hz : i.zero = some z)
    (hsize : i.size = sz) (hby : i.bytes = bytes) (hzs : z.cells.size = sz) (hsz : 0 < sz) {a : Option Addr} {n c : Nat} {cs : List Value} (hs : act.eval s = .slice a n c) (hown : Own F w t sz a n c cs)
    {A : Option Addr} {m d : Nat} {news : List Value} (hx : act.eval x = .slice A m d) (hr : Row R w A news) (hl : news.length = m * sz) (h1 : ∀ u ∈ news, u.oneCell' = true) (hA : A = none → d = 0)
    (h63 : n + m ≤ maxLen) (hbytes : (n + m) * bytes ≤ 140737488355328)
    (h : ∀ a' c' w', Own (fun k => F k ∨ Fr w w' k) w' t sz a' (n + m) c' (cs ++ news) → Upd F w w' → (a ≠ none → a' ≠ none) → wpList P ops Q rest (act.put o.dst (.slice a' (n + m) c')) w') : wpList P ops Q (o :: rest) act w := by
  refine wpList_plain hgd fun K hK => ?_
  obtain ⟨a', c', w', hrun, h2, h3, h4⟩ := run_append_Own (P := P) ts o.type ht hi hz hsize hby hzs hsz hown hr hl h1 hA h63 hbytes
  unfold Oper.wp execOp
  simp only [ho, resolve, invoke, builtin, Sem.run_bind, Sem.run_pure, Result.andThen_ok, List.map_toArray, List.map_cons, List.map_nil, hs, hx, hrun]
  exact hK _ _ (h a' c' w' h2 h3 h4)

/-- The same as one step of a region that draws. -/
theorem step_append_Own {ops : Array Oper} {o : Oper} {act : Act} {K : Act → World → Prop} {Q : Exit → Act → World → Prop} {E : Prop} {F R : Nat → Prop} {w : World} {t : TypeId} (hgd : o.guard = none) (s x : Operand) (ts : TypeId)
    (ho : o.op = .call { callee := .builtin .append, args := #[s, x], argTypes := #[ts, ts] })
    {i : TypeInfo} {z : Value} {sz bytes : Nat} (ht : P.underlying ts = some (.slice t)) (hi : P.info? t = some i) (hz : i.zero = some z)
    (hsize : i.size = sz) (hby : i.bytes = bytes) (hzs : z.cells.size = sz) (hsz : 0 < sz) {a : Option Addr} {n c : Nat} {cs : List Value} (hs : act.eval s = .slice a n c) (hown : Own F w t sz a n c cs)
    {A : Option Addr} {m d : Nat} {news : List Value} (hx : act.eval x = .slice A m d) (hr : Row R w A news) (hl : news.length = m * sz) (h1 : ∀ u ∈ news, u.oneCell' = true) (hA : A = none → d = 0)
    (h63 : n + m ≤ maxLen) (hbytes : (n + m) * bytes ≤ 140737488355328)
    (h : ∀ a' c' w', Own (fun k => F k ∨ Fr w w' k) w' t sz a' (n + m) c' (cs ++ news) → Upd F w w' → (a ≠ none → a' ≠ none) → K (act.put o.dst (.slice a' (n + m) c')) w') :
    if Region.wanted o (yielded ops act.tmps) = true then Oper.wp P o act w K Q else E := by
  have hw : Region.wanted o (yielded ops act.tmps) = true := by simp [Region.wanted, hgd]
  rw [if_pos hw]
  obtain ⟨a', c', w', hrun, h2, h3, h4⟩ := run_append_Own (P := P) ts o.type ht hi hz hsize hby hzs hsz hown hr hl h1 hA h63 hbytes
  unfold Oper.wp execOp
  simp only [ho, resolve, invoke, builtin, Sem.run_bind, Sem.run_pure, Result.andThen_ok, List.map_toArray, List.map_cons, List.map_nil, hs, hx, hrun]
  exact h a' c' w' h2 h3 h4

theorem run_append_fits_Own {F R : Nat → Prop} {w : World} {t : TypeId} (ts ty : TypeId) {i : TypeInfo} {sz : Nat} (ht : P.underlying ts = some (.slice t)) (hi : P.info? t = some i)
    (hsize : i.size = sz) (hsz : 0 < sz) {a : Option Addr} {n c : Nat} {cs : List Value} (hown : Own F w t sz a n c cs)
    {A : Option Addr} {m d : Nat} {news : List Value} (hr : Row R w A news) (hl : news.length = m * sz) (h1 : ∀ u ∈ news, u.oneCell' = true) (hA : A = none → d = 0) (hroom : n + m ≤ c) :
    ∃ w', (Builtin.append_ #[ts, ts] ty #[.slice a n c, .slice A m d]).run P w = .ok (.slice a (n + m) c) w' ∧ Own F w' t sz a (n + m) c (cs ++ news) ∧ Upd F w w' := by
  rcases hown.2 with ⟨rfl, rfl, rfl⟩ | ⟨g, cur, rfl, h2, h3, h4, h5, h6, h7⟩
  · obtain rfl : m = 0 := by omega
    obtain rfl : news = [] := List.eq_nil_of_length_eq_zero (by simpa using hl)
    refine ⟨w, ?_, by simpa using hown, Upd.refl _ _⟩
    cases A <;> simp [Builtin.append_, run_underlying ht, sizeOf, typeInfo, hi, Builtin.lenOf, Builtin.firstCells, loadCells, loadCellsFrom]
  · by_cases hm : news = []
    · subst hm
      obtain rfl : m = 0 := by
        rcases Nat.eq_zero_or_pos m with h | h
        · exact h
        · have := Nat.mul_pos h hsz
          simp at hl
          omega
      cases A with
      | none =>
        obtain rfl := hA rfl
        exact ⟨w, run_append_owned_none (P := P) w 0 ts ty t i sz ht hi _ n cs hown.ownsRow, by simpa using hown, Upd.refl _ _⟩
      | some ad =>
        obtain ⟨w', r1, r2, r3⟩ := run_append_fits (P := P) w 0 ts ty t i sz ht hi hsize g n c cs hown.ownsRow ad 0 d [] (by simp) (fun j u hu => by simp at hu) (fun u hu => by cases hu) hroom
        obtain ⟨a', c', e, ho⟩ := Own.ofRow (F := F) r2 (fun k hk => by simp [Value.ownBlock] at hk; exact hk ▸ h2)
        injection e with e1 e2 e3
        subst e1; subst e3
        exact ⟨w', r1, ho, Upd.ofGrown r3 (fun k hk => by injection hk with hk; exact .inl (hk ▸ h2))⟩
    · obtain ⟨b, o, rfl, _, hc⟩ := hr hm
      obtain ⟨w', r1, r2, r3⟩ := run_append_fits (P := P) w 0 ts ty t i sz ht hi hsize g n c cs hown.ownsRow ⟨b, o, none⟩ m d news hl (fun j u hu => by rw [Addr.add_lit]; exact hc j u hu) h1 hroom
      obtain ⟨a', c', e, ho⟩ := Own.ofRow (F := F) r2 (fun k hk => by simp [Value.ownBlock] at hk; exact hk ▸ h2)
      injection e with e1 e2 e3
      subst e1; subst e3
      exact ⟨w', r1, ho, Upd.ofGrown r3 (fun k hk => by injection hk with hk; exact .inl (hk ▸ h2))⟩

theorem wpList_append_fits_Own {ops : Array Oper} {rest : List Oper} {o : Oper} {act : Act} {Q : Exit → Act → World → Prop} {F R : Nat → Prop} {w : World} {t : TypeId} (hgd : o.guard = none) (s x : Operand) (ts : TypeId)
    (ho : o.op = .call { callee := .builtin .append, args := #[s, x], argTypes := #[ts, ts] })
    {i : TypeInfo} {sz : Nat} (ht : P.underlying ts = some (.slice t)) (hi : P.info? t = some i) (hsize : i.size = sz) (hsz : 0 < sz) {a : Option Addr} {n c : Nat} {cs : List Value} (hs : act.eval s = .slice a n c) (hown : Own F w t sz a n c cs)
    {A : Option Addr} {m d : Nat} {news : List Value} (hx : act.eval x = .slice A m d) (hr : Row R w A news) (hl : news.length = m * sz) (h1 : ∀ u ∈ news, u.oneCell' = true) (hA : A = none → d = 0) (hroom : n + m ≤ c)
    (h : ∀ w', Own F w' t sz a (n + m) c (cs ++ news) → Upd F w w' → wpList P ops Q rest (act.put o.dst (.slice a (n + m) c)) w') : wpList P ops Q (o :: rest) act w := by
  refine wpList_plain hgd fun K hK => ?_
  obtain ⟨w', hrun, h2, h3⟩ := run_append_fits_Own (P := P) ts o.type ht hi hsize hsz hown hr hl h1 hA hroom
  unfold Oper.wp execOp
  simp only [ho, resolve, invoke, builtin, Sem.run_bind, Sem.run_pure, Result.andThen_ok, List.map_toArray, List.map_cons, List.map_nil, hs, hx, hrun]
  exact hK _ _ (h w' h2 h3)

theorem step_append_fits_Own {ops : Array Oper} {o : Oper} {act : Act} {K : Act → World → Prop} {Q : Exit → Act → World → Prop} {E : Prop} {F R : Nat → Prop} {w : World} {t : TypeId} (hgd : o.guard = none) (s x : Operand) (ts : TypeId)
    (ho : o.op = .call { callee := .builtin .append, args := #[s, x], argTypes := #[ts, ts] })
    {i : TypeInfo} {sz : Nat} (ht : P.underlying ts = some (.slice t)) (hi : P.info? t = some i) (hsize : i.size = sz) (hsz : 0 < sz) {a : Option Addr} {n c : Nat} {cs : List Value} (hs : act.eval s = .slice a n c) (hown : Own F w t sz a n c cs)
    {A : Option Addr} {m d : Nat} {news : List Value} (hx : act.eval x = .slice A m d) (hr : Row R w A news) (hl : news.length = m * sz) (h1 : ∀ u ∈ news, u.oneCell' = true) (hA : A = none → d = 0) (hroom : n + m ≤ c)
    (h : ∀ w', Own F w' t sz a (n + m) c (cs ++ news) → Upd F w w' → K (act.put o.dst (.slice a (n + m) c)) w') :
    if Region.wanted o (yielded ops act.tmps) = true then Oper.wp P o act w K Q else E := by
  have hw : Region.wanted o (yielded ops act.tmps) = true := by simp [Region.wanted, hgd]
  rw [if_pos hw]
  obtain ⟨w', hrun, h2, h3⟩ := run_append_fits_Own (P := P) ts o.type ht hi hsize hsz hown hr hl h1 hA hroom
  unfold Oper.wp execOp
  simp only [ho, resolve, invoke, builtin, Sem.run_bind, Sem.run_pure, Result.andThen_ok, List.map_toArray, List.map_cons, List.map_nil, hs, hx, hrun]
  exact h w' h2 h3

/-- 'clear(s)' of one element of one cell. -/
theorem wpList_clear_one {ops : Array Oper} {rest : List Oper} {o : Oper} {act : Act} {Q : Exit → Act → World → Prop} {w : World} {t : TypeId} (hgd : o.guard = none) (x : Operand) (ts : TypeId)
    (ho : o.op = .call { callee := .builtin .clear, args := #[x], argTypes := #[ts] }) (ht : P.underlying ts = some (.slice t)) {z : Value} (hv : ∀ w, (zeroValue t).run P w = .ok z w) (hz : z.cells = #[z]) (h1 : z.oneCell' = true)
    {b q d : Nat} (hx : act.eval x = .slice (some ⟨b, q, none⟩) 1 d) (hc : ∃ u, w.cell? ⟨b, q, none⟩ = some u) (hf : w.frozen? ⟨b, q, none⟩ = false)
    (h : wpList P ops Q rest (act.put o.dst (.tuple #[])) (w.setCell ⟨b, q, none⟩ z)) : wpList P ops Q (o :: rest) act w := by
  refine wpList_plain hgd fun K hK => ?_
  obtain ⟨u, hu⟩ := hc
  have hrun := Lib.run_clear_slice (P := P) w ts t o.type z ht hv hz h1 b q 1 d (by decide) (fun j hj => by obtain rfl : j = 0 := (by omega); simp [hu]) (fun j hj => by obtain rfl : j = 0 := (by omega); simpa using hf)
  have hs : w.setCells b q (List.replicate 1 z) = w.setCell ⟨b, q, none⟩ z := by simp [World.setCells]
  rw [hs] at hrun
  unfold Oper.wp execOp
  simp only [ho, resolve, invoke, builtin, Sem.run_bind, Sem.run_pure, Result.andThen_ok, List.map_toArray, List.map_cons, List.map_nil, hx, hrun]
  exact hK _ _ h
end
end Go.Proofs.YtbaombnnagidcaaDoor

namespace Go.Proofs.YtbaombnnagidcaaDoor
open Go.RowKit

theorem infoU8 : (Tryd.prog.info? 5).map (fun i => (i.zero, i.size, i.bytes)) = some (some (.int .u8 0), 1, 1) := by kernel_rfl
theorem infoBytes : (Tryd.prog.info? 22).map (fun i => (i.zero, i.size, i.bytes)) = some (some (.slice none 0 0), 1, 24) := by kernel_rfl

/-- It returns a slice of its own that reads the cells cs; of what was there nothing has turned. -/
def RetOwn (w : World) (t : TypeId) (sz n : Nat) (cs : List Value) (e : Ending) (w' : World) : Prop :=
  ∃ a' c', e = .returned (.slice a' n c') ∧ Own (Fr w w') w' t sz a' n c' cs ∧ Upd Nil w w'

theorem q22 (w : World) (a : Option Addr) (n c n' c' : Nat) : (binOp .eql 22 (.slice a n c) (.slice none n' c')).run Tryd.prog w = .ok (.bool a.isNone) w := Lib.run_eql_slice_nil w _ _ a n c n' c' Tryd.underlying22

/-- a row of a literal of no element, then an append -/
theorem own_empty (w : World) : Own (Fr w (w.alloc (.cells #[] 5))) (w.alloc (.cells #[] 5)) 5 1 (some ⟨w.heap.size, 0, none⟩) 0 0 [] :=
  (Own.lit w #[] 0 (Nat.zero_le _) rfl).mono (fun k hk => by subst hk; exact ⟨Nat.le_refl _, by simp⟩)

set_option maxHeartbeats 400000 in
theorem bytesClone {F : Nat → Prop} (w : World) {a : Option Addr} (c : Nat) {xs : List UInt8} (hr : Row F w a (bvs xs)) (hx : xs.length ≤ 140737488355328) :
    Calls Tryd.prog 13 #[.slice a xs.length c] w (RetOwn w 5 1 xs.length (bvs xs)) := by
  obtain ⟨i0, hi, hz0, hz1, hz2⟩ := info_parts infoU8
  have Q := Lib.hid hr
  clear hr
  cases a with
  | none =>
    have hq := q22
    go_enter Tryd.func13, Tryd.ntmps13
    go_wp2
    go_ret
    have hx0 : xs = [] := by
      cases xs with
      | nil => rfl
      | cons x xs =>
        obtain ⟨b, o, h, _⟩ := Q.out (by simp [bvs])
        cases h
    subst hx0
    exact ⟨none, 0, rfl, Own.none_ _ _ _ _, Upd.refl _ _⟩
  | some ad =>
    have hq := q22
    go_enter Tryd.func13, Tryd.ntmps13
    go_wp2_with (at_builtin; refine wpList_append_Own rfl _ _ _ rfl Tryd.underlying22 hi hz0 hz1 hz2 rfl (by decide) rfl (own_empty w) rfl (Q.out.alloc _) (by simp) (bvs_one xs) (by intro h; cases h) (by simp only [maxLen]; omega) (by omega) ?_)
    intro a' c' w' hown hup hne
    go_wp2
    go_ret
    refine ⟨a', c', rfl, (by simpa using hown : Own _ w' _ 1 a' xs.length c' (bvs xs)).mono ?_, ?_⟩
    · rintro k (⟨h1, h2⟩ | ⟨h1, h2⟩)
      · exact ⟨h1, Nat.lt_of_lt_of_le h2 hup.size⟩
      · exact ⟨by simp at h1; omega, h2⟩
    · exact ((Upd.refl Nil w).alloc _).trans hup (fun k h1 h2 => by have := h1.1; omega)

set_option maxHeartbeats 400000 in
theorem slicesCloneB {F : Nat → Prop} (w : World) {a : Option Addr} (c : Nat) {xs : List UInt8} (hr : Row F w a (bvs xs)) (hx : xs.length ≤ 140737488355328) :
    Calls Tryd.prog 53 #[.slice a xs.length c] w (RetOwn w 5 1 xs.length (bvs xs)) := by
  obtain ⟨i0, hi, hz0, hz1, hz2⟩ := info_parts infoU8
  have Q := Lib.hid hr
  clear hr
  cases a with
  | none =>
    have hq := q22
    go_enter Tryd.func53, Tryd.ntmps53
    go_wp2
    go_ret
    have hx0 : xs = [] := by
      cases xs with
      | nil => rfl
      | cons x xs =>
        obtain ⟨b, o, h, _⟩ := Q.out (by simp [bvs])
        cases h
    subst hx0
    exact ⟨none, 0, rfl, Own.none_ _ _ _ _, Upd.refl _ _⟩
  | some ad =>
    have hq := q22
    go_enter Tryd.func53, Tryd.ntmps53
    go_wp2_with (at_builtin; refine wpList_append_Own rfl _ _ _ rfl Tryd.underlying22 hi hz0 hz1 hz2 rfl (by decide) rfl (own_empty w) rfl (Q.out.alloc _) (by simp) (bvs_one xs) (by intro h; cases h) (by simp only [maxLen]; omega) (by omega) ?_)
    intro a' c' w' hown hup hne
    go_wp2
    go_ret
    refine ⟨a', c', rfl, (by simpa using hown : Own _ w' _ 1 a' xs.length c' (bvs xs)).mono ?_, ?_⟩
    · rintro k (⟨h1, h2⟩ | ⟨h1, h2⟩)
      · exact ⟨h1, Nat.lt_of_lt_of_le h2 hup.size⟩
      · exact ⟨by simp at h1; omega, h2⟩
    · exact ((Upd.refl Nil w).alloc _).trans hup (fun k h1 h2 => by have := h1.1; omega)

theorem bytesEqual {F G : Nat → Prop} (w : World) {a b : Option Addr} (c d : Nat) {xs ys : List UInt8} (hx : Row F w a (bvs xs)) (hy : Row G w b (bvs ys)) :
    Calls Tryd.prog 16 #[.slice a xs.length c, .slice b ys.length d] w fun e w' => e = .returned (.bool (decide (xs = ys))) ∧ w = w' := by
  have h1 := run_convert_Row (P := Tryd.prog) hx 22 5 9 Tryd.underlying22 Tryd.underlying5 Tryd.underlying9 c
  have h2 := run_convert_Row (P := Tryd.prog) hy 22 5 9 Tryd.underlying22 Tryd.underlying5 Tryd.underlying9 d
  clear hx hy
  go_enter Tryd.func16, Tryd.ntmps16
  go_wp2
  go_ret
  refine ⟨?_, rfl⟩
  show Ending.returned (.bool ((str xs).toList == (str ys).toList)) = _
  rw [str_toList, str_toList]
  have : (xs == ys) = decide (xs = ys) := by
    rw [Bool.eq_iff_iff]
    simp
  rw [this]

/-- It spoils the bytes of a slice of its own: only blocks of F turn. -/
theorem spoil {F : Nat → Prop} (w : World) {a : Option Addr} {n c : Nat} {xs : List UInt8} (hown : Own F w 5 1 a n c (bvs xs)) :
    Calls Tryd.prog 87 #[.slice a n c] w fun e w' => e = .returned (.tuple #[]) ∧ Upd F w w' := by
  have hlen : xs.length = n := by have := hown.1; simpa using this
  have hle := hown.le
  have hm : n ≤ 9223372036854775807 := le_max (Nat.le_trans hle.1 hle.2)
  have H := Lib.hid hown
  have HL := Lib.hid hlen
  clear hown hlen hle
  go_enter Tryd.func87, Tryd.ntmps87
  go_wp2
  go_loopg [5] n (fun k i wr => ∃ j : Nat, j + k = n ∧ i = .int .i64 j ∧ ∃ cs, Own F wr 5 1 a n c cs ∧ (∀ q, j ≤ q → cs[q]? = (bvs xs)[q]?) ∧ Upd F w wr)
  case atStart => exact ⟨0, by omega, rfl, _, H.out, fun _ _ => rfl, Upd.refl _ _⟩
  case round =>
    obtain ⟨j, hjk, rfl, cs, hown, hsame, hup⟩ := hrel
    have hjk' : j ≤ n := by omega
    have HU := Lib.hid hup
    have HO := Lib.hid hown
    have HS := Lib.hid hsame
    have HJ := Lib.hid hjk
    clear hup hown hsame hjk
    by_cases hlt : j < n
    · have hcs : cs[j]? = some (.int .u8 (xs[j]'(by have := HL.out; omega)).toNat) := by rw [HS.out j (Nat.le_refl _)]; exact bvs_get xs j _
      obtain ⟨g, rfl, hF⟩ := HO.out.isNone (by omega)
      have hc : wr.cell? ⟨g, j, none⟩ = some (.int .u8 (xs[j]'(by have := HL.out; omega)).toNat) := by
        obtain ⟨b, o, h1, _, h3⟩ := HO.out.row (by rintro rfl; simp at hcs)
        obtain ⟨rfl, rfl⟩ : g = b ∧ 0 = o := by simpa using h1
        simpa using h3 j _ hcs
      have hf : wr.frozen? ⟨g, j, none⟩ = false := HO.out.frozen rfl j
      have HC := Lib.hid hcs
      clear hcs
      go_wp2
      go_roundg (gk - 1)
      case measure => have := HJ.out; omega
      case rel =>
        refine ⟨j + 1, by have := HJ.out; omega, by go_num, _, HO.out.stored rfl j _, fun q hq => ?_, HU.out.setCell (.inl hF) _⟩
        rw [List.getElem?_set_ne (by omega)]
        exact HS.out q (by omega)
    · go_wp2
      go_end0
      exact ⟨rfl, HU.out⟩
end Go.Proofs.YtbaombnnagidcaaDoor

namespace Go.Proofs.YtbaombnnagidcaaDoor
open Go.RowKit

/-- Two lists, element by element. -/
def All2 {α : Type} (R : Value → α → Prop) : List Value → List α → Prop
  | [], [] => True
  | v :: vs, x :: xs => R v x ∧ All2 R vs xs
  | _, _ => False
namespace All2
variable {α : Type} {R S : Value → α → Prop}
theorem length : ∀ {vs : List Value} {xs : List α}, All2 R vs xs → vs.length = xs.length
  | [], [], _ => rfl
  | _ :: _, _ :: _, h => by simp [length h.2]
  | [], _ :: _, h => h.elim
  | _ :: _, [], h => h.elim
theorem mono (hR : ∀ v x, R v x → S v x) : ∀ {vs : List Value} {xs : List α}, All2 R vs xs → All2 S vs xs
  | [], [], _ => trivial
  | _ :: _, _ :: _, h => ⟨hR _ _ h.1, mono hR h.2⟩
  | [], _ :: _, h => h.elim
  | _ :: _, [], h => h.elim
theorem append : ∀ {vs : List Value} {xs : List α} {us : List Value} {ys : List α}, All2 R vs xs → All2 R us ys → All2 R (vs ++ us) (xs ++ ys)
  | [], [], _, _, _, k => k
  | _ :: _, _ :: _, _, _, h, k => ⟨h.1, append h.2 k⟩
  | [], _ :: _, _, _, h, _ => h.elim
  | _ :: _, [], _, _, h, _ => h.elim
theorem snoc {vs : List Value} {xs : List α} {v : Value} {x : α} (h : All2 R vs xs) (k : R v x) : All2 R (vs ++ [v]) (xs ++ [x]) := h.append (us := [v]) (ys := [x]) ⟨k, trivial⟩
theorem take : ∀ (n : Nat) {vs : List Value} {xs : List α}, All2 R vs xs → All2 R (vs.take n) (xs.take n)
  | 0, _, _, _ => trivial
  | _ + 1, [], [], _ => trivial
  | n + 1, _ :: _, _ :: _, h => ⟨h.1, take n h.2⟩
  | _ + 1, [], _ :: _, h => h.elim
  | _ + 1, _ :: _, [], h => h.elim
theorem drop : ∀ (n : Nat) {vs : List Value} {xs : List α}, All2 R vs xs → All2 R (vs.drop n) (xs.drop n)
  | 0, _, _, h => h
  | _ + 1, [], [], _ => trivial
  | n + 1, _ :: _, _ :: _, h => drop n h.2
  | _ + 1, [], _ :: _, h => h.elim
  | _ + 1, _ :: _, [], h => h.elim
theorem get : ∀ {vs : List Value} {xs : List α}, All2 R vs xs → ∀ {i : Nat} (hi : i < xs.length), ∃ v, vs[i]? = some v ∧ R v xs[i]
  | v :: _, _ :: _, h, 0, _ => ⟨v, rfl, h.1⟩
  | _ :: _, _ :: xs, h, i + 1, hi => by
    obtain ⟨v, h1, h2⟩ := get (i := i) h.2 (by simpa using hi)
    exact ⟨v, by simpa using h1, by simpa using h2⟩
  | [], [], _, _, hi => by simp at hi
  | [], _ :: _, h, _, _ => h.elim
  | _ :: _, [], h, _, _ => h.elim
theorem set : ∀ {vs : List Value} {xs : List α} {v : Value} {x : α} (i : Nat), All2 R vs xs → R v x → All2 R (vs.set i v) (xs.set i x)
  | [], [], _, _, _, _, _ => trivial
  | _ :: _, _ :: _, _, _, 0, h, k => ⟨k, h.2⟩
  | _ :: _, _ :: _, _, _, i + 1, h, k => ⟨h.1, set i h.2 k⟩
  | [], _ :: _, _, _, _, h, _ => h.elim
  | _ :: _, [], _, _, _, h, _ => h.elim
end All2

/-- The value v is a slice of bytes that reads xs; they lie in a block of E. -/
def Elem (E : Nat → Prop) (w : World) (v : Value) (xs : List UInt8) : Prop :=
  ∃ a c, v = .slice a xs.length c ∧ Row E w a (bvs xs) ∧ (a = none → c = 0) ∧ xs.length ≤ c ∧ c ≤ maxLen
namespace Elem
variable {E E' G : Nat → Prop} {w w' : World} {v : Value} {xs : List UInt8}
theorem mono (h : Elem E w v xs) (hE : ∀ k, E k → E' k) : Elem E' w v xs := by
  obtain ⟨a, c, h1, h2, h3⟩ := h
  exact ⟨a, c, h1, h2.mono hE, h3⟩
theorem upd (h : Elem E w v xs) (u : Upd G w w') (hd : ∀ k, E k → ¬ G k) : Elem E w' v xs := by
  obtain ⟨a, c, h1, h2, h3⟩ := h
  exact ⟨a, c, h1, h2.upd u hd, h3⟩
theorem keep (h : Elem E w v xs) (u : Upd Nil w w') : Elem E w' v xs := h.upd u (fun _ _ f => f)
theorem inHeap (h : Elem E w v xs) : Elem (fun k => E k ∧ k < w.heap.size) w v xs := by
  obtain ⟨a, c, h1, h2, h3⟩ := h
  exact ⟨a, c, h1, h2.inHeap, h3⟩
theorem oneCell (h : Elem E w v xs) : v.oneCell' = true := by
  obtain ⟨a, c, rfl, _⟩ := h
  rfl
end Elem
theorem Own.elem {F : Nat → Prop} {w : World} {t : TypeId} {a : Option Addr} {c : Nat} {xs : List UInt8} (h : Own F w t 1 a xs.length c (bvs xs)) : Elem F w (.slice a xs.length c) xs := by
  refine ⟨a, c, rfl, h.row, fun ha => ?_, h.le.1, h.le.2⟩
  rcases h.2 with ⟨_, _, hc⟩ | ⟨g, _, hg, _⟩
  · exact hc
  · rw [ha] at hg; cases hg

theorem all2_oneCell {E : Nat → Prop} {w : World} : ∀ {vs : List Value} {xss : List (List UInt8)}, All2 (Elem E w) vs xss → ∀ u ∈ vs, u.oneCell' = true
  | [], [], _, _, hu => by cases hu
  | _ :: _, _ :: _, h, u, hu => by
    rcases List.mem_cons.1 hu with rfl | hu
    · exact h.1.oneCell
    · exact all2_oneCell h.2 u hu
  | [], _ :: _, h, _, _ => h.elim
  | _ :: _, [], h, _, _ => h.elim

theorem bytesEqual_yes {F G : Nat → Prop} (w : World) {a b : Option Addr} (c d : Nat) {xs ys : List UInt8} (hx : Row F w a (bvs xs)) (hy : Row G w b (bvs ys)) (h : xs = ys) :
    Calls Tryd.prog 16 #[.slice a xs.length c, .slice b ys.length d] w fun e w' => e = .returned (.bool true) ∧ w = w' :=
  (bytesEqual w c d hx hy).mono fun _ _ ⟨he, hw⟩ => ⟨by rw [he, decide_eq_true h], hw⟩
theorem bytesEqual_no {F G : Nat → Prop} (w : World) {a b : Option Addr} (c d : Nat) {xs ys : List UInt8} (hx : Row F w a (bvs xs)) (hy : Row G w b (bvs ys)) (h : xs ≠ ys) :
    Calls Tryd.prog 16 #[.slice a xs.length c, .slice b ys.length d] w fun e w' => e = .returned (.bool false) ∧ w = w' :=
  (bytesEqual w c d hx hy).mono fun _ _ ⟨he, hw⟩ => ⟨by rw [he, decide_eq_false h], hw⟩

theorem rowAt {F : Nat → Prop} {w : World} {A : Option Addr} {vs : List Value} (h : Row F w A vs) {i : Nat} {v : Value} (hv : vs[i]? = some v) : ∃ b o, A = some ⟨b, o, none⟩ ∧ F b ∧ w.cell? ⟨b, o + i, none⟩ = some v := by
  obtain ⟨b, o, h1, h2, h3⟩ := h (by rintro rfl; simp at hv)
  exact ⟨b, o, h1, h2, h3 i v hv⟩

set_option maxHeartbeats 400000 in
theorem equalFunc {F G E E' : Nat → Prop} (w : World) {A B : Option Addr} (c d : Nat) {vs us : List Value} {xss yss : List (List UInt8)} (hA : Row F w A vs) (hB : Row G w B us)
    (h1 : All2 (Elem E w) vs xss) (h2 : All2 (Elem E' w) us yss) (hn : xss.length ≤ 9223372036854775807) (hm : yss.length ≤ 9223372036854775807) :
    Calls Tryd.prog 84 #[.slice A xss.length c, .slice B yss.length d, .func (.func 16) #[] #[]] w fun e w' => e = .returned (.bool (decide (xss = yss))) ∧ w = w' := by
  have HA := Lib.hid hA
  have HB := Lib.hid hB
  have H1 := Lib.hid h1
  have H2 := Lib.hid h2
  clear hA hB h1 h2
  by_cases hl : xss.length = yss.length
  · have HL := Lib.hid hl
    rw [← hl]
    clear hl
    go_enter Tryd.func84, Tryd.ntmps84
    go_wp2
    go_loopg [17] xss.length (fun k i wr => ∃ j : Nat, j + k = xss.length ∧ i = .int .i64 j ∧ xss.take j = yss.take j ∧ w = wr)
    case atStart => exact ⟨0, by omega, rfl, by simp, rfl⟩
    case round =>
      obtain ⟨j, hjk, rfl, htk, rfl⟩ := hrel
      have hjn : j ≤ xss.length := by omega
      have HJ := Lib.hid hjk
      have HT := Lib.hid htk
      clear hjk htk
      by_cases hlt : j < xss.length
      · have hlt' : j < yss.length := by have := HL.out; omega
        obtain ⟨v, hv, a, ca, rfl, ra, _⟩ := H1.out.get hlt
        obtain ⟨u, hu, b, cb, rfl, rb, _⟩ := H2.out.get hlt'
        obtain ⟨ba, oa, rfl, _, hca⟩ := rowAt HA.out hv
        obtain ⟨bb, ob, rfl, _, hcb⟩ := rowAt HB.out hu
        clear hv hu
        by_cases he : xss[j] = yss[j]
        · have HE := Lib.hid he
          clear he
          go_wp2_with (go_at_call 16; refine (bytesEqual_yes _ _ _ ra rb HE.out).mono ?_; rintro e w' ⟨rfl, rfl⟩)
          go_roundg (gk - 1)
          case measure => have := HJ.out; omega
          case rel =>
            refine ⟨j + 1, by have := HJ.out; omega, by go_num, ?_, rfl⟩
            rw [List.take_succ_eq_append_getElem hlt, List.take_succ_eq_append_getElem hlt', HT.out, HE.out]
        · have HE := Lib.hid he
          clear he
          go_wp2_with (go_at_call 16; refine (bytesEqual_no _ _ _ ra rb HE.out).mono ?_; rintro e w' ⟨rfl, rfl⟩)
          go_ret
          refine ⟨?_, rfl⟩
          show Ending.returned (.bool false) = _
          rw [decide_eq_false]
          rintro rfl
          exact HE.out rfl
      · go_wp2
        go_ret
        refine ⟨?_, rfl⟩
        show Ending.returned (.bool true) = _
        rw [decide_eq_true]
        have hj : j = xss.length := by omega
        have := HT.out
        rw [hj, List.take_length] at this
        rw [this, HL.out, List.take_length]
  · have hl' : ((xss.length : Int) == (yss.length : Int)) = false := by
      rw [beq_eq_false_iff_ne]
      omega
    have hlN : ((xss.length : Int) != (yss.length : Int)) = true := by
      rw [bne_iff_ne]
      omega
    have HL := Lib.hid hl
    clear hl
    go_enter Tryd.func84, Tryd.ntmps84
    go_wp2
    go_ret
    refine ⟨?_, rfl⟩
    show Ending.returned (.bool false) = _
    rw [decide_eq_false]
    rintro rfl
    exact HL.out rfl

theorem sameImage {F G E E' : Nat → Prop} (w : World) {A B : Option Addr} (c d : Nat) {vs us : List Value} {xss yss : List (List UInt8)} (hA : Row F w A vs) (hB : Row G w B us)
    (h1 : All2 (Elem E w) vs xss) (h2 : All2 (Elem E' w) us yss) (hn : xss.length ≤ 9223372036854775807) (hm : yss.length ≤ 9223372036854775807) :
    Calls Tryd.prog 113 #[.slice A xss.length c, .slice B yss.length d] w fun e w' => e = .returned (.bool (decide (xss = yss))) ∧ w = w' := by
  have H := Lib.hid (equalFunc w c d hA hB h1 h2 hn hm)
  clear hA hB h1 h2
  go_enter Tryd.func113, Tryd.ntmps113
  go_wp2_with (go_at_call 84; refine H.out.mono ?_; rintro e w' ⟨rfl, rfl⟩)
  go_ret
  exact ⟨rfl, rfl⟩

theorem zeroBytes (w : World) : (zeroValue 22).run Tryd.prog w = .ok (.slice none 0 0) w := by kernel_rfl

end Go.Proofs.YtbaombnnagidcaaDoor

namespace Go.Proofs.YtbaombnnagidcaaDoor
open Go.RowKit

/-- Slices of bytes in a row of one's own. -/
structure Rows (R E : Nat → Prop) (w : World) (a : Option Addr) (n c : Nat) (vs : List Value) (l : List (List UInt8)) : Prop where
  own : Own R w 22 1 a n c vs
  all : All2 (Elem E w) vs l
  len : l.length = n
  inR : ∀ k, R k → k < w.heap.size
  inE : ∀ k, E k → k < w.heap.size
  apart : ∀ k, E k → ¬ R k

theorem Rows.snoc {R E : Nat → Prop} {w w1 w2 : World} {a a1 a2 : Option Addr} {n c c1 c2 : Nat} {vs : List Value} {l : List (List UInt8)} {xs : List UInt8} {o : Obj} (h : Rows R E w a n c vs l)
    (hown1 : Own (Fr w w1) w1 5 1 a1 xs.length c1 (bvs xs)) (hup1 : Upd Nil w w1)
    (hown2 : Own (fun k => R k ∨ Fr (w1.alloc o) w2 k) w2 22 1 a2 (n + 1) c2 (vs ++ [.slice a1 xs.length c1])) (hup2 : Upd R (w1.alloc o) w2) :
    Rows (fun k => R k ∨ Fr (w1.alloc o) w2 k) (fun k => E k ∨ Fr w w1 k) w2 a2 (n + 1) c2 (vs ++ [.slice a1 xs.length c1]) (l ++ [xs]) := by
  have hz1 := hup1.size
  have hz2 := hup2.size
  simp only [World.size_alloc] at hz2
  refine ⟨hown2, ?_, by simp [h.len], ?_, ?_, ?_⟩
  · have hold : All2 (Elem (fun k => E k ∨ Fr w w1 k) w2) vs l := h.all.mono (fun v x hh => by
      refine (((hh.upd hup1 (fun k _ f => f)).keep ((Upd.refl Nil w1).alloc o)).upd hup2 ?_).mono (fun k h => Or.inl h)
      exact fun k he hr => h.apart k he hr)
    refine hold.snoc ?_
    refine (((hown1.elem).keep ((Upd.refl Nil w1).alloc o)).upd hup2 ?_).mono (fun k h => Or.inr h)
    rintro k ⟨h1, _⟩ hr
    have := h.inR k hr
    omega
  · rintro k (hk | ⟨_, hk⟩)
    · have := h.inR k hk
      omega
    · exact hk
  · rintro k (hk | ⟨_, hk⟩)
    · have := h.inE k hk
      omega
    · omega
  · rintro k (hk | ⟨h1, h2⟩) (hr | ⟨h3, h4⟩)
    · exact h.apart k hk hr
    · have := h.inE k hk
      simp only [World.size_alloc] at h3
      omega
    · have := h.inR k hr
      omega
    · simp only [World.size_alloc] at h3
      omega

/-- slices of bytes that are handed back, all of them new -/
def GotRows (w : World) (l : List (List UInt8)) (e : Ending) (w' : World) : Prop :=
  ∃ R E a c vs, e = .returned (.slice a l.length c) ∧ Rows R E w' a l.length c vs l ∧ (∀ k, R k → Fr w w' k) ∧ (∀ k, E k → Fr w w' k) ∧ Upd Nil w w'

theorem fr_grow {w wr w1 w2 : World} {o : Obj} {R : Nat → Prop} (h0 : Upd Nil w wr) (h1 : Upd Nil wr w1) (h2 : Upd R (w1.alloc o) w2) : (∀ k, Fr w wr k → Fr w w2 k) ∧ (∀ k, Fr wr w1 k → Fr w w2 k) ∧ (∀ k, Fr (w1.alloc o) w2 k → Fr w w2 k) := by
  have z0 := h0.size
  have z1 := h1.size
  have z2 := h2.size
  simp only [World.size_alloc] at z2
  refine ⟨fun k hk => ⟨hk.1, by have := hk.2; omega⟩, fun k hk => ⟨by have := hk.1; omega, by have := hk.2; omega⟩, fun k hk => ⟨by have := hk.1; simp only [World.size_alloc] at this; omega, hk.2⟩⟩

/-- a message that is told: a copy of one's own -/
def ToldBytes (w : World) (xs : List UInt8) (e : Ending) (w' : World) : Prop := ∃ a c, e = .returned (.tuple #[.slice a xs.length c, .int .i64 0]) ∧ Own (Fr w w') w' 5 1 a xs.length c (bvs xs) ∧ Upd Nil w w'
end Go.Proofs.YtbaombnnagidcaaDoor
