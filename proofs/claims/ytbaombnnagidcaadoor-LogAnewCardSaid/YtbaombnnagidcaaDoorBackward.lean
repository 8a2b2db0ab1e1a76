/- slices.Backward over a row of writes: its contract, as the kit's page on a range over a function asks. -/
import Derived.RangeFuncNested
import Derived.RangeFuncBound
import Derived.RangeFuncCalls
import Derived.RangeFuncLeaves
import Derived.RangeFuncBox
import Derived.Shelf.Abstract
import Derived.Shelf.RegionOpen
import Derived.WalkKit
import Derived.OwnWalkIn
import Derived.TacticsInMore
import Derived.LoopNIn
import Derived.LoopIn
import Derived.ControlIn
import Derived.Test.YtbaombnnagidcaaDoorDisk
namespace Go.Proofs.YtbaombnnagidcaaDoor
open Go.RowKit Go.Shelf
attribute [local go_sem] Oper.semAt_some

/-- what has come when k rounds are over: from behind -/
def backs (m k : Nat) : List (Fin m) := (List.range k).filterMap (fun q => if h : m - 1 - q < m then some ⟨m - 1 - q, h⟩ else none)
theorem backs_succ (m k : Nat) (h : k < m) : backs m (k + 1) = backs m k ++ [⟨m - 1 - k, by omega⟩] := by
  simp only [backs, List.range_succ, List.filterMap_append]
  rw [List.filterMap_cons, dif_pos (show m - 1 - k < m by omega)]
  rfl
theorem backs_length (m : Nat) : ∀ k, k ≤ m → (backs m k).length = k
  | 0, _ => rfl
  | k + 1, h => by rw [backs_succ m k h, List.length_append, backs_length m k (by omega)]; rfl
theorem mem_backs {m k : Nat} {j : Fin m} (hk : k ≤ m) : j ∈ backs m k ↔ m - k ≤ j.1 := by
  induction k with
  | zero =>
    have := j.2
    simp [backs]
  | succ k ih =>
    rw [backs_succ m k hk, List.mem_append, ih (by omega), List.mem_singleton]
    constructor
    · rintro (h | rfl)
      · omega
      · show m - (k + 1) ≤ m - 1 - k
        omega
    · intro h
      by_cases e : m - k ≤ j.1
      · exact .inl e
      · exact .inr (Fin.ext (by show j.1 = m - 1 - k; omega))

set_option maxRecDepth 100000 in
set_option maxHeartbeats 2000000 in
theorem backward1_in (F : Fence) (n : Nat) (h7 : F.fn 120) (hro : F.round = none) (hn : 1 ≤ n) (l Bs n₀ b m cap : Nat) (A V : Nat → Value) (hm : m ≤ 4000000000000) (hb : b < n₀) (hBn : Bs < n₀) (J Jx : List (Fin m) → World → Prop)
    (hY : ∀ (pre : List (Fin m)) (x : Fin m) (W : World), J pre W → pre.length < m → YieldAt F (n - 1) Tryd.prog l #[.int .i64 (x.1 : Int), .agg #[A x.1, V x.1]] W fun e W' =>
      (e = .returned (.bool true) ∧ J (pre ++ [x]) W' ∧ Below n₀ W W') ∨ (e = .returned (.bool false) ∧ Jx (pre ++ [x]) W'))
    (W : World) (hBs : W.cell? ⟨Bs, 0, none⟩ = some (.slice (some ⟨b, 0, none⟩) m cap)) (hc : ∀ j, j < m → W.cell? ⟨b, j * 2, none⟩ = some (A j) ∧ W.cell? ⟨b, j * 2 + 1, none⟩ = some (V j)) (h0 : J [] W) :
    CallsIn F n Tryd.prog 120 #[.func (.yield l) #[] #[], .pointer (some ⟨Bs, 0, none⟩)] W fun e W' => (∃ v, e = .returned v) ∧
      ((∃ ys, ys = backs m m ∧ J ys W') ∨ (∃ pre, (∃ k, k ≤ m ∧ pre = backs m k) ∧ Jx pre W')) := by
  refine callsIn_of_wp Tryd.func120 rfl h7 ?_ hro
  simp only [Tryd.ntmps120, List.size_toArray, List.length_cons, List.length_nil, Nat.reduceAdd, Nat.reduceSub, Array.replicate_succ, Array.replicate_zero, List.push_toArray, List.append_toArray, List.nil_append, List.cons_append]
  have hw0 : IntKind.i64.wrap ((m : Int) - 1) = (m : Int) - 1 := IntWalk.i64_in _ (by omega)
  gi_wp2
  gi_loopw [3] (fun i wr => ∃ k : Nat, k ≤ m ∧ i = .int .i64 ((m : Int) - 1 - k) ∧ J (backs m k) wr ∧ Below n₀ W wr)
    (fun i _ => (intOf i + 1).toNat)
  case atStart => exact ⟨0, Nat.zero_le _, by simp, h0, Below.refl _ _⟩
  case round =>
    obtain ⟨k, hk, rfl, hJs, hnx⟩ := hrel
    by_cases hlt : k < m
    · obtain ⟨j, hj⟩ : ∃ j, j = m - 1 - k := ⟨_, rfl⟩
      have hji : (m : Int) - 1 - k = (j : Int) := by omega
      have hjm : j < m := by omega
      obtain ⟨fn, tmps, assign, body, hy, hR⟩ := hY _ ⟨j, hjm⟩ wr hJs (by rw [backs_length m k hk]; exact hlt)
      dsimp only at hy
      have hcB := (hnx.cell (p := ⟨Bs, 0, none⟩) hBn).trans hBs
      have hcA := (hnx.cell (p := ⟨b, j * 2, none⟩) hb).trans (hc j hjm).1
      have hcV := (hnx.cell (p := ⟨b, j * 2 + 1, none⟩) hb).trans (hc j hjm).2
      have hw1 : IntKind.i64.wrap ((j : Int) - 1) = (j : Int) - 1 := IntWalk.i64_in _ (by omega)
      have HJ := Lib.hid hj
      rw [hji]
      clear hj hji
      gi_wp2
      refine hR.mono ?_
      rintro e W3 (⟨rfl, hJ3, hk3⟩ | ⟨rfl, hJx3⟩)
      · -- the round goes on
        gi_wp2
        go_roundw
        case rel => exact ⟨k + 1, by omega, by have := HJ.out; congr 1; omega, by rw [backs_succ m k hlt]; simp only [← HJ.out]; exact hJ3, hnx.trans hk3⟩
        case measure => simp [intOf]
      · gi_wp2
        refine bodyPost_ret (results_none rfl _ _ _) rfl ?_
        exact ⟨⟨_, rfl⟩, .inr ⟨_, ⟨k + 1, by omega, by rw [backs_succ m k hlt]; simp only [← HJ.out]⟩, hJx3⟩⟩
    · obtain rfl : k = m := by omega
      have hji : (k : Int) - 1 - k = -1 := by omega
      rw [hji]
      gi_wp2
      go_end0
      exact ⟨⟨_, rfl⟩, .inl ⟨_, rfl, hJs⟩⟩

set_option maxRecDepth 100000 in
set_option maxHeartbeats 1000000 in
theorem backward1_nil_in {m : Nat} (F : Fence) (n : Nat) (h7 : F.fn 120) (hro : F.round = none) (l Bs : Nat) (J : List (Fin m) → World → Prop) (W : World) (hBs : W.cell? ⟨Bs, 0, none⟩ = some (.slice none 0 0)) (h0 : J [] W) :
    CallsIn F n Tryd.prog 120 #[.func (.yield l) #[] #[], .pointer (some ⟨Bs, 0, none⟩)] W fun e W' => (∃ v, e = .returned v) ∧ J [] W' := by
  refine callsIn_of_wp Tryd.func120 rfl h7 ?_ hro
  simp only [Tryd.ntmps120, List.size_toArray, List.length_cons, List.length_nil, Nat.reduceAdd, Nat.reduceSub, Array.replicate_succ, Array.replicate_zero, List.push_toArray, List.append_toArray, List.nil_append, List.cons_append]
  have hw0 : IntKind.i64.wrap (-1) = -1 := IntWalk.i64_in _ (by omega)
  gi_wp2
  gi_loopw [3] (fun i wr => i = .int .i64 (-1) ∧ J [] wr) (fun _ _ => 0)
  case atStart => exact ⟨rfl, h0⟩
  case round =>
    obtain ⟨rfl, hJs⟩ := hrel
    gi_wp2
    go_end0
    exact ⟨⟨_, rfl⟩, hJs⟩

set_option maxHeartbeats 1000000 in
theorem backward_in (F : Fence) (n : Nat) (h5 : F.fn 100) (hro : F.round = none) (a : Option Addr) (len cap : Nat) (w : World) :
    CallsIn F n Tryd.prog 100 #[.slice a len cap] w fun e w' => e = .returned (.func (.func 120) #[] #[.pointer (some ⟨w.heap.size, 0, none⟩)]) ∧ w' = w.alloc (.cells #[.slice a len cap] 74) := by
  refine callsIn_of_wp Tryd.func100 rfl h5 ?_ hro
  simp only [Tryd.ntmps100, List.size_toArray, List.length_cons, List.length_nil, Nat.reduceAdd, Nat.reduceSub, Array.replicate_succ, Array.replicate_zero, List.push_toArray, List.append_toArray, List.nil_append, List.cons_append]
  gi_wp2
  go_ret
  exact ⟨rfl, rfl⟩

theorem backward_stops (F : Fence) (n : Nat) (h7 : F.fn 120) (hro : F.round = none) (hn : 1 ≤ n) {Q : Nat → Prop} {p : Option Addr} {m cap Bs n₀ : Nat} {us : List Value} (hm : m ≤ 4000000000000) (w : World) (hBs : Bs < n₀) (hn₀ : n₀ ≤ w.heap.size)
    (hc : w.cell? ⟨Bs, 0, none⟩ = some (.slice p m cap)) (hown : Own Q w 145 2 p m cap us) (hQ : ∀ k, Q k → k < n₀) (A V : Nat → Value) (hus : ∀ j, j < m → us[j * 2]? = some (A j) ∧ us[j * 2 + 1]? = some (V j)) :
    SeqStopsK F n Tryd.prog 120 #[.pointer (some ⟨Bs, 0, none⟩)] (fun x : Fin m => #[Value.int .i64 (x.1 : Int), .agg #[A x.1, V x.1]]) (Below n₀) (fun ys => ys = backs m m) (fun pre => ∃ k, k ≤ m ∧ pre = backs m k) m w := fun l J Jx W hW _ _ hY h0 => by
  have hc' := (hW.cell (p := ⟨Bs, 0, none⟩) (by show Bs < w.heap.size; omega)).trans hc
  rcases hown.2 with ⟨rfl, rfl, rfl⟩ | ⟨g, cur, rfl, hg, h3, _⟩
  · refine (backward1_nil_in F n h7 hro l Bs J W hc' h0).mono fun e W' ⟨he, hj⟩ => ⟨he, .inl ⟨_, ?_, hj⟩⟩
    rfl
  · have hgn : g < n₀ := hQ g hg
    refine backward1_in F n h7 hro hn l Bs n₀ g m cap A V hm hgn hBs J Jx hY W hc' (fun j hj => ?_) h0
    have hrow : ∀ i u, us[i]? = some u → w.cell? ⟨g, i, none⟩ = some u := by
      intro i u hu
      obtain ⟨b, o, e, _, h⟩ := hown.row (by rintro rfl; simp at hu)
      obtain ⟨rfl, rfl⟩ : g = b ∧ 0 = o := by simpa using e
      simpa using h i u hu
    exact ⟨(hW.cell (p := ⟨g, j * 2, none⟩) (by show g < w.heap.size; omega)).trans (hrow _ _ (hus j hj).1), (hW.cell (p := ⟨g, j * 2 + 1, none⟩) (by show g < w.heap.size; omega)).trans (hrow _ _ (hus j hj).2)⟩

/-- the writes' cells, column by column -/
theorem Sents.cols {E : Nat → Prop} {w : World} {us : List Value} {l : List Snt} (h : Sents E w us l) : ∃ (S : Nat → Int) (A : Nat → Option Addr) (N C : Nat → Nat), ∀ j (hj : j < l.length),
    us[j * 2]? = some (.int .i64 (S j)) ∧ us[j * 2 + 1]? = some (.slice (A j) (N j) (C j)) ∧ S j = (l[j]).1 ∧ N j = (l[j]).2.length ∧ Row E w (A j) (bvs (l[j]).2) := by
  have : ∀ j, ∃ q : Option Addr × Nat, ∀ (hj : j < l.length), us[j * 2]? = some (.int .i64 (l[j]).1) ∧ us[j * 2 + 1]? = some (.slice q.1 (l[j]).2.length q.2) ∧ Row E w q.1 (bvs (l[j]).2) := by
    intro j
    by_cases hj : j < l.length
    · obtain ⟨h1, v, h2, a, c, rfl, h3, _⟩ := h.get hj
      exact ⟨(a, c), fun _ => ⟨h1, h2, h3⟩⟩
    · exact ⟨(none, 0), fun h => absurd h hj⟩
  obtain ⟨f, hf⟩ := Classical.axiomOfChoice this
  refine ⟨fun j => ((l[j]?.map (·.1)).getD 0 : Nat), fun j => (f j).1, fun j => (l[j]?.map (·.2.length)).getD 0, fun j => (f j).2, fun j hj => ?_⟩
  obtain ⟨h1, h2, h3⟩ := hf j hj
  have e1 : l[j]? = some l[j] := List.getElem?_eq_getElem hj
  refine ⟨?_, ?_, ?_, ?_, h3⟩
  · rw [h1]; dsimp only; rw [e1]; rfl
  · rw [h2]; dsimp only; rw [e1]; rfl
  · dsimp only; rw [e1]; rfl
  · dsimp only; rw [e1]; rfl
end Go.Proofs.YtbaombnnagidcaaDoor
