/- Both logs side by side: Open of bad arguments; what both are. -/
import Derived.Test.YtbaombnnagidcaaDoorZL19
import Derived.Test.YtbaombnnagidcaaDoorZL23
import Derived.Test.YtbaombnnagidcaaDoorZL24
import Derived.Test.YtbaombnnagidcaaDoorZL18

namespace Go.Proofs.YtbaombnnagidcaaDoor
open Go.RowKit

/-- no place for a log -/
def BadPlace (n : Nat) (i j : Int) : Prop := i < 0 ∨ j < 1 ∨ (n : Int) < i ∨ (n : Int) - i < j
theorem badPlace {n : Nat} {i j : Int} (h : BadPlace n i j) : i < 0 ∨ (0 ≤ i ∧ j < 1) ∨ (0 ≤ i ∧ 1 ≤ j ∧ (n : Int) < i) ∨ (0 ≤ i ∧ 1 ≤ j ∧ i ≤ (n : Int) ∧ (n : Int) - i < j) := by
  unfold BadPlace at h
  omega
theorem goodPlace {n : Nat} {i j : Int} (h : ¬ BadPlace n i j) : ∃ fr k : Nat, i = (fr : Int) ∧ j = (k : Int) ∧ 1 ≤ k ∧ fr + k ≤ n := by
  unfold BadPlace at h
  exact ⟨i.toNat, j.toNat, by omega, by omega, by omega, by omega⟩

set_option maxRecDepth 100000 in
set_option maxHeartbeats 4000000 in
theorem log_Open_no {F : Nat → Prop} (w : World) {d : Nat} {B : List (List UInt8)} (hd : DiskRep F w d B []) (hB : Fine B []) {i j : Int} (h : BadPlace B.length i j) :
    Calls Tryd.prog 38 #[.pointer (some ⟨d, 0, none⟩), .int .i64 i, .int .i64 j] w fun e w' => e = .returned (.tuple #[.pointer none, .slice none 0 0, .int .i64 1]) ∧ w = w' := by
  have HSc := Lib.hid (disk_Sectors w hd)
  have hne : ((B.length : Int) == 0) = false := by rw [beq_eq_false_iff_ne]; have := hB.pos; omega
  have hB2 := hB.le
  have hcs := badPlace h
  clear hd hB h
  rcases hcs with q1 | ⟨q1, q2⟩ | ⟨q1, q2, q3⟩ | ⟨q1, q2, q3, q4⟩
  all_goals
    go_enter Tryd.func38, Tryd.ntmps38
    go_wp2_with (go_at_call 39; refine HSc.out.mono ?_; rintro e w' ⟨rfl, rfl⟩)
    go_ret3
    exact ⟨rfl, rfl⟩
set_option maxRecDepth 100000 in
set_option maxHeartbeats 4000000 in
theorem ref3_Open_no {F : Nat → Prop} (w : World) {d : Nat} {B : List (List UInt8)} (hd : XRep F w d B []) (hB : Fine B []) {i j : Int} (h : BadPlace B.length i j) :
    Calls Tryd.prog 83 #[.pointer (some ⟨d, 0, none⟩), .int .i64 i, .int .i64 j] w fun e w' => e = .returned (.tuple #[.pointer none, .slice none 0 0, .int .i64 1]) ∧ w = w' := by
  have hc0 : ∃ al cl, w.cell? ⟨d, 0, none⟩ = some (.slice al B.length cl) := by
    obtain ⟨R, Q, E, al, cl, vs, p, dd, us, hFs, hR, hQ, hE, hb, hown, hq, hall, hsent⟩ := hd
    exact ⟨al, cl, hb.cell 0⟩
  obtain ⟨al, cl, hc0⟩ := hc0
  have hB2 := hB.le
  have hcs := badPlace h
  clear hd hB h
  rcases hcs with q1 | ⟨q1, q2⟩ | ⟨q1, q2, q3⟩ | ⟨q1, q2, q3, q4⟩
  all_goals
    go_enter Tryd.func83, Tryd.ntmps83
    go_wp2
    go_ret3
    exact ⟨rfl, rfl⟩

theorem ref3_Append_LD {F G : Nat → Prop} (w : World) {s d : Nat} {S : LogS} {B : List (List UInt8)} (h : RefLD F w s d S B []) (hf : LFine S) {ra : Option Addr} (rc : Nat) {r : List UInt8} (hr : Row G w ra (bvs r)) (hx : r.length ≤ 140737488355328) :
    Calls Tryd.prog 86 #[.pointer (some ⟨s, 0, none⟩), .slice ra r.length rc] w (RefLDGot F w s d (.tuple #[.int .i64 (appendN S r : Int), .int .i64 (appendC S r)]) (appendS S r) B []) := by
  obtain ⟨h0, FL, FD, hL, hD, hl, hd⟩ := h
  refine (ref3_Append w hl hf rc hr hx).mono ?_
  rintro e w' ⟨rfl, F', g1, g2, g3⟩
  have hz := g2.size
  have hsz : 0 < w.heap.size := Nat.lt_of_le_of_lt (Nat.zero_le _) (hL s (by obtain ⟨_, _, _, q, _⟩ := hl; exact q)).2.2
  refine ⟨rfl, fun k => F k ∨ Fr w w' k, ⟨?_, fun k => F' k ∧ k < w'.heap.size, FD, fun k hk => ?_, fun k hk => ⟨.inl (hD k hk).1, by have := (hD k hk).2; omega⟩, ?_, hd.upd g2 (fun k h1 h2 => (hL k h2).2.1 h1)⟩, g2.mono (fun k hk => (hL k hk).1), fun _ hk => hk⟩
  · rintro (q | q)
    · exact h0 q
    · have := q.1; omega
  · rcases g3 k hk.1 with q | q
    · exact ⟨.inl (hL k q).1, (hL k q).2.1, hk.2⟩
    · exact ⟨.inr q, fun f => by have := (hD k f).2; have := q.1; omega, hk.2⟩
  · obtain ⟨R, a, c, h1, h2, h3, h4⟩ := g1
    exact ⟨R, a, c, ⟨h1, h3.lt⟩, fun k hk => ⟨⟨(h2 k hk).1, (h2 k hk).2.2⟩, (h2 k hk).2⟩, h3, h4⟩

/-- the law's pair at block p: both disks, both logs (or nil) -/
def pairCells (d x : Nat) (l m : Option Addr) : Array Value := #[.pointer (some ⟨d, 0, none⟩), .pointer (some ⟨x, 0, none⟩), .pointer l, .pointer m]
/-- both logs over both disks: one and the same in plain lists -/
structure Both (w : World) (p d x l m : Nat) (F1 F2 : Nat → Prop) (S : LogS) (B : List (List UInt8)) : Prop where
  blk : Blk w p 90 (pairCells d x (some ⟨l, 0, none⟩) (some ⟨m, 0, none⟩))
  prog : LogLD F1 w l d S B []
  ref : RefLD F2 w m x S B []
  in1 : ∀ k, F1 k → k < w.heap.size ∧ k ≠ p
  in2 : ∀ k, F2 k → k < w.heap.size ∧ k ≠ p
  apart : ∀ k, F1 k → ¬ F2 k
  fine : LFine S
  disk : Fine B []
  all : S.fr + S.sectors ≤ B.length
namespace Both
variable {w w' : World} {p d x l m : Nat} {F1 F2 : Nat → Prop} {S S' : LogS} {B B' : List (List UInt8)}
theorem keep (h : Both w p d x l m F1 F2 S B) (u : Upd Nil w w') : Both w' p d x l m F1 F2 S B :=
  ⟨h.blk.upd u (fun f => f), h.prog.keep u, h.ref.keep u, fun k hk => ⟨Nat.lt_of_lt_of_le (h.in1 k hk).1 u.size, (h.in1 k hk).2⟩, fun k hk => ⟨Nat.lt_of_lt_of_le (h.in2 k hk).1 u.size, (h.in2 k hk).2⟩, h.apart, h.fine, h.disk, h.all⟩
theorem far {G : Nat → Prop} (h : Both w p d x l m F1 F2 S B) (u : Upd G w w') (hp : ¬ G p) (h1 : ∀ k, F1 k → ¬ G k) (h2 : ∀ k, F2 k → ¬ G k) : Both w' p d x l m F1 F2 S B :=
  ⟨h.blk.upd u hp, h.prog.upd u h1, h.ref.upd u h2, fun k hk => ⟨Nat.lt_of_lt_of_le (h.in1 k hk).1 u.size, (h.in1 k hk).2⟩, fun k hk => ⟨Nat.lt_of_lt_of_le (h.in2 k hk).1 u.size, (h.in2 k hk).2⟩, h.apart, h.fine, h.disk, h.all⟩
end Both
/-- what a call of both leaves -/
def BothGot (w : World) (p d x : Nat) (G : Nat → Prop) (e : Ending) (w' : World) : Prop :=
  e = .returned (.bool true) ∧ ∃ (l m : Nat) (F1 F2 : Nat → Prop) (S : LogS) (B : List (List UInt8)), Both w' p d x l m F1 F2 S B ∧ Upd (fun k => G k ∨ k = p) w w' ∧ (∀ k, F1 k → G k ∨ Fr w w' k) ∧ (∀ k, F2 k → G k ∨ Fr w w' k)
end Go.Proofs.YtbaombnnagidcaaDoor
