/- The laws' calls of a log as the argument holds them; what a log over a whole disk keeps. -/
import Derived.Test.YtbaombnnagidcaaDoorLogPlain
import Derived.Test.YtbaombnnagidcaaDoorDisks
import Derived.Test.YtbaombnnagidcaaDoorClose
namespace Go.Proofs.YtbaombnnagidcaaDoor
open Go.RowKit Go.Deep Go.WideShapes Go.ChangeShapes Go.ChangeAt

/-! ### the argument -/
/-- a call of a log: its number, a record -/
abbrev Do3 := Int × List UInt8
def Calls03 (w : World) (a : Option Addr) (n : Nat) (d : Nat → Do3) : Prop :=
  ∀ j, j < n → ∃ b o ab cb, a = some ⟨b, o, none⟩ ∧ w.cell? ⟨b, o + j * 2, none⟩ = some (.int .i64 (d j).1) ∧ w.cell? ⟨b, o + j * 2 + 1, none⟩ = some (.slice ab (d j).2.length cb) ∧
    Row (Old w) w ab (bvs (d j).2) ∧ (ab = none → cb = 0) ∧ (d j).2.length ≤ 140737488355328 ∧ (d j).2.length ≤ cb
theorem cells0392 : Tryd.prog.cellsOf 92 = 2 := by kernel_rfl
theorem cells033 : Tryd.prog.cellsOf 3 = 1 := by kernel_rfl
theorem cells035 : Tryd.prog.cellsOf 5 = 1 := by kernel_rfl
theorem cells0322 : Tryd.prog.cellsOf 22 = 1 := by kernel_rfl
section
variable {H : Type} {enc : TypeId × Value → H} {w : World} {spare : Nat → Bool} {held : Bool}
set_option maxRecDepth 100000 in
theorem openCalls03 {fuel : Nat} {cs : List Value} {x : DataW H × List MemPlace} (h : DataW.trod enc Tryd.prog w 0 spare held fuel 79 cs = some x) (hfit : Fit Tryd.prog 79 x.1) :
    ∃ a n c d, cs = [.slice a n c] ∧ Calls03 w a n d ∧ n * 32 ≤ reachBytes := by
  rcases open_slice Tryd.underlying79 h with ⟨rfl, rfl⟩ | ⟨a, n, c, m, k, D, Pl, rfl, _, hl, hm, hmm, rfl, hx⟩
  · exact ⟨none, 0, 0, fun _ => (0, []), rfl, fun j hj => absurd hj (Nat.not_lt_zero j), by omega⟩
  · have hnm : n ≤ m := by rw [hmm]; split <;> omega
    have hf0 := hfit.slice Tryd.underlying79
    have hf := hf0.2
    have hsz := hf0.1
    rw [show Tryd.prog.bytesOf 92 = 32 from by kernel_rfl] at hsz
    have hpl : 0 < n → ∃ b o, a = ⟨b, o, none⟩ := fun h0 => by
      obtain ⟨cs0, h1, _⟩ := hx 0 (by omega)
      rw [cells0392] at h1
      exact plain_base (by decide) h1
    have each : ∀ j, j < n → ∃ d : Do3, ∃ b o ab cb, some a = some ⟨b, o, none⟩ ∧ w.cell? ⟨b, o + j * 2, none⟩ = some (.int .i64 d.1) ∧ w.cell? ⟨b, o + j * 2 + 1, none⟩ = some (.slice ab d.2.length cb) ∧
        Row (Old w) w ab (bvs d.2) ∧ (ab = none → cb = 0) ∧ d.2.length ≤ 140737488355328 ∧ d.2.length ≤ cb := by
      intro j hj
      have hfj := hf (D j) (List.mem_map.2 ⟨j, List.mem_range.2 hj, rfl⟩)
      obtain ⟨cs', h1, h2⟩ := hx j (by omega)
      rw [cells0392] at h1
      obtain ⟨_, hlen, hcell⟩ := World.cells?_some h1
      obtain ⟨y0, y1, q, hD, _, g0, g1⟩ := trod_struct2 Tryd.underlying92 h2
      have hDj : D j = .agg [y0.1, y1.1] := congrArg Prod.fst hD
      rw [hDj] at hfj
      match cs', hlen with
      | [v0, v1], _ =>
        have e0 := hcell 0 (by omega)
        have e1 := hcell 1 (by omega)
        simp only [cells033, cells0322] at g0 g1
        obtain ⟨z0, rfl, _, _⟩ := trod_int_inv (v := v0) Tryd.underlying3 g0
        obtain ⟨v, xs, hv, ⟨ab, cb, rfl, r1, r2, r3, r4⟩, hlx, _⟩ := open_bytes Tryd.underlying22 Tryd.underlying5 cells035 g1 (by kernel_rfl) (hfj.struct Tryd.underlying92 (j := 1) rfl rfl)
        obtain rfl : v1 = .slice ab xs.length cb := by simpa using hv
        rw [Go.Deep.add_add] at e0 e1
        obtain ⟨b, o, rfl⟩ := hpl (by omega)
        rw [Addr.add_lit] at e0 e1
        have hrb : reachBytes ≤ 140737488355328 := by decide
        refine ⟨(z0, xs), b, o, ab, cb, rfl, by simpa using e0, by simpa [Nat.add_assoc] using e1, r1, r2, by show xs.length ≤ _; omega, r3⟩
    obtain ⟨d, hd⟩ := choose_lt each
    refine ⟨some a, n, c, d, rfl, fun j hj => hd j hj, ?_⟩
    simp at hsz
    omega
end
theorem mod_place3 (z : Int) {n : Nat} (h0 : 0 < n) (h1 : n ≤ 1000000) : ∃ m : Nat, m < n ∧ wrap64 ((IntKind.u64.wrap z).tmod (n : Int)) = (m : Int) := by
  have hz : 0 ≤ IntKind.u64.wrap z := by
    simp only [IntKind.wrap_u64]
    omega
  have e := Int.tmod_eq_emod_of_nonneg (b := (n : Int)) hz
  have h2 : 0 ≤ IntKind.u64.wrap z % (n : Int) := Int.emod_nonneg _ (by omega)
  have h3 : IntKind.u64.wrap z % (n : Int) < n := Int.emod_lt_of_pos _ (by omega)
  obtain ⟨r, hr⟩ : ∃ r, IntKind.u64.wrap z % (n : Int) = r := ⟨_, rfl⟩
  rw [hr] at h2 h3 e
  refine ⟨r.toNat, by omega, ?_⟩
  rw [e]
  unfold wrap64
  omega
/-- a call's kind -/
theorem kind3 (z : Int) : wrap64 ((IntKind.u64.wrap z).tmod 5) = 0 ∨ wrap64 ((IntKind.u64.wrap z).tmod 5) = 1 ∨ wrap64 ((IntKind.u64.wrap z).tmod 5) = 2 ∨ wrap64 ((IntKind.u64.wrap z).tmod 5) = 3 ∨ wrap64 ((IntKind.u64.wrap z).tmod 5) = 4 := by
  obtain ⟨m, h1, h2⟩ := mod_place3 z (n := 5) (by decide) (by decide)
  have h3 : wrap64 ((IntKind.u64.wrap z).tmod 5) = (m : Int) := h2
  rw [h3]
  omega

/-! ### sizes of what is written -/
theorem fine_forceN {B : List (List UInt8)} {S : LogS} (hB : Fine B []) (hf : LFine S) (hfr : S.fr + S.sectors ≤ B.length) : Fine B (forceN S) := by
  unfold forceN
  split
  · exact hB
  · have := hf.stream
    have := hf.durable
    exact fine_forceL hB (by omega)
theorem fine_resetN {B : List (List UInt8)} {S : LogS} (hB : Fine B []) (hf : LFine S) (hfr : S.fr + S.sectors ≤ B.length) : Fine B (resetN S) := by
  unfold resetN
  split
  · exact hB
  · have := hf.pos
    exact hB.snoc (i := S.fr) (by omega) (length_sectorL (Nat.zero_le _))
theorem openS_CFine {B : List (List UInt8)} {fr n : Nat} (h1 : 1 ≤ n) (h2 : fr + n ≤ B.length) : CFine (openS B fr n) B (openR B fr n).1 (openR B fr n).2.2.length := by
  obtain ⟨f1, f2, f3, f4⟩ := openR_facts B fr n
  obtain ⟨g1, g2⟩ := splitL_facts _ (openR B fr n).2.2 (Nat.le_refl _)
  refine ⟨h1, h2, ?_, g1, f1, f2, f3, f4⟩
  show (splitL (openR B fr n).2.2).2 = ((openR B fr n).2.2.take (splitL (openR B fr n).2.2).2).length
  rw [List.length_take]
  omega
theorem fine_openW {B : List (List UInt8)} {fr n : Nat} (hB : Fine B []) (h1 : 1 ≤ n) (h2 : fr + n ≤ B.length) : Fine B (openW B fr n) := by
  have hc := openS_CFine h1 h2
  have hu := hc.used
  refine ⟨hB.pos, hB.le, hB.size, fun p hp => ?_⟩
  have e1 : (openS B fr n).fr = fr := rfl
  have e2 : (openS B fr n).sectors = n := rfl
  unfold openW cleanW at hp
  rcases List.mem_append.1 hp with hp | hp
  · have := lastW_mem hc hp
    rw [e1] at this
    rw [e2] at hu
    exact ⟨by omega, this.2⟩
  · have := zerosL_mem hp
    rw [e1, e2] at this
    rw [e2] at hu
    exact ⟨by omega, this.2.2⟩

/-! ### a log over a whole disk -/
structure Good (B : List (List UInt8)) (S : LogS) : Prop where
  fine : LFine S
  fr : S.fr = 0
  sec : S.sectors = B.length
  disk : Fine B []
  stale : NoStale B S.last
namespace Good
variable {B : List (List UInt8)} {S : LogS}
theorem all (h : Good B S) : S.fr + S.sectors ≤ B.length := by rw [h.fr, h.sec]; omega
theorem append (h : Good B S) (r : List UInt8) : Good B (appendS S r) :=
  ⟨h.fine.append r, by unfold appendS; split <;> exact h.fr, by unfold appendS; split <;> exact h.sec, h.disk, h.stale.append r⟩
theorem force (h : Good B S) : Good (applyP B (forceN S)) (forceS S) :=
  ⟨h.fine.force, by unfold forceS; split <;> exact h.fr, by rw [length_applyP]; unfold forceS; split <;> exact h.sec, (fine_forceN h.disk h.fine h.all).flush, by
    have e : (forceS S).last = S.last := by unfold forceS; split <;> rfl
    rw [e]
    exact h.stale.force h.fine h.fr⟩
theorem reset (h : Good B S) : Good (applyP B (resetN S)) (resetS S) :=
  ⟨h.fine.reset, by unfold resetS; split <;> exact h.fr, by rw [length_applyP]; unfold resetS; split <;> exact h.sec, (fine_resetN h.disk h.fine h.all).flush, h.stale.reset h.fr⟩
theorem opened (hB : Fine B []) : Good (applyP B (openW B 0 B.length)) (openS B 0 B.length) :=
  ⟨openS_fine hB.pos (by have := hB.le; omega), rfl, by rw [length_applyP]; rfl, (fine_openW hB hB.pos (by omega)).flush, NoStale.opened rfl⟩
end Good
theorem opened_few {B : List (List UInt8)} (hB : Fine B []) : (splitL (openR B 0 B.length).2.2).1.length ≤ 458752 := by
  obtain ⟨f1, f2, _, _⟩ := openR_facts B 0 B.length
  obtain ⟨g1, g2⟩ := splitL_facts _ (openR B 0 B.length).2.2 (Nat.le_refl _)
  have := hB.le
  omega
end Go.Proofs.YtbaombnnagidcaaDoor
