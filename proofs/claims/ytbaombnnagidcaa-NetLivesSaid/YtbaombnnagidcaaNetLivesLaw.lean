/- NetLives: whatever is done to a net, it answers and has what the reference's net has: for every list of calls, of any length, whatever memory its parts share. -/
import Derived.Test.YtbaombnnagidcaaNetLives
import Derived.Test.YtbaombnnagidcaaClose
namespace Go.Proofs.Ytbaombnnagidcaa.netLives
open Go.RowKit Go.Deep Go.WideShapes Go.ChangeShapes Go.ChangeAt

theorem cells58 : Try.prog.cellsOf 58 = 3 := by kernel_rfl
theorem cells3 : Try.prog.cellsOf 3 = 1 := by kernel_rfl
theorem cells5 : Try.prog.cellsOf 5 = 1 := by kernel_rfl
theorem cells25 : Try.prog.cellsOf 25 = 1 := by kernel_rfl

section
variable {H : Type} {enc : TypeId × Value → H} {w : World} {spare : Nat → Bool} {held : Bool}

set_option maxRecDepth 100000 in
theorem openCalls {fuel : Nat} {cs : List Value} {x : DataW H × List MemPlace} (h : DataW.trod enc Try.prog w 0 spare held fuel 53 cs = some x) (hfit : Fit Try.prog 53 x.1) :
    ∃ a n c d, cs = [.slice a n c] ∧ Calls19 w a n d := by
  rcases open_slice Try.underlying53 h with ⟨rfl, rfl⟩ | ⟨a, n, c, m, k, D, Pl, rfl, _, hl, hm, hmm, rfl, hx⟩
  · exact ⟨none, 0, 0, fun _ => (0, 0, []), rfl, fun j hj => absurd hj (Nat.not_lt_zero j)⟩
  · have hnm : n ≤ m := by rw [hmm]; split <;> omega
    have hf := (hfit.slice Try.underlying53).2
    have hpl : 0 < n → ∃ b o, a = ⟨b, o, none⟩ := fun h0 => by
      obtain ⟨cs0, h1, _⟩ := hx 0 (by omega)
      rw [cells58] at h1
      exact plain_base (by decide) h1
    have each : ∀ j, j < n → ∃ d : Int × Int × List UInt8, ∃ b o ab cb, a = ⟨b, o, none⟩ ∧ w.cell? ⟨b, o + j * 3, none⟩ = some (.int .i64 d.1) ∧ w.cell? ⟨b, o + j * 3 + 1, none⟩ = some (.int .i64 d.2.1) ∧
        w.cell? ⟨b, o + j * 3 + 2, none⟩ = some (.slice ab d.2.2.length cb) ∧ Row (Old w) w ab (bvs d.2.2) ∧ (ab = none → cb = 0) ∧ d.2.2.length ≤ 140737488355328 := by
      intro j hj
      have hfj := hf (D j) (List.mem_map.2 ⟨j, List.mem_range.2 hj, rfl⟩)
      obtain ⟨cs', h1, h2⟩ := hx j (by omega)
      rw [cells58] at h1
      obtain ⟨_, hlen, hcell⟩ := World.cells?_some h1
      obtain ⟨y0, y1, y2, q, hD, _, g0, g1, g2⟩ := trod_struct3 Try.underlying58 h2
      have hDj : D j = .agg [y0.1, y1.1, y2.1] := congrArg Prod.fst hD
      rw [hDj] at hfj
      match cs', hlen with
      | [v0, v1, v2], _ =>
        have e0 := hcell 0 (by omega)
        have e1 := hcell 1 (by omega)
        have e2 := hcell 2 (by omega)
        simp only [cells3, cells25] at g0 g1 g2
        obtain ⟨z0, rfl, _, _⟩ := trod_int_inv (v := v0) Try.underlying3 g0
        obtain ⟨z1, rfl, _, _⟩ := trod_int_inv (v := v1) Try.underlying3 g1
        obtain ⟨v, xs, hv, ⟨ab, cb, rfl, r1, r2, r3, r4⟩, hlx, _⟩ := open_bytes Try.underlying25 Try.underlying5 cells5 g2 (by kernel_rfl) (hfj.struct Try.underlying58 (j := 2) rfl rfl)
        obtain rfl : v2 = .slice ab xs.length cb := by simpa using hv
        rw [Go.Deep.add_add] at e0 e1 e2
        obtain ⟨b, o, rfl⟩ := hpl (by omega)
        rw [Addr.add_lit] at e0 e1 e2
        have hrb : reachBytes ≤ 140737488355328 := by decide
        refine ⟨(z0, z1, xs), b, o, ab, cb, rfl, by simpa using e0, by simpa [Nat.add_assoc] using e1, by simpa [Nat.add_assoc] using e2, r1, r2, by show xs.length ≤ _; omega⟩
    obtain ⟨d, hd⟩ := choose_lt each
    refine ⟨some a, n, c, d, rfl, fun j hj => ?_⟩
    obtain ⟨b, o, ab, cb, rfl, hh⟩ := hd j hj
    exact ⟨b, o, ab, cb, rfl, hh⟩
end

set_option maxRecDepth 100000 in
theorem lawWalk (cond : (H : Type) → List (DataW H) → Prop) : LawWalk 6 Try.f6 cond [] := by
  intro H enc W args ds ps hval hA hfit _ _
  rw [Try.params6] at hA hval hfit
  obtain ⟨v0, vs0, d0, ds0, p0, q0, hargs, rfl, rfl, h0, r0⟩ := trodAll_cons hA
  obtain ⟨rfl, rfl, rfl⟩ := trodAll_nil r0
  obtain rfl : args = #[v0] := by cases args; simp_all
  obtain ⟨fuel, h0⟩ := h0
  obtain ⟨a, n, c, d, hv, hc⟩ := openCalls h0 (hfit 0 _ d0 rfl rfl)
  obtain ⟨base, hok⟩ := hval 0 _ v0 rfl rfl
  obtain rfl := val_slice Try.underlying53 hok hv
  exact walk W a n c d hc

noncomputable def laidWorld (os : Os) : World := World.holding Try.prog os ⟨#[], #[], []⟩
theorem reads (os : Os) {H : Type} (enc : TypeId × Value → H) : ∃ places, DataW.whole enc Try.prog ((laidWorld os).forCall (fun _ _ => 0) ⟨#[], #[.slice none 0 0], []⟩).memory Try.f6.params.toList Rows.netLivesSpec.vars false #[Value.slice none 0 0].toList 8 = some ([.nil], [], places) :=
  ⟨[], by kernel_rfl⟩

set_option maxRecDepth 100000 in
theorem lifted (os : Os) (started : os.Started) (H : Type) (enc : TypeId × Value → H) (F : Stop.Interp) :
    ReturnsInHanded {} Try.checked os 6 .any ((OpenSpec.ofChange Rows.netLivesSpec).preRow enc Try.prog Try.f6 Rows.netLivesRow.domain false Rows.netLivesRow.laid) (((OpenSpec.ofChange Rows.netLivesSpec).at F).post enc Try.prog Try.f6 false true false false) := by
  obtain ⟨places, hx⟩ := reads os enc
  refine returnsInHanded_of_row (C := Try.checked) (s := OpenSpec.ofChange Rows.netLivesSpec) own started (by kernel_rfl) Try.func6
    (witness_row_at (enc := enc) (C := Try.checked) false (laidWorld os) #[.slice none 0 0] rfl (by kernel_rfl) (by kernel_rfl) (by kernel_rfl)
      (OpenSpec.preRow_of_cond 8 hx (by kernel_rfl) (fun k hk => by cases hk) (by kernel_rfl) (laidMet_of_run' 8 (by kernel_rfl) (by kernel_rfl)))) ?_
  intro W base args ds gs before hval hW _ hk hsz hL _ _
  exact law_contract (k := none) (lawWalk (fun _ _ => True)) (fun _ _ _ => trivial) (by decide +kernel) rfl rfl (fun H ds hd => by
    match ds, hd with
    | [_], _ => rfl) W base args ds gs before hval hW (fun _ h => by cases h) hsz hL

theorem said : Rows.NetLivesSaid :=
  OpenClaim.holds_of_cond 6 Try.f6 rfl rfl rfl rfl rfl rfl rfl ⟨rfl, rfl, rfl, rfl, rfl⟩ rfl rfl rfl rfl rfl (by kernel_rfl) Try.func6 (by kernel_rfl)
    (of_decide_eq_true (by kernel_rfl)) (by unfold Func.isWrapper; first | (rw [if_pos (by decide +kernel)]; kernel_rfl) | (rw [if_neg (by decide +kernel)]; exact ⟨rfl, rfl⟩))
    (fun os started H enc _ F => by rw [OpenClaim.pre_eq_preRow]; exact lifted os started H enc F)
#print axioms said
end Go.Proofs.Ytbaombnnagidcaa.netLives
