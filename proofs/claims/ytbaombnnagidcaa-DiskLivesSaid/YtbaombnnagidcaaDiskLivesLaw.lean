/- DiskLives: whatever is done to a disk, it answers and has what the document's disk has; for every number of sectors and every list of calls, no condition. -/
import Derived.Test.YtbaombnnagidcaaDiskLives
namespace Go.Proofs.Ytbaombnnagidcaa.diskLives
open Go.RowKit Go.Deep Go.WideShapes Go.ChangeShapes Go.ChangeAt

set_option maxRecDepth 100000 in
theorem lawWalk (cond : (H : Type) → List (DataW H) → Prop) : LawWalk 10 Try.f10 cond [] := by
  intro H enc W args ds ps hval hA hfit _ _
  rw [Try.params10] at hA hval hfit
  obtain ⟨v0, vs0, d0, ds0, p0, q0, hargs, rfl, rfl, h0, r0⟩ := trodAll_cons hA
  obtain ⟨v1, vs1, d1, ds1, p1, q1, rfl, rfl, rfl, h1, r1⟩ := trodAll_cons r0
  obtain ⟨rfl, rfl, rfl⟩ := trodAll_nil r1
  obtain rfl : args = #[v0, v1] := by cases args; simp_all
  obtain ⟨fuel1, h1⟩ := h1
  obtain ⟨base0, hok0⟩ := hval 0 _ v0 rfl rfl
  obtain ⟨z, rfl, _⟩ := open_int Try.underlying3 hok0 h0
  obtain ⟨a, m, c, d, hv, hc, hn⟩ := openCalls02 h1 (hfit 1 _ d1 rfl rfl)
  obtain ⟨base, hok⟩ := hval 1 _ v1 rfl rfl
  obtain rfl := val_slice Try.underlying64 hok hv
  have hr : reachBytes ≤ 140737488355328 := by decide
  by_cases hz : z < 1 ∨ 4096 < z
  · exact walk_no W hz a m c
  · obtain ⟨n, rfl⟩ : ∃ n : Nat, z = n := ⟨z.toNat, by omega⟩
    exact walk_yes W (n := n) (by omega) (by omega) c hc (by omega)

noncomputable def laidWorld (os : Os) : World := World.holding Try.prog os ⟨#[], #[], []⟩
theorem reads (os : Os) {H : Type} (enc : TypeId × Value → H) : ∃ places, DataW.whole enc Try.prog ((laidWorld os).forCall (fun _ _ => 0) ⟨#[], #[.int .i64 0, .slice none 0 0], []⟩).memory Try.f10.params.toList Rows.diskLivesSpec.vars false (#[.int .i64 0, .slice none 0 0] : Array Value).toList 8 = some ([.lit (.int .i64 0), .nil], [], places) :=
  ⟨[], by kernel_rfl⟩

set_option maxRecDepth 100000 in
theorem lifted (os : Os) (started : os.Started) (H : Type) (enc : TypeId × Value → H) (F : Stop.Interp) :
    ReturnsInHanded {} Try.checked os 10 .any ((OpenSpec.ofChange Rows.diskLivesSpec).preRow enc Try.prog Try.f10 Rows.diskLivesRow.domain false Rows.diskLivesRow.laid) (((OpenSpec.ofChange Rows.diskLivesSpec).at F).post enc Try.prog Try.f10 false true false false) := by
  obtain ⟨places, hx⟩ := reads os enc
  refine returnsInHanded_of_row (C := Try.checked) (s := OpenSpec.ofChange Rows.diskLivesSpec) own started (by kernel_rfl) Try.func10
    (witness_row_at (enc := enc) (C := Try.checked) false (laidWorld os) #[.int .i64 0, .slice none 0 0] rfl (by kernel_rfl) (by kernel_rfl) (by kernel_rfl)
      (OpenSpec.preRow_of_cond 8 hx (by kernel_rfl) (fun k hk => by cases hk) (by kernel_rfl) (laidMet_of_run' 8 (by kernel_rfl) (by kernel_rfl)))) ?_
  intro W base args ds gs before hval hW _ hk hsz hL _ _
  exact law_contract (k := (OpenSpec.ofChange Rows.diskLivesSpec).cond) (lawWalk (fun _ _ => True)) (fun H ds h => trivial) (by decide +kernel) rfl rfl (fun H ds hd => by
    match ds, hd with
    | [_, _], _ => rfl) W base args ds gs before hval hW hk hsz hL

theorem said : Rows.DiskLivesSaid :=
  OpenClaim.holds_of_cond 10 Try.f10 rfl rfl rfl rfl rfl rfl rfl ⟨rfl, rfl, rfl, rfl, rfl⟩ rfl rfl rfl rfl rfl (by kernel_rfl) Try.func10 (by kernel_rfl)
    (of_decide_eq_true (by kernel_rfl)) (by unfold Func.isWrapper; first | (rw [if_pos (by decide +kernel)]; kernel_rfl) | (rw [if_neg (by decide +kernel)]; exact ⟨rfl, rfl⟩))
    (fun os started H enc _ F => by rw [OpenClaim.pre_eq_preRow]; exact lifted os started H enc F)
#print axioms said
end Go.Proofs.Ytbaombnnagidcaa.diskLives
