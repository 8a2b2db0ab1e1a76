/- DiskCrashes: a crash that keeps all is a flush, one that keeps nothing leaves the image; what is read is the last write; for every list of calls, no condition. -/
import Derived.Test.YtbaombnnagidcaaDiskCrashes
namespace Go.Proofs.Ytbaombnnagidcaa.diskCrashes
open Go.RowKit Go.Deep Go.WideShapes Go.ChangeShapes Go.ChangeAt

set_option maxRecDepth 100000 in
theorem lawWalk (cond : (H : Type) → List (DataW H) → Prop) : LawWalk 9 Try.f9 cond [] := by
  intro H enc W args ds ps hval hA hfit _ _
  rw [Try.params9] at hA hval hfit
  obtain ⟨v0, vs0, d0, ds0, p0, q0, hargs, rfl, rfl, h0, r0⟩ := trodAll_cons hA
  obtain ⟨rfl, rfl, rfl⟩ := trodAll_nil r0
  obtain rfl : args = #[v0] := by cases args; simp_all
  obtain ⟨fuel, h0⟩ := h0
  obtain ⟨a, n, c, d, hv, hc, hn⟩ := openCalls02 h0 (hfit 0 _ d0 rfl rfl)
  obtain ⟨base, hok⟩ := hval 0 _ v0 rfl rfl
  obtain rfl := val_slice Try.underlying64 hok hv
  have hr : reachBytes ≤ 9223372036854775807 := by decide
  exact walk W c hc (by omega)

noncomputable def laidWorld (os : Os) : World := World.holding Try.prog os ⟨#[], #[], []⟩
theorem reads (os : Os) {H : Type} (enc : TypeId × Value → H) : ∃ places, DataW.whole enc Try.prog ((laidWorld os).forCall (fun _ _ => 0) ⟨#[], #[.slice none 0 0], []⟩).memory Try.f9.params.toList Rows.diskCrashesSpec.vars false (#[.slice none 0 0] : Array Value).toList 8 = some ([.nil], [], places) :=
  ⟨[], by kernel_rfl⟩

set_option maxRecDepth 100000 in
theorem lifted (os : Os) (started : os.Started) (H : Type) (enc : TypeId × Value → H) (F : Stop.Interp) :
    ReturnsInHanded {} Try.checked os 9 .any ((OpenSpec.ofChange Rows.diskCrashesSpec).preRow enc Try.prog Try.f9 Rows.diskCrashesRow.domain false Rows.diskCrashesRow.laid) (((OpenSpec.ofChange Rows.diskCrashesSpec).at F).post enc Try.prog Try.f9 false true false false) := by
  obtain ⟨places, hx⟩ := reads os enc
  refine returnsInHanded_of_row (C := Try.checked) (s := OpenSpec.ofChange Rows.diskCrashesSpec) own started (by kernel_rfl) Try.func9
    (witness_row_at (enc := enc) (C := Try.checked) false (laidWorld os) #[.slice none 0 0] rfl (by kernel_rfl) (by kernel_rfl) (by kernel_rfl)
      (OpenSpec.preRow_of_cond 8 hx (by kernel_rfl) (fun k hk => by cases hk) (by kernel_rfl) (laidMet_of_run' 8 (by kernel_rfl) (by kernel_rfl)))) ?_
  intro W base args ds gs before hval hW _ hk hsz hL _ _
  exact law_contract (k := (OpenSpec.ofChange Rows.diskCrashesSpec).cond) (lawWalk (fun _ _ => True)) (fun H ds h => trivial) (by decide +kernel) rfl rfl (fun H ds hd => by
    match ds, hd with
    | [_], _ => rfl) W base args ds gs before hval hW hk hsz hL

theorem said : Rows.DiskCrashesSaid :=
  OpenClaim.holds_of_cond 9 Try.f9 rfl rfl rfl rfl rfl rfl rfl ⟨rfl, rfl, rfl, rfl, rfl⟩ rfl rfl rfl rfl rfl (by kernel_rfl) Try.func9 (by kernel_rfl)
    (of_decide_eq_true (by kernel_rfl)) (by unfold Func.isWrapper; first | (rw [if_pos (by decide +kernel)]; kernel_rfl) | (rw [if_neg (by decide +kernel)]; exact ⟨rfl, rfl⟩))
    (fun os started H enc _ F => by rw [OpenClaim.pre_eq_preRow]; exact lifted os started H enc F)
#print axioms said
end Go.Proofs.Ytbaombnnagidcaa.diskCrashes
