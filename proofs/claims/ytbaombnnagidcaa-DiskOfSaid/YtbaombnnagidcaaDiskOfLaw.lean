/- DiskOf: a disk of an image goes its own way from a copy of it, and both have what the document's disks have; for every image and every list of calls, no condition. -/
import Derived.Test.YtbaombnnagidcaaDiskOf2
namespace Go.Proofs.Ytbaombnnagidcaa.diskOf
open Go.RowKit Go.Deep Go.WideShapes Go.ChangeShapes Go.ChangeAt

set_option maxRecDepth 100000 in
theorem lawWalk (cond : (H : Type) → List (DataW H) → Prop) : LawWalk 11 Try.f11 cond [] := by
  intro H enc W args ds ps hval hA hfit _ _
  rw [Try.params11] at hA hval hfit
  obtain ⟨v0, vs0, d0, ds0, p0, q0, hargs, rfl, rfl, h0, r0⟩ := trodAll_cons hA
  obtain ⟨v1, vs1, d1, ds1, p1, q1, rfl, rfl, rfl, h1, r1⟩ := trodAll_cons r0
  obtain ⟨rfl, rfl, rfl⟩ := trodAll_nil r1
  obtain rfl : args = #[v0, v1] := by cases args; simp_all
  obtain ⟨fuel0, h0⟩ := h0
  obtain ⟨fuel1, h1⟩ := h1
  obtain ⟨A, n, c0, vs, B, hv0, hn1, hn2, hnn, hrow, hall, hln, hsz, hx⟩ := open_rows Try.underlying22 Try.underlying25 Try.underlying5 cells0225 cells025 h0 (by kernel_rfl) (hfit 0 _ d0 rfl rfl)
  rw [show Try.prog.bytesOf 25 = 24 from by kernel_rfl] at hsz
  subst hln
  obtain ⟨a, m, c, d, hv, hc, hn⟩ := openCalls02 h1 (hfit 1 _ d1 rfl rfl)
  obtain ⟨base0, hok0⟩ := hval 0 _ v0 rfl rfl
  obtain rfl := val_slice Try.underlying22 hok0 hv0
  obtain ⟨base, hok⟩ := hval 1 _ v1 rfl rfl
  obtain rfl := val_slice Try.underlying64 hok hv
  have hr : reachBytes ≤ 140737488355328 := by decide
  by_cases hs : Sound B
  · exact walk_yes W hrow hall hs c hc (by omega)
  · exact walk_no W hrow hall (by omega) (fun x hx' => Nat.le_trans (hx x hx') hr) hs a m c

noncomputable def laidWorld (os : Os) : World := World.holding Try.prog os ⟨#[], #[], []⟩
theorem reads (os : Os) {H : Type} (enc : TypeId × Value → H) : ∃ places, DataW.whole enc Try.prog ((laidWorld os).forCall (fun _ _ => 0) ⟨#[], #[.slice none 0 0, .slice none 0 0], []⟩).memory Try.f11.params.toList Rows.diskOfSpec.vars false (#[.slice none 0 0, .slice none 0 0] : Array Value).toList 8 = some ([.nil, .nil], [], places) :=
  ⟨[], by kernel_rfl⟩

set_option maxRecDepth 100000 in
theorem lifted (os : Os) (started : os.Started) (H : Type) (enc : TypeId × Value → H) (F : Stop.Interp) :
    ReturnsInHanded {} Try.checked os 11 .any ((OpenSpec.ofChange Rows.diskOfSpec).preRow enc Try.prog Try.f11 Rows.diskOfRow.domain false Rows.diskOfRow.laid) (((OpenSpec.ofChange Rows.diskOfSpec).at F).post enc Try.prog Try.f11 false true false false) := by
  obtain ⟨places, hx⟩ := reads os enc
  refine returnsInHanded_of_row (C := Try.checked) (s := OpenSpec.ofChange Rows.diskOfSpec) own started (by kernel_rfl) Try.func11
    (witness_row_at (enc := enc) (C := Try.checked) false (laidWorld os) #[.slice none 0 0, .slice none 0 0] rfl (by kernel_rfl) (by kernel_rfl) (by kernel_rfl)
      (OpenSpec.preRow_of_cond 8 hx (by kernel_rfl) (fun k hk => by cases hk) (by kernel_rfl) (laidMet_of_run' 8 (by kernel_rfl) (by kernel_rfl)))) ?_
  intro W base args ds gs before hval hW _ hk hsz hL _ _
  exact law_contract (k := (OpenSpec.ofChange Rows.diskOfSpec).cond) (lawWalk (fun _ _ => True)) (fun H ds h => trivial) (by decide +kernel) rfl rfl (fun H ds hd => by
    match ds, hd with
    | [_, _], _ => rfl) W base args ds gs before hval hW hk hsz hL

theorem said : Rows.DiskOfSaid :=
  OpenClaim.holds_of_cond 11 Try.f11 rfl rfl rfl rfl rfl rfl rfl ⟨rfl, rfl, rfl, rfl, rfl⟩ rfl rfl rfl rfl rfl (by kernel_rfl) Try.func11 (by kernel_rfl)
    (of_decide_eq_true (by kernel_rfl)) (by unfold Func.isWrapper; first | (rw [if_pos (by decide +kernel)]; kernel_rfl) | (rw [if_neg (by decide +kernel)]; exact ⟨rfl, rfl⟩))
    (fun os started H enc _ F => by rw [OpenClaim.pre_eq_preRow]; exact lifted os started H enc F)
#print axioms said
end Go.Proofs.Ytbaombnnagidcaa.diskOf
