/- DiskKeeps: behind a crash each sector has what the last kept write had, or what it had ahead; for every list of calls and every list of bools, no condition. -/
import Derived.Test.YtbaombnnagidcaaDiskKeeps
namespace Go.Proofs.Ytbaombnnagidcaa.diskKeeps
open Go.RowKit Go.Deep Go.WideShapes Go.ChangeShapes Go.ChangeAt

theorem openBools {H : Type} {enc : TypeId × Value → H} {w : World} {spare : Nat → Bool} {held : Bool} {P : Program} {t e : TypeId} {fuel : Nat} {cs : List Value} {x : DataW H × List MemPlace} (ht : P.underlying t = some (.slice e)) (he : P.underlying e = some .bool) (hc : P.cellsOf e = 1)
    (h : DataW.trod enc P w 0 spare held fuel t cs = some x) : ∃ a bl c, cs = [.slice a (List.length bl) c] ∧ Row (Old w) w a (bls bl) ∧ bl.length ≤ maxLen := by
  obtain ⟨a, n, c, m, V, D, rfl, h1, h2, h3, h4, h5, h6⟩ := open_cells ht hc h
  have each : ∀ i, i < n → ∃ b : Bool, V i = .bool b := fun i hi => by
    obtain ⟨pl, hp⟩ := h5 i hi
    obtain ⟨b, hb, _⟩ := DataW.trod_bool he hp
    injection hb with hb
    exact ⟨b, hb⟩
  obtain ⟨f, hf⟩ := choose_lt each
  have hl : ((List.range n).map f).length = n := by simp
  have hbv : bls ((List.range n).map f) = (List.range n).map V := by
    rw [bls, List.map_map]
    exact List.map_congr_left fun i hi => (hf i (List.mem_range.1 hi)).symm
  exact ⟨a, (List.range n).map f, c, by rw [hl], by rw [hbv]; exact h4, by rw [hl]; omega⟩

set_option maxRecDepth 100000 in
theorem lawWalk (cond : (H : Type) → List (DataW H) → Prop) : LawWalk 7 Try.f7 cond [] := by
  intro H enc W args ds ps hval hA hfit _ _
  rw [Try.params7] at hA hval hfit
  obtain ⟨v0, vs0, d0, ds0, p0, q0, hargs, rfl, rfl, h0, r0⟩ := trodAll_cons hA
  obtain ⟨v1, vs1, d1, ds1, p1, q1, rfl, rfl, rfl, h1, r1⟩ := trodAll_cons r0
  obtain ⟨rfl, rfl, rfl⟩ := trodAll_nil r1
  obtain rfl : args = #[v0, v1] := by cases args; simp_all
  obtain ⟨fuel, h0⟩ := h0
  obtain ⟨fuel1, h1⟩ := h1
  obtain ⟨a, n, c, d, hv, hc, hn⟩ := openCalls02 h0 (hfit 0 _ d0 rfl rfl)
  obtain ⟨wa, bl, wc, hv1, hbl, hbn⟩ := openBools Try.underlying65 Try.underlying4 cells024 h1
  obtain ⟨base, hok⟩ := hval 0 _ v0 rfl rfl
  obtain rfl := val_slice Try.underlying64 hok hv
  obtain ⟨base1, hok1⟩ := hval 1 _ v1 rfl rfl
  obtain rfl := val_slice Try.underlying65 hok1 hv1
  have hr : reachBytes ≤ 9223372036854775807 := by decide
  exact walk W c hc (by omega) wc hbl (by simp only [maxLen] at hbn; omega)

noncomputable def laidWorld (os : Os) : World := World.holding Try.prog os ⟨#[], #[], []⟩
theorem reads (os : Os) {H : Type} (enc : TypeId × Value → H) : ∃ places, DataW.whole enc Try.prog ((laidWorld os).forCall (fun _ _ => 0) ⟨#[], #[.slice none 0 0, .slice none 0 0], []⟩).memory Try.f7.params.toList Rows.diskKeepsSpec.vars false (#[.slice none 0 0, .slice none 0 0] : Array Value).toList 8 = some ([.nil, .nil], [], places) :=
  ⟨[], by kernel_rfl⟩

set_option maxRecDepth 100000 in
theorem lifted (os : Os) (started : os.Started) (H : Type) (enc : TypeId × Value → H) (F : Stop.Interp) :
    ReturnsInHanded {} Try.checked os 7 .any ((OpenSpec.ofChange Rows.diskKeepsSpec).preRow enc Try.prog Try.f7 Rows.diskKeepsRow.domain false Rows.diskKeepsRow.laid) (((OpenSpec.ofChange Rows.diskKeepsSpec).at F).post enc Try.prog Try.f7 false true false false) := by
  obtain ⟨places, hx⟩ := reads os enc
  refine returnsInHanded_of_row (C := Try.checked) (s := OpenSpec.ofChange Rows.diskKeepsSpec) own started (by kernel_rfl) Try.func7
    (witness_row_at (enc := enc) (C := Try.checked) false (laidWorld os) #[.slice none 0 0, .slice none 0 0] rfl (by kernel_rfl) (by kernel_rfl) (by kernel_rfl)
      (OpenSpec.preRow_of_cond 8 hx (by kernel_rfl) (fun k hk => by cases hk) (by kernel_rfl) (laidMet_of_run' 8 (by kernel_rfl) (by kernel_rfl)))) ?_
  intro W base args ds gs before hval hW _ hk hsz hL _ _
  exact law_contract (k := (OpenSpec.ofChange Rows.diskKeepsSpec).cond) (lawWalk (fun _ _ => True)) (fun H ds h => trivial) (by decide +kernel) rfl rfl (fun H ds hd => by
    match ds, hd with
    | [_, _], _ => rfl) W base args ds gs before hval hW hk hsz hL

theorem said : Rows.DiskKeepsSaid :=
  OpenClaim.holds_of_cond 7 Try.f7 rfl rfl rfl rfl rfl rfl rfl ⟨rfl, rfl, rfl, rfl, rfl⟩ rfl rfl rfl rfl rfl (by kernel_rfl) Try.func7 (by kernel_rfl)
    (of_decide_eq_true (by kernel_rfl)) (by unfold Func.isWrapper; first | (rw [if_pos (by decide +kernel)]; kernel_rfl) | (rw [if_neg (by decide +kernel)]; exact ⟨rfl, rfl⟩))
    (fun os started H enc _ F => by rw [OpenClaim.pre_eq_preRow]; exact lifted os started H enc F)
#print axioms said
end Go.Proofs.Ytbaombnnagidcaa.diskKeeps
