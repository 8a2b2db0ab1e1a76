/- One law's row out of its walk: the frame, over any row of this seat. -/
import Derived.Test.YtbaombnnagidcaaDoorOpen
import Derived.ChangeCalls
namespace Go.Proofs.YtbaombnnagidcaaDoor
open Go.RowKit Go.ChangeShapes Go.WideShapes Go.ChangeAt

theorem val_slice {P : Program} {w : World} {r : Reach} {base : Nat} {t e : TypeId} {v u : Value} (ht : P.underlying t = some (.slice e)) (hok : Value.okWide P w r base t v) (h : v.cells.toList = [u]) : v = u := by
  cases v <;> first
    | (simpa [Value.cells] using h)
    | (simp [Value.okWide, ht, Cell.okWide, Cell.ok] at hok)

/-- WHAT A LAW's WALK MUST GIVE: at every reading of its arguments: true, and nothing of what was there has turned. -/
def LawWalk (f : FuncId) (fn : Func) (cond : (H : Type) → List (DataW H) → Prop) (laid : List (String × DataW Unit)) : Prop :=
  ∀ (H : Type) (enc : TypeId × Value → H) (W : World) (args : Array Value) (ds : List (DataW H)) (ps : List MemPlace),
    (∀ (j : Nat) t v, fn.params[j]? = some t → args[j]? = some v → ∃ base, Value.okWide Tryd.prog W .any base t v) →
    DataW.TrodAll enc Tryd.prog W 0 (fun _ => true) true fn.params.toList args.toList ds ps →
    (∀ (j : Nat) t d, fn.params.toList[j]? = some t → ds[j]? = some d → Fit Tryd.prog t d) → cond H ds → laidMetH Tryd.prog laid W →
    Calls Tryd.prog f args W fun e W' => e = .returned (.bool true) ∧ Upd Nil W W'

set_option maxRecDepth 100000 in
theorem law_contract {f : FuncId} {fn : Func} {s : ChangeSpec} {k : Option ((H : Type) → List (DataW H) → Bool)} {cond : (H : Type) → List (DataW H) → Prop} {laid : List (String × DataW Unit)} {fresh handsOn again : Bool}
    (walk : LawWalk f fn cond laid) (hcond : ∀ (H : Type) (ds : List (DataW H)), (∀ q, k = some q → q H ds = true) → cond H ds)
    (hread : ∀ t ∈ fn.params.toList, Tryd.prog.readableRec t = true ∧ t < Tryd.prog.types.size) (hres : fn.resultTypes = #[4]) (hvars : s.vars = [])
    (hspec : ∀ (H : Type) (ds : List (DataW H)), ds.length = fn.params.size → s.fn H (ds ++ []) = { results := [.lit (.bool true)], args := ds })
    {H : Type} {enc : TypeId × Value → H} (W : World) (base : Nat) (args : Array Value) (ds gs : List (DataW H)) (before : List MemPlace)
    (hval : ∀ (j : Nat) t v, fn.params[j]? = some t → args[j]? = some v → Value.okWide Tryd.prog W .any base t v)
    (hW : DataW.Whole enc Tryd.prog fn.params.toList s.vars false W args.toList ds gs before)
    (hk : ∀ q, k = some q → q H (ds ++ gs) = true)
    (hsz : (DataW.weightsEach Tryd.prog (fn.params.toList ++ (OpenSpec.ofChange s).bare.plain.varTypes Tryd.prog) (ds ++ gs)).all (· ≤ reachBytes) = true)
    (hL : laidMetH Tryd.prog laid W) :
    Calls Tryd.prog f args W fun e W' => ∃ v, e = .returned v ∧ s.post enc Tryd.prog fn false fresh handsOn again W args v W' := by
  have hW' := hW
  obtain ⟨p, q, hA, hV, rfl, hfz, hnd⟩ := hW
  rw [hvars] at hV
  obtain ⟨rfl, rfl⟩ := trodVars_none hV
  rw [List.append_nil] at hk hsz
  have hfit : ∀ (j : Nat) t d, fn.params.toList[j]? = some t → ds[j]? = some d → Fit Tryd.prog t d := fun j t d ht hd =>
    Fit.ofEach hsz (by rw [List.getElem?_append_left (by exact (List.getElem?_eq_some_iff.1 ht).1)]; exact ht) hd
  have hlen : ds.length = fn.params.size := by
    have := (trodAll_length hA).2
    simpa using this
  refine (walk H enc W args ds p (fun j t v h1 h2 => ⟨base, hval j t v h1 h2⟩) hA hfit (hcond H ds hk) hL).mono fun e W' ⟨he, hu⟩ => ?_
  subst he
  exact ⟨_, rfl, post_law laidOut hread hres Tryd.underlying4 hvars (hspec H ds hlen) hW' hu.below⟩
end Go.Proofs.YtbaombnnagidcaaDoor
