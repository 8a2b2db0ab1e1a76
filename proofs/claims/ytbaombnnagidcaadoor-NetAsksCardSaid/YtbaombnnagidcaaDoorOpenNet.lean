/- Arguments that are requests and replies, opened. -/
import Derived.Test.YtbaombnnagidcaaDoorOpen
import Derived.Test.YtbaombnnagidcaaDoorClose
import Derived.Test.YtbaombnnagidcaaDoorMay
import Derived.Lib.SmallJoins
namespace Go.Proofs.YtbaombnnagidcaaDoor
open Go.RowKit Go.ChangeShapes Go.WideShapes

theorem cellsNet9 : Tryd.prog.cellsOf 9 = 1 := by kernel_rfl
theorem cellsNet3 : Tryd.prog.cellsOf 3 = 1 := by kernel_rfl
theorem cellsNetReq : Tryd.prog.cellsOf 46 = 4 := by kernel_rfl
theorem cellsNetRep : Tryd.prog.cellsOf 53 = 5 := by kernel_rfl
theorem fit_string {H : Type} {t : TypeId} {s : ByteArray} {x : DataW H × List MemPlace} (hx : x = (.lit (.string s.data.toList), [])) (h : Fit Tryd.prog t x.1) : s.size ≤ 140737488355328 := by
  subst hx
  have := h s.data.toList.length (by simp [DataW.weights])
  rw [Array.length_toList] at this
  exact Nat.le_trans this (by decide)
section
variable {H : Type} {enc : TypeId × Value → H} {w : World} {r : Reach} {base b0 : Nat} {spare : Nat → Bool} {held : Bool}
set_option maxRecDepth 100000 in
theorem open_req {v : Value} {fuel : Nat} {x : DataW H × List MemPlace} (hok : Value.okWide Tryd.prog w r b0 46 v) (h : DataW.trod enc Tryd.prog w base spare held fuel 46 v.cells.toList = some x) (hfit : Fit Tryd.prog 46 x.1) :
    ∃ q : Req, v = q.val ∧ q.id.size ≤ 140737488355328 ∧ q.text.size ≤ 140737488355328 := by
  obtain ⟨cs, rfl, hcs⟩ := okWide_struct Tryd.underlying46 hok
  rw [cellsNetReq] at hcs
  obtain ⟨y0, y1, y2, y3, n, hD, _, g0, g1, g2, g3⟩ := Go.Joins.trod_struct4 Tryd.underlying46 h
  obtain ⟨c0, c1, c2, c3, rfl⟩ := Go.Joins.array4 hcs
  have hD1 : x.1 = .agg [y0.1, y1.1, y2.1, y3.1] := congrArg Prod.fst hD
  rw [hD1] at hfit
  simp only [cellsNet9, cellsNet3] at g0 g1 g2 g3
  obtain ⟨s0, e0, f0, _⟩ := DataW.trod_string Tryd.underlying9 g0
  obtain ⟨z1, e1, _, _⟩ := DataW.trod_int Tryd.underlying3 g1
  obtain ⟨z2, e2, _, _⟩ := DataW.trod_int Tryd.underlying3 g2
  obtain ⟨s3, e3, f3, _⟩ := DataW.trod_string Tryd.underlying9 g3
  have h0 := fit_string f0 (hfit.struct Tryd.underlying46 (j := 0) rfl rfl)
  have h3 := fit_string f3 (hfit.struct Tryd.underlying46 (j := 3) rfl rfl)
  simp [Value.cells] at e0 e1 e2 e3
  subst e0; subst e1; subst e2; subst e3
  exact ⟨⟨s0, z1, z2, s3⟩, rfl, h0, h3⟩
theorem array5 {α : Type} {cs : Array α} (h : cs.size = 5) : ∃ c0 c1 c2 c3 c4, cs = #[c0, c1, c2, c3, c4] := by
  obtain ⟨l⟩ := cs
  match l, h with
  | [c0, c1, c2, c3, c4], _ => exact ⟨c0, c1, c2, c3, c4, rfl⟩
theorem trod_struct5 {P : Program} {t : TypeId} {f0 f1 f2 f3 f4 : Field} {fuel : Nat} {cs : List Value} {x : DataW H × List MemPlace} (ht : P.underlying t = some (.struct #[f0, f1, f2, f3, f4])) (h : DataW.trod enc P w base spare held fuel t cs = some x) :
    ∃ y0 y1 y2 y3 y4 n, x.1 = .agg [y0.1, y1.1, y2.1, y3.1, y4.1] ∧ DataW.trod enc P w base spare held n f0.type ((cs.drop f0.offset).take (P.cellsOf f0.type)) = some y0 ∧
      DataW.trod enc P w base spare held n f1.type ((cs.drop f1.offset).take (P.cellsOf f1.type)) = some y1 ∧ DataW.trod enc P w base spare held n f2.type ((cs.drop f2.offset).take (P.cellsOf f2.type)) = some y2 ∧
      DataW.trod enc P w base spare held n f3.type ((cs.drop f3.offset).take (P.cellsOf f3.type)) = some y3 ∧ DataW.trod enc P w base spare held n f4.type ((cs.drop f4.offset).take (P.cellsOf f4.type)) = some y4 := by
  obtain ⟨xs, n, _, rfl, hl, hlen, hf⟩ := DataW.trod_struct ht h
  match xs, hlen with
  | [y0, y1, y2, y3, y4], _ => exact ⟨y0, y1, y2, y3, y4, n, by simp, by simpa using hf 0 f0 rfl, by simpa using hf 1 f1 rfl, by simpa using hf 2 f2 rfl, by simpa using hf 3 f3 rfl, by simpa using hf 4 f4 rfl⟩
set_option maxRecDepth 100000 in
theorem open_rep {v : Value} {fuel : Nat} {x : DataW H × List MemPlace} (hok : Value.okWide Tryd.prog w r b0 53 v) (h : DataW.trod enc Tryd.prog w base spare held fuel 53 v.cells.toList = some x) (hfit : Fit Tryd.prog 53 x.1) :
    ∃ q : Rep, v = q.val ∧ q.id.size ≤ 140737488355328 ∧ q.text.size ≤ 140737488355328 := by
  obtain ⟨cs, rfl, hcs⟩ := okWide_struct Tryd.underlying53 hok
  rw [cellsNetRep] at hcs
  obtain ⟨y0, y1, y2, y3, y4, n, hD1, g0, g1, g2, g3, g4⟩ := trod_struct5 Tryd.underlying53 h
  obtain ⟨c0, c1, c2, c3, c4, rfl⟩ := array5 hcs
  rw [hD1] at hfit
  simp only [cellsNet9, cellsNet3] at g0 g1 g2 g3 g4
  obtain ⟨s0, e0, f0, _⟩ := DataW.trod_string Tryd.underlying9 g0
  obtain ⟨z1, e1, _, _⟩ := DataW.trod_int Tryd.underlying3 g1
  obtain ⟨z2, e2, _, _⟩ := DataW.trod_int Tryd.underlying3 g2
  obtain ⟨z3, e3, _, _⟩ := DataW.trod_int Tryd.underlying3 g3
  obtain ⟨s4, e4, f4, _⟩ := DataW.trod_string Tryd.underlying9 g4
  have h0 := fit_string f0 (hfit.struct Tryd.underlying53 (j := 0) rfl rfl)
  have h4 := fit_string f4 (hfit.struct Tryd.underlying53 (j := 4) rfl rfl)
  simp [Value.cells] at e0 e1 e2 e3 e4
  subst e0; subst e1; subst e2; subst e3; subst e4
  exact ⟨⟨s0, z1, z2, z3, s4⟩, rfl, h0, h4⟩
end
end Go.Proofs.YtbaombnnagidcaaDoor
