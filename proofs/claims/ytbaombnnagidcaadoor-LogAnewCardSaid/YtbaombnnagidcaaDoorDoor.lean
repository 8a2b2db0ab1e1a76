/- The table of half bytes as the rows list it. -/
import Derived.Test.YtbaombnnagidcaaDoorClose
import Derived.Test.YtbaombnnagidcaaDoorSum
import Derived.Test.YtbaombnnagidcaaDoorCards
import Derived.Test.YtbaombnnagidcaaDoorTie
import Derived.Lib.LaidTab
namespace Go.Proofs.YtbaombnnagidcaaDoor
open Go.RowKit Go.ChangeShapes Go.WideShapes Go.ChangeAt

theorem gTab : Tryd.prog.globalNamed "rostrum/wire.halves" = some 0 := by kernel_rfl
theorem gTabType : (Tryd.prog.globals[0]?).map (·.type) = some 96 := by kernel_rfl
theorem gTabCells : Tryd.prog.cellsOf 96 = 16 := by kernel_rfl
theorem gElemCells : Tryd.prog.cellsOf 27 = 1 := by kernel_rfl
abbrev doorLaid : List (String × DataW Unit) := [("rostrum/wire.halves", Rows.laid_rostrum_wire_halves)]

/-- WHAT THE ROW's LIST GIVES: the table's cells. -/
theorem tab_of {W : World} (h : laidMetH Tryd.prog doorLaid W) : Tab W := fun i hi => by
  have ht : Lib.TabIs Tryd.prog W "rostrum/wire.halves" .u32 (tab16.map (fun n => ((n : Nat) : Int))) :=
    Lib.tabIs_of_head (rest := []) gTab gTabType Tryd.underlying96 Tryd.underlying27 gElemCells gTabCells h
  have := ht.cell gTab i (by simpa [tab16] using hi)
  rw [this]
  congr 2
  have e : ∀ i : Fin 16, (tab16.map (fun n => ((n : Nat) : Int))).getD i.1 0 = ((tab16.getD i.1 0 : Nat) : Int) := by decide +kernel
  exact e ⟨i, hi⟩

/-- A WORLD FOR THE WITNESS: the settled one, the table (block 0) holding what its initialiser lays. -/
noncomputable def laidWorld (os : Os) : World :=
  { World.holding Tryd.prog os ⟨#[], #[], []⟩ with heap := (World.holding Tryd.prog os ⟨#[], #[], []⟩).heap.modify 0 fun
      | .cells _ t frozen => .cells #[.int .u32 0, .int .u32 498536548, .int .u32 997073096, .int .u32 651767980, .int .u32 1994146192, .int .u32 1802195444, .int .u32 1303535960, .int .u32 1342533948, .int .u32 3988292384, .int .u32 4027552580, .int .u32 3604390888, .int .u32 3412177804, .int .u32 2607071920, .int .u32 2262029012, .int .u32 2685067896, .int .u32 3183342108] t frozen
      | o => o }
end Go.Proofs.YtbaombnnagidcaaDoor
