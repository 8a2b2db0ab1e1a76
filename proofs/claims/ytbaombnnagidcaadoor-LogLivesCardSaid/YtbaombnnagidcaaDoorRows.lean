/-
  NARROWER THAN 'FOR EVERY INPUT', by the rows' own cells (each row's printed sentence says how): WirePuts: laid · WireTorn: laid · WireBack: laid · NetAsks: laid · NetReplies: laid · NetBack: laid · LogRoom: laid · LogNobody: laid · LogAnew: laid · LogLives: laid.
  DERIVED. THE GIVEN ROWS OF THIS SEAT. 10 by the template 'for every input the law returns true; each argument reads behind the call as it read before'; 0 by the template 'total and deterministic' (their statements: YtbaombnnagidcaaDoorTotals.lean).
  GIVEN WITH THE SEED: the statements are not yours to turn. If you find one false, say at which input.
  Laid BY PROGRAM, IN A SANDBOX (cutbox-rows.mjs): the forced cells as the released guide's own fill.sh prints them over the translation f6e754fac2df8e95… (all of the seat's roots in one cut). By AI agents, Wed Nov 11 2026. No macro, syntax, notation, axiom, sorry.
-/
import Derived.Test.YtbaombnnagidcaaDoorChecked
import GoSem.Claim
import GoSem.ClaimJoined
import GoSem.ClaimMapViews
import Derived.JoinedTies
import Derived.KernelRfl
namespace Go.Proofs.YtbaombnnagidcaaDoor
/- THE CELL 'sum', in the pinned program and in every row, IS THE sha256 OF THE DUMP (.gsa) THAT YtbaombnnagidcaaDoorProg.lean LOADS. Nothing in Lean hashes anything: it is a label: what it is worth is what the hold of that sum in a sandbox is worth. -/
noncomputable def Tryd.pinned : Pinned := { name := "ytbaombnnagidcaadoor", sum := "f6e754fac2df8e95481bcba21df296049cf57f31028b41a8be27187a6ec00354", checked := Tryd.checked }
namespace Rows
def none {H : Type} : Left H := { results := [], args := [] }

/- WHAT THE LISTED PACKAGE-LEVEL VARIABLES READ AS WHEN THE CALL BEGINS. Each datum BY PROGRAM (the guide's laid-datum.mjs) off the statement by which the dump's own 'gosem.cut.vars' lays the variable. In a bare row this is a premise. The card (YtbaombnnagidcaaDoorCards.lean) ties it to the program's text. -/
def laid_rostrum_wire_halves {H : Type} : DataW H := .agg [.lit (.int .u32 0), .lit (.int .u32 498536548), .lit (.int .u32 997073096), .lit (.int .u32 651767980), .lit (.int .u32 1994146192), .lit (.int .u32 1802195444), .lit (.int .u32 1303535960), .lit (.int .u32 1342533948), .lit (.int .u32 3988292384), .lit (.int .u32 4027552580), .lit (.int .u32 3604390888), .lit (.int .u32 3412177804), .lit (.int .u32 2607071920), .lit (.int .u32 2262029012), .lit (.int .u32 2685067896), .lit (.int .u32 3183342108)]

/-- 'rostrumlaw01.WirePuts': WHATEVER THE INPUT: true; the input reads as it did. -/
def wirePutsSpec : ChangeSpec := { name := "wirePuts", fn := fun _ => fun
  | [d1, d2, d3] => { results := [.lit (.bool true)], args := [d1, d2, d3] }
  | _ => none }
def wirePutsRow : OpenClaim := { program := "ytbaombnnagidcaadoor", sum := "f6e754fac2df8e95481bcba21df296049cf57f31028b41a8be27187a6ec00354", func := "rostrum/rostrumlaw01.WirePuts", spec := "wirePuts", named := ["rostrum/wire.halves"], apart := false, laid := [("rostrum/wire.halves", laid_rostrum_wire_halves)] }
def WirePutsSaid : Prop := wirePutsRow.holds Tryd.pinned (OpenSpec.ofChange wirePutsSpec)

/-- ITS FALSE NEIGHBOUR: 'it returns false'. Refute it at one input. -/
def wirePutsWrong : ChangeSpec := { name := "wirePuts", fn := fun _ => fun
  | [d1, d2, d3] => { results := [.lit (.bool false)], args := [d1, d2, d3] }
  | _ => none }
def WirePutsWrongFalsely : Prop := wirePutsRow.holds Tryd.pinned (OpenSpec.ofChange wirePutsWrong)

/-- 'rostrumlaw01.WireTorn': WHATEVER THE INPUT: true; the input reads as it did. -/
def wireTornSpec : ChangeSpec := { name := "wireTorn", fn := fun _ => fun
  | [d1, d2, d3, d4] => { results := [.lit (.bool true)], args := [d1, d2, d3, d4] }
  | _ => none }
def wireTornRow : OpenClaim := { program := "ytbaombnnagidcaadoor", sum := "f6e754fac2df8e95481bcba21df296049cf57f31028b41a8be27187a6ec00354", func := "rostrum/rostrumlaw01.WireTorn", spec := "wireTorn", named := ["rostrum/wire.halves"], apart := false, laid := [("rostrum/wire.halves", laid_rostrum_wire_halves)] }
def WireTornSaid : Prop := wireTornRow.holds Tryd.pinned (OpenSpec.ofChange wireTornSpec)

/-- ITS FALSE NEIGHBOUR: 'it returns false'. Refute it at one input. -/
def wireTornWrong : ChangeSpec := { name := "wireTorn", fn := fun _ => fun
  | [d1, d2, d3, d4] => { results := [.lit (.bool false)], args := [d1, d2, d3, d4] }
  | _ => none }
def WireTornWrongFalsely : Prop := wireTornRow.holds Tryd.pinned (OpenSpec.ofChange wireTornWrong)

/-- 'rostrumlaw01.WireBack': WHATEVER THE INPUT: true; the input reads as it did. -/
def wireBackSpec : ChangeSpec := { name := "wireBack", fn := fun _ => fun
  | [d1, d2, d3, d4] => { results := [.lit (.bool true)], args := [d1, d2, d3, d4] }
  | _ => none }
def wireBackRow : OpenClaim := { program := "ytbaombnnagidcaadoor", sum := "f6e754fac2df8e95481bcba21df296049cf57f31028b41a8be27187a6ec00354", func := "rostrum/rostrumlaw01.WireBack", spec := "wireBack", named := ["rostrum/wire.halves"], apart := false, laid := [("rostrum/wire.halves", laid_rostrum_wire_halves)] }
def WireBackSaid : Prop := wireBackRow.holds Tryd.pinned (OpenSpec.ofChange wireBackSpec)

/-- ITS FALSE NEIGHBOUR: 'it returns false'. Refute it at one input. -/
def wireBackWrong : ChangeSpec := { name := "wireBack", fn := fun _ => fun
  | [d1, d2, d3, d4] => { results := [.lit (.bool false)], args := [d1, d2, d3, d4] }
  | _ => none }
def WireBackWrongFalsely : Prop := wireBackRow.holds Tryd.pinned (OpenSpec.ofChange wireBackWrong)

/-- 'rostrumlaw19.NetAsks': WHATEVER THE INPUT: true; the input reads as it did. -/
def netAsksSpec : ChangeSpec := { name := "netAsks", fn := fun _ => fun
  | [d1, d2] => { results := [.lit (.bool true)], args := [d1, d2] }
  | _ => none }
def netAsksRow : OpenClaim := { program := "ytbaombnnagidcaadoor", sum := "f6e754fac2df8e95481bcba21df296049cf57f31028b41a8be27187a6ec00354", func := "rostrum/rostrumlaw19.NetAsks", spec := "netAsks", named := ["rostrum/wire.halves"], apart := false, laid := [("rostrum/wire.halves", laid_rostrum_wire_halves)] }
def NetAsksSaid : Prop := netAsksRow.holds Tryd.pinned (OpenSpec.ofChange netAsksSpec)

/-- ITS FALSE NEIGHBOUR: 'it returns false'. Refute it at one input. -/
def netAsksWrong : ChangeSpec := { name := "netAsks", fn := fun _ => fun
  | [d1, d2] => { results := [.lit (.bool false)], args := [d1, d2] }
  | _ => none }
def NetAsksWrongFalsely : Prop := netAsksRow.holds Tryd.pinned (OpenSpec.ofChange netAsksWrong)

/-- 'rostrumlaw19.NetReplies': WHATEVER THE INPUT: true; the input reads as it did. -/
def netRepliesSpec : ChangeSpec := { name := "netReplies", fn := fun _ => fun
  | [d1, d2] => { results := [.lit (.bool true)], args := [d1, d2] }
  | _ => none }
def netRepliesRow : OpenClaim := { program := "ytbaombnnagidcaadoor", sum := "f6e754fac2df8e95481bcba21df296049cf57f31028b41a8be27187a6ec00354", func := "rostrum/rostrumlaw19.NetReplies", spec := "netReplies", named := ["rostrum/wire.halves"], apart := false, laid := [("rostrum/wire.halves", laid_rostrum_wire_halves)] }
def NetRepliesSaid : Prop := netRepliesRow.holds Tryd.pinned (OpenSpec.ofChange netRepliesSpec)

/-- ITS FALSE NEIGHBOUR: 'it returns false'. Refute it at one input. -/
def netRepliesWrong : ChangeSpec := { name := "netReplies", fn := fun _ => fun
  | [d1, d2] => { results := [.lit (.bool false)], args := [d1, d2] }
  | _ => none }
def NetRepliesWrongFalsely : Prop := netRepliesRow.holds Tryd.pinned (OpenSpec.ofChange netRepliesWrong)

/-- 'rostrumlaw19.NetBack': WHATEVER THE INPUT: true; the input reads as it did. -/
def netBackSpec : ChangeSpec := { name := "netBack", fn := fun _ => fun
  | [d1, d2, d3] => { results := [.lit (.bool true)], args := [d1, d2, d3] }
  | _ => none }
def netBackRow : OpenClaim := { program := "ytbaombnnagidcaadoor", sum := "f6e754fac2df8e95481bcba21df296049cf57f31028b41a8be27187a6ec00354", func := "rostrum/rostrumlaw19.NetBack", spec := "netBack", named := ["rostrum/wire.halves"], apart := false, laid := [("rostrum/wire.halves", laid_rostrum_wire_halves)] }
def NetBackSaid : Prop := netBackRow.holds Tryd.pinned (OpenSpec.ofChange netBackSpec)

/-- ITS FALSE NEIGHBOUR: 'it returns false'. Refute it at one input. -/
def netBackWrong : ChangeSpec := { name := "netBack", fn := fun _ => fun
  | [d1, d2, d3] => { results := [.lit (.bool false)], args := [d1, d2, d3] }
  | _ => none }
def NetBackWrongFalsely : Prop := netBackRow.holds Tryd.pinned (OpenSpec.ofChange netBackWrong)

/-- 'rostrumlaw03.LogRoom': WHATEVER THE INPUT: true; the input reads as it did. -/
def logRoomSpec : ChangeSpec := { name := "logRoom", fn := fun _ => fun
  | [d1, d2] => { results := [.lit (.bool true)], args := [d1, d2] }
  | _ => none }
def logRoomRow : OpenClaim := { program := "ytbaombnnagidcaadoor", sum := "f6e754fac2df8e95481bcba21df296049cf57f31028b41a8be27187a6ec00354", func := "rostrum/rostrumlaw03.LogRoom", spec := "logRoom", unfollowed := true, recurses := true, named := ["rostrum/wire.halves"], apart := false, laid := [("rostrum/wire.halves", laid_rostrum_wire_halves)] }
def LogRoomSaid : Prop := logRoomRow.holds Tryd.pinned (OpenSpec.ofChange logRoomSpec)

/-- ITS FALSE NEIGHBOUR: 'it returns false'. Refute it at one input. -/
def logRoomWrong : ChangeSpec := { name := "logRoom", fn := fun _ => fun
  | [d1, d2] => { results := [.lit (.bool false)], args := [d1, d2] }
  | _ => none }
def LogRoomWrongFalsely : Prop := logRoomRow.holds Tryd.pinned (OpenSpec.ofChange logRoomWrong)

/-- 'rostrumlaw03.LogNobody': WHATEVER THE INPUT: true; the input reads as it did. -/
def logNobodySpec : ChangeSpec := { name := "logNobody", fn := fun _ => fun
  | [d1, d2] => { results := [.lit (.bool true)], args := [d1, d2] }
  | _ => none }
def logNobodyRow : OpenClaim := { program := "ytbaombnnagidcaadoor", sum := "f6e754fac2df8e95481bcba21df296049cf57f31028b41a8be27187a6ec00354", func := "rostrum/rostrumlaw03.LogNobody", spec := "logNobody", unfollowed := true, recurses := true, named := ["rostrum/wire.halves"], apart := false, laid := [("rostrum/wire.halves", laid_rostrum_wire_halves)] }
def LogNobodySaid : Prop := logNobodyRow.holds Tryd.pinned (OpenSpec.ofChange logNobodySpec)

/-- ITS FALSE NEIGHBOUR: 'it returns false'. Refute it at one input. -/
def logNobodyWrong : ChangeSpec := { name := "logNobody", fn := fun _ => fun
  | [d1, d2] => { results := [.lit (.bool false)], args := [d1, d2] }
  | _ => none }
def LogNobodyWrongFalsely : Prop := logNobodyRow.holds Tryd.pinned (OpenSpec.ofChange logNobodyWrong)

/-- 'rostrumlaw03.LogAnew': WHATEVER THE INPUT: true; the input reads as it did. -/
def logAnewSpec : ChangeSpec := { name := "logAnew", fn := fun _ => fun
  | [d1, d2, d3] => { results := [.lit (.bool true)], args := [d1, d2, d3] }
  | _ => none }
def logAnewRow : OpenClaim := { program := "ytbaombnnagidcaadoor", sum := "f6e754fac2df8e95481bcba21df296049cf57f31028b41a8be27187a6ec00354", func := "rostrum/rostrumlaw03.LogAnew", spec := "logAnew", unfollowed := true, recurses := true, named := ["rostrum/wire.halves"], apart := false, laid := [("rostrum/wire.halves", laid_rostrum_wire_halves)] }
def LogAnewSaid : Prop := logAnewRow.holds Tryd.pinned (OpenSpec.ofChange logAnewSpec)

/-- ITS FALSE NEIGHBOUR: 'it returns false'. Refute it at one input. -/
def logAnewWrong : ChangeSpec := { name := "logAnew", fn := fun _ => fun
  | [d1, d2, d3] => { results := [.lit (.bool false)], args := [d1, d2, d3] }
  | _ => none }
def LogAnewWrongFalsely : Prop := logAnewRow.holds Tryd.pinned (OpenSpec.ofChange logAnewWrong)

/-- 'rostrumlaw03.LogLives': WHATEVER THE INPUT: true; the input reads as it did. -/
def logLivesSpec : ChangeSpec := { name := "logLives", fn := fun _ => fun
  | [d1, d2, d3, d4] => { results := [.lit (.bool true)], args := [d1, d2, d3, d4] }
  | _ => none }
def logLivesRow : OpenClaim := { program := "ytbaombnnagidcaadoor", sum := "f6e754fac2df8e95481bcba21df296049cf57f31028b41a8be27187a6ec00354", func := "rostrum/rostrumlaw03.LogLives", spec := "logLives", unfollowed := true, recurses := true, named := ["rostrum/wire.halves"], apart := false, laid := [("rostrum/wire.halves", laid_rostrum_wire_halves)] }
def LogLivesSaid : Prop := logLivesRow.holds Tryd.pinned (OpenSpec.ofChange logLivesSpec)

/-- ITS FALSE NEIGHBOUR: 'it returns false'. Refute it at one input. -/
def logLivesWrong : ChangeSpec := { name := "logLives", fn := fun _ => fun
  | [d1, d2, d3, d4] => { results := [.lit (.bool false)], args := [d1, d2, d3, d4] }
  | _ => none }
def LogLivesWrongFalsely : Prop := logLivesRow.holds Tryd.pinned (OpenSpec.ofChange logLivesWrong)

/- THE SECOND FORM. 'bulk': how many values and letters a reading holds, each counted each time it is reached (what is shared counts as often as it is met; a slice's spare places count too). A statement '..UptoSaid' is the law's where the arguments, and the package variables that the reading takes, are together of bulk at most 1048576: NARROWER than '..Said'. Prove '..Said' where nothing that the law and all that it calls make is longer than what came in: it says more and counts as full. Else prove '..UptoSaid'. A law counts once. -/
mutual
def uptoBulk {H : Type} : DataW H → Nat
  | .lit (.string bytes) => bytes.length + 1
  | .lit _ => 1
  | .nil => 1
  | .ptr d => uptoBulk d + 1
  | .slice elems spare => uptoBulkAll elems + uptoBulkAll spare + 1
  | .agg parts => uptoBulkAll parts + 1
  | .iface _ d => uptoBulk d + 1
  | .map entries => uptoBulkEntries entries + 1
  | .held _ => 1
def uptoBulkAll {H : Type} : List (DataW H) → Nat
  | [] => 0
  | d :: r => uptoBulk d + uptoBulkAll r
def uptoBulkEntries {H : Type} : List (Lit × DataW H) → Nat
  | [] => 0
  | x :: r => uptoBulkEntry x + uptoBulkEntries r
def uptoBulkEntry {H : Type} : Lit × DataW H → Nat
  | (.string bytes, d) => bytes.length + uptoBulk d + 1
  | (_, d) => uptoBulk d + 1
 end
def uptoSmall : (H : Type) → List (DataW H) → Bool := fun _ ds => decide (uptoBulkAll ds ≤ 1048576)
def OpenSpec.upto (s : _root_.Go.ChangeSpec) : _root_.Go.OpenSpec := { _root_.Go.OpenSpec.ofChange s with cond := some uptoSmall }

/-- 'rostrumlaw01.WirePuts', WHERE WHAT IT READS IS OF BULK AT MOST 1048576: true; the input reads as it did. -/
def wirePutsUptoRow : OpenClaim := { program := "ytbaombnnagidcaadoor", sum := "f6e754fac2df8e95481bcba21df296049cf57f31028b41a8be27187a6ec00354", func := "rostrum/rostrumlaw01.WirePuts", spec := "wirePuts", named := ["rostrum/wire.halves"], apart := false, laid := [("rostrum/wire.halves", laid_rostrum_wire_halves)], narrowed := true }
def WirePutsUptoSaid : Prop := wirePutsUptoRow.holds Tryd.pinned (OpenSpec.upto wirePutsSpec)

/-- 'rostrumlaw01.WireTorn', WHERE WHAT IT READS IS OF BULK AT MOST 1048576: true; the input reads as it did. -/
def wireTornUptoRow : OpenClaim := { program := "ytbaombnnagidcaadoor", sum := "f6e754fac2df8e95481bcba21df296049cf57f31028b41a8be27187a6ec00354", func := "rostrum/rostrumlaw01.WireTorn", spec := "wireTorn", named := ["rostrum/wire.halves"], apart := false, laid := [("rostrum/wire.halves", laid_rostrum_wire_halves)], narrowed := true }
def WireTornUptoSaid : Prop := wireTornUptoRow.holds Tryd.pinned (OpenSpec.upto wireTornSpec)

/-- 'rostrumlaw01.WireBack', WHERE WHAT IT READS IS OF BULK AT MOST 1048576: true; the input reads as it did. -/
def wireBackUptoRow : OpenClaim := { program := "ytbaombnnagidcaadoor", sum := "f6e754fac2df8e95481bcba21df296049cf57f31028b41a8be27187a6ec00354", func := "rostrum/rostrumlaw01.WireBack", spec := "wireBack", named := ["rostrum/wire.halves"], apart := false, laid := [("rostrum/wire.halves", laid_rostrum_wire_halves)], narrowed := true }
def WireBackUptoSaid : Prop := wireBackUptoRow.holds Tryd.pinned (OpenSpec.upto wireBackSpec)

/-- 'rostrumlaw19.NetAsks', WHERE WHAT IT READS IS OF BULK AT MOST 1048576: true; the input reads as it did. -/
def netAsksUptoRow : OpenClaim := { program := "ytbaombnnagidcaadoor", sum := "f6e754fac2df8e95481bcba21df296049cf57f31028b41a8be27187a6ec00354", func := "rostrum/rostrumlaw19.NetAsks", spec := "netAsks", named := ["rostrum/wire.halves"], apart := false, laid := [("rostrum/wire.halves", laid_rostrum_wire_halves)], narrowed := true }
def NetAsksUptoSaid : Prop := netAsksUptoRow.holds Tryd.pinned (OpenSpec.upto netAsksSpec)

/-- 'rostrumlaw19.NetReplies', WHERE WHAT IT READS IS OF BULK AT MOST 1048576: true; the input reads as it did. -/
def netRepliesUptoRow : OpenClaim := { program := "ytbaombnnagidcaadoor", sum := "f6e754fac2df8e95481bcba21df296049cf57f31028b41a8be27187a6ec00354", func := "rostrum/rostrumlaw19.NetReplies", spec := "netReplies", named := ["rostrum/wire.halves"], apart := false, laid := [("rostrum/wire.halves", laid_rostrum_wire_halves)], narrowed := true }
def NetRepliesUptoSaid : Prop := netRepliesUptoRow.holds Tryd.pinned (OpenSpec.upto netRepliesSpec)

/-- 'rostrumlaw19.NetBack', WHERE WHAT IT READS IS OF BULK AT MOST 1048576: true; the input reads as it did. -/
def netBackUptoRow : OpenClaim := { program := "ytbaombnnagidcaadoor", sum := "f6e754fac2df8e95481bcba21df296049cf57f31028b41a8be27187a6ec00354", func := "rostrum/rostrumlaw19.NetBack", spec := "netBack", named := ["rostrum/wire.halves"], apart := false, laid := [("rostrum/wire.halves", laid_rostrum_wire_halves)], narrowed := true }
def NetBackUptoSaid : Prop := netBackUptoRow.holds Tryd.pinned (OpenSpec.upto netBackSpec)

/-- 'rostrumlaw03.LogRoom', WHERE WHAT IT READS IS OF BULK AT MOST 1048576: true; the input reads as it did. -/
def logRoomUptoRow : OpenClaim := { program := "ytbaombnnagidcaadoor", sum := "f6e754fac2df8e95481bcba21df296049cf57f31028b41a8be27187a6ec00354", func := "rostrum/rostrumlaw03.LogRoom", spec := "logRoom", unfollowed := true, recurses := true, named := ["rostrum/wire.halves"], apart := false, laid := [("rostrum/wire.halves", laid_rostrum_wire_halves)], narrowed := true }
def LogRoomUptoSaid : Prop := logRoomUptoRow.holds Tryd.pinned (OpenSpec.upto logRoomSpec)

/-- 'rostrumlaw03.LogNobody', WHERE WHAT IT READS IS OF BULK AT MOST 1048576: true; the input reads as it did. -/
def logNobodyUptoRow : OpenClaim := { program := "ytbaombnnagidcaadoor", sum := "f6e754fac2df8e95481bcba21df296049cf57f31028b41a8be27187a6ec00354", func := "rostrum/rostrumlaw03.LogNobody", spec := "logNobody", unfollowed := true, recurses := true, named := ["rostrum/wire.halves"], apart := false, laid := [("rostrum/wire.halves", laid_rostrum_wire_halves)], narrowed := true }
def LogNobodyUptoSaid : Prop := logNobodyUptoRow.holds Tryd.pinned (OpenSpec.upto logNobodySpec)

/-- 'rostrumlaw03.LogAnew', WHERE WHAT IT READS IS OF BULK AT MOST 1048576: true; the input reads as it did. -/
def logAnewUptoRow : OpenClaim := { program := "ytbaombnnagidcaadoor", sum := "f6e754fac2df8e95481bcba21df296049cf57f31028b41a8be27187a6ec00354", func := "rostrum/rostrumlaw03.LogAnew", spec := "logAnew", unfollowed := true, recurses := true, named := ["rostrum/wire.halves"], apart := false, laid := [("rostrum/wire.halves", laid_rostrum_wire_halves)], narrowed := true }
def LogAnewUptoSaid : Prop := logAnewUptoRow.holds Tryd.pinned (OpenSpec.upto logAnewSpec)

/-- 'rostrumlaw03.LogLives', WHERE WHAT IT READS IS OF BULK AT MOST 1048576: true; the input reads as it did. -/
def logLivesUptoRow : OpenClaim := { program := "ytbaombnnagidcaadoor", sum := "f6e754fac2df8e95481bcba21df296049cf57f31028b41a8be27187a6ec00354", func := "rostrum/rostrumlaw03.LogLives", spec := "logLives", unfollowed := true, recurses := true, named := ["rostrum/wire.halves"], apart := false, laid := [("rostrum/wire.halves", laid_rostrum_wire_halves)], narrowed := true }
def LogLivesUptoSaid : Prop := logLivesUptoRow.holds Tryd.pinned (OpenSpec.upto logLivesSpec)

end Rows
end Go.Proofs.YtbaombnnagidcaaDoor
