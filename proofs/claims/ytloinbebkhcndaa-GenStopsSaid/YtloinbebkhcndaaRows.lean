/-
  No cell of these rows narrows 'for every input' (looked for: loops, veiled, ifaces, maps, wideKeys, modest, calm, conditions, laid).
  DERIVED. THE GIVEN ROWS OF THIS SEAT. 16 by the template 'for every input the law returns true; each argument reads behind the call as it read before'; 0 by the template 'total and deterministic' (their statements: YtloinbebkhcndaaTotals.lean).
  GIVEN WITH THE SEED: the statements are not yours to turn. If you find one false, say at which input.
  Laid BY PROGRAM, IN A SANDBOX (cutbox-rows.mjs): the forced cells as the released guide's own fill.sh prints them over the translation 1969182939bda885… (all of the seat's roots in one cut). By AI agents, Wed Nov 11 2026. No macro, syntax, notation, axiom, sorry.
-/
import Derived.Test.YtloinbebkhcndaaChecked
import GoSem.Claim
import GoSem.ClaimJoined
import GoSem.ClaimMapViews
import Derived.JoinedTies
import Derived.KernelRfl
namespace Go.Proofs.Ytloinbebkhcndaa
/- THE CELL 'sum', in the pinned program and in every row, IS THE sha256 OF THE DUMP (.gsa) THAT YtloinbebkhcndaaProg.lean LOADS. Nothing in Lean hashes anything: it is a label: what it is worth is what the hold of that sum in a sandbox is worth. -/
noncomputable def Try.pinned : Pinned := { name := "ytloinbebkhcndaa", sum := "1969182939bda8854fc2cf9fd9221a6e63f6050ebcd59cc12ad2f1ff4f9b9323", checked := Try.checked }
namespace Rows
def none {H : Type} : Left H := { results := [], args := [] }

/-- 'assizelaw16.QuorumCounts': WHATEVER THE INPUT: true; the input reads as it did. -/
def quorumCountsSpec : ChangeSpec := { name := "quorumCounts", fn := fun _ => fun
  | [d] => { results := [.lit (.bool true)], args := [d] }
  | _ => none }
def quorumCountsRow : OpenClaim := { program := "ytloinbebkhcndaa", sum := "1969182939bda8854fc2cf9fd9221a6e63f6050ebcd59cc12ad2f1ff4f9b9323", func := "assize/assizelaw16.QuorumCounts", spec := "quorumCounts", apart := false }
def QuorumCountsSaid : Prop := quorumCountsRow.holds Try.pinned (OpenSpec.ofChange quorumCountsSpec)

/-- ITS FALSE NEIGHBOUR: 'it returns false'. Refute it at one input. -/
def quorumCountsWrong : ChangeSpec := { name := "quorumCounts", fn := fun _ => fun
  | [d] => { results := [.lit (.bool false)], args := [d] }
  | _ => none }
def QuorumCountsWrongFalsely : Prop := quorumCountsRow.holds Try.pinned (OpenSpec.ofChange quorumCountsWrong)

/-- 'assizelaw1.GenOf': WHATEVER THE INPUT: true; the input reads as it did. -/
def genOfSpec : ChangeSpec := { name := "genOf", fn := fun _ => fun
  | [d1, d2, d3] => { results := [.lit (.bool true)], args := [d1, d2, d3] }
  | _ => none }
def genOfRow : OpenClaim := { program := "ytloinbebkhcndaa", sum := "1969182939bda8854fc2cf9fd9221a6e63f6050ebcd59cc12ad2f1ff4f9b9323", func := "assize/assizelaw1.GenOf", spec := "genOf", unfollowed := true, recurses := true, apart := false }
def GenOfSaid : Prop := genOfRow.holds Try.pinned (OpenSpec.ofChange genOfSpec)

/-- ITS FALSE NEIGHBOUR: 'it returns false'. Refute it at one input. -/
def genOfWrong : ChangeSpec := { name := "genOf", fn := fun _ => fun
  | [d1, d2, d3] => { results := [.lit (.bool false)], args := [d1, d2, d3] }
  | _ => none }
def GenOfWrongFalsely : Prop := genOfRow.holds Try.pinned (OpenSpec.ofChange genOfWrong)

/-- 'assizelaw1.GenMaps': WHATEVER THE INPUT: true; the input reads as it did. -/
def genMapsSpec : ChangeSpec := { name := "genMaps", fn := fun _ => fun
  | [d1, d2] => { results := [.lit (.bool true)], args := [d1, d2] }
  | _ => none }
def genMapsRow : OpenClaim := { program := "ytloinbebkhcndaa", sum := "1969182939bda8854fc2cf9fd9221a6e63f6050ebcd59cc12ad2f1ff4f9b9323", func := "assize/assizelaw1.GenMaps", spec := "genMaps", unfollowed := true, recurses := true, apart := false }
def GenMapsSaid : Prop := genMapsRow.holds Try.pinned (OpenSpec.ofChange genMapsSpec)

/-- ITS FALSE NEIGHBOUR: 'it returns false'. Refute it at one input. -/
def genMapsWrong : ChangeSpec := { name := "genMaps", fn := fun _ => fun
  | [d1, d2] => { results := [.lit (.bool false)], args := [d1, d2] }
  | _ => none }
def GenMapsWrongFalsely : Prop := genMapsRow.holds Try.pinned (OpenSpec.ofChange genMapsWrong)

/-- 'assizelaw1.GenTwice': WHATEVER THE INPUT: true; the input reads as it did. -/
def genTwiceSpec : ChangeSpec := { name := "genTwice", fn := fun _ => fun
  | [d1, d2] => { results := [.lit (.bool true)], args := [d1, d2] }
  | _ => none }
def genTwiceRow : OpenClaim := { program := "ytloinbebkhcndaa", sum := "1969182939bda8854fc2cf9fd9221a6e63f6050ebcd59cc12ad2f1ff4f9b9323", func := "assize/assizelaw1.GenTwice", spec := "genTwice", unfollowed := true, recurses := true, apart := false }
def GenTwiceSaid : Prop := genTwiceRow.holds Try.pinned (OpenSpec.ofChange genTwiceSpec)

/-- ITS FALSE NEIGHBOUR: 'it returns false'. Refute it at one input. -/
def genTwiceWrong : ChangeSpec := { name := "genTwice", fn := fun _ => fun
  | [d1, d2] => { results := [.lit (.bool false)], args := [d1, d2] }
  | _ => none }
def GenTwiceWrongFalsely : Prop := genTwiceRow.holds Try.pinned (OpenSpec.ofChange genTwiceWrong)

/-- 'assizelaw1.GenTakes': WHATEVER THE INPUT: true; the input reads as it did. -/
def genTakesSpec : ChangeSpec := { name := "genTakes", fn := fun _ => fun
  | [d1, d2] => { results := [.lit (.bool true)], args := [d1, d2] }
  | _ => none }
def genTakesRow : OpenClaim := { program := "ytloinbebkhcndaa", sum := "1969182939bda8854fc2cf9fd9221a6e63f6050ebcd59cc12ad2f1ff4f9b9323", func := "assize/assizelaw1.GenTakes", spec := "genTakes", unfollowed := true, recurses := true, apart := false }
def GenTakesSaid : Prop := genTakesRow.holds Try.pinned (OpenSpec.ofChange genTakesSpec)

/-- ITS FALSE NEIGHBOUR: 'it returns false'. Refute it at one input. -/
def genTakesWrong : ChangeSpec := { name := "genTakes", fn := fun _ => fun
  | [d1, d2] => { results := [.lit (.bool false)], args := [d1, d2] }
  | _ => none }
def GenTakesWrongFalsely : Prop := genTakesRow.holds Try.pinned (OpenSpec.ofChange genTakesWrong)

/-- 'assizelaw1.GenChains': WHATEVER THE INPUT: true; the input reads as it did. -/
def genChainsSpec : ChangeSpec := { name := "genChains", fn := fun _ => fun
  | [d1, d2, d3] => { results := [.lit (.bool true)], args := [d1, d2, d3] }
  | _ => none }
def genChainsRow : OpenClaim := { program := "ytloinbebkhcndaa", sum := "1969182939bda8854fc2cf9fd9221a6e63f6050ebcd59cc12ad2f1ff4f9b9323", func := "assize/assizelaw1.GenChains", spec := "genChains", unfollowed := true, recurses := true, apart := false }
def GenChainsSaid : Prop := genChainsRow.holds Try.pinned (OpenSpec.ofChange genChainsSpec)

/-- ITS FALSE NEIGHBOUR: 'it returns false'. Refute it at one input. -/
def genChainsWrong : ChangeSpec := { name := "genChains", fn := fun _ => fun
  | [d1, d2, d3] => { results := [.lit (.bool false)], args := [d1, d2, d3] }
  | _ => none }
def GenChainsWrongFalsely : Prop := genChainsRow.holds Try.pinned (OpenSpec.ofChange genChainsWrong)

/-- 'assizelaw1.GenFolds': WHATEVER THE INPUT: true; the input reads as it did. -/
def genFoldsSpec : ChangeSpec := { name := "genFolds", fn := fun _ => fun
  | [d1, d2] => { results := [.lit (.bool true)], args := [d1, d2] }
  | _ => none }
def genFoldsRow : OpenClaim := { program := "ytloinbebkhcndaa", sum := "1969182939bda8854fc2cf9fd9221a6e63f6050ebcd59cc12ad2f1ff4f9b9323", func := "assize/assizelaw1.GenFolds", spec := "genFolds", unfollowed := true, recurses := true, apart := false }
def GenFoldsSaid : Prop := genFoldsRow.holds Try.pinned (OpenSpec.ofChange genFoldsSpec)

/-- ITS FALSE NEIGHBOUR: 'it returns false'. Refute it at one input. -/
def genFoldsWrong : ChangeSpec := { name := "genFolds", fn := fun _ => fun
  | [d1, d2] => { results := [.lit (.bool false)], args := [d1, d2] }
  | _ => none }
def GenFoldsWrongFalsely : Prop := genFoldsRow.holds Try.pinned (OpenSpec.ofChange genFoldsWrong)

/-- 'assizelaw1.GenParts': WHATEVER THE INPUT: true; the input reads as it did. -/
def genPartsSpec : ChangeSpec := { name := "genParts", fn := fun _ => fun
  | [d1, d2, d3] => { results := [.lit (.bool true)], args := [d1, d2, d3] }
  | _ => none }
def genPartsRow : OpenClaim := { program := "ytloinbebkhcndaa", sum := "1969182939bda8854fc2cf9fd9221a6e63f6050ebcd59cc12ad2f1ff4f9b9323", func := "assize/assizelaw1.GenParts", spec := "genParts", unfollowed := true, recurses := true, apart := false }
def GenPartsSaid : Prop := genPartsRow.holds Try.pinned (OpenSpec.ofChange genPartsSpec)

/-- ITS FALSE NEIGHBOUR: 'it returns false'. Refute it at one input. -/
def genPartsWrong : ChangeSpec := { name := "genParts", fn := fun _ => fun
  | [d1, d2, d3] => { results := [.lit (.bool false)], args := [d1, d2, d3] }
  | _ => none }
def GenPartsWrongFalsely : Prop := genPartsRow.holds Try.pinned (OpenSpec.ofChange genPartsWrong)

/-- 'assizelaw1.GenSorted': WHATEVER THE INPUT: true; the input reads as it did. -/
def genSortedSpec : ChangeSpec := { name := "genSorted", fn := fun _ => fun
  | [d] => { results := [.lit (.bool true)], args := [d] }
  | _ => none }
def genSortedRow : OpenClaim := { program := "ytloinbebkhcndaa", sum := "1969182939bda8854fc2cf9fd9221a6e63f6050ebcd59cc12ad2f1ff4f9b9323", func := "assize/assizelaw1.GenSorted", spec := "genSorted", unfollowed := true, recurses := true, apart := false }
def GenSortedSaid : Prop := genSortedRow.holds Try.pinned (OpenSpec.ofChange genSortedSpec)

/-- ITS FALSE NEIGHBOUR: 'it returns false'. Refute it at one input. -/
def genSortedWrong : ChangeSpec := { name := "genSorted", fn := fun _ => fun
  | [d] => { results := [.lit (.bool false)], args := [d] }
  | _ => none }
def GenSortedWrongFalsely : Prop := genSortedRow.holds Try.pinned (OpenSpec.ofChange genSortedWrong)

/-- 'assizelaw1.GenSets': WHATEVER THE INPUT: true; the input reads as it did. -/
def genSetsSpec : ChangeSpec := { name := "genSets", fn := fun _ => fun
  | [d] => { results := [.lit (.bool true)], args := [d] }
  | _ => none }
def genSetsRow : OpenClaim := { program := "ytloinbebkhcndaa", sum := "1969182939bda8854fc2cf9fd9221a6e63f6050ebcd59cc12ad2f1ff4f9b9323", func := "assize/assizelaw1.GenSets", spec := "genSets", unfollowed := true, recurses := true, apart := false }
def GenSetsSaid : Prop := genSetsRow.holds Try.pinned (OpenSpec.ofChange genSetsSpec)

/-- ITS FALSE NEIGHBOUR: 'it returns false'. Refute it at one input. -/
def genSetsWrong : ChangeSpec := { name := "genSets", fn := fun _ => fun
  | [d] => { results := [.lit (.bool false)], args := [d] }
  | _ => none }
def GenSetsWrongFalsely : Prop := genSetsRow.holds Try.pinned (OpenSpec.ofChange genSetsWrong)

/-- 'assizelaw1.GenTables': WHATEVER THE INPUT: true; the input reads as it did. -/
def genTablesSpec : ChangeSpec := { name := "genTables", fn := fun _ => fun
  | [d] => { results := [.lit (.bool true)], args := [d] }
  | _ => none }
def genTablesRow : OpenClaim := { program := "ytloinbebkhcndaa", sum := "1969182939bda8854fc2cf9fd9221a6e63f6050ebcd59cc12ad2f1ff4f9b9323", func := "assize/assizelaw1.GenTables", spec := "genTables", unfollowed := true, recurses := true, apart := false }
def GenTablesSaid : Prop := genTablesRow.holds Try.pinned (OpenSpec.ofChange genTablesSpec)

/-- ITS FALSE NEIGHBOUR: 'it returns false'. Refute it at one input. -/
def genTablesWrong : ChangeSpec := { name := "genTables", fn := fun _ => fun
  | [d] => { results := [.lit (.bool false)], args := [d] }
  | _ => none }
def GenTablesWrongFalsely : Prop := genTablesRow.holds Try.pinned (OpenSpec.ofChange genTablesWrong)

/-- 'assizelaw1.GenStops': WHATEVER THE INPUT: true; the input reads as it did. -/
def genStopsSpec : ChangeSpec := { name := "genStops", fn := fun _ => fun
  | [d1, d2] => { results := [.lit (.bool true)], args := [d1, d2] }
  | _ => none }
def genStopsRow : OpenClaim := { program := "ytloinbebkhcndaa", sum := "1969182939bda8854fc2cf9fd9221a6e63f6050ebcd59cc12ad2f1ff4f9b9323", func := "assize/assizelaw1.GenStops", spec := "genStops", unfollowed := true, recurses := true, apart := false }
def GenStopsSaid : Prop := genStopsRow.holds Try.pinned (OpenSpec.ofChange genStopsSpec)

/-- ITS FALSE NEIGHBOUR: 'it returns false'. Refute it at one input. -/
def genStopsWrong : ChangeSpec := { name := "genStops", fn := fun _ => fun
  | [d1, d2] => { results := [.lit (.bool false)], args := [d1, d2] }
  | _ => none }
def GenStopsWrongFalsely : Prop := genStopsRow.holds Try.pinned (OpenSpec.ofChange genStopsWrong)

/-- 'assizelaw16.QuorumMeets': WHATEVER THE INPUT: true; the input reads as it did. -/
def quorumMeetsSpec : ChangeSpec := { name := "quorumMeets", fn := fun _ => fun
  | [d1, d2, d3, d4] => { results := [.lit (.bool true)], args := [d1, d2, d3, d4] }
  | _ => none }
def quorumMeetsRow : OpenClaim := { program := "ytloinbebkhcndaa", sum := "1969182939bda8854fc2cf9fd9221a6e63f6050ebcd59cc12ad2f1ff4f9b9323", func := "assize/assizelaw16.QuorumMeets", spec := "quorumMeets", unfollowed := true, recurses := true, apart := false }
def QuorumMeetsSaid : Prop := quorumMeetsRow.holds Try.pinned (OpenSpec.ofChange quorumMeetsSpec)

/-- ITS FALSE NEIGHBOUR: 'it returns false'. Refute it at one input. -/
def quorumMeetsWrong : ChangeSpec := { name := "quorumMeets", fn := fun _ => fun
  | [d1, d2, d3, d4] => { results := [.lit (.bool false)], args := [d1, d2, d3, d4] }
  | _ => none }
def QuorumMeetsWrongFalsely : Prop := quorumMeetsRow.holds Try.pinned (OpenSpec.ofChange quorumMeetsWrong)

/-- 'assizelaw1.GenNil': WHATEVER THE INPUT: true; the input reads as it did. -/
def genNilSpec : ChangeSpec := { name := "genNil", fn := fun _ => fun
  | [d1, d2] => { results := [.lit (.bool true)], args := [d1, d2] }
  | _ => none }
def genNilRow : OpenClaim := { program := "ytloinbebkhcndaa", sum := "1969182939bda8854fc2cf9fd9221a6e63f6050ebcd59cc12ad2f1ff4f9b9323", func := "assize/assizelaw1.GenNil", spec := "genNil", unfollowed := true, recurses := true, apart := false }
def GenNilSaid : Prop := genNilRow.holds Try.pinned (OpenSpec.ofChange genNilSpec)

/-- ITS FALSE NEIGHBOUR: 'it returns false'. Refute it at one input. -/
def genNilWrong : ChangeSpec := { name := "genNil", fn := fun _ => fun
  | [d1, d2] => { results := [.lit (.bool false)], args := [d1, d2] }
  | _ => none }
def GenNilWrongFalsely : Prop := genNilRow.holds Try.pinned (OpenSpec.ofChange genNilWrong)

/-- 'assizelaw16.QuorumPlays': WHATEVER THE INPUT: true; the input reads as it did. -/
def quorumPlaysSpec : ChangeSpec := { name := "quorumPlays", fn := fun _ => fun
  | [d1, d2, d3, d4] => { results := [.lit (.bool true)], args := [d1, d2, d3, d4] }
  | _ => none }
def quorumPlaysRow : OpenClaim := { program := "ytloinbebkhcndaa", sum := "1969182939bda8854fc2cf9fd9221a6e63f6050ebcd59cc12ad2f1ff4f9b9323", func := "assize/assizelaw16.QuorumPlays", spec := "quorumPlays", unfollowed := true, recurses := true, apart := false }
def QuorumPlaysSaid : Prop := quorumPlaysRow.holds Try.pinned (OpenSpec.ofChange quorumPlaysSpec)

/-- ITS FALSE NEIGHBOUR: 'it returns false'. Refute it at one input. -/
def quorumPlaysWrong : ChangeSpec := { name := "quorumPlays", fn := fun _ => fun
  | [d1, d2, d3, d4] => { results := [.lit (.bool false)], args := [d1, d2, d3, d4] }
  | _ => none }
def QuorumPlaysWrongFalsely : Prop := quorumPlaysRow.holds Try.pinned (OpenSpec.ofChange quorumPlaysWrong)

/-- 'assizelaw16.QuorumNil': WHATEVER THE INPUT: true; the input reads as it did. -/
def quorumNilSpec : ChangeSpec := { name := "quorumNil", fn := fun _ => fun
  | [d1, d2] => { results := [.lit (.bool true)], args := [d1, d2] }
  | _ => none }
def quorumNilRow : OpenClaim := { program := "ytloinbebkhcndaa", sum := "1969182939bda8854fc2cf9fd9221a6e63f6050ebcd59cc12ad2f1ff4f9b9323", func := "assize/assizelaw16.QuorumNil", spec := "quorumNil", unfollowed := true, recurses := true, apart := false }
def QuorumNilSaid : Prop := quorumNilRow.holds Try.pinned (OpenSpec.ofChange quorumNilSpec)

/-- ITS FALSE NEIGHBOUR: 'it returns false'. Refute it at one input. -/
def quorumNilWrong : ChangeSpec := { name := "quorumNil", fn := fun _ => fun
  | [d1, d2] => { results := [.lit (.bool false)], args := [d1, d2] }
  | _ => none }
def QuorumNilWrongFalsely : Prop := quorumNilRow.holds Try.pinned (OpenSpec.ofChange quorumNilWrong)

/- THE SECOND FORM. 'bulk': how many values and letters a reading holds, each counted each time it is reached (what is shared counts as often as it is met; a slice's spare places count too). A statement '..UptoSaid' is the law's where the arguments, and the package variables that the reading takes, are together of bulk at most 1048576: NARROWER than '..Said'. Prove '..Said' where nothing that the law and all that it calls make is longer than what came in: it says more and counts as full. Else prove '..UptoSaid'. A law counts once. -/
mutual
def uptoBulk {H : Type} : DataW H → Nat
  | .lit (.string bytes) => bytes.length + 1
  | .lit _ => 1
  | .nil => 1
  | .ptr d => uptoBulk d + 1
  | .slice elems spare => uptoBulkAll elems + uptoBulkAll spare + 1
  | .agg parts => uptoBulkAll parts + 1
  | .iface _ d => uptoBulk d + 1
  | .map entries => uptoBulkEntries entries + 1
  | .held _ => 1
def uptoBulkAll {H : Type} : List (DataW H) → Nat
  | [] => 0
  | d :: r => uptoBulk d + uptoBulkAll r
def uptoBulkEntries {H : Type} : List (Lit × DataW H) → Nat
  | [] => 0
  | x :: r => uptoBulkEntry x + uptoBulkEntries r
def uptoBulkEntry {H : Type} : Lit × DataW H → Nat
  | (.string bytes, d) => bytes.length + uptoBulk d + 1
  | (_, d) => uptoBulk d + 1
 end
def uptoSmall : (H : Type) → List (DataW H) → Bool := fun _ ds => decide (uptoBulkAll ds ≤ 1048576)
def OpenSpec.upto (s : _root_.Go.ChangeSpec) : _root_.Go.OpenSpec := { _root_.Go.OpenSpec.ofChange s with cond := some uptoSmall }

/-- 'assizelaw16.QuorumCounts', WHERE WHAT IT READS IS OF BULK AT MOST 1048576: true; the input reads as it did. -/
def quorumCountsUptoRow : OpenClaim := { program := "ytloinbebkhcndaa", sum := "1969182939bda8854fc2cf9fd9221a6e63f6050ebcd59cc12ad2f1ff4f9b9323", func := "assize/assizelaw16.QuorumCounts", spec := "quorumCounts", apart := false, narrowed := true }
def QuorumCountsUptoSaid : Prop := quorumCountsUptoRow.holds Try.pinned (OpenSpec.upto quorumCountsSpec)

/-- 'assizelaw1.GenOf', WHERE WHAT IT READS IS OF BULK AT MOST 1048576: true; the input reads as it did. -/
def genOfUptoRow : OpenClaim := { program := "ytloinbebkhcndaa", sum := "1969182939bda8854fc2cf9fd9221a6e63f6050ebcd59cc12ad2f1ff4f9b9323", func := "assize/assizelaw1.GenOf", spec := "genOf", unfollowed := true, recurses := true, apart := false, narrowed := true }
def GenOfUptoSaid : Prop := genOfUptoRow.holds Try.pinned (OpenSpec.upto genOfSpec)

/-- 'assizelaw1.GenMaps', WHERE WHAT IT READS IS OF BULK AT MOST 1048576: true; the input reads as it did. -/
def genMapsUptoRow : OpenClaim := { program := "ytloinbebkhcndaa", sum := "1969182939bda8854fc2cf9fd9221a6e63f6050ebcd59cc12ad2f1ff4f9b9323", func := "assize/assizelaw1.GenMaps", spec := "genMaps", unfollowed := true, recurses := true, apart := false, narrowed := true }
def GenMapsUptoSaid : Prop := genMapsUptoRow.holds Try.pinned (OpenSpec.upto genMapsSpec)

/-- 'assizelaw1.GenTwice', WHERE WHAT IT READS IS OF BULK AT MOST 1048576: true; the input reads as it did. -/
def genTwiceUptoRow : OpenClaim := { program := "ytloinbebkhcndaa", sum := "1969182939bda8854fc2cf9fd9221a6e63f6050ebcd59cc12ad2f1ff4f9b9323", func := "assize/assizelaw1.GenTwice", spec := "genTwice", unfollowed := true, recurses := true, apart := false, narrowed := true }
def GenTwiceUptoSaid : Prop := genTwiceUptoRow.holds Try.pinned (OpenSpec.upto genTwiceSpec)

/-- 'assizelaw1.GenTakes', WHERE WHAT IT READS IS OF BULK AT MOST 1048576: true; the input reads as it did. -/
def genTakesUptoRow : OpenClaim := { program := "ytloinbebkhcndaa", sum := "1969182939bda8854fc2cf9fd9221a6e63f6050ebcd59cc12ad2f1ff4f9b9323", func := "assize/assizelaw1.GenTakes", spec := "genTakes", unfollowed := true, recurses := true, apart := false, narrowed := true }
def GenTakesUptoSaid : Prop := genTakesUptoRow.holds Try.pinned (OpenSpec.upto genTakesSpec)

/-- 'assizelaw1.GenChains', WHERE WHAT IT READS IS OF BULK AT MOST 1048576: true; the input reads as it did. -/
def genChainsUptoRow : OpenClaim := { program := "ytloinbebkhcndaa", sum := "1969182939bda8854fc2cf9fd9221a6e63f6050ebcd59cc12ad2f1ff4f9b9323", func := "assize/assizelaw1.GenChains", spec := "genChains", unfollowed := true, recurses := true, apart := false, narrowed := true }
def GenChainsUptoSaid : Prop := genChainsUptoRow.holds Try.pinned (OpenSpec.upto genChainsSpec)

/-- 'assizelaw1.GenFolds', WHERE WHAT IT READS IS OF BULK AT MOST 1048576: true; the input reads as it did. -/
def genFoldsUptoRow : OpenClaim := { program := "ytloinbebkhcndaa", sum := "1969182939bda8854fc2cf9fd9221a6e63f6050ebcd59cc12ad2f1ff4f9b9323", func := "assize/assizelaw1.GenFolds", spec := "genFolds", unfollowed := true, recurses := true, apart := false, narrowed := true }
def GenFoldsUptoSaid : Prop := genFoldsUptoRow.holds Try.pinned (OpenSpec.upto genFoldsSpec)

/-- 'assizelaw1.GenParts', WHERE WHAT IT READS IS OF BULK AT MOST 1048576: true; the input reads as it did. -/
def genPartsUptoRow : OpenClaim := { program := "ytloinbebkhcndaa", sum := "1969182939bda8854fc2cf9fd9221a6e63f6050ebcd59cc12ad2f1ff4f9b9323", func := "assize/assizelaw1.GenParts", spec := "genParts", unfollowed := true, recurses := true, apart := false, narrowed := true }
def GenPartsUptoSaid : Prop := genPartsUptoRow.holds Try.pinned (OpenSpec.upto genPartsSpec)

/-- 'assizelaw1.GenSorted', WHERE WHAT IT READS IS OF BULK AT MOST 1048576: true; the input reads as it did. -/
def genSortedUptoRow : OpenClaim := { program := "ytloinbebkhcndaa", sum := "1969182939bda8854fc2cf9fd9221a6e63f6050ebcd59cc12ad2f1ff4f9b9323", func := "assize/assizelaw1.GenSorted", spec := "genSorted", unfollowed := true, recurses := true, apart := false, narrowed := true }
def GenSortedUptoSaid : Prop := genSortedUptoRow.holds Try.pinned (OpenSpec.upto genSortedSpec)

/-- 'assizelaw1.GenSets', WHERE WHAT IT READS IS OF BULK AT MOST 1048576: true; the input reads as it did. -/
def genSetsUptoRow : OpenClaim := { program := "ytloinbebkhcndaa", sum := "1969182939bda8854fc2cf9fd9221a6e63f6050ebcd59cc12ad2f1ff4f9b9323", func := "assize/assizelaw1.GenSets", spec := "genSets", unfollowed := true, recurses := true, apart := false, narrowed := true }
def GenSetsUptoSaid : Prop := genSetsUptoRow.holds Try.pinned (OpenSpec.upto genSetsSpec)

/-- 'assizelaw1.GenTables', WHERE WHAT IT READS IS OF BULK AT MOST 1048576: true; the input reads as it did. -/
def genTablesUptoRow : OpenClaim := { program := "ytloinbebkhcndaa", sum := "1969182939bda8854fc2cf9fd9221a6e63f6050ebcd59cc12ad2f1ff4f9b9323", func := "assize/assizelaw1.GenTables", spec := "genTables", unfollowed := true, recurses := true, apart := false, narrowed := true }
def GenTablesUptoSaid : Prop := genTablesUptoRow.holds Try.pinned (OpenSpec.upto genTablesSpec)

/-- 'assizelaw1.GenStops', WHERE WHAT IT READS IS OF BULK AT MOST 1048576: true; the input reads as it did. -/
def genStopsUptoRow : OpenClaim := { program := "ytloinbebkhcndaa", sum := "1969182939bda8854fc2cf9fd9221a6e63f6050ebcd59cc12ad2f1ff4f9b9323", func := "assize/assizelaw1.GenStops", spec := "genStops", unfollowed := true, recurses := true, apart := false, narrowed := true }
def GenStopsUptoSaid : Prop := genStopsUptoRow.holds Try.pinned (OpenSpec.upto genStopsSpec)

/-- 'assizelaw16.QuorumMeets', WHERE WHAT IT READS IS OF BULK AT MOST 1048576: true; the input reads as it did. -/
def quorumMeetsUptoRow : OpenClaim := { program := "ytloinbebkhcndaa", sum := "1969182939bda8854fc2cf9fd9221a6e63f6050ebcd59cc12ad2f1ff4f9b9323", func := "assize/assizelaw16.QuorumMeets", spec := "quorumMeets", unfollowed := true, recurses := true, apart := false, narrowed := true }
def QuorumMeetsUptoSaid : Prop := quorumMeetsUptoRow.holds Try.pinned (OpenSpec.upto quorumMeetsSpec)

/-- 'assizelaw1.GenNil', WHERE WHAT IT READS IS OF BULK AT MOST 1048576: true; the input reads as it did. -/
def genNilUptoRow : OpenClaim := { program := "ytloinbebkhcndaa", sum := "1969182939bda8854fc2cf9fd9221a6e63f6050ebcd59cc12ad2f1ff4f9b9323", func := "assize/assizelaw1.GenNil", spec := "genNil", unfollowed := true, recurses := true, apart := false, narrowed := true }
def GenNilUptoSaid : Prop := genNilUptoRow.holds Try.pinned (OpenSpec.upto genNilSpec)

/-- 'assizelaw16.QuorumPlays', WHERE WHAT IT READS IS OF BULK AT MOST 1048576: true; the input reads as it did. -/
def quorumPlaysUptoRow : OpenClaim := { program := "ytloinbebkhcndaa", sum := "1969182939bda8854fc2cf9fd9221a6e63f6050ebcd59cc12ad2f1ff4f9b9323", func := "assize/assizelaw16.QuorumPlays", spec := "quorumPlays", unfollowed := true, recurses := true, apart := false, narrowed := true }
def QuorumPlaysUptoSaid : Prop := quorumPlaysUptoRow.holds Try.pinned (OpenSpec.upto quorumPlaysSpec)

/-- 'assizelaw16.QuorumNil', WHERE WHAT IT READS IS OF BULK AT MOST 1048576: true; the input reads as it did. -/
def quorumNilUptoRow : OpenClaim := { program := "ytloinbebkhcndaa", sum := "1969182939bda8854fc2cf9fd9221a6e63f6050ebcd59cc12ad2f1ff4f9b9323", func := "assize/assizelaw16.QuorumNil", spec := "quorumNil", unfollowed := true, recurses := true, apart := false, narrowed := true }
def QuorumNilUptoSaid : Prop := quorumNilUptoRow.holds Try.pinned (OpenSpec.upto quorumNilSpec)

end Rows
end Go.Proofs.Ytloinbebkhcndaa
