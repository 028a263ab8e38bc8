/-
  No cell of these rows narrows 'for every input' (looked for: loops, veiled, ifaces, maps, wideKeys, modest, calm, conditions, laid).
  DERIVED. THE GIVEN ROWS OF THIS SEAT. 13 by the template 'for every input the law returns true; each argument reads behind the call as it read before'; 0 by the template 'total and deterministic' (their statements: YtbjelfgclhmedaaTotals.lean).
  GIVEN WITH THE SEED: the statements are not yours to turn. If you find one false, say at which input.
  Laid BY PROGRAM, IN A SANDBOX (cutbox-rows.mjs): the forced cells as the released guide's own fill.sh prints them over the translation 60ccb4e4d360d8fb… (all of the seat's roots in one cut). By AI agents, Wed Nov 11 2026. No macro, syntax, notation, axiom, sorry.
-/
import Derived.Test.YtbjelfgclhmedaaChecked
import GoSem.Claim
import GoSem.ClaimJoined
import GoSem.ClaimMapViews
import Derived.JoinedTies
import Derived.KernelRfl
namespace Go.Proofs.Ytbjelfgclhmedaa
/- THE CELL 'sum', in the pinned program and in every row, IS THE sha256 OF THE DUMP (.gsa) THAT YtbjelfgclhmedaaProg.lean LOADS. Nothing in Lean hashes anything: it is a label: what it is worth is what the hold of that sum in a sandbox is worth. -/
noncomputable def Try.pinned : Pinned := { name := "ytbjelfgclhmedaa", sum := "60ccb4e4d360d8fb3c3850968038923f462d88c2294bc225b5a1f46c1f713332", checked := Try.checked }
namespace Rows
def none {H : Type} : Left H := { results := [], args := [] }

/-- 'assizelaw3.ShaPieces': WHATEVER THE INPUT: true; the input reads as it did. -/
def shaPiecesSpec : ChangeSpec := { name := "shaPieces", fn := fun _ => fun
  | [d] => { results := [.lit (.bool true)], args := [d] }
  | _ => none }
def shaPiecesRow : OpenClaim := { program := "ytbjelfgclhmedaa", sum := "60ccb4e4d360d8fb3c3850968038923f462d88c2294bc225b5a1f46c1f713332", func := "assize/assizelaw3.ShaPieces", spec := "shaPieces", plainKeys := false, apart := false }
def ShaPiecesSaid : Prop := shaPiecesRow.holds Try.pinned (OpenSpec.ofChange shaPiecesSpec)

/-- ITS FALSE NEIGHBOUR: 'it returns false'. Refute it at one input. -/
def shaPiecesWrong : ChangeSpec := { name := "shaPieces", fn := fun _ => fun
  | [d] => { results := [.lit (.bool false)], args := [d] }
  | _ => none }
def ShaPiecesWrongFalsely : Prop := shaPiecesRow.holds Try.pinned (OpenSpec.ofChange shaPiecesWrong)

/-- 'assizelaw3.ShaApart': WHATEVER THE INPUT: true; the input reads as it did. -/
def shaApartSpec : ChangeSpec := { name := "shaApart", fn := fun _ => fun
  | [d1, d2] => { results := [.lit (.bool true)], args := [d1, d2] }
  | _ => none }
def shaApartRow : OpenClaim := { program := "ytbjelfgclhmedaa", sum := "60ccb4e4d360d8fb3c3850968038923f462d88c2294bc225b5a1f46c1f713332", func := "assize/assizelaw3.ShaApart", spec := "shaApart", plainKeys := false, apart := false }
def ShaApartSaid : Prop := shaApartRow.holds Try.pinned (OpenSpec.ofChange shaApartSpec)

/-- ITS FALSE NEIGHBOUR: 'it returns false'. Refute it at one input. -/
def shaApartWrong : ChangeSpec := { name := "shaApart", fn := fun _ => fun
  | [d1, d2] => { results := [.lit (.bool false)], args := [d1, d2] }
  | _ => none }
def ShaApartWrongFalsely : Prop := shaApartRow.holds Try.pinned (OpenSpec.ofChange shaApartWrong)

/-- 'assizelaw3.ShaSums': WHATEVER THE INPUT: true; the input reads as it did. -/
def shaSumsSpec : ChangeSpec := { name := "shaSums", fn := fun _ => fun
  | [d] => { results := [.lit (.bool true)], args := [d] }
  | _ => none }
def shaSumsRow : OpenClaim := { program := "ytbjelfgclhmedaa", sum := "60ccb4e4d360d8fb3c3850968038923f462d88c2294bc225b5a1f46c1f713332", func := "assize/assizelaw3.ShaSums", spec := "shaSums", plainKeys := false, apart := false }
def ShaSumsSaid : Prop := shaSumsRow.holds Try.pinned (OpenSpec.ofChange shaSumsSpec)

/-- ITS FALSE NEIGHBOUR: 'it returns false'. Refute it at one input. -/
def shaSumsWrong : ChangeSpec := { name := "shaSums", fn := fun _ => fun
  | [d] => { results := [.lit (.bool false)], args := [d] }
  | _ => none }
def ShaSumsWrongFalsely : Prop := shaSumsRow.holds Try.pinned (OpenSpec.ofChange shaSumsWrong)

/-- 'assizelaw3.ShaLong': WHATEVER THE INPUT: true; the input reads as it did. -/
def shaLongSpec : ChangeSpec := { name := "shaLong", fn := fun _ => fun
  | [d1, d2] => { results := [.lit (.bool true)], args := [d1, d2] }
  | _ => none }
def shaLongRow : OpenClaim := { program := "ytbjelfgclhmedaa", sum := "60ccb4e4d360d8fb3c3850968038923f462d88c2294bc225b5a1f46c1f713332", func := "assize/assizelaw3.ShaLong", spec := "shaLong", plainKeys := false, apart := false }
def ShaLongSaid : Prop := shaLongRow.holds Try.pinned (OpenSpec.ofChange shaLongSpec)

/-- ITS FALSE NEIGHBOUR: 'it returns false'. Refute it at one input. -/
def shaLongWrong : ChangeSpec := { name := "shaLong", fn := fun _ => fun
  | [d1, d2] => { results := [.lit (.bool false)], args := [d1, d2] }
  | _ => none }
def ShaLongWrongFalsely : Prop := shaLongRow.holds Try.pinned (OpenSpec.ofChange shaLongWrong)

/-- 'assizelaw5.SigSigns': WHATEVER THE INPUT: true; the input reads as it did. -/
def sigSignsSpec : ChangeSpec := { name := "sigSigns", fn := fun _ => fun
  | [d1, d2, d3, d4] => { results := [.lit (.bool true)], args := [d1, d2, d3, d4] }
  | _ => none }
def sigSignsRow : OpenClaim := { program := "ytbjelfgclhmedaa", sum := "60ccb4e4d360d8fb3c3850968038923f462d88c2294bc225b5a1f46c1f713332", func := "assize/assizelaw5.SigSigns", spec := "sigSigns", plainKeys := false, apart := false }
def SigSignsSaid : Prop := sigSignsRow.holds Try.pinned (OpenSpec.ofChange sigSignsSpec)

/-- ITS FALSE NEIGHBOUR: 'it returns false'. Refute it at one input. -/
def sigSignsWrong : ChangeSpec := { name := "sigSigns", fn := fun _ => fun
  | [d1, d2, d3, d4] => { results := [.lit (.bool false)], args := [d1, d2, d3, d4] }
  | _ => none }
def SigSignsWrongFalsely : Prop := sigSignsRow.holds Try.pinned (OpenSpec.ofChange sigSignsWrong)

/-- 'assizelaw3.ShaParses': WHATEVER THE INPUT: true; the input reads as it did. -/
def shaParsesSpec : ChangeSpec := { name := "shaParses", fn := fun _ => fun
  | [d] => { results := [.lit (.bool true)], args := [d] }
  | _ => none }
def shaParsesRow : OpenClaim := { program := "ytbjelfgclhmedaa", sum := "60ccb4e4d360d8fb3c3850968038923f462d88c2294bc225b5a1f46c1f713332", func := "assize/assizelaw3.ShaParses", spec := "shaParses", plainKeys := false, apart := false }
def ShaParsesSaid : Prop := shaParsesRow.holds Try.pinned (OpenSpec.ofChange shaParsesSpec)

/-- ITS FALSE NEIGHBOUR: 'it returns false'. Refute it at one input. -/
def shaParsesWrong : ChangeSpec := { name := "shaParses", fn := fun _ => fun
  | [d] => { results := [.lit (.bool false)], args := [d] }
  | _ => none }
def ShaParsesWrongFalsely : Prop := shaParsesRow.holds Try.pinned (OpenSpec.ofChange shaParsesWrong)

/-- 'assizelaw3.ShaBack': WHATEVER THE INPUT: true; the input reads as it did. -/
def shaBackSpec : ChangeSpec := { name := "shaBack", fn := fun _ => fun
  | [d1, d2] => { results := [.lit (.bool true)], args := [d1, d2] }
  | _ => none }
def shaBackRow : OpenClaim := { program := "ytbjelfgclhmedaa", sum := "60ccb4e4d360d8fb3c3850968038923f462d88c2294bc225b5a1f46c1f713332", func := "assize/assizelaw3.ShaBack", spec := "shaBack", plainKeys := false, apart := false }
def ShaBackSaid : Prop := shaBackRow.holds Try.pinned (OpenSpec.ofChange shaBackSpec)

/-- ITS FALSE NEIGHBOUR: 'it returns false'. Refute it at one input. -/
def shaBackWrong : ChangeSpec := { name := "shaBack", fn := fun _ => fun
  | [d1, d2] => { results := [.lit (.bool false)], args := [d1, d2] }
  | _ => none }
def ShaBackWrongFalsely : Prop := shaBackRow.holds Try.pinned (OpenSpec.ofChange shaBackWrong)

/-- 'assizelaw5.SigGrows': WHATEVER THE INPUT: true; the input reads as it did. -/
def sigGrowsSpec : ChangeSpec := { name := "sigGrows", fn := fun _ => fun
  | [d1, d2, d3] => { results := [.lit (.bool true)], args := [d1, d2, d3] }
  | _ => none }
def sigGrowsRow : OpenClaim := { program := "ytbjelfgclhmedaa", sum := "60ccb4e4d360d8fb3c3850968038923f462d88c2294bc225b5a1f46c1f713332", func := "assize/assizelaw5.SigGrows", spec := "sigGrows", unfollowed := true, recurses := true, plainKeys := false, apart := false }
def SigGrowsSaid : Prop := sigGrowsRow.holds Try.pinned (OpenSpec.ofChange sigGrowsSpec)

/-- ITS FALSE NEIGHBOUR: 'it returns false'. Refute it at one input. -/
def sigGrowsWrong : ChangeSpec := { name := "sigGrows", fn := fun _ => fun
  | [d1, d2, d3] => { results := [.lit (.bool false)], args := [d1, d2, d3] }
  | _ => none }
def SigGrowsWrongFalsely : Prop := sigGrowsRow.holds Try.pinned (OpenSpec.ofChange sigGrowsWrong)

/-- 'assizelaw5.SigNil': WHATEVER THE INPUT: true; the input reads as it did. -/
def sigNilSpec : ChangeSpec := { name := "sigNil", fn := fun _ => fun
  | [d1, d2] => { results := [.lit (.bool true)], args := [d1, d2] }
  | _ => none }
def sigNilRow : OpenClaim := { program := "ytbjelfgclhmedaa", sum := "60ccb4e4d360d8fb3c3850968038923f462d88c2294bc225b5a1f46c1f713332", func := "assize/assizelaw5.SigNil", spec := "sigNil", unfollowed := true, recurses := true, plainKeys := false, apart := false }
def SigNilSaid : Prop := sigNilRow.holds Try.pinned (OpenSpec.ofChange sigNilSpec)

/-- ITS FALSE NEIGHBOUR: 'it returns false'. Refute it at one input. -/
def sigNilWrong : ChangeSpec := { name := "sigNil", fn := fun _ => fun
  | [d1, d2] => { results := [.lit (.bool false)], args := [d1, d2] }
  | _ => none }
def SigNilWrongFalsely : Prop := sigNilRow.holds Try.pinned (OpenSpec.ofChange sigNilWrong)

/-- 'assizelaw5.SigLedgers': WHATEVER THE INPUT: true; the input reads as it did. -/
def sigLedgersSpec : ChangeSpec := { name := "sigLedgers", fn := fun _ => fun
  | [d1, d2, d3, d4] => { results := [.lit (.bool true)], args := [d1, d2, d3, d4] }
  | _ => none }
def sigLedgersRow : OpenClaim := { program := "ytbjelfgclhmedaa", sum := "60ccb4e4d360d8fb3c3850968038923f462d88c2294bc225b5a1f46c1f713332", func := "assize/assizelaw5.SigLedgers", spec := "sigLedgers", unfollowed := true, recurses := true, plainKeys := false, apart := false }
def SigLedgersSaid : Prop := sigLedgersRow.holds Try.pinned (OpenSpec.ofChange sigLedgersSpec)

/-- ITS FALSE NEIGHBOUR: 'it returns false'. Refute it at one input. -/
def sigLedgersWrong : ChangeSpec := { name := "sigLedgers", fn := fun _ => fun
  | [d1, d2, d3, d4] => { results := [.lit (.bool false)], args := [d1, d2, d3, d4] }
  | _ => none }
def SigLedgersWrongFalsely : Prop := sigLedgersRow.holds Try.pinned (OpenSpec.ofChange sigLedgersWrong)

/-- 'assizelaw4.ChainLinks': WHATEVER THE INPUT: true; the input reads as it did. -/
def chainLinksSpec : ChangeSpec := { name := "chainLinks", fn := fun _ => fun
  | [d1, d2, d3, d4] => { results := [.lit (.bool true)], args := [d1, d2, d3, d4] }
  | _ => none }
def chainLinksRow : OpenClaim := { program := "ytbjelfgclhmedaa", sum := "60ccb4e4d360d8fb3c3850968038923f462d88c2294bc225b5a1f46c1f713332", func := "assize/assizelaw4.ChainLinks", spec := "chainLinks", recurses := true, plainKeys := false, apart := false }
def ChainLinksSaid : Prop := chainLinksRow.holds Try.pinned (OpenSpec.ofChange chainLinksSpec)

/-- ITS FALSE NEIGHBOUR: 'it returns false'. Refute it at one input. -/
def chainLinksWrong : ChangeSpec := { name := "chainLinks", fn := fun _ => fun
  | [d1, d2, d3, d4] => { results := [.lit (.bool false)], args := [d1, d2, d3, d4] }
  | _ => none }
def ChainLinksWrongFalsely : Prop := chainLinksRow.holds Try.pinned (OpenSpec.ofChange chainLinksWrong)

/-- 'assizelaw4.ChainRoots': WHATEVER THE INPUT: true; the input reads as it did. -/
def chainRootsSpec : ChangeSpec := { name := "chainRoots", fn := fun _ => fun
  | [d1, d2] => { results := [.lit (.bool true)], args := [d1, d2] }
  | _ => none }
def chainRootsRow : OpenClaim := { program := "ytbjelfgclhmedaa", sum := "60ccb4e4d360d8fb3c3850968038923f462d88c2294bc225b5a1f46c1f713332", func := "assize/assizelaw4.ChainRoots", spec := "chainRoots", recurses := true, plainKeys := false, apart := false }
def ChainRootsSaid : Prop := chainRootsRow.holds Try.pinned (OpenSpec.ofChange chainRootsSpec)

/-- ITS FALSE NEIGHBOUR: 'it returns false'. Refute it at one input. -/
def chainRootsWrong : ChangeSpec := { name := "chainRoots", fn := fun _ => fun
  | [d1, d2] => { results := [.lit (.bool false)], args := [d1, d2] }
  | _ => none }
def ChainRootsWrongFalsely : Prop := chainRootsRow.holds Try.pinned (OpenSpec.ofChange chainRootsWrong)

/-- 'assizelaw4.ChainChecks': WHATEVER THE INPUT: true; the input reads as it did. -/
def chainChecksSpec : ChangeSpec := { name := "chainChecks", fn := fun _ => fun
  | [d1, d2, d3, d4, d5, d6] => { results := [.lit (.bool true)], args := [d1, d2, d3, d4, d5, d6] }
  | _ => none }
def chainChecksRow : OpenClaim := { program := "ytbjelfgclhmedaa", sum := "60ccb4e4d360d8fb3c3850968038923f462d88c2294bc225b5a1f46c1f713332", func := "assize/assizelaw4.ChainChecks", spec := "chainChecks", recurses := true, plainKeys := false, apart := false }
def ChainChecksSaid : Prop := chainChecksRow.holds Try.pinned (OpenSpec.ofChange chainChecksSpec)

/-- ITS FALSE NEIGHBOUR: 'it returns false'. Refute it at one input. -/
def chainChecksWrong : ChangeSpec := { name := "chainChecks", fn := fun _ => fun
  | [d1, d2, d3, d4, d5, d6] => { results := [.lit (.bool false)], args := [d1, d2, d3, d4, d5, d6] }
  | _ => none }
def ChainChecksWrongFalsely : Prop := chainChecksRow.holds Try.pinned (OpenSpec.ofChange chainChecksWrong)

/- THE SECOND FORM. 'bulk': how many values and letters a reading holds, each counted each time it is reached (what is shared counts as often as it is met; a slice's spare places count too). A statement '..UptoSaid' is the law's where the arguments, and the package variables that the reading takes, are together of bulk at most 1048576: NARROWER than '..Said'. Prove '..Said' where nothing that the law and all that it calls make is longer than what came in: it says more and counts as full. Else prove '..UptoSaid'. A law counts once. -/
mutual
def uptoBulk {H : Type} : DataW H → Nat
  | .lit (.string bytes) => bytes.length + 1
  | .lit _ => 1
  | .nil => 1
  | .ptr d => uptoBulk d + 1
  | .slice elems spare => uptoBulkAll elems + uptoBulkAll spare + 1
  | .agg parts => uptoBulkAll parts + 1
  | .iface _ d => uptoBulk d + 1
  | .map entries => uptoBulkEntries entries + 1
  | .held _ => 1
def uptoBulkAll {H : Type} : List (DataW H) → Nat
  | [] => 0
  | d :: r => uptoBulk d + uptoBulkAll r
def uptoBulkEntries {H : Type} : List (Lit × DataW H) → Nat
  | [] => 0
  | x :: r => uptoBulkEntry x + uptoBulkEntries r
def uptoBulkEntry {H : Type} : Lit × DataW H → Nat
  | (.string bytes, d) => bytes.length + uptoBulk d + 1
  | (_, d) => uptoBulk d + 1
 end
def uptoSmall : (H : Type) → List (DataW H) → Bool := fun _ ds => decide (uptoBulkAll ds ≤ 1048576)
def OpenSpec.upto (s : _root_.Go.ChangeSpec) : _root_.Go.OpenSpec := { _root_.Go.OpenSpec.ofChange s with cond := some uptoSmall }

/-- 'assizelaw3.ShaPieces', WHERE WHAT IT READS IS OF BULK AT MOST 1048576: true; the input reads as it did. -/
def shaPiecesUptoRow : OpenClaim := { program := "ytbjelfgclhmedaa", sum := "60ccb4e4d360d8fb3c3850968038923f462d88c2294bc225b5a1f46c1f713332", func := "assize/assizelaw3.ShaPieces", spec := "shaPieces", plainKeys := false, apart := false, narrowed := true }
def ShaPiecesUptoSaid : Prop := shaPiecesUptoRow.holds Try.pinned (OpenSpec.upto shaPiecesSpec)

/-- 'assizelaw3.ShaApart', WHERE WHAT IT READS IS OF BULK AT MOST 1048576: true; the input reads as it did. -/
def shaApartUptoRow : OpenClaim := { program := "ytbjelfgclhmedaa", sum := "60ccb4e4d360d8fb3c3850968038923f462d88c2294bc225b5a1f46c1f713332", func := "assize/assizelaw3.ShaApart", spec := "shaApart", plainKeys := false, apart := false, narrowed := true }
def ShaApartUptoSaid : Prop := shaApartUptoRow.holds Try.pinned (OpenSpec.upto shaApartSpec)

/-- 'assizelaw3.ShaSums', WHERE WHAT IT READS IS OF BULK AT MOST 1048576: true; the input reads as it did. -/
def shaSumsUptoRow : OpenClaim := { program := "ytbjelfgclhmedaa", sum := "60ccb4e4d360d8fb3c3850968038923f462d88c2294bc225b5a1f46c1f713332", func := "assize/assizelaw3.ShaSums", spec := "shaSums", plainKeys := false, apart := false, narrowed := true }
def ShaSumsUptoSaid : Prop := shaSumsUptoRow.holds Try.pinned (OpenSpec.upto shaSumsSpec)

/-- 'assizelaw3.ShaLong', WHERE WHAT IT READS IS OF BULK AT MOST 1048576: true; the input reads as it did. -/
def shaLongUptoRow : OpenClaim := { program := "ytbjelfgclhmedaa", sum := "60ccb4e4d360d8fb3c3850968038923f462d88c2294bc225b5a1f46c1f713332", func := "assize/assizelaw3.ShaLong", spec := "shaLong", plainKeys := false, apart := false, narrowed := true }
def ShaLongUptoSaid : Prop := shaLongUptoRow.holds Try.pinned (OpenSpec.upto shaLongSpec)

/-- 'assizelaw5.SigSigns', WHERE WHAT IT READS IS OF BULK AT MOST 1048576: true; the input reads as it did. -/
def sigSignsUptoRow : OpenClaim := { program := "ytbjelfgclhmedaa", sum := "60ccb4e4d360d8fb3c3850968038923f462d88c2294bc225b5a1f46c1f713332", func := "assize/assizelaw5.SigSigns", spec := "sigSigns", plainKeys := false, apart := false, narrowed := true }
def SigSignsUptoSaid : Prop := sigSignsUptoRow.holds Try.pinned (OpenSpec.upto sigSignsSpec)

/-- 'assizelaw3.ShaParses', WHERE WHAT IT READS IS OF BULK AT MOST 1048576: true; the input reads as it did. -/
def shaParsesUptoRow : OpenClaim := { program := "ytbjelfgclhmedaa", sum := "60ccb4e4d360d8fb3c3850968038923f462d88c2294bc225b5a1f46c1f713332", func := "assize/assizelaw3.ShaParses", spec := "shaParses", plainKeys := false, apart := false, narrowed := true }
def ShaParsesUptoSaid : Prop := shaParsesUptoRow.holds Try.pinned (OpenSpec.upto shaParsesSpec)

/-- 'assizelaw3.ShaBack', WHERE WHAT IT READS IS OF BULK AT MOST 1048576: true; the input reads as it did. -/
def shaBackUptoRow : OpenClaim := { program := "ytbjelfgclhmedaa", sum := "60ccb4e4d360d8fb3c3850968038923f462d88c2294bc225b5a1f46c1f713332", func := "assize/assizelaw3.ShaBack", spec := "shaBack", plainKeys := false, apart := false, narrowed := true }
def ShaBackUptoSaid : Prop := shaBackUptoRow.holds Try.pinned (OpenSpec.upto shaBackSpec)

/-- 'assizelaw5.SigGrows', WHERE WHAT IT READS IS OF BULK AT MOST 1048576: true; the input reads as it did. -/
def sigGrowsUptoRow : OpenClaim := { program := "ytbjelfgclhmedaa", sum := "60ccb4e4d360d8fb3c3850968038923f462d88c2294bc225b5a1f46c1f713332", func := "assize/assizelaw5.SigGrows", spec := "sigGrows", unfollowed := true, recurses := true, plainKeys := false, apart := false, narrowed := true }
def SigGrowsUptoSaid : Prop := sigGrowsUptoRow.holds Try.pinned (OpenSpec.upto sigGrowsSpec)

/-- 'assizelaw5.SigNil', WHERE WHAT IT READS IS OF BULK AT MOST 1048576: true; the input reads as it did. -/
def sigNilUptoRow : OpenClaim := { program := "ytbjelfgclhmedaa", sum := "60ccb4e4d360d8fb3c3850968038923f462d88c2294bc225b5a1f46c1f713332", func := "assize/assizelaw5.SigNil", spec := "sigNil", unfollowed := true, recurses := true, plainKeys := false, apart := false, narrowed := true }
def SigNilUptoSaid : Prop := sigNilUptoRow.holds Try.pinned (OpenSpec.upto sigNilSpec)

/-- 'assizelaw5.SigLedgers', WHERE WHAT IT READS IS OF BULK AT MOST 1048576: true; the input reads as it did. -/
def sigLedgersUptoRow : OpenClaim := { program := "ytbjelfgclhmedaa", sum := "60ccb4e4d360d8fb3c3850968038923f462d88c2294bc225b5a1f46c1f713332", func := "assize/assizelaw5.SigLedgers", spec := "sigLedgers", unfollowed := true, recurses := true, plainKeys := false, apart := false, narrowed := true }
def SigLedgersUptoSaid : Prop := sigLedgersUptoRow.holds Try.pinned (OpenSpec.upto sigLedgersSpec)

/-- 'assizelaw4.ChainLinks', WHERE WHAT IT READS IS OF BULK AT MOST 1048576: true; the input reads as it did. -/
def chainLinksUptoRow : OpenClaim := { program := "ytbjelfgclhmedaa", sum := "60ccb4e4d360d8fb3c3850968038923f462d88c2294bc225b5a1f46c1f713332", func := "assize/assizelaw4.ChainLinks", spec := "chainLinks", recurses := true, plainKeys := false, apart := false, narrowed := true }
def ChainLinksUptoSaid : Prop := chainLinksUptoRow.holds Try.pinned (OpenSpec.upto chainLinksSpec)

/-- 'assizelaw4.ChainRoots', WHERE WHAT IT READS IS OF BULK AT MOST 1048576: true; the input reads as it did. -/
def chainRootsUptoRow : OpenClaim := { program := "ytbjelfgclhmedaa", sum := "60ccb4e4d360d8fb3c3850968038923f462d88c2294bc225b5a1f46c1f713332", func := "assize/assizelaw4.ChainRoots", spec := "chainRoots", recurses := true, plainKeys := false, apart := false, narrowed := true }
def ChainRootsUptoSaid : Prop := chainRootsUptoRow.holds Try.pinned (OpenSpec.upto chainRootsSpec)

/-- 'assizelaw4.ChainChecks', WHERE WHAT IT READS IS OF BULK AT MOST 1048576: true; the input reads as it did. -/
def chainChecksUptoRow : OpenClaim := { program := "ytbjelfgclhmedaa", sum := "60ccb4e4d360d8fb3c3850968038923f462d88c2294bc225b5a1f46c1f713332", func := "assize/assizelaw4.ChainChecks", spec := "chainChecks", recurses := true, plainKeys := false, apart := false, narrowed := true }
def ChainChecksUptoSaid : Prop := chainChecksUptoRow.holds Try.pinned (OpenSpec.upto chainChecksSpec)

end Rows
end Go.Proofs.Ytbjelfgclhmedaa
