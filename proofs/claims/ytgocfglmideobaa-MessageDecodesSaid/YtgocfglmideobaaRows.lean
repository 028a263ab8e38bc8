/-
  NARROWER THAN 'FOR EVERY INPUT', by the rows' own cells (each row's printed sentence says how): MessageMay: loops · ChangeAsks: loops · MessageTurned: loops · ChangeBuilds: loops · MessageBack: loops.
  DERIVED. THE GIVEN ROWS OF THIS SEAT. 8 by the template 'for every input the law returns true; each argument reads behind the call as it read before'; 0 by the template 'total and deterministic' (their statements: YtgocfglmideobaaTotals.lean).
  GIVEN WITH THE SEED: the statements are not yours to turn. If you find one false, say at which input.
  Laid BY PROGRAM, IN A SANDBOX (cutbox-rows.mjs): the forced cells as the released guide's own fill.sh prints them over the translation b25833ffd602511d… (all of the seat's roots in one cut). By AI agents, Wed Nov 11 2026. No macro, syntax, notation, axiom, sorry.
-/
import Derived.Test.YtgocfglmideobaaChecked
import GoSem.Claim
import GoSem.ClaimJoined
import GoSem.ClaimMapViews
import Derived.JoinedTies
import Derived.KernelRfl
namespace Go.Proofs.Ytgocfglmideobaa
/- THE CELL 'sum', in the pinned program and in every row, IS THE sha256 OF THE DUMP (.gsa) THAT YtgocfglmideobaaProg.lean LOADS. Nothing in Lean hashes anything: it is a label: what it is worth is what the hold of that sum in a sandbox is worth. -/
noncomputable def Try.pinned : Pinned := { name := "ytgocfglmideobaa", sum := "b25833ffd602511dbbda7460cfe94f3a073b6ea148504b516c7c76aa5f707230", checked := Try.checked }
namespace Rows
def none {H : Type} : Left H := { results := [], args := [] }

/-- 'assizelaw17.MessageMay': WHATEVER THE INPUT: true; the input reads as it did. -/
def messageMaySpec : ChangeSpec := { name := "messageMay", fn := fun _ => fun
  | [d] => { results := [.lit (.bool true)], args := [d] }
  | _ => none }
def messageMayRow : OpenClaim := { program := "ytgocfglmideobaa", sum := "b25833ffd602511dbbda7460cfe94f3a073b6ea148504b516c7c76aa5f707230", func := "assize/assizelaw17.MessageMay", spec := "messageMay", unfollowed := true, recurses := true, loops := true, apart := false }
def MessageMaySaid : Prop := messageMayRow.holds Try.pinned (OpenSpec.ofChange messageMaySpec)

/-- ITS FALSE NEIGHBOUR: 'it returns false'. Refute it at one input. -/
def messageMayWrong : ChangeSpec := { name := "messageMay", fn := fun _ => fun
  | [d] => { results := [.lit (.bool false)], args := [d] }
  | _ => none }
def MessageMayWrongFalsely : Prop := messageMayRow.holds Try.pinned (OpenSpec.ofChange messageMayWrong)

/-- 'assizelaw20.ChangeAsks': WHATEVER THE INPUT: true; the input reads as it did. -/
def changeAsksSpec : ChangeSpec := { name := "changeAsks", fn := fun _ => fun
  | [d1, d2, d3, d4] => { results := [.lit (.bool true)], args := [d1, d2, d3, d4] }
  | _ => none }
def changeAsksRow : OpenClaim := { program := "ytgocfglmideobaa", sum := "b25833ffd602511dbbda7460cfe94f3a073b6ea148504b516c7c76aa5f707230", func := "assize/assizelaw20.ChangeAsks", spec := "changeAsks", unfollowed := true, recurses := true, loops := true, apart := false }
def ChangeAsksSaid : Prop := changeAsksRow.holds Try.pinned (OpenSpec.ofChange changeAsksSpec)

/-- ITS FALSE NEIGHBOUR: 'it returns false'. Refute it at one input. -/
def changeAsksWrong : ChangeSpec := { name := "changeAsks", fn := fun _ => fun
  | [d1, d2, d3, d4] => { results := [.lit (.bool false)], args := [d1, d2, d3, d4] }
  | _ => none }
def ChangeAsksWrongFalsely : Prop := changeAsksRow.holds Try.pinned (OpenSpec.ofChange changeAsksWrong)

/-- 'assizelaw20.ChangeKeeps': WHATEVER THE INPUT: true; the input reads as it did. -/
def changeKeepsSpec : ChangeSpec := { name := "changeKeeps", fn := fun _ => fun
  | [d1, d2, d3, d4, d5, d6] => { results := [.lit (.bool true)], args := [d1, d2, d3, d4, d5, d6] }
  | _ => none }
def changeKeepsRow : OpenClaim := { program := "ytgocfglmideobaa", sum := "b25833ffd602511dbbda7460cfe94f3a073b6ea148504b516c7c76aa5f707230", func := "assize/assizelaw20.ChangeKeeps", spec := "changeKeeps", unfollowed := true, recurses := true, apart := false }
def ChangeKeepsSaid : Prop := changeKeepsRow.holds Try.pinned (OpenSpec.ofChange changeKeepsSpec)

/-- ITS FALSE NEIGHBOUR: 'it returns false'. Refute it at one input. -/
def changeKeepsWrong : ChangeSpec := { name := "changeKeeps", fn := fun _ => fun
  | [d1, d2, d3, d4, d5, d6] => { results := [.lit (.bool false)], args := [d1, d2, d3, d4, d5, d6] }
  | _ => none }
def ChangeKeepsWrongFalsely : Prop := changeKeepsRow.holds Try.pinned (OpenSpec.ofChange changeKeepsWrong)

/-- 'assizelaw18.SlotWaits': WHATEVER THE INPUT: true; the input reads as it did. -/
def slotWaitsSpec : ChangeSpec := { name := "slotWaits", fn := fun _ => fun
  | [d1, d2] => { results := [.lit (.bool true)], args := [d1, d2] }
  | _ => none }
def slotWaitsRow : OpenClaim := { program := "ytgocfglmideobaa", sum := "b25833ffd602511dbbda7460cfe94f3a073b6ea148504b516c7c76aa5f707230", func := "assize/assizelaw18.SlotWaits", spec := "slotWaits", unfollowed := true, recurses := true, apart := false }
def SlotWaitsSaid : Prop := slotWaitsRow.holds Try.pinned (OpenSpec.ofChange slotWaitsSpec)

/-- ITS FALSE NEIGHBOUR: 'it returns false'. Refute it at one input. -/
def slotWaitsWrong : ChangeSpec := { name := "slotWaits", fn := fun _ => fun
  | [d1, d2] => { results := [.lit (.bool false)], args := [d1, d2] }
  | _ => none }
def SlotWaitsWrongFalsely : Prop := slotWaitsRow.holds Try.pinned (OpenSpec.ofChange slotWaitsWrong)

/-- 'assizelaw17.MessageDecodes': WHATEVER THE INPUT: true; the input reads as it did. -/
def messageDecodesSpec : ChangeSpec := { name := "messageDecodes", fn := fun _ => fun
  | [d] => { results := [.lit (.bool true)], args := [d] }
  | _ => none }
def messageDecodesRow : OpenClaim := { program := "ytgocfglmideobaa", sum := "b25833ffd602511dbbda7460cfe94f3a073b6ea148504b516c7c76aa5f707230", func := "assize/assizelaw17.MessageDecodes", spec := "messageDecodes", unfollowed := true, recurses := true, apart := false }
def MessageDecodesSaid : Prop := messageDecodesRow.holds Try.pinned (OpenSpec.ofChange messageDecodesSpec)

/-- ITS FALSE NEIGHBOUR: 'it returns false'. Refute it at one input. -/
def messageDecodesWrong : ChangeSpec := { name := "messageDecodes", fn := fun _ => fun
  | [d] => { results := [.lit (.bool false)], args := [d] }
  | _ => none }
def MessageDecodesWrongFalsely : Prop := messageDecodesRow.holds Try.pinned (OpenSpec.ofChange messageDecodesWrong)

/-- 'assizelaw17.MessageTurned': WHATEVER THE INPUT: true; the input reads as it did. -/
def messageTurnedSpec : ChangeSpec := { name := "messageTurned", fn := fun _ => fun
  | [d1, d2, d3, d4, d5] => { results := [.lit (.bool true)], args := [d1, d2, d3, d4, d5] }
  | _ => none }
def messageTurnedRow : OpenClaim := { program := "ytgocfglmideobaa", sum := "b25833ffd602511dbbda7460cfe94f3a073b6ea148504b516c7c76aa5f707230", func := "assize/assizelaw17.MessageTurned", spec := "messageTurned", unfollowed := true, recurses := true, loops := true, apart := false }
def MessageTurnedSaid : Prop := messageTurnedRow.holds Try.pinned (OpenSpec.ofChange messageTurnedSpec)

/-- ITS FALSE NEIGHBOUR: 'it returns false'. Refute it at one input. -/
def messageTurnedWrong : ChangeSpec := { name := "messageTurned", fn := fun _ => fun
  | [d1, d2, d3, d4, d5] => { results := [.lit (.bool false)], args := [d1, d2, d3, d4, d5] }
  | _ => none }
def MessageTurnedWrongFalsely : Prop := messageTurnedRow.holds Try.pinned (OpenSpec.ofChange messageTurnedWrong)

/-- 'assizelaw20.ChangeBuilds': WHATEVER THE INPUT: true; the input reads as it did. -/
def changeBuildsSpec : ChangeSpec := { name := "changeBuilds", fn := fun _ => fun
  | [d1, d2, d3, d4, d5, d6] => { results := [.lit (.bool true)], args := [d1, d2, d3, d4, d5, d6] }
  | _ => none }
def changeBuildsRow : OpenClaim := { program := "ytgocfglmideobaa", sum := "b25833ffd602511dbbda7460cfe94f3a073b6ea148504b516c7c76aa5f707230", func := "assize/assizelaw20.ChangeBuilds", spec := "changeBuilds", unfollowed := true, recurses := true, loops := true, apart := false }
def ChangeBuildsSaid : Prop := changeBuildsRow.holds Try.pinned (OpenSpec.ofChange changeBuildsSpec)

/-- ITS FALSE NEIGHBOUR: 'it returns false'. Refute it at one input. -/
def changeBuildsWrong : ChangeSpec := { name := "changeBuilds", fn := fun _ => fun
  | [d1, d2, d3, d4, d5, d6] => { results := [.lit (.bool false)], args := [d1, d2, d3, d4, d5, d6] }
  | _ => none }
def ChangeBuildsWrongFalsely : Prop := changeBuildsRow.holds Try.pinned (OpenSpec.ofChange changeBuildsWrong)

/-- 'assizelaw17.MessageBack': WHATEVER THE INPUT: true; the input reads as it did. -/
def messageBackSpec : ChangeSpec := { name := "messageBack", fn := fun _ => fun
  | [d1, d2, d3, d4] => { results := [.lit (.bool true)], args := [d1, d2, d3, d4] }
  | _ => none }
def messageBackRow : OpenClaim := { program := "ytgocfglmideobaa", sum := "b25833ffd602511dbbda7460cfe94f3a073b6ea148504b516c7c76aa5f707230", func := "assize/assizelaw17.MessageBack", spec := "messageBack", unfollowed := true, recurses := true, loops := true, apart := false }
def MessageBackSaid : Prop := messageBackRow.holds Try.pinned (OpenSpec.ofChange messageBackSpec)

/-- ITS FALSE NEIGHBOUR: 'it returns false'. Refute it at one input. -/
def messageBackWrong : ChangeSpec := { name := "messageBack", fn := fun _ => fun
  | [d1, d2, d3, d4] => { results := [.lit (.bool false)], args := [d1, d2, d3, d4] }
  | _ => none }
def MessageBackWrongFalsely : Prop := messageBackRow.holds Try.pinned (OpenSpec.ofChange messageBackWrong)

/- THE SECOND FORM. 'bulk': how many values and letters a reading holds, each counted each time it is reached (what is shared counts as often as it is met; a slice's spare places count too). A statement '..UptoSaid' is the law's where the arguments, and the package variables that the reading takes, are together of bulk at most 1048576: NARROWER than '..Said'. Prove '..Said' where nothing that the law and all that it calls make is longer than what came in: it says more and counts as full. Else prove '..UptoSaid'. A law counts once. -/
mutual
def uptoBulk {H : Type} : DataW H → Nat
  | .lit (.string bytes) => bytes.length + 1
  | .lit _ => 1
  | .nil => 1
  | .ptr d => uptoBulk d + 1
  | .slice elems spare => uptoBulkAll elems + uptoBulkAll spare + 1
  | .agg parts => uptoBulkAll parts + 1
  | .iface _ d => uptoBulk d + 1
  | .map entries => uptoBulkEntries entries + 1
  | .held _ => 1
def uptoBulkAll {H : Type} : List (DataW H) → Nat
  | [] => 0
  | d :: r => uptoBulk d + uptoBulkAll r
def uptoBulkEntries {H : Type} : List (Lit × DataW H) → Nat
  | [] => 0
  | x :: r => uptoBulkEntry x + uptoBulkEntries r
def uptoBulkEntry {H : Type} : Lit × DataW H → Nat
  | (.string bytes, d) => bytes.length + uptoBulk d + 1
  | (_, d) => uptoBulk d + 1
 end
def uptoSmall : (H : Type) → List (DataW H) → Bool := fun _ ds => decide (uptoBulkAll ds ≤ 1048576)
def OpenSpec.upto (s : _root_.Go.ChangeSpec) : _root_.Go.OpenSpec := { _root_.Go.OpenSpec.ofChange s with cond := some uptoSmall }

/-- 'assizelaw17.MessageMay', WHERE WHAT IT READS IS OF BULK AT MOST 1048576: true; the input reads as it did. -/
def messageMayUptoRow : OpenClaim := { program := "ytgocfglmideobaa", sum := "b25833ffd602511dbbda7460cfe94f3a073b6ea148504b516c7c76aa5f707230", func := "assize/assizelaw17.MessageMay", spec := "messageMay", unfollowed := true, recurses := true, loops := true, apart := false, narrowed := true }
def MessageMayUptoSaid : Prop := messageMayUptoRow.holds Try.pinned (OpenSpec.upto messageMaySpec)

/-- 'assizelaw20.ChangeAsks', WHERE WHAT IT READS IS OF BULK AT MOST 1048576: true; the input reads as it did. -/
def changeAsksUptoRow : OpenClaim := { program := "ytgocfglmideobaa", sum := "b25833ffd602511dbbda7460cfe94f3a073b6ea148504b516c7c76aa5f707230", func := "assize/assizelaw20.ChangeAsks", spec := "changeAsks", unfollowed := true, recurses := true, loops := true, apart := false, narrowed := true }
def ChangeAsksUptoSaid : Prop := changeAsksUptoRow.holds Try.pinned (OpenSpec.upto changeAsksSpec)

/-- 'assizelaw20.ChangeKeeps', WHERE WHAT IT READS IS OF BULK AT MOST 1048576: true; the input reads as it did. -/
def changeKeepsUptoRow : OpenClaim := { program := "ytgocfglmideobaa", sum := "b25833ffd602511dbbda7460cfe94f3a073b6ea148504b516c7c76aa5f707230", func := "assize/assizelaw20.ChangeKeeps", spec := "changeKeeps", unfollowed := true, recurses := true, apart := false, narrowed := true }
def ChangeKeepsUptoSaid : Prop := changeKeepsUptoRow.holds Try.pinned (OpenSpec.upto changeKeepsSpec)

/-- 'assizelaw18.SlotWaits', WHERE WHAT IT READS IS OF BULK AT MOST 1048576: true; the input reads as it did. -/
def slotWaitsUptoRow : OpenClaim := { program := "ytgocfglmideobaa", sum := "b25833ffd602511dbbda7460cfe94f3a073b6ea148504b516c7c76aa5f707230", func := "assize/assizelaw18.SlotWaits", spec := "slotWaits", unfollowed := true, recurses := true, apart := false, narrowed := true }
def SlotWaitsUptoSaid : Prop := slotWaitsUptoRow.holds Try.pinned (OpenSpec.upto slotWaitsSpec)

/-- 'assizelaw17.MessageDecodes', WHERE WHAT IT READS IS OF BULK AT MOST 1048576: true; the input reads as it did. -/
def messageDecodesUptoRow : OpenClaim := { program := "ytgocfglmideobaa", sum := "b25833ffd602511dbbda7460cfe94f3a073b6ea148504b516c7c76aa5f707230", func := "assize/assizelaw17.MessageDecodes", spec := "messageDecodes", unfollowed := true, recurses := true, apart := false, narrowed := true }
def MessageDecodesUptoSaid : Prop := messageDecodesUptoRow.holds Try.pinned (OpenSpec.upto messageDecodesSpec)

/-- 'assizelaw17.MessageTurned', WHERE WHAT IT READS IS OF BULK AT MOST 1048576: true; the input reads as it did. -/
def messageTurnedUptoRow : OpenClaim := { program := "ytgocfglmideobaa", sum := "b25833ffd602511dbbda7460cfe94f3a073b6ea148504b516c7c76aa5f707230", func := "assize/assizelaw17.MessageTurned", spec := "messageTurned", unfollowed := true, recurses := true, loops := true, apart := false, narrowed := true }
def MessageTurnedUptoSaid : Prop := messageTurnedUptoRow.holds Try.pinned (OpenSpec.upto messageTurnedSpec)

/-- 'assizelaw20.ChangeBuilds', WHERE WHAT IT READS IS OF BULK AT MOST 1048576: true; the input reads as it did. -/
def changeBuildsUptoRow : OpenClaim := { program := "ytgocfglmideobaa", sum := "b25833ffd602511dbbda7460cfe94f3a073b6ea148504b516c7c76aa5f707230", func := "assize/assizelaw20.ChangeBuilds", spec := "changeBuilds", unfollowed := true, recurses := true, loops := true, apart := false, narrowed := true }
def ChangeBuildsUptoSaid : Prop := changeBuildsUptoRow.holds Try.pinned (OpenSpec.upto changeBuildsSpec)

/-- 'assizelaw17.MessageBack', WHERE WHAT IT READS IS OF BULK AT MOST 1048576: true; the input reads as it did. -/
def messageBackUptoRow : OpenClaim := { program := "ytgocfglmideobaa", sum := "b25833ffd602511dbbda7460cfe94f3a073b6ea148504b516c7c76aa5f707230", func := "assize/assizelaw17.MessageBack", spec := "messageBack", unfollowed := true, recurses := true, loops := true, apart := false, narrowed := true }
def MessageBackUptoSaid : Prop := messageBackUptoRow.holds Try.pinned (OpenSpec.upto messageBackSpec)

end Rows
end Go.Proofs.Ytgocfglmideobaa
