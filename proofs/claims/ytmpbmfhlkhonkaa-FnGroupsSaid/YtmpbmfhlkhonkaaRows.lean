/-
  No cell of these rows narrows 'for every input' (looked for: loops, veiled, ifaces, maps, wideKeys, modest, calm, conditions, laid).
  DERIVED. THE GIVEN ROWS OF THIS SEAT. 12 by the template 'for every input the law returns true; each argument reads behind the call as it read before'; 0 by the template 'total and deterministic' (their statements: YtmpbmfhlkhonkaaTotals.lean).
  GIVEN WITH THE SEED: the statements are not yours to turn. If you find one false, say at which input.
  Laid BY PROGRAM, IN A SANDBOX (cutbox-rows.mjs): the forced cells as the released guide's own fill.sh prints them over the translation 6a33709f7959bede… (all of the seat's roots in one cut). By AI agents, Wed Nov 11 2026. No macro, syntax, notation, axiom, sorry.
-/
import Derived.Test.YtmpbmfhlkhonkaaChecked
import GoSem.Claim
import GoSem.ClaimJoined
import GoSem.ClaimMapViews
import Derived.JoinedTies
import Derived.KernelRfl
namespace Go.Proofs.Ytmpbmfhlkhonkaa
/- THE CELL 'sum', in the pinned program and in every row, IS THE sha256 OF THE DUMP (.gsa) THAT YtmpbmfhlkhonkaaProg.lean LOADS. Nothing in Lean hashes anything: it is a label: what it is worth is what the hold of that sum in a sandbox is worth. -/
noncomputable def Try.pinned : Pinned := { name := "ytmpbmfhlkhonkaa", sum := "6a33709f7959bedec1301137a56e55ddedc9a22f84b834b4d745a536865e781c", checked := Try.checked }
namespace Rows
def none {H : Type} : Left H := { results := [], args := [] }

/-- 'laws.FnHandles': WHATEVER THE INPUT: true; the input reads as it did. -/
def fnHandlesSpec : ChangeSpec := { name := "fnHandles", fn := fun _ => fun
  | [d] => { results := [.lit (.bool true)], args := [d] }
  | _ => none }
def fnHandlesRow : OpenClaim := { program := "ytmpbmfhlkhonkaa", sum := "6a33709f7959bedec1301137a56e55ddedc9a22f84b834b4d745a536865e781c", func := "loop.example/g00673/laws.FnHandles", spec := "fnHandles", unfollowed := true, recurses := true, apart := false }
def FnHandlesSaid : Prop := fnHandlesRow.holds Try.pinned (OpenSpec.ofChange fnHandlesSpec)

/-- ITS FALSE NEIGHBOUR: 'it returns false'. Refute it at one input. -/
def fnHandlesWrong : ChangeSpec := { name := "fnHandles", fn := fun _ => fun
  | [d] => { results := [.lit (.bool false)], args := [d] }
  | _ => none }
def FnHandlesWrongFalsely : Prop := fnHandlesRow.holds Try.pinned (OpenSpec.ofChange fnHandlesWrong)

/-- 'laws.FnExactGroupOk': WHATEVER THE INPUT: true; the input reads as it did. -/
def fnExactGroupOkSpec : ChangeSpec := { name := "fnExactGroupOk", fn := fun _ => fun
  | [d] => { results := [.lit (.bool true)], args := [d] }
  | _ => none }
def fnExactGroupOkRow : OpenClaim := { program := "ytmpbmfhlkhonkaa", sum := "6a33709f7959bedec1301137a56e55ddedc9a22f84b834b4d745a536865e781c", func := "loop.example/g00673/laws.FnExactGroupOk", spec := "fnExactGroupOk", apart := false }
def FnExactGroupOkSaid : Prop := fnExactGroupOkRow.holds Try.pinned (OpenSpec.ofChange fnExactGroupOkSpec)

/-- ITS FALSE NEIGHBOUR: 'it returns false'. Refute it at one input. -/
def fnExactGroupOkWrong : ChangeSpec := { name := "fnExactGroupOk", fn := fun _ => fun
  | [d] => { results := [.lit (.bool false)], args := [d] }
  | _ => none }
def FnExactGroupOkWrongFalsely : Prop := fnExactGroupOkRow.holds Try.pinned (OpenSpec.ofChange fnExactGroupOkWrong)

/-- 'laws.FnExactRoomIn': WHATEVER THE INPUT: true; the input reads as it did. -/
def fnExactRoomInSpec : ChangeSpec := { name := "fnExactRoomIn", fn := fun _ => fun
  | [d] => { results := [.lit (.bool true)], args := [d] }
  | _ => none }
def fnExactRoomInRow : OpenClaim := { program := "ytmpbmfhlkhonkaa", sum := "6a33709f7959bedec1301137a56e55ddedc9a22f84b834b4d745a536865e781c", func := "loop.example/g00673/laws.FnExactRoomIn", spec := "fnExactRoomIn", apart := false }
def FnExactRoomInSaid : Prop := fnExactRoomInRow.holds Try.pinned (OpenSpec.ofChange fnExactRoomInSpec)

/-- ITS FALSE NEIGHBOUR: 'it returns false'. Refute it at one input. -/
def fnExactRoomInWrong : ChangeSpec := { name := "fnExactRoomIn", fn := fun _ => fun
  | [d] => { results := [.lit (.bool false)], args := [d] }
  | _ => none }
def FnExactRoomInWrongFalsely : Prop := fnExactRoomInRow.holds Try.pinned (OpenSpec.ofChange fnExactRoomInWrong)

/-- 'laws.FnExactParked': WHATEVER THE INPUT: true; the input reads as it did. -/
def fnExactParkedSpec : ChangeSpec := { name := "fnExactParked", fn := fun _ => fun
  | [d1, d2, d3, d4] => { results := [.lit (.bool true)], args := [d1, d2, d3, d4] }
  | _ => none }
def fnExactParkedRow : OpenClaim := { program := "ytmpbmfhlkhonkaa", sum := "6a33709f7959bedec1301137a56e55ddedc9a22f84b834b4d745a536865e781c", func := "loop.example/g00673/laws.FnExactParked", spec := "fnExactParked", apart := false }
def FnExactParkedSaid : Prop := fnExactParkedRow.holds Try.pinned (OpenSpec.ofChange fnExactParkedSpec)

/-- ITS FALSE NEIGHBOUR: 'it returns false'. Refute it at one input. -/
def fnExactParkedWrong : ChangeSpec := { name := "fnExactParked", fn := fun _ => fun
  | [d1, d2, d3, d4] => { results := [.lit (.bool false)], args := [d1, d2, d3, d4] }
  | _ => none }
def FnExactParkedWrongFalsely : Prop := fnExactParkedRow.holds Try.pinned (OpenSpec.ofChange fnExactParkedWrong)

/-- 'laws.FnExactEnded': WHATEVER THE INPUT: true; the input reads as it did. -/
def fnExactEndedSpec : ChangeSpec := { name := "fnExactEnded", fn := fun _ => fun
  | [d1, d2] => { results := [.lit (.bool true)], args := [d1, d2] }
  | _ => none }
def fnExactEndedRow : OpenClaim := { program := "ytmpbmfhlkhonkaa", sum := "6a33709f7959bedec1301137a56e55ddedc9a22f84b834b4d745a536865e781c", func := "loop.example/g00673/laws.FnExactEnded", spec := "fnExactEnded", apart := false }
def FnExactEndedSaid : Prop := fnExactEndedRow.holds Try.pinned (OpenSpec.ofChange fnExactEndedSpec)

/-- ITS FALSE NEIGHBOUR: 'it returns false'. Refute it at one input. -/
def fnExactEndedWrong : ChangeSpec := { name := "fnExactEnded", fn := fun _ => fun
  | [d1, d2] => { results := [.lit (.bool false)], args := [d1, d2] }
  | _ => none }
def FnExactEndedWrongFalsely : Prop := fnExactEndedRow.holds Try.pinned (OpenSpec.ofChange fnExactEndedWrong)

/-- 'laws.FnExactReadied': WHATEVER THE INPUT: true; the input reads as it did. -/
def fnExactReadiedSpec : ChangeSpec := { name := "fnExactReadied", fn := fun _ => fun
  | [d1, d2] => { results := [.lit (.bool true)], args := [d1, d2] }
  | _ => none }
def fnExactReadiedRow : OpenClaim := { program := "ytmpbmfhlkhonkaa", sum := "6a33709f7959bedec1301137a56e55ddedc9a22f84b834b4d745a536865e781c", func := "loop.example/g00673/laws.FnExactReadied", spec := "fnExactReadied", apart := false }
def FnExactReadiedSaid : Prop := fnExactReadiedRow.holds Try.pinned (OpenSpec.ofChange fnExactReadiedSpec)

/-- ITS FALSE NEIGHBOUR: 'it returns false'. Refute it at one input. -/
def fnExactReadiedWrong : ChangeSpec := { name := "fnExactReadied", fn := fun _ => fun
  | [d1, d2] => { results := [.lit (.bool false)], args := [d1, d2] }
  | _ => none }
def FnExactReadiedWrongFalsely : Prop := fnExactReadiedRow.holds Try.pinned (OpenSpec.ofChange fnExactReadiedWrong)

/-- 'laws.FnGroups': WHATEVER THE INPUT: true; the input reads as it did. -/
def fnGroupsSpec : ChangeSpec := { name := "fnGroups", fn := fun _ => fun
  | [d] => { results := [.lit (.bool true)], args := [d] }
  | _ => none }
def fnGroupsRow : OpenClaim := { program := "ytmpbmfhlkhonkaa", sum := "6a33709f7959bedec1301137a56e55ddedc9a22f84b834b4d745a536865e781c", func := "loop.example/g00673/laws.FnGroups", spec := "fnGroups", apart := false }
def FnGroupsSaid : Prop := fnGroupsRow.holds Try.pinned (OpenSpec.ofChange fnGroupsSpec)

/-- ITS FALSE NEIGHBOUR: 'it returns false'. Refute it at one input. -/
def fnGroupsWrong : ChangeSpec := { name := "fnGroups", fn := fun _ => fun
  | [d] => { results := [.lit (.bool false)], args := [d] }
  | _ => none }
def FnGroupsWrongFalsely : Prop := fnGroupsRow.holds Try.pinned (OpenSpec.ofChange fnGroupsWrong)

/-- 'laws.FnExactTasksOk': WHATEVER THE INPUT: true; the input reads as it did. -/
def fnExactTasksOkSpec : ChangeSpec := { name := "fnExactTasksOk", fn := fun _ => fun
  | [d] => { results := [.lit (.bool true)], args := [d] }
  | _ => none }
def fnExactTasksOkRow : OpenClaim := { program := "ytmpbmfhlkhonkaa", sum := "6a33709f7959bedec1301137a56e55ddedc9a22f84b834b4d745a536865e781c", func := "loop.example/g00673/laws.FnExactTasksOk", spec := "fnExactTasksOk", unfollowed := true, recurses := true, apart := false }
def FnExactTasksOkSaid : Prop := fnExactTasksOkRow.holds Try.pinned (OpenSpec.ofChange fnExactTasksOkSpec)

/-- ITS FALSE NEIGHBOUR: 'it returns false'. Refute it at one input. -/
def fnExactTasksOkWrong : ChangeSpec := { name := "fnExactTasksOk", fn := fun _ => fun
  | [d] => { results := [.lit (.bool false)], args := [d] }
  | _ => none }
def FnExactTasksOkWrongFalsely : Prop := fnExactTasksOkRow.holds Try.pinned (OpenSpec.ofChange fnExactTasksOkWrong)

/-- 'laws.FnExactEntered': WHATEVER THE INPUT: true; the input reads as it did. -/
def fnExactEnteredSpec : ChangeSpec := { name := "fnExactEntered", fn := fun _ => fun
  | [d] => { results := [.lit (.bool true)], args := [d] }
  | _ => none }
def fnExactEnteredRow : OpenClaim := { program := "ytmpbmfhlkhonkaa", sum := "6a33709f7959bedec1301137a56e55ddedc9a22f84b834b4d745a536865e781c", func := "loop.example/g00673/laws.FnExactEntered", spec := "fnExactEntered", apart := false }
def FnExactEnteredSaid : Prop := fnExactEnteredRow.holds Try.pinned (OpenSpec.ofChange fnExactEnteredSpec)

/-- ITS FALSE NEIGHBOUR: 'it returns false'. Refute it at one input. -/
def fnExactEnteredWrong : ChangeSpec := { name := "fnExactEntered", fn := fun _ => fun
  | [d] => { results := [.lit (.bool false)], args := [d] }
  | _ => none }
def FnExactEnteredWrongFalsely : Prop := fnExactEnteredRow.holds Try.pinned (OpenSpec.ofChange fnExactEnteredWrong)

/-- 'laws.FnExactLined': WHATEVER THE INPUT: true; the input reads as it did. -/
def fnExactLinedSpec : ChangeSpec := { name := "fnExactLined", fn := fun _ => fun
  | [d1, d2] => { results := [.lit (.bool true)], args := [d1, d2] }
  | _ => none }
def fnExactLinedRow : OpenClaim := { program := "ytmpbmfhlkhonkaa", sum := "6a33709f7959bedec1301137a56e55ddedc9a22f84b834b4d745a536865e781c", func := "loop.example/g00673/laws.FnExactLined", spec := "fnExactLined", apart := false }
def FnExactLinedSaid : Prop := fnExactLinedRow.holds Try.pinned (OpenSpec.ofChange fnExactLinedSpec)

/-- ITS FALSE NEIGHBOUR: 'it returns false'. Refute it at one input. -/
def fnExactLinedWrong : ChangeSpec := { name := "fnExactLined", fn := fun _ => fun
  | [d1, d2] => { results := [.lit (.bool false)], args := [d1, d2] }
  | _ => none }
def FnExactLinedWrongFalsely : Prop := fnExactLinedRow.holds Try.pinned (OpenSpec.ofChange fnExactLinedWrong)

/-- 'laws.FnExactLeftBy': WHATEVER THE INPUT: true; the input reads as it did. -/
def fnExactLeftBySpec : ChangeSpec := { name := "fnExactLeftBy", fn := fun _ => fun
  | [d1, d2] => { results := [.lit (.bool true)], args := [d1, d2] }
  | _ => none }
def fnExactLeftByRow : OpenClaim := { program := "ytmpbmfhlkhonkaa", sum := "6a33709f7959bedec1301137a56e55ddedc9a22f84b834b4d745a536865e781c", func := "loop.example/g00673/laws.FnExactLeftBy", spec := "fnExactLeftBy", apart := false }
def FnExactLeftBySaid : Prop := fnExactLeftByRow.holds Try.pinned (OpenSpec.ofChange fnExactLeftBySpec)

/-- ITS FALSE NEIGHBOUR: 'it returns false'. Refute it at one input. -/
def fnExactLeftByWrong : ChangeSpec := { name := "fnExactLeftBy", fn := fun _ => fun
  | [d1, d2] => { results := [.lit (.bool false)], args := [d1, d2] }
  | _ => none }
def FnExactLeftByWrongFalsely : Prop := fnExactLeftByRow.holds Try.pinned (OpenSpec.ofChange fnExactLeftByWrong)

/-- 'laws.FnExactPassed': WHATEVER THE INPUT: true; the input reads as it did. -/
def fnExactPassedSpec : ChangeSpec := { name := "fnExactPassed", fn := fun _ => fun
  | [d1, d2] => { results := [.lit (.bool true)], args := [d1, d2] }
  | _ => none }
def fnExactPassedRow : OpenClaim := { program := "ytmpbmfhlkhonkaa", sum := "6a33709f7959bedec1301137a56e55ddedc9a22f84b834b4d745a536865e781c", func := "loop.example/g00673/laws.FnExactPassed", spec := "fnExactPassed", apart := false }
def FnExactPassedSaid : Prop := fnExactPassedRow.holds Try.pinned (OpenSpec.ofChange fnExactPassedSpec)

/-- ITS FALSE NEIGHBOUR: 'it returns false'. Refute it at one input. -/
def fnExactPassedWrong : ChangeSpec := { name := "fnExactPassed", fn := fun _ => fun
  | [d1, d2] => { results := [.lit (.bool false)], args := [d1, d2] }
  | _ => none }
def FnExactPassedWrongFalsely : Prop := fnExactPassedRow.holds Try.pinned (OpenSpec.ofChange fnExactPassedWrong)

/- THE SECOND FORM. 'bulk': how many values and letters a reading holds, each counted each time it is reached (what is shared counts as often as it is met; a slice's spare places count too). A statement '..UptoSaid' is the law's where the arguments, and the package variables that the reading takes, are together of bulk at most 1048576: NARROWER than '..Said'. Prove '..Said' where nothing that the law and all that it calls make is longer than what came in: it says more and counts as full. Else prove '..UptoSaid'. A law counts once. -/
mutual
def uptoBulk {H : Type} : DataW H → Nat
  | .lit (.string bytes) => bytes.length + 1
  | .lit _ => 1
  | .nil => 1
  | .ptr d => uptoBulk d + 1
  | .slice elems spare => uptoBulkAll elems + uptoBulkAll spare + 1
  | .agg parts => uptoBulkAll parts + 1
  | .iface _ d => uptoBulk d + 1
  | .map entries => uptoBulkEntries entries + 1
  | .held _ => 1
def uptoBulkAll {H : Type} : List (DataW H) → Nat
  | [] => 0
  | d :: r => uptoBulk d + uptoBulkAll r
def uptoBulkEntries {H : Type} : List (Lit × DataW H) → Nat
  | [] => 0
  | x :: r => uptoBulkEntry x + uptoBulkEntries r
def uptoBulkEntry {H : Type} : Lit × DataW H → Nat
  | (.string bytes, d) => bytes.length + uptoBulk d + 1
  | (_, d) => uptoBulk d + 1
 end
def uptoSmall : (H : Type) → List (DataW H) → Bool := fun _ ds => decide (uptoBulkAll ds ≤ 1048576)
def OpenSpec.upto (s : _root_.Go.ChangeSpec) : _root_.Go.OpenSpec := { _root_.Go.OpenSpec.ofChange s with cond := some uptoSmall }

/-- 'laws.FnHandles', WHERE WHAT IT READS IS OF BULK AT MOST 1048576: true; the input reads as it did. -/
def fnHandlesUptoRow : OpenClaim := { program := "ytmpbmfhlkhonkaa", sum := "6a33709f7959bedec1301137a56e55ddedc9a22f84b834b4d745a536865e781c", func := "loop.example/g00673/laws.FnHandles", spec := "fnHandles", unfollowed := true, recurses := true, apart := false, narrowed := true }
def FnHandlesUptoSaid : Prop := fnHandlesUptoRow.holds Try.pinned (OpenSpec.upto fnHandlesSpec)

/-- 'laws.FnExactGroupOk', WHERE WHAT IT READS IS OF BULK AT MOST 1048576: true; the input reads as it did. -/
def fnExactGroupOkUptoRow : OpenClaim := { program := "ytmpbmfhlkhonkaa", sum := "6a33709f7959bedec1301137a56e55ddedc9a22f84b834b4d745a536865e781c", func := "loop.example/g00673/laws.FnExactGroupOk", spec := "fnExactGroupOk", apart := false, narrowed := true }
def FnExactGroupOkUptoSaid : Prop := fnExactGroupOkUptoRow.holds Try.pinned (OpenSpec.upto fnExactGroupOkSpec)

/-- 'laws.FnExactRoomIn', WHERE WHAT IT READS IS OF BULK AT MOST 1048576: true; the input reads as it did. -/
def fnExactRoomInUptoRow : OpenClaim := { program := "ytmpbmfhlkhonkaa", sum := "6a33709f7959bedec1301137a56e55ddedc9a22f84b834b4d745a536865e781c", func := "loop.example/g00673/laws.FnExactRoomIn", spec := "fnExactRoomIn", apart := false, narrowed := true }
def FnExactRoomInUptoSaid : Prop := fnExactRoomInUptoRow.holds Try.pinned (OpenSpec.upto fnExactRoomInSpec)

/-- 'laws.FnExactParked', WHERE WHAT IT READS IS OF BULK AT MOST 1048576: true; the input reads as it did. -/
def fnExactParkedUptoRow : OpenClaim := { program := "ytmpbmfhlkhonkaa", sum := "6a33709f7959bedec1301137a56e55ddedc9a22f84b834b4d745a536865e781c", func := "loop.example/g00673/laws.FnExactParked", spec := "fnExactParked", apart := false, narrowed := true }
def FnExactParkedUptoSaid : Prop := fnExactParkedUptoRow.holds Try.pinned (OpenSpec.upto fnExactParkedSpec)

/-- 'laws.FnExactEnded', WHERE WHAT IT READS IS OF BULK AT MOST 1048576: true; the input reads as it did. -/
def fnExactEndedUptoRow : OpenClaim := { program := "ytmpbmfhlkhonkaa", sum := "6a33709f7959bedec1301137a56e55ddedc9a22f84b834b4d745a536865e781c", func := "loop.example/g00673/laws.FnExactEnded", spec := "fnExactEnded", apart := false, narrowed := true }
def FnExactEndedUptoSaid : Prop := fnExactEndedUptoRow.holds Try.pinned (OpenSpec.upto fnExactEndedSpec)

/-- 'laws.FnExactReadied', WHERE WHAT IT READS IS OF BULK AT MOST 1048576: true; the input reads as it did. -/
def fnExactReadiedUptoRow : OpenClaim := { program := "ytmpbmfhlkhonkaa", sum := "6a33709f7959bedec1301137a56e55ddedc9a22f84b834b4d745a536865e781c", func := "loop.example/g00673/laws.FnExactReadied", spec := "fnExactReadied", apart := false, narrowed := true }
def FnExactReadiedUptoSaid : Prop := fnExactReadiedUptoRow.holds Try.pinned (OpenSpec.upto fnExactReadiedSpec)

/-- 'laws.FnGroups', WHERE WHAT IT READS IS OF BULK AT MOST 1048576: true; the input reads as it did. -/
def fnGroupsUptoRow : OpenClaim := { program := "ytmpbmfhlkhonkaa", sum := "6a33709f7959bedec1301137a56e55ddedc9a22f84b834b4d745a536865e781c", func := "loop.example/g00673/laws.FnGroups", spec := "fnGroups", apart := false, narrowed := true }
def FnGroupsUptoSaid : Prop := fnGroupsUptoRow.holds Try.pinned (OpenSpec.upto fnGroupsSpec)

/-- 'laws.FnExactTasksOk', WHERE WHAT IT READS IS OF BULK AT MOST 1048576: true; the input reads as it did. -/
def fnExactTasksOkUptoRow : OpenClaim := { program := "ytmpbmfhlkhonkaa", sum := "6a33709f7959bedec1301137a56e55ddedc9a22f84b834b4d745a536865e781c", func := "loop.example/g00673/laws.FnExactTasksOk", spec := "fnExactTasksOk", unfollowed := true, recurses := true, apart := false, narrowed := true }
def FnExactTasksOkUptoSaid : Prop := fnExactTasksOkUptoRow.holds Try.pinned (OpenSpec.upto fnExactTasksOkSpec)

/-- 'laws.FnExactEntered', WHERE WHAT IT READS IS OF BULK AT MOST 1048576: true; the input reads as it did. -/
def fnExactEnteredUptoRow : OpenClaim := { program := "ytmpbmfhlkhonkaa", sum := "6a33709f7959bedec1301137a56e55ddedc9a22f84b834b4d745a536865e781c", func := "loop.example/g00673/laws.FnExactEntered", spec := "fnExactEntered", apart := false, narrowed := true }
def FnExactEnteredUptoSaid : Prop := fnExactEnteredUptoRow.holds Try.pinned (OpenSpec.upto fnExactEnteredSpec)

/-- 'laws.FnExactLined', WHERE WHAT IT READS IS OF BULK AT MOST 1048576: true; the input reads as it did. -/
def fnExactLinedUptoRow : OpenClaim := { program := "ytmpbmfhlkhonkaa", sum := "6a33709f7959bedec1301137a56e55ddedc9a22f84b834b4d745a536865e781c", func := "loop.example/g00673/laws.FnExactLined", spec := "fnExactLined", apart := false, narrowed := true }
def FnExactLinedUptoSaid : Prop := fnExactLinedUptoRow.holds Try.pinned (OpenSpec.upto fnExactLinedSpec)

/-- 'laws.FnExactLeftBy', WHERE WHAT IT READS IS OF BULK AT MOST 1048576: true; the input reads as it did. -/
def fnExactLeftByUptoRow : OpenClaim := { program := "ytmpbmfhlkhonkaa", sum := "6a33709f7959bedec1301137a56e55ddedc9a22f84b834b4d745a536865e781c", func := "loop.example/g00673/laws.FnExactLeftBy", spec := "fnExactLeftBy", apart := false, narrowed := true }
def FnExactLeftByUptoSaid : Prop := fnExactLeftByUptoRow.holds Try.pinned (OpenSpec.upto fnExactLeftBySpec)

/-- 'laws.FnExactPassed', WHERE WHAT IT READS IS OF BULK AT MOST 1048576: true; the input reads as it did. -/
def fnExactPassedUptoRow : OpenClaim := { program := "ytmpbmfhlkhonkaa", sum := "6a33709f7959bedec1301137a56e55ddedc9a22f84b834b4d745a536865e781c", func := "loop.example/g00673/laws.FnExactPassed", spec := "fnExactPassed", apart := false, narrowed := true }
def FnExactPassedUptoSaid : Prop := fnExactPassedUptoRow.holds Try.pinned (OpenSpec.upto fnExactPassedSpec)

end Rows
end Go.Proofs.Ytmpbmfhlkhonkaa
