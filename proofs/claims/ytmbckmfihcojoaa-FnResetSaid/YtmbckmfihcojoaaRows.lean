/-
  No cell of these rows narrows 'for every input' (looked for: loops, veiled, ifaces, maps, wideKeys, modest, calm, conditions, laid).
  DERIVED. THE GIVEN ROWS OF THIS SEAT. 11 by the template 'for every input the law returns true; each argument reads behind the call as it read before'; 0 by the template 'total and deterministic' (their statements: YtmbckmfihcojoaaTotals.lean).
  GIVEN WITH THE SEED: the statements are not yours to turn. If you find one false, say at which input.
  Laid BY PROGRAM, IN A SANDBOX (cutbox-rows.mjs): the forced cells as the released guide's own fill.sh prints them over the translation fc676cb7ebf714a7… (all of the seat's roots in one cut). By AI agents, Wed Nov 11 2026. No macro, syntax, notation, axiom, sorry.
-/
import Derived.Test.YtmbckmfihcojoaaChecked
import GoSem.Claim
import GoSem.ClaimJoined
import GoSem.ClaimMapViews
import Derived.JoinedTies
import Derived.KernelRfl
namespace Go.Proofs.Ytmbckmfihcojoaa
/- THE CELL 'sum', in the pinned program and in every row, IS THE sha256 OF THE DUMP (.gsa) THAT YtmbckmfihcojoaaProg.lean LOADS. Nothing in Lean hashes anything: it is a label: what it is worth is what the hold of that sum in a sandbox is worth. -/
noncomputable def Try.pinned : Pinned := { name := "ytmbckmfihcojoaa", sum := "fc676cb7ebf714a70b45a39edaf3c0008ecb63f83e0e468911ee92af5f66fd6e", checked := Try.checked }
namespace Rows
def none {H : Type} : Left H := { results := [], args := [] }

/-- 'laws.FnExactSpreadAll': WHATEVER THE INPUT: true; the input reads as it did. -/
def fnExactSpreadAllSpec : ChangeSpec := { name := "fnExactSpreadAll", fn := fun _ => fun
  | [d1, d2] => { results := [.lit (.bool true)], args := [d1, d2] }
  | _ => none }
def fnExactSpreadAllRow : OpenClaim := { program := "ytmbckmfihcojoaa", sum := "fc676cb7ebf714a70b45a39edaf3c0008ecb63f83e0e468911ee92af5f66fd6e", func := "loop.example/g00673/laws.FnExactSpreadAll", spec := "fnExactSpreadAll", unfollowed := true, recurses := true, apart := false }
def FnExactSpreadAllSaid : Prop := fnExactSpreadAllRow.holds Try.pinned (OpenSpec.ofChange fnExactSpreadAllSpec)

/-- ITS FALSE NEIGHBOUR: 'it returns false'. Refute it at one input. -/
def fnExactSpreadAllWrong : ChangeSpec := { name := "fnExactSpreadAll", fn := fun _ => fun
  | [d1, d2] => { results := [.lit (.bool false)], args := [d1, d2] }
  | _ => none }
def FnExactSpreadAllWrongFalsely : Prop := fnExactSpreadAllRow.holds Try.pinned (OpenSpec.ofChange fnExactSpreadAllWrong)

/-- 'laws.FnExactQueuedBy': WHATEVER THE INPUT: true; the input reads as it did. -/
def fnExactQueuedBySpec : ChangeSpec := { name := "fnExactQueuedBy", fn := fun _ => fun
  | [d1, d2] => { results := [.lit (.bool true)], args := [d1, d2] }
  | _ => none }
def fnExactQueuedByRow : OpenClaim := { program := "ytmbckmfihcojoaa", sum := "fc676cb7ebf714a70b45a39edaf3c0008ecb63f83e0e468911ee92af5f66fd6e", func := "loop.example/g00673/laws.FnExactQueuedBy", spec := "fnExactQueuedBy", unfollowed := true, recurses := true, apart := false }
def FnExactQueuedBySaid : Prop := fnExactQueuedByRow.holds Try.pinned (OpenSpec.ofChange fnExactQueuedBySpec)

/-- ITS FALSE NEIGHBOUR: 'it returns false'. Refute it at one input. -/
def fnExactQueuedByWrong : ChangeSpec := { name := "fnExactQueuedBy", fn := fun _ => fun
  | [d1, d2] => { results := [.lit (.bool false)], args := [d1, d2] }
  | _ => none }
def FnExactQueuedByWrongFalsely : Prop := fnExactQueuedByRow.holds Try.pinned (OpenSpec.ofChange fnExactQueuedByWrong)

/-- 'laws.FnExactRegistered': WHATEVER THE INPUT: true; the input reads as it did. -/
def fnExactRegisteredSpec : ChangeSpec := { name := "fnExactRegistered", fn := fun _ => fun
  | [d1, d2, d3] => { results := [.lit (.bool true)], args := [d1, d2, d3] }
  | _ => none }
def fnExactRegisteredRow : OpenClaim := { program := "ytmbckmfihcojoaa", sum := "fc676cb7ebf714a70b45a39edaf3c0008ecb63f83e0e468911ee92af5f66fd6e", func := "loop.example/g00673/laws.FnExactRegistered", spec := "fnExactRegistered", unfollowed := true, recurses := true, apart := false }
def FnExactRegisteredSaid : Prop := fnExactRegisteredRow.holds Try.pinned (OpenSpec.ofChange fnExactRegisteredSpec)

/-- ITS FALSE NEIGHBOUR: 'it returns false'. Refute it at one input. -/
def fnExactRegisteredWrong : ChangeSpec := { name := "fnExactRegistered", fn := fun _ => fun
  | [d1, d2, d3] => { results := [.lit (.bool false)], args := [d1, d2, d3] }
  | _ => none }
def FnExactRegisteredWrongFalsely : Prop := fnExactRegisteredRow.holds Try.pinned (OpenSpec.ofChange fnExactRegisteredWrong)

/-- 'laws.FnExactCalledOff': WHATEVER THE INPUT: true; the input reads as it did. -/
def fnExactCalledOffSpec : ChangeSpec := { name := "fnExactCalledOff", fn := fun _ => fun
  | [d1, d2] => { results := [.lit (.bool true)], args := [d1, d2] }
  | _ => none }
def fnExactCalledOffRow : OpenClaim := { program := "ytmbckmfihcojoaa", sum := "fc676cb7ebf714a70b45a39edaf3c0008ecb63f83e0e468911ee92af5f66fd6e", func := "loop.example/g00673/laws.FnExactCalledOff", spec := "fnExactCalledOff", unfollowed := true, recurses := true, apart := false }
def FnExactCalledOffSaid : Prop := fnExactCalledOffRow.holds Try.pinned (OpenSpec.ofChange fnExactCalledOffSpec)

/-- ITS FALSE NEIGHBOUR: 'it returns false'. Refute it at one input. -/
def fnExactCalledOffWrong : ChangeSpec := { name := "fnExactCalledOff", fn := fun _ => fun
  | [d1, d2] => { results := [.lit (.bool false)], args := [d1, d2] }
  | _ => none }
def FnExactCalledOffWrongFalsely : Prop := fnExactCalledOffRow.holds Try.pinned (OpenSpec.ofChange fnExactCalledOffWrong)

/-- 'laws.FnFiring': WHATEVER THE INPUT: true; the input reads as it did. -/
def fnFiringSpec : ChangeSpec := { name := "fnFiring", fn := fun _ => fun
  | [d] => { results := [.lit (.bool true)], args := [d] }
  | _ => none }
def fnFiringRow : OpenClaim := { program := "ytmbckmfihcojoaa", sum := "fc676cb7ebf714a70b45a39edaf3c0008ecb63f83e0e468911ee92af5f66fd6e", func := "loop.example/g00673/laws.FnFiring", spec := "fnFiring", unfollowed := true, recurses := true, apart := false }
def FnFiringSaid : Prop := fnFiringRow.holds Try.pinned (OpenSpec.ofChange fnFiringSpec)

/-- ITS FALSE NEIGHBOUR: 'it returns false'. Refute it at one input. -/
def fnFiringWrong : ChangeSpec := { name := "fnFiring", fn := fun _ => fun
  | [d] => { results := [.lit (.bool false)], args := [d] }
  | _ => none }
def FnFiringWrongFalsely : Prop := fnFiringRow.holds Try.pinned (OpenSpec.ofChange fnFiringWrong)

/-- 'laws.FnExactArmed': WHATEVER THE INPUT: true; the input reads as it did. -/
def fnExactArmedSpec : ChangeSpec := { name := "fnExactArmed", fn := fun _ => fun
  | [d1, d2, d3, d4] => { results := [.lit (.bool true)], args := [d1, d2, d3, d4] }
  | _ => none }
def fnExactArmedRow : OpenClaim := { program := "ytmbckmfihcojoaa", sum := "fc676cb7ebf714a70b45a39edaf3c0008ecb63f83e0e468911ee92af5f66fd6e", func := "loop.example/g00673/laws.FnExactArmed", spec := "fnExactArmed", unfollowed := true, recurses := true, apart := false }
def FnExactArmedSaid : Prop := fnExactArmedRow.holds Try.pinned (OpenSpec.ofChange fnExactArmedSpec)

/-- ITS FALSE NEIGHBOUR: 'it returns false'. Refute it at one input. -/
def fnExactArmedWrong : ChangeSpec := { name := "fnExactArmed", fn := fun _ => fun
  | [d1, d2, d3, d4] => { results := [.lit (.bool false)], args := [d1, d2, d3, d4] }
  | _ => none }
def FnExactArmedWrongFalsely : Prop := fnExactArmedRow.holds Try.pinned (OpenSpec.ofChange fnExactArmedWrong)

/-- 'laws.FnExactFired': WHATEVER THE INPUT: true; the input reads as it did. -/
def fnExactFiredSpec : ChangeSpec := { name := "fnExactFired", fn := fun _ => fun
  | [d1, d2] => { results := [.lit (.bool true)], args := [d1, d2] }
  | _ => none }
def fnExactFiredRow : OpenClaim := { program := "ytmbckmfihcojoaa", sum := "fc676cb7ebf714a70b45a39edaf3c0008ecb63f83e0e468911ee92af5f66fd6e", func := "loop.example/g00673/laws.FnExactFired", spec := "fnExactFired", unfollowed := true, recurses := true, apart := false }
def FnExactFiredSaid : Prop := fnExactFiredRow.holds Try.pinned (OpenSpec.ofChange fnExactFiredSpec)

/-- ITS FALSE NEIGHBOUR: 'it returns false'. Refute it at one input. -/
def fnExactFiredWrong : ChangeSpec := { name := "fnExactFired", fn := fun _ => fun
  | [d1, d2] => { results := [.lit (.bool false)], args := [d1, d2] }
  | _ => none }
def FnExactFiredWrongFalsely : Prop := fnExactFiredRow.holds Try.pinned (OpenSpec.ofChange fnExactFiredWrong)

/-- 'laws.FnExactStopped': WHATEVER THE INPUT: true; the input reads as it did. -/
def fnExactStoppedSpec : ChangeSpec := { name := "fnExactStopped", fn := fun _ => fun
  | [d1, d2] => { results := [.lit (.bool true)], args := [d1, d2] }
  | _ => none }
def fnExactStoppedRow : OpenClaim := { program := "ytmbckmfihcojoaa", sum := "fc676cb7ebf714a70b45a39edaf3c0008ecb63f83e0e468911ee92af5f66fd6e", func := "loop.example/g00673/laws.FnExactStopped", spec := "fnExactStopped", unfollowed := true, recurses := true, apart := false }
def FnExactStoppedSaid : Prop := fnExactStoppedRow.holds Try.pinned (OpenSpec.ofChange fnExactStoppedSpec)

/-- ITS FALSE NEIGHBOUR: 'it returns false'. Refute it at one input. -/
def fnExactStoppedWrong : ChangeSpec := { name := "fnExactStopped", fn := fun _ => fun
  | [d1, d2] => { results := [.lit (.bool false)], args := [d1, d2] }
  | _ => none }
def FnExactStoppedWrongFalsely : Prop := fnExactStoppedRow.holds Try.pinned (OpenSpec.ofChange fnExactStoppedWrong)

/-- 'laws.FnExactReset': WHATEVER THE INPUT: true; the input reads as it did. -/
def fnExactResetSpec : ChangeSpec := { name := "fnExactReset", fn := fun _ => fun
  | [d1, d2, d3] => { results := [.lit (.bool true)], args := [d1, d2, d3] }
  | _ => none }
def fnExactResetRow : OpenClaim := { program := "ytmbckmfihcojoaa", sum := "fc676cb7ebf714a70b45a39edaf3c0008ecb63f83e0e468911ee92af5f66fd6e", func := "loop.example/g00673/laws.FnExactReset", spec := "fnExactReset", unfollowed := true, recurses := true, apart := false }
def FnExactResetSaid : Prop := fnExactResetRow.holds Try.pinned (OpenSpec.ofChange fnExactResetSpec)

/-- ITS FALSE NEIGHBOUR: 'it returns false'. Refute it at one input. -/
def fnExactResetWrong : ChangeSpec := { name := "fnExactReset", fn := fun _ => fun
  | [d1, d2, d3] => { results := [.lit (.bool false)], args := [d1, d2, d3] }
  | _ => none }
def FnExactResetWrongFalsely : Prop := fnExactResetRow.holds Try.pinned (OpenSpec.ofChange fnExactResetWrong)

/-- 'laws.FnExactForgotten': WHATEVER THE INPUT: true; the input reads as it did. -/
def fnExactForgottenSpec : ChangeSpec := { name := "fnExactForgotten", fn := fun _ => fun
  | [d1, d2] => { results := [.lit (.bool true)], args := [d1, d2] }
  | _ => none }
def fnExactForgottenRow : OpenClaim := { program := "ytmbckmfihcojoaa", sum := "fc676cb7ebf714a70b45a39edaf3c0008ecb63f83e0e468911ee92af5f66fd6e", func := "loop.example/g00673/laws.FnExactForgotten", spec := "fnExactForgotten", unfollowed := true, recurses := true, apart := false }
def FnExactForgottenSaid : Prop := fnExactForgottenRow.holds Try.pinned (OpenSpec.ofChange fnExactForgottenSpec)

/-- ITS FALSE NEIGHBOUR: 'it returns false'. Refute it at one input. -/
def fnExactForgottenWrong : ChangeSpec := { name := "fnExactForgotten", fn := fun _ => fun
  | [d1, d2] => { results := [.lit (.bool false)], args := [d1, d2] }
  | _ => none }
def FnExactForgottenWrongFalsely : Prop := fnExactForgottenRow.holds Try.pinned (OpenSpec.ofChange fnExactForgottenWrong)

/-- 'laws.FnReset': WHATEVER THE INPUT: true; the input reads as it did. -/
def fnResetSpec : ChangeSpec := { name := "fnReset", fn := fun _ => fun
  | [d] => { results := [.lit (.bool true)], args := [d] }
  | _ => none }
def fnResetRow : OpenClaim := { program := "ytmbckmfihcojoaa", sum := "fc676cb7ebf714a70b45a39edaf3c0008ecb63f83e0e468911ee92af5f66fd6e", func := "loop.example/g00673/laws.FnReset", spec := "fnReset", unfollowed := true, recurses := true, apart := false }
def FnResetSaid : Prop := fnResetRow.holds Try.pinned (OpenSpec.ofChange fnResetSpec)

/-- ITS FALSE NEIGHBOUR: 'it returns false'. Refute it at one input. -/
def fnResetWrong : ChangeSpec := { name := "fnReset", fn := fun _ => fun
  | [d] => { results := [.lit (.bool false)], args := [d] }
  | _ => none }
def FnResetWrongFalsely : Prop := fnResetRow.holds Try.pinned (OpenSpec.ofChange fnResetWrong)

/- THE SECOND FORM. 'bulk': how many values and letters a reading holds, each counted each time it is reached (what is shared counts as often as it is met; a slice's spare places count too). A statement '..UptoSaid' is the law's where the arguments, and the package variables that the reading takes, are together of bulk at most 1048576: NARROWER than '..Said'. Prove '..Said' where nothing that the law and all that it calls make is longer than what came in: it says more and counts as full. Else prove '..UptoSaid'. A law counts once. -/
mutual
def uptoBulk {H : Type} : DataW H → Nat
  | .lit (.string bytes) => bytes.length + 1
  | .lit _ => 1
  | .nil => 1
  | .ptr d => uptoBulk d + 1
  | .slice elems spare => uptoBulkAll elems + uptoBulkAll spare + 1
  | .agg parts => uptoBulkAll parts + 1
  | .iface _ d => uptoBulk d + 1
  | .map entries => uptoBulkEntries entries + 1
  | .held _ => 1
def uptoBulkAll {H : Type} : List (DataW H) → Nat
  | [] => 0
  | d :: r => uptoBulk d + uptoBulkAll r
def uptoBulkEntries {H : Type} : List (Lit × DataW H) → Nat
  | [] => 0
  | x :: r => uptoBulkEntry x + uptoBulkEntries r
def uptoBulkEntry {H : Type} : Lit × DataW H → Nat
  | (.string bytes, d) => bytes.length + uptoBulk d + 1
  | (_, d) => uptoBulk d + 1
 end
def uptoSmall : (H : Type) → List (DataW H) → Bool := fun _ ds => decide (uptoBulkAll ds ≤ 1048576)
def OpenSpec.upto (s : _root_.Go.ChangeSpec) : _root_.Go.OpenSpec := { _root_.Go.OpenSpec.ofChange s with cond := some uptoSmall }

/-- 'laws.FnExactSpreadAll', WHERE WHAT IT READS IS OF BULK AT MOST 1048576: true; the input reads as it did. -/
def fnExactSpreadAllUptoRow : OpenClaim := { program := "ytmbckmfihcojoaa", sum := "fc676cb7ebf714a70b45a39edaf3c0008ecb63f83e0e468911ee92af5f66fd6e", func := "loop.example/g00673/laws.FnExactSpreadAll", spec := "fnExactSpreadAll", unfollowed := true, recurses := true, apart := false, narrowed := true }
def FnExactSpreadAllUptoSaid : Prop := fnExactSpreadAllUptoRow.holds Try.pinned (OpenSpec.upto fnExactSpreadAllSpec)

/-- 'laws.FnExactQueuedBy', WHERE WHAT IT READS IS OF BULK AT MOST 1048576: true; the input reads as it did. -/
def fnExactQueuedByUptoRow : OpenClaim := { program := "ytmbckmfihcojoaa", sum := "fc676cb7ebf714a70b45a39edaf3c0008ecb63f83e0e468911ee92af5f66fd6e", func := "loop.example/g00673/laws.FnExactQueuedBy", spec := "fnExactQueuedBy", unfollowed := true, recurses := true, apart := false, narrowed := true }
def FnExactQueuedByUptoSaid : Prop := fnExactQueuedByUptoRow.holds Try.pinned (OpenSpec.upto fnExactQueuedBySpec)

/-- 'laws.FnExactRegistered', WHERE WHAT IT READS IS OF BULK AT MOST 1048576: true; the input reads as it did. -/
def fnExactRegisteredUptoRow : OpenClaim := { program := "ytmbckmfihcojoaa", sum := "fc676cb7ebf714a70b45a39edaf3c0008ecb63f83e0e468911ee92af5f66fd6e", func := "loop.example/g00673/laws.FnExactRegistered", spec := "fnExactRegistered", unfollowed := true, recurses := true, apart := false, narrowed := true }
def FnExactRegisteredUptoSaid : Prop := fnExactRegisteredUptoRow.holds Try.pinned (OpenSpec.upto fnExactRegisteredSpec)

/-- 'laws.FnExactCalledOff', WHERE WHAT IT READS IS OF BULK AT MOST 1048576: true; the input reads as it did. -/
def fnExactCalledOffUptoRow : OpenClaim := { program := "ytmbckmfihcojoaa", sum := "fc676cb7ebf714a70b45a39edaf3c0008ecb63f83e0e468911ee92af5f66fd6e", func := "loop.example/g00673/laws.FnExactCalledOff", spec := "fnExactCalledOff", unfollowed := true, recurses := true, apart := false, narrowed := true }
def FnExactCalledOffUptoSaid : Prop := fnExactCalledOffUptoRow.holds Try.pinned (OpenSpec.upto fnExactCalledOffSpec)

/-- 'laws.FnFiring', WHERE WHAT IT READS IS OF BULK AT MOST 1048576: true; the input reads as it did. -/
def fnFiringUptoRow : OpenClaim := { program := "ytmbckmfihcojoaa", sum := "fc676cb7ebf714a70b45a39edaf3c0008ecb63f83e0e468911ee92af5f66fd6e", func := "loop.example/g00673/laws.FnFiring", spec := "fnFiring", unfollowed := true, recurses := true, apart := false, narrowed := true }
def FnFiringUptoSaid : Prop := fnFiringUptoRow.holds Try.pinned (OpenSpec.upto fnFiringSpec)

/-- 'laws.FnExactArmed', WHERE WHAT IT READS IS OF BULK AT MOST 1048576: true; the input reads as it did. -/
def fnExactArmedUptoRow : OpenClaim := { program := "ytmbckmfihcojoaa", sum := "fc676cb7ebf714a70b45a39edaf3c0008ecb63f83e0e468911ee92af5f66fd6e", func := "loop.example/g00673/laws.FnExactArmed", spec := "fnExactArmed", unfollowed := true, recurses := true, apart := false, narrowed := true }
def FnExactArmedUptoSaid : Prop := fnExactArmedUptoRow.holds Try.pinned (OpenSpec.upto fnExactArmedSpec)

/-- 'laws.FnExactFired', WHERE WHAT IT READS IS OF BULK AT MOST 1048576: true; the input reads as it did. -/
def fnExactFiredUptoRow : OpenClaim := { program := "ytmbckmfihcojoaa", sum := "fc676cb7ebf714a70b45a39edaf3c0008ecb63f83e0e468911ee92af5f66fd6e", func := "loop.example/g00673/laws.FnExactFired", spec := "fnExactFired", unfollowed := true, recurses := true, apart := false, narrowed := true }
def FnExactFiredUptoSaid : Prop := fnExactFiredUptoRow.holds Try.pinned (OpenSpec.upto fnExactFiredSpec)

/-- 'laws.FnExactStopped', WHERE WHAT IT READS IS OF BULK AT MOST 1048576: true; the input reads as it did. -/
def fnExactStoppedUptoRow : OpenClaim := { program := "ytmbckmfihcojoaa", sum := "fc676cb7ebf714a70b45a39edaf3c0008ecb63f83e0e468911ee92af5f66fd6e", func := "loop.example/g00673/laws.FnExactStopped", spec := "fnExactStopped", unfollowed := true, recurses := true, apart := false, narrowed := true }
def FnExactStoppedUptoSaid : Prop := fnExactStoppedUptoRow.holds Try.pinned (OpenSpec.upto fnExactStoppedSpec)

/-- 'laws.FnExactReset', WHERE WHAT IT READS IS OF BULK AT MOST 1048576: true; the input reads as it did. -/
def fnExactResetUptoRow : OpenClaim := { program := "ytmbckmfihcojoaa", sum := "fc676cb7ebf714a70b45a39edaf3c0008ecb63f83e0e468911ee92af5f66fd6e", func := "loop.example/g00673/laws.FnExactReset", spec := "fnExactReset", unfollowed := true, recurses := true, apart := false, narrowed := true }
def FnExactResetUptoSaid : Prop := fnExactResetUptoRow.holds Try.pinned (OpenSpec.upto fnExactResetSpec)

/-- 'laws.FnExactForgotten', WHERE WHAT IT READS IS OF BULK AT MOST 1048576: true; the input reads as it did. -/
def fnExactForgottenUptoRow : OpenClaim := { program := "ytmbckmfihcojoaa", sum := "fc676cb7ebf714a70b45a39edaf3c0008ecb63f83e0e468911ee92af5f66fd6e", func := "loop.example/g00673/laws.FnExactForgotten", spec := "fnExactForgotten", unfollowed := true, recurses := true, apart := false, narrowed := true }
def FnExactForgottenUptoSaid : Prop := fnExactForgottenUptoRow.holds Try.pinned (OpenSpec.upto fnExactForgottenSpec)

/-- 'laws.FnReset', WHERE WHAT IT READS IS OF BULK AT MOST 1048576: true; the input reads as it did. -/
def fnResetUptoRow : OpenClaim := { program := "ytmbckmfihcojoaa", sum := "fc676cb7ebf714a70b45a39edaf3c0008ecb63f83e0e468911ee92af5f66fd6e", func := "loop.example/g00673/laws.FnReset", spec := "fnReset", unfollowed := true, recurses := true, apart := false, narrowed := true }
def FnResetUptoSaid : Prop := fnResetUptoRow.holds Try.pinned (OpenSpec.upto fnResetSpec)

end Rows
end Go.Proofs.Ytmbckmfihcojoaa
