/-
  No cell of these rows narrows 'for every input' (looked for: loops, veiled, ifaces, maps, wideKeys, modest, calm, conditions, laid).
  DERIVED. THE GIVEN ROWS OF THIS SEAT. 12 by the template 'for every input the law returns true; each argument reads behind the call as it read before'; 0 by the template 'total and deterministic' (their statements: YtcbebidfnlkkeaaTotals.lean).
  GIVEN WITH THE SEED: the statements are not yours to turn. If you find one false, say at which input.
  Laid BY PROGRAM, IN A SANDBOX (cutbox-rows.mjs): the forced cells as the released guide's own fill.sh prints them over the translation 6e126e990474d75c… (all of the seat's roots in one cut). By AI agents, Wed Nov 11 2026. No macro, syntax, notation, axiom, sorry.
-/
import Derived.Test.YtcbebidfnlkkeaaChecked
import GoSem.Claim
import GoSem.ClaimJoined
import GoSem.ClaimMapViews
import Derived.JoinedTies
import Derived.KernelRfl
namespace Go.Proofs.Ytcbebidfnlkkeaa
/- THE CELL 'sum', in the pinned program and in every row, IS THE sha256 OF THE DUMP (.gsa) THAT YtcbebidfnlkkeaaProg.lean LOADS. Nothing in Lean hashes anything: it is a label: what it is worth is what the hold of that sum in a sandbox is worth. -/
noncomputable def Try.pinned : Pinned := { name := "ytcbebidfnlkkeaa", sum := "6e126e990474d75c410cea31337583f3fa0ef817bc03cf17b9bb1366050dd1a0", checked := Try.checked }
namespace Rows
def none {H : Type} : Left H := { results := [], args := [] }

/-- 'laws.FnExactTaken': WHATEVER THE INPUT: true; the input reads as it did. -/
def fnExactTakenSpec : ChangeSpec := { name := "fnExactTaken", fn := fun _ => fun
  | [d] => { results := [.lit (.bool true)], args := [d] }
  | _ => none }
def fnExactTakenRow : OpenClaim := { program := "ytcbebidfnlkkeaa", sum := "6e126e990474d75c410cea31337583f3fa0ef817bc03cf17b9bb1366050dd1a0", func := "loop.example/g00673/laws.FnExactTaken", spec := "fnExactTaken", unfollowed := true, recurses := true, apart := false }
def FnExactTakenSaid : Prop := fnExactTakenRow.holds Try.pinned (OpenSpec.ofChange fnExactTakenSpec)

/-- ITS FALSE NEIGHBOUR: 'it returns false'. Refute it at one input. -/
def fnExactTakenWrong : ChangeSpec := { name := "fnExactTaken", fn := fun _ => fun
  | [d] => { results := [.lit (.bool false)], args := [d] }
  | _ => none }
def FnExactTakenWrongFalsely : Prop := fnExactTakenRow.holds Try.pinned (OpenSpec.ofChange fnExactTakenWrong)

/-- 'laws.FnExactSpreadOk': WHATEVER THE INPUT: true; the input reads as it did. -/
def fnExactSpreadOkSpec : ChangeSpec := { name := "fnExactSpreadOk", fn := fun _ => fun
  | [d1, d2] => { results := [.lit (.bool true)], args := [d1, d2] }
  | _ => none }
def fnExactSpreadOkRow : OpenClaim := { program := "ytcbebidfnlkkeaa", sum := "6e126e990474d75c410cea31337583f3fa0ef817bc03cf17b9bb1366050dd1a0", func := "loop.example/g00673/laws.FnExactSpreadOk", spec := "fnExactSpreadOk", unfollowed := true, recurses := true, apart := false }
def FnExactSpreadOkSaid : Prop := fnExactSpreadOkRow.holds Try.pinned (OpenSpec.ofChange fnExactSpreadOkSpec)

/-- ITS FALSE NEIGHBOUR: 'it returns false'. Refute it at one input. -/
def fnExactSpreadOkWrong : ChangeSpec := { name := "fnExactSpreadOk", fn := fun _ => fun
  | [d1, d2] => { results := [.lit (.bool false)], args := [d1, d2] }
  | _ => none }
def FnExactSpreadOkWrongFalsely : Prop := fnExactSpreadOkRow.holds Try.pinned (OpenSpec.ofChange fnExactSpreadOkWrong)

/-- 'laws.FnExactDropped': WHATEVER THE INPUT: true; the input reads as it did. -/
def fnExactDroppedSpec : ChangeSpec := { name := "fnExactDropped", fn := fun _ => fun
  | [d1, d2] => { results := [.lit (.bool true)], args := [d1, d2] }
  | _ => none }
def fnExactDroppedRow : OpenClaim := { program := "ytcbebidfnlkkeaa", sum := "6e126e990474d75c410cea31337583f3fa0ef817bc03cf17b9bb1366050dd1a0", func := "loop.example/g00673/laws.FnExactDropped", spec := "fnExactDropped", unfollowed := true, recurses := true, apart := false }
def FnExactDroppedSaid : Prop := fnExactDroppedRow.holds Try.pinned (OpenSpec.ofChange fnExactDroppedSpec)

/-- ITS FALSE NEIGHBOUR: 'it returns false'. Refute it at one input. -/
def fnExactDroppedWrong : ChangeSpec := { name := "fnExactDropped", fn := fun _ => fun
  | [d1, d2] => { results := [.lit (.bool false)], args := [d1, d2] }
  | _ => none }
def FnExactDroppedWrongFalsely : Prop := fnExactDroppedRow.holds Try.pinned (OpenSpec.ofChange fnExactDroppedWrong)

/-- 'laws.FnExactReadyIn': WHATEVER THE INPUT: true; the input reads as it did. -/
def fnExactReadyInSpec : ChangeSpec := { name := "fnExactReadyIn", fn := fun _ => fun
  | [d] => { results := [.lit (.bool true)], args := [d] }
  | _ => none }
def fnExactReadyInRow : OpenClaim := { program := "ytcbebidfnlkkeaa", sum := "6e126e990474d75c410cea31337583f3fa0ef817bc03cf17b9bb1366050dd1a0", func := "loop.example/g00673/laws.FnExactReadyIn", spec := "fnExactReadyIn", unfollowed := true, recurses := true, apart := false }
def FnExactReadyInSaid : Prop := fnExactReadyInRow.holds Try.pinned (OpenSpec.ofChange fnExactReadyInSpec)

/-- ITS FALSE NEIGHBOUR: 'it returns false'. Refute it at one input. -/
def fnExactReadyInWrong : ChangeSpec := { name := "fnExactReadyIn", fn := fun _ => fun
  | [d] => { results := [.lit (.bool false)], args := [d] }
  | _ => none }
def FnExactReadyInWrongFalsely : Prop := fnExactReadyInRow.holds Try.pinned (OpenSpec.ofChange fnExactReadyInWrong)

/-- 'laws.FnExactParkedOn': WHATEVER THE INPUT: true; the input reads as it did. -/
def fnExactParkedOnSpec : ChangeSpec := { name := "fnExactParkedOn", fn := fun _ => fun
  | [d1, d2, d3] => { results := [.lit (.bool true)], args := [d1, d2, d3] }
  | _ => none }
def fnExactParkedOnRow : OpenClaim := { program := "ytcbebidfnlkkeaa", sum := "6e126e990474d75c410cea31337583f3fa0ef817bc03cf17b9bb1366050dd1a0", func := "loop.example/g00673/laws.FnExactParkedOn", spec := "fnExactParkedOn", unfollowed := true, recurses := true, apart := false }
def FnExactParkedOnSaid : Prop := fnExactParkedOnRow.holds Try.pinned (OpenSpec.ofChange fnExactParkedOnSpec)

/-- ITS FALSE NEIGHBOUR: 'it returns false'. Refute it at one input. -/
def fnExactParkedOnWrong : ChangeSpec := { name := "fnExactParkedOn", fn := fun _ => fun
  | [d1, d2, d3] => { results := [.lit (.bool false)], args := [d1, d2, d3] }
  | _ => none }
def FnExactParkedOnWrongFalsely : Prop := fnExactParkedOnRow.holds Try.pinned (OpenSpec.ofChange fnExactParkedOnWrong)

/-- 'laws.FnTasks': WHATEVER THE INPUT: true; the input reads as it did. -/
def fnTasksSpec : ChangeSpec := { name := "fnTasks", fn := fun _ => fun
  | [d] => { results := [.lit (.bool true)], args := [d] }
  | _ => none }
def fnTasksRow : OpenClaim := { program := "ytcbebidfnlkkeaa", sum := "6e126e990474d75c410cea31337583f3fa0ef817bc03cf17b9bb1366050dd1a0", func := "loop.example/g00673/laws.FnTasks", spec := "fnTasks", apart := false }
def FnTasksSaid : Prop := fnTasksRow.holds Try.pinned (OpenSpec.ofChange fnTasksSpec)

/-- ITS FALSE NEIGHBOUR: 'it returns false'. Refute it at one input. -/
def fnTasksWrong : ChangeSpec := { name := "fnTasks", fn := fun _ => fun
  | [d] => { results := [.lit (.bool false)], args := [d] }
  | _ => none }
def FnTasksWrongFalsely : Prop := fnTasksRow.holds Try.pinned (OpenSpec.ofChange fnTasksWrong)

/-- 'laws.FnExactWoken': WHATEVER THE INPUT: true; the input reads as it did. -/
def fnExactWokenSpec : ChangeSpec := { name := "fnExactWoken", fn := fun _ => fun
  | [d1, d2, d3, d4] => { results := [.lit (.bool true)], args := [d1, d2, d3, d4] }
  | _ => none }
def fnExactWokenRow : OpenClaim := { program := "ytcbebidfnlkkeaa", sum := "6e126e990474d75c410cea31337583f3fa0ef817bc03cf17b9bb1366050dd1a0", func := "loop.example/g00673/laws.FnExactWoken", spec := "fnExactWoken", unfollowed := true, recurses := true, apart := false }
def FnExactWokenSaid : Prop := fnExactWokenRow.holds Try.pinned (OpenSpec.ofChange fnExactWokenSpec)

/-- ITS FALSE NEIGHBOUR: 'it returns false'. Refute it at one input. -/
def fnExactWokenWrong : ChangeSpec := { name := "fnExactWoken", fn := fun _ => fun
  | [d1, d2, d3, d4] => { results := [.lit (.bool false)], args := [d1, d2, d3, d4] }
  | _ => none }
def FnExactWokenWrongFalsely : Prop := fnExactWokenRow.holds Try.pinned (OpenSpec.ofChange fnExactWokenWrong)

/-- 'laws.FnSpreadAll': WHATEVER THE INPUT: true; the input reads as it did. -/
def fnSpreadAllSpec : ChangeSpec := { name := "fnSpreadAll", fn := fun _ => fun
  | [d] => { results := [.lit (.bool true)], args := [d] }
  | _ => none }
def fnSpreadAllRow : OpenClaim := { program := "ytcbebidfnlkkeaa", sum := "6e126e990474d75c410cea31337583f3fa0ef817bc03cf17b9bb1366050dd1a0", func := "loop.example/g00673/laws.FnSpreadAll", spec := "fnSpreadAll", unfollowed := true, recurses := true, apart := false }
def FnSpreadAllSaid : Prop := fnSpreadAllRow.holds Try.pinned (OpenSpec.ofChange fnSpreadAllSpec)

/-- ITS FALSE NEIGHBOUR: 'it returns false'. Refute it at one input. -/
def fnSpreadAllWrong : ChangeSpec := { name := "fnSpreadAll", fn := fun _ => fun
  | [d] => { results := [.lit (.bool false)], args := [d] }
  | _ => none }
def FnSpreadAllWrongFalsely : Prop := fnSpreadAllRow.holds Try.pinned (OpenSpec.ofChange fnSpreadAllWrong)

/-- 'laws.FnExactBegun': WHATEVER THE INPUT: true; the input reads as it did. -/
def fnExactBegunSpec : ChangeSpec := { name := "fnExactBegun", fn := fun _ => fun
  | [d1, d2, d3] => { results := [.lit (.bool true)], args := [d1, d2, d3] }
  | _ => none }
def fnExactBegunRow : OpenClaim := { program := "ytcbebidfnlkkeaa", sum := "6e126e990474d75c410cea31337583f3fa0ef817bc03cf17b9bb1366050dd1a0", func := "loop.example/g00673/laws.FnExactBegun", spec := "fnExactBegun", unfollowed := true, recurses := true, apart := false }
def FnExactBegunSaid : Prop := fnExactBegunRow.holds Try.pinned (OpenSpec.ofChange fnExactBegunSpec)

/-- ITS FALSE NEIGHBOUR: 'it returns false'. Refute it at one input. -/
def fnExactBegunWrong : ChangeSpec := { name := "fnExactBegun", fn := fun _ => fun
  | [d1, d2, d3] => { results := [.lit (.bool false)], args := [d1, d2, d3] }
  | _ => none }
def FnExactBegunWrongFalsely : Prop := fnExactBegunRow.holds Try.pinned (OpenSpec.ofChange fnExactBegunWrong)

/-- 'laws.FnWoken': WHATEVER THE INPUT: true; the input reads as it did. -/
def fnWokenSpec : ChangeSpec := { name := "fnWoken", fn := fun _ => fun
  | [d] => { results := [.lit (.bool true)], args := [d] }
  | _ => none }
def fnWokenRow : OpenClaim := { program := "ytcbebidfnlkkeaa", sum := "6e126e990474d75c410cea31337583f3fa0ef817bc03cf17b9bb1366050dd1a0", func := "loop.example/g00673/laws.FnWoken", spec := "fnWoken", unfollowed := true, recurses := true, apart := false }
def FnWokenSaid : Prop := fnWokenRow.holds Try.pinned (OpenSpec.ofChange fnWokenSpec)

/-- ITS FALSE NEIGHBOUR: 'it returns false'. Refute it at one input. -/
def fnWokenWrong : ChangeSpec := { name := "fnWoken", fn := fun _ => fun
  | [d] => { results := [.lit (.bool false)], args := [d] }
  | _ => none }
def FnWokenWrongFalsely : Prop := fnWokenRow.holds Try.pinned (OpenSpec.ofChange fnWokenWrong)

/-- 'laws.FnSpreadSteps': WHATEVER THE INPUT: true; the input reads as it did. -/
def fnSpreadStepsSpec : ChangeSpec := { name := "fnSpreadSteps", fn := fun _ => fun
  | [d] => { results := [.lit (.bool true)], args := [d] }
  | _ => none }
def fnSpreadStepsRow : OpenClaim := { program := "ytcbebidfnlkkeaa", sum := "6e126e990474d75c410cea31337583f3fa0ef817bc03cf17b9bb1366050dd1a0", func := "loop.example/g00673/laws.FnSpreadSteps", spec := "fnSpreadSteps", unfollowed := true, recurses := true, apart := false }
def FnSpreadStepsSaid : Prop := fnSpreadStepsRow.holds Try.pinned (OpenSpec.ofChange fnSpreadStepsSpec)

/-- ITS FALSE NEIGHBOUR: 'it returns false'. Refute it at one input. -/
def fnSpreadStepsWrong : ChangeSpec := { name := "fnSpreadSteps", fn := fun _ => fun
  | [d] => { results := [.lit (.bool false)], args := [d] }
  | _ => none }
def FnSpreadStepsWrongFalsely : Prop := fnSpreadStepsRow.holds Try.pinned (OpenSpec.ofChange fnSpreadStepsWrong)

/-- 'laws.FnExactSpreadStep': WHATEVER THE INPUT: true; the input reads as it did. -/
def fnExactSpreadStepSpec : ChangeSpec := { name := "fnExactSpreadStep", fn := fun _ => fun
  | [d1, d2] => { results := [.lit (.bool true)], args := [d1, d2] }
  | _ => none }
def fnExactSpreadStepRow : OpenClaim := { program := "ytcbebidfnlkkeaa", sum := "6e126e990474d75c410cea31337583f3fa0ef817bc03cf17b9bb1366050dd1a0", func := "loop.example/g00673/laws.FnExactSpreadStep", spec := "fnExactSpreadStep", unfollowed := true, recurses := true, apart := false }
def FnExactSpreadStepSaid : Prop := fnExactSpreadStepRow.holds Try.pinned (OpenSpec.ofChange fnExactSpreadStepSpec)

/-- ITS FALSE NEIGHBOUR: 'it returns false'. Refute it at one input. -/
def fnExactSpreadStepWrong : ChangeSpec := { name := "fnExactSpreadStep", fn := fun _ => fun
  | [d1, d2] => { results := [.lit (.bool false)], args := [d1, d2] }
  | _ => none }
def FnExactSpreadStepWrongFalsely : Prop := fnExactSpreadStepRow.holds Try.pinned (OpenSpec.ofChange fnExactSpreadStepWrong)

/- THE SECOND FORM. 'bulk': how many values and letters a reading holds, each counted each time it is reached (what is shared counts as often as it is met; a slice's spare places count too). A statement '..UptoSaid' is the law's where the arguments, and the package variables that the reading takes, are together of bulk at most 1048576: NARROWER than '..Said'. Prove '..Said' where nothing that the law and all that it calls make is longer than what came in: it says more and counts as full. Else prove '..UptoSaid'. A law counts once. -/
mutual
def uptoBulk {H : Type} : DataW H → Nat
  | .lit (.string bytes) => bytes.length + 1
  | .lit _ => 1
  | .nil => 1
  | .ptr d => uptoBulk d + 1
  | .slice elems spare => uptoBulkAll elems + uptoBulkAll spare + 1
  | .agg parts => uptoBulkAll parts + 1
  | .iface _ d => uptoBulk d + 1
  | .map entries => uptoBulkEntries entries + 1
  | .held _ => 1
def uptoBulkAll {H : Type} : List (DataW H) → Nat
  | [] => 0
  | d :: r => uptoBulk d + uptoBulkAll r
def uptoBulkEntries {H : Type} : List (Lit × DataW H) → Nat
  | [] => 0
  | x :: r => uptoBulkEntry x + uptoBulkEntries r
def uptoBulkEntry {H : Type} : Lit × DataW H → Nat
  | (.string bytes, d) => bytes.length + uptoBulk d + 1
  | (_, d) => uptoBulk d + 1
 end
def uptoSmall : (H : Type) → List (DataW H) → Bool := fun _ ds => decide (uptoBulkAll ds ≤ 1048576)
def OpenSpec.upto (s : _root_.Go.ChangeSpec) : _root_.Go.OpenSpec := { _root_.Go.OpenSpec.ofChange s with cond := some uptoSmall }

/-- 'laws.FnExactTaken', WHERE WHAT IT READS IS OF BULK AT MOST 1048576: true; the input reads as it did. -/
def fnExactTakenUptoRow : OpenClaim := { program := "ytcbebidfnlkkeaa", sum := "6e126e990474d75c410cea31337583f3fa0ef817bc03cf17b9bb1366050dd1a0", func := "loop.example/g00673/laws.FnExactTaken", spec := "fnExactTaken", unfollowed := true, recurses := true, apart := false, narrowed := true }
def FnExactTakenUptoSaid : Prop := fnExactTakenUptoRow.holds Try.pinned (OpenSpec.upto fnExactTakenSpec)

/-- 'laws.FnExactSpreadOk', WHERE WHAT IT READS IS OF BULK AT MOST 1048576: true; the input reads as it did. -/
def fnExactSpreadOkUptoRow : OpenClaim := { program := "ytcbebidfnlkkeaa", sum := "6e126e990474d75c410cea31337583f3fa0ef817bc03cf17b9bb1366050dd1a0", func := "loop.example/g00673/laws.FnExactSpreadOk", spec := "fnExactSpreadOk", unfollowed := true, recurses := true, apart := false, narrowed := true }
def FnExactSpreadOkUptoSaid : Prop := fnExactSpreadOkUptoRow.holds Try.pinned (OpenSpec.upto fnExactSpreadOkSpec)

/-- 'laws.FnExactDropped', WHERE WHAT IT READS IS OF BULK AT MOST 1048576: true; the input reads as it did. -/
def fnExactDroppedUptoRow : OpenClaim := { program := "ytcbebidfnlkkeaa", sum := "6e126e990474d75c410cea31337583f3fa0ef817bc03cf17b9bb1366050dd1a0", func := "loop.example/g00673/laws.FnExactDropped", spec := "fnExactDropped", unfollowed := true, recurses := true, apart := false, narrowed := true }
def FnExactDroppedUptoSaid : Prop := fnExactDroppedUptoRow.holds Try.pinned (OpenSpec.upto fnExactDroppedSpec)

/-- 'laws.FnExactReadyIn', WHERE WHAT IT READS IS OF BULK AT MOST 1048576: true; the input reads as it did. -/
def fnExactReadyInUptoRow : OpenClaim := { program := "ytcbebidfnlkkeaa", sum := "6e126e990474d75c410cea31337583f3fa0ef817bc03cf17b9bb1366050dd1a0", func := "loop.example/g00673/laws.FnExactReadyIn", spec := "fnExactReadyIn", unfollowed := true, recurses := true, apart := false, narrowed := true }
def FnExactReadyInUptoSaid : Prop := fnExactReadyInUptoRow.holds Try.pinned (OpenSpec.upto fnExactReadyInSpec)

/-- 'laws.FnExactParkedOn', WHERE WHAT IT READS IS OF BULK AT MOST 1048576: true; the input reads as it did. -/
def fnExactParkedOnUptoRow : OpenClaim := { program := "ytcbebidfnlkkeaa", sum := "6e126e990474d75c410cea31337583f3fa0ef817bc03cf17b9bb1366050dd1a0", func := "loop.example/g00673/laws.FnExactParkedOn", spec := "fnExactParkedOn", unfollowed := true, recurses := true, apart := false, narrowed := true }
def FnExactParkedOnUptoSaid : Prop := fnExactParkedOnUptoRow.holds Try.pinned (OpenSpec.upto fnExactParkedOnSpec)

/-- 'laws.FnTasks', WHERE WHAT IT READS IS OF BULK AT MOST 1048576: true; the input reads as it did. -/
def fnTasksUptoRow : OpenClaim := { program := "ytcbebidfnlkkeaa", sum := "6e126e990474d75c410cea31337583f3fa0ef817bc03cf17b9bb1366050dd1a0", func := "loop.example/g00673/laws.FnTasks", spec := "fnTasks", apart := false, narrowed := true }
def FnTasksUptoSaid : Prop := fnTasksUptoRow.holds Try.pinned (OpenSpec.upto fnTasksSpec)

/-- 'laws.FnExactWoken', WHERE WHAT IT READS IS OF BULK AT MOST 1048576: true; the input reads as it did. -/
def fnExactWokenUptoRow : OpenClaim := { program := "ytcbebidfnlkkeaa", sum := "6e126e990474d75c410cea31337583f3fa0ef817bc03cf17b9bb1366050dd1a0", func := "loop.example/g00673/laws.FnExactWoken", spec := "fnExactWoken", unfollowed := true, recurses := true, apart := false, narrowed := true }
def FnExactWokenUptoSaid : Prop := fnExactWokenUptoRow.holds Try.pinned (OpenSpec.upto fnExactWokenSpec)

/-- 'laws.FnSpreadAll', WHERE WHAT IT READS IS OF BULK AT MOST 1048576: true; the input reads as it did. -/
def fnSpreadAllUptoRow : OpenClaim := { program := "ytcbebidfnlkkeaa", sum := "6e126e990474d75c410cea31337583f3fa0ef817bc03cf17b9bb1366050dd1a0", func := "loop.example/g00673/laws.FnSpreadAll", spec := "fnSpreadAll", unfollowed := true, recurses := true, apart := false, narrowed := true }
def FnSpreadAllUptoSaid : Prop := fnSpreadAllUptoRow.holds Try.pinned (OpenSpec.upto fnSpreadAllSpec)

/-- 'laws.FnExactBegun', WHERE WHAT IT READS IS OF BULK AT MOST 1048576: true; the input reads as it did. -/
def fnExactBegunUptoRow : OpenClaim := { program := "ytcbebidfnlkkeaa", sum := "6e126e990474d75c410cea31337583f3fa0ef817bc03cf17b9bb1366050dd1a0", func := "loop.example/g00673/laws.FnExactBegun", spec := "fnExactBegun", unfollowed := true, recurses := true, apart := false, narrowed := true }
def FnExactBegunUptoSaid : Prop := fnExactBegunUptoRow.holds Try.pinned (OpenSpec.upto fnExactBegunSpec)

/-- 'laws.FnWoken', WHERE WHAT IT READS IS OF BULK AT MOST 1048576: true; the input reads as it did. -/
def fnWokenUptoRow : OpenClaim := { program := "ytcbebidfnlkkeaa", sum := "6e126e990474d75c410cea31337583f3fa0ef817bc03cf17b9bb1366050dd1a0", func := "loop.example/g00673/laws.FnWoken", spec := "fnWoken", unfollowed := true, recurses := true, apart := false, narrowed := true }
def FnWokenUptoSaid : Prop := fnWokenUptoRow.holds Try.pinned (OpenSpec.upto fnWokenSpec)

/-- 'laws.FnSpreadSteps', WHERE WHAT IT READS IS OF BULK AT MOST 1048576: true; the input reads as it did. -/
def fnSpreadStepsUptoRow : OpenClaim := { program := "ytcbebidfnlkkeaa", sum := "6e126e990474d75c410cea31337583f3fa0ef817bc03cf17b9bb1366050dd1a0", func := "loop.example/g00673/laws.FnSpreadSteps", spec := "fnSpreadSteps", unfollowed := true, recurses := true, apart := false, narrowed := true }
def FnSpreadStepsUptoSaid : Prop := fnSpreadStepsUptoRow.holds Try.pinned (OpenSpec.upto fnSpreadStepsSpec)

/-- 'laws.FnExactSpreadStep', WHERE WHAT IT READS IS OF BULK AT MOST 1048576: true; the input reads as it did. -/
def fnExactSpreadStepUptoRow : OpenClaim := { program := "ytcbebidfnlkkeaa", sum := "6e126e990474d75c410cea31337583f3fa0ef817bc03cf17b9bb1366050dd1a0", func := "loop.example/g00673/laws.FnExactSpreadStep", spec := "fnExactSpreadStep", unfollowed := true, recurses := true, apart := false, narrowed := true }
def FnExactSpreadStepUptoSaid : Prop := fnExactSpreadStepUptoRow.holds Try.pinned (OpenSpec.upto fnExactSpreadStepSpec)

end Rows
end Go.Proofs.Ytcbebidfnlkkeaa
