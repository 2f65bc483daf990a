/-
  No cell of these rows narrows 'for every input' (looked for: loops, veiled, ifaces, maps, wideKeys, modest, calm, conditions, laid).
  DERIVED. THE GIVEN ROWS OF THIS SEAT. 8 by the template 'for every input the law returns true; each argument reads behind the call as it read before'; 0 by the template 'total and deterministic' (their statements: YtihfpbhalnedcaaGreatTotals.lean).
  GIVEN WITH THE SEED: the statements are not yours to turn. If you find one false, say at which input.
  Laid BY PROGRAM, IN A SANDBOX (cutbox-rows.mjs): the forced cells as the released guide's own fill.sh prints them over the translation ff6e27b1989cda27… (all of the seat's roots in one cut). By AI agents, Wed Nov 11 2026. No macro, syntax, notation, axiom, sorry.
-/
import Derived.Test.YtihfpbhalnedcaaGreatChecked
import GoSem.Claim
import GoSem.ClaimJoined
import GoSem.ClaimMapViews
import Derived.JoinedTies
import Derived.KernelRfl
namespace Go.Proofs.YtihfpbhalnedcaaGreat
/- THE CELL 'sum', in the pinned program and in every row, IS THE sha256 OF THE DUMP (.gsa) THAT YtihfpbhalnedcaaGreatProg.lean LOADS. Nothing in Lean hashes anything: it is a label: what it is worth is what the hold of that sum in a sandbox is worth. -/
noncomputable def Tryz.pinned : Pinned := { name := "ytihfpbhalnedcaagreat", sum := "ff6e27b1989cda27649e1dd279bf7e5b12a7d6b0fd94601df0a45075fdf04b96", checked := Tryz.checked }
namespace Rows
def none {H : Type} : Left H := { results := [], args := [] }

/-- 'laws.FnExactLimitIn': WHATEVER THE INPUT: true; the input reads as it did. -/
def fnExactLimitInSpec : ChangeSpec := { name := "fnExactLimitIn", fn := fun _ => fun
  | [d1, d2, d3] => { results := [.lit (.bool true)], args := [d1, d2, d3] }
  | _ => none }
def fnExactLimitInRow : OpenClaim := { program := "ytihfpbhalnedcaagreat", sum := "ff6e27b1989cda27649e1dd279bf7e5b12a7d6b0fd94601df0a45075fdf04b96", func := "loop.example/g00673/laws.FnExactLimitIn", spec := "fnExactLimitIn", unfollowed := true, recurses := true, apart := false }
def FnExactLimitInSaid : Prop := fnExactLimitInRow.holds Tryz.pinned (OpenSpec.ofChange fnExactLimitInSpec)

/-- ITS FALSE NEIGHBOUR: 'it returns false'. Refute it at one input. -/
def fnExactLimitInWrong : ChangeSpec := { name := "fnExactLimitIn", fn := fun _ => fun
  | [d1, d2, d3] => { results := [.lit (.bool false)], args := [d1, d2, d3] }
  | _ => none }
def FnExactLimitInWrongFalsely : Prop := fnExactLimitInRow.holds Tryz.pinned (OpenSpec.ofChange fnExactLimitInWrong)

/-- 'laws.FnExactTaskIn': WHATEVER THE INPUT: true; the input reads as it did. -/
def fnExactTaskInSpec : ChangeSpec := { name := "fnExactTaskIn", fn := fun _ => fun
  | [d1, d2] => { results := [.lit (.bool true)], args := [d1, d2] }
  | _ => none }
def fnExactTaskInRow : OpenClaim := { program := "ytihfpbhalnedcaagreat", sum := "ff6e27b1989cda27649e1dd279bf7e5b12a7d6b0fd94601df0a45075fdf04b96", func := "loop.example/g00673/laws.FnExactTaskIn", spec := "fnExactTaskIn", unfollowed := true, recurses := true, apart := false }
def FnExactTaskInSaid : Prop := fnExactTaskInRow.holds Tryz.pinned (OpenSpec.ofChange fnExactTaskInSpec)

/-- ITS FALSE NEIGHBOUR: 'it returns false'. Refute it at one input. -/
def fnExactTaskInWrong : ChangeSpec := { name := "fnExactTaskIn", fn := fun _ => fun
  | [d1, d2] => { results := [.lit (.bool false)], args := [d1, d2] }
  | _ => none }
def FnExactTaskInWrongFalsely : Prop := fnExactTaskInRow.holds Tryz.pinned (OpenSpec.ofChange fnExactTaskInWrong)

/-- 'laws.FnExactCancelIn': WHATEVER THE INPUT: true; the input reads as it did. -/
def fnExactCancelInSpec : ChangeSpec := { name := "fnExactCancelIn", fn := fun _ => fun
  | [d1, d2, d3] => { results := [.lit (.bool true)], args := [d1, d2, d3] }
  | _ => none }
def fnExactCancelInRow : OpenClaim := { program := "ytihfpbhalnedcaagreat", sum := "ff6e27b1989cda27649e1dd279bf7e5b12a7d6b0fd94601df0a45075fdf04b96", func := "loop.example/g00673/laws.FnExactCancelIn", spec := "fnExactCancelIn", unfollowed := true, recurses := true, apart := false }
def FnExactCancelInSaid : Prop := fnExactCancelInRow.holds Tryz.pinned (OpenSpec.ofChange fnExactCancelInSpec)

/-- ITS FALSE NEIGHBOUR: 'it returns false'. Refute it at one input. -/
def fnExactCancelInWrong : ChangeSpec := { name := "fnExactCancelIn", fn := fun _ => fun
  | [d1, d2, d3] => { results := [.lit (.bool false)], args := [d1, d2, d3] }
  | _ => none }
def FnExactCancelInWrongFalsely : Prop := fnExactCancelInRow.holds Tryz.pinned (OpenSpec.ofChange fnExactCancelInWrong)

/-- 'laws.FnExactAskIn': WHATEVER THE INPUT: true; the input reads as it did. -/
def fnExactAskInSpec : ChangeSpec := { name := "fnExactAskIn", fn := fun _ => fun
  | [d1, d2] => { results := [.lit (.bool true)], args := [d1, d2] }
  | _ => none }
def fnExactAskInRow : OpenClaim := { program := "ytihfpbhalnedcaagreat", sum := "ff6e27b1989cda27649e1dd279bf7e5b12a7d6b0fd94601df0a45075fdf04b96", func := "loop.example/g00673/laws.FnExactAskIn", spec := "fnExactAskIn", unfollowed := true, recurses := true, apart := false }
def FnExactAskInSaid : Prop := fnExactAskInRow.holds Tryz.pinned (OpenSpec.ofChange fnExactAskInSpec)

/-- ITS FALSE NEIGHBOUR: 'it returns false'. Refute it at one input. -/
def fnExactAskInWrong : ChangeSpec := { name := "fnExactAskIn", fn := fun _ => fun
  | [d1, d2] => { results := [.lit (.bool false)], args := [d1, d2] }
  | _ => none }
def FnExactAskInWrongFalsely : Prop := fnExactAskInRow.holds Tryz.pinned (OpenSpec.ofChange fnExactAskInWrong)

/-- 'laws.FnExactCallOffIn': WHATEVER THE INPUT: true; the input reads as it did. -/
def fnExactCallOffInSpec : ChangeSpec := { name := "fnExactCallOffIn", fn := fun _ => fun
  | [d1, d2] => { results := [.lit (.bool true)], args := [d1, d2] }
  | _ => none }
def fnExactCallOffInRow : OpenClaim := { program := "ytihfpbhalnedcaagreat", sum := "ff6e27b1989cda27649e1dd279bf7e5b12a7d6b0fd94601df0a45075fdf04b96", func := "loop.example/g00673/laws.FnExactCallOffIn", spec := "fnExactCallOffIn", unfollowed := true, recurses := true, apart := false }
def FnExactCallOffInSaid : Prop := fnExactCallOffInRow.holds Tryz.pinned (OpenSpec.ofChange fnExactCallOffInSpec)

/-- ITS FALSE NEIGHBOUR: 'it returns false'. Refute it at one input. -/
def fnExactCallOffInWrong : ChangeSpec := { name := "fnExactCallOffIn", fn := fun _ => fun
  | [d1, d2] => { results := [.lit (.bool false)], args := [d1, d2] }
  | _ => none }
def FnExactCallOffInWrongFalsely : Prop := fnExactCallOffInRow.holds Tryz.pinned (OpenSpec.ofChange fnExactCallOffInWrong)

/-- 'laws.FnExactAfterIn': WHATEVER THE INPUT: true; the input reads as it did. -/
def fnExactAfterInSpec : ChangeSpec := { name := "fnExactAfterIn", fn := fun _ => fun
  | [d1, d2, d3] => { results := [.lit (.bool true)], args := [d1, d2, d3] }
  | _ => none }
def fnExactAfterInRow : OpenClaim := { program := "ytihfpbhalnedcaagreat", sum := "ff6e27b1989cda27649e1dd279bf7e5b12a7d6b0fd94601df0a45075fdf04b96", func := "loop.example/g00673/laws.FnExactAfterIn", spec := "fnExactAfterIn", unfollowed := true, recurses := true, apart := false }
def FnExactAfterInSaid : Prop := fnExactAfterInRow.holds Tryz.pinned (OpenSpec.ofChange fnExactAfterInSpec)

/-- ITS FALSE NEIGHBOUR: 'it returns false'. Refute it at one input. -/
def fnExactAfterInWrong : ChangeSpec := { name := "fnExactAfterIn", fn := fun _ => fun
  | [d1, d2, d3] => { results := [.lit (.bool false)], args := [d1, d2, d3] }
  | _ => none }
def FnExactAfterInWrongFalsely : Prop := fnExactAfterInRow.holds Tryz.pinned (OpenSpec.ofChange fnExactAfterInWrong)

/-- 'laws.FnExactStopIn': WHATEVER THE INPUT: true; the input reads as it did. -/
def fnExactStopInSpec : ChangeSpec := { name := "fnExactStopIn", fn := fun _ => fun
  | [d1, d2] => { results := [.lit (.bool true)], args := [d1, d2] }
  | _ => none }
def fnExactStopInRow : OpenClaim := { program := "ytihfpbhalnedcaagreat", sum := "ff6e27b1989cda27649e1dd279bf7e5b12a7d6b0fd94601df0a45075fdf04b96", func := "loop.example/g00673/laws.FnExactStopIn", spec := "fnExactStopIn", unfollowed := true, recurses := true, apart := false }
def FnExactStopInSaid : Prop := fnExactStopInRow.holds Tryz.pinned (OpenSpec.ofChange fnExactStopInSpec)

/-- ITS FALSE NEIGHBOUR: 'it returns false'. Refute it at one input. -/
def fnExactStopInWrong : ChangeSpec := { name := "fnExactStopIn", fn := fun _ => fun
  | [d1, d2] => { results := [.lit (.bool false)], args := [d1, d2] }
  | _ => none }
def FnExactStopInWrongFalsely : Prop := fnExactStopInRow.holds Tryz.pinned (OpenSpec.ofChange fnExactStopInWrong)

/-- 'laws.FnExactTimerIn': WHATEVER THE INPUT: true; the input reads as it did. -/
def fnExactTimerInSpec : ChangeSpec := { name := "fnExactTimerIn", fn := fun _ => fun
  | [d1, d2, d3] => { results := [.lit (.bool true)], args := [d1, d2, d3] }
  | _ => none }
def fnExactTimerInRow : OpenClaim := { program := "ytihfpbhalnedcaagreat", sum := "ff6e27b1989cda27649e1dd279bf7e5b12a7d6b0fd94601df0a45075fdf04b96", func := "loop.example/g00673/laws.FnExactTimerIn", spec := "fnExactTimerIn", unfollowed := true, recurses := true, apart := false }
def FnExactTimerInSaid : Prop := fnExactTimerInRow.holds Tryz.pinned (OpenSpec.ofChange fnExactTimerInSpec)

/-- ITS FALSE NEIGHBOUR: 'it returns false'. Refute it at one input. -/
def fnExactTimerInWrong : ChangeSpec := { name := "fnExactTimerIn", fn := fun _ => fun
  | [d1, d2, d3] => { results := [.lit (.bool false)], args := [d1, d2, d3] }
  | _ => none }
def FnExactTimerInWrongFalsely : Prop := fnExactTimerInRow.holds Tryz.pinned (OpenSpec.ofChange fnExactTimerInWrong)

/- THE SECOND FORM. 'bulk': how many values and letters a reading holds, each counted each time it is reached (what is shared counts as often as it is met; a slice's spare places count too). A statement '..UptoSaid' is the law's where the arguments, and the package variables that the reading takes, are together of bulk at most 1048576: NARROWER than '..Said'. Prove '..Said' where nothing that the law and all that it calls make is longer than what came in: it says more and counts as full. Else prove '..UptoSaid'. A law counts once. -/
mutual
def uptoBulk {H : Type} : DataW H → Nat
  | .lit (.string bytes) => bytes.length + 1
  | .lit _ => 1
  | .nil => 1
  | .ptr d => uptoBulk d + 1
  | .slice elems spare => uptoBulkAll elems + uptoBulkAll spare + 1
  | .agg parts => uptoBulkAll parts + 1
  | .iface _ d => uptoBulk d + 1
  | .map entries => uptoBulkEntries entries + 1
  | .held _ => 1
def uptoBulkAll {H : Type} : List (DataW H) → Nat
  | [] => 0
  | d :: r => uptoBulk d + uptoBulkAll r
def uptoBulkEntries {H : Type} : List (Lit × DataW H) → Nat
  | [] => 0
  | x :: r => uptoBulkEntry x + uptoBulkEntries r
def uptoBulkEntry {H : Type} : Lit × DataW H → Nat
  | (.string bytes, d) => bytes.length + uptoBulk d + 1
  | (_, d) => uptoBulk d + 1
 end
def uptoSmall : (H : Type) → List (DataW H) → Bool := fun _ ds => decide (uptoBulkAll ds ≤ 1048576)
def OpenSpec.upto (s : _root_.Go.ChangeSpec) : _root_.Go.OpenSpec := { _root_.Go.OpenSpec.ofChange s with cond := some uptoSmall }

/-- 'laws.FnExactLimitIn', WHERE WHAT IT READS IS OF BULK AT MOST 1048576: true; the input reads as it did. -/
def fnExactLimitInUptoRow : OpenClaim := { program := "ytihfpbhalnedcaagreat", sum := "ff6e27b1989cda27649e1dd279bf7e5b12a7d6b0fd94601df0a45075fdf04b96", func := "loop.example/g00673/laws.FnExactLimitIn", spec := "fnExactLimitIn", unfollowed := true, recurses := true, apart := false, narrowed := true }
def FnExactLimitInUptoSaid : Prop := fnExactLimitInUptoRow.holds Tryz.pinned (OpenSpec.upto fnExactLimitInSpec)

/-- 'laws.FnExactTaskIn', WHERE WHAT IT READS IS OF BULK AT MOST 1048576: true; the input reads as it did. -/
def fnExactTaskInUptoRow : OpenClaim := { program := "ytihfpbhalnedcaagreat", sum := "ff6e27b1989cda27649e1dd279bf7e5b12a7d6b0fd94601df0a45075fdf04b96", func := "loop.example/g00673/laws.FnExactTaskIn", spec := "fnExactTaskIn", unfollowed := true, recurses := true, apart := false, narrowed := true }
def FnExactTaskInUptoSaid : Prop := fnExactTaskInUptoRow.holds Tryz.pinned (OpenSpec.upto fnExactTaskInSpec)

/-- 'laws.FnExactCancelIn', WHERE WHAT IT READS IS OF BULK AT MOST 1048576: true; the input reads as it did. -/
def fnExactCancelInUptoRow : OpenClaim := { program := "ytihfpbhalnedcaagreat", sum := "ff6e27b1989cda27649e1dd279bf7e5b12a7d6b0fd94601df0a45075fdf04b96", func := "loop.example/g00673/laws.FnExactCancelIn", spec := "fnExactCancelIn", unfollowed := true, recurses := true, apart := false, narrowed := true }
def FnExactCancelInUptoSaid : Prop := fnExactCancelInUptoRow.holds Tryz.pinned (OpenSpec.upto fnExactCancelInSpec)

/-- 'laws.FnExactAskIn', WHERE WHAT IT READS IS OF BULK AT MOST 1048576: true; the input reads as it did. -/
def fnExactAskInUptoRow : OpenClaim := { program := "ytihfpbhalnedcaagreat", sum := "ff6e27b1989cda27649e1dd279bf7e5b12a7d6b0fd94601df0a45075fdf04b96", func := "loop.example/g00673/laws.FnExactAskIn", spec := "fnExactAskIn", unfollowed := true, recurses := true, apart := false, narrowed := true }
def FnExactAskInUptoSaid : Prop := fnExactAskInUptoRow.holds Tryz.pinned (OpenSpec.upto fnExactAskInSpec)

/-- 'laws.FnExactCallOffIn', WHERE WHAT IT READS IS OF BULK AT MOST 1048576: true; the input reads as it did. -/
def fnExactCallOffInUptoRow : OpenClaim := { program := "ytihfpbhalnedcaagreat", sum := "ff6e27b1989cda27649e1dd279bf7e5b12a7d6b0fd94601df0a45075fdf04b96", func := "loop.example/g00673/laws.FnExactCallOffIn", spec := "fnExactCallOffIn", unfollowed := true, recurses := true, apart := false, narrowed := true }
def FnExactCallOffInUptoSaid : Prop := fnExactCallOffInUptoRow.holds Tryz.pinned (OpenSpec.upto fnExactCallOffInSpec)

/-- 'laws.FnExactAfterIn', WHERE WHAT IT READS IS OF BULK AT MOST 1048576: true; the input reads as it did. -/
def fnExactAfterInUptoRow : OpenClaim := { program := "ytihfpbhalnedcaagreat", sum := "ff6e27b1989cda27649e1dd279bf7e5b12a7d6b0fd94601df0a45075fdf04b96", func := "loop.example/g00673/laws.FnExactAfterIn", spec := "fnExactAfterIn", unfollowed := true, recurses := true, apart := false, narrowed := true }
def FnExactAfterInUptoSaid : Prop := fnExactAfterInUptoRow.holds Tryz.pinned (OpenSpec.upto fnExactAfterInSpec)

/-- 'laws.FnExactStopIn', WHERE WHAT IT READS IS OF BULK AT MOST 1048576: true; the input reads as it did. -/
def fnExactStopInUptoRow : OpenClaim := { program := "ytihfpbhalnedcaagreat", sum := "ff6e27b1989cda27649e1dd279bf7e5b12a7d6b0fd94601df0a45075fdf04b96", func := "loop.example/g00673/laws.FnExactStopIn", spec := "fnExactStopIn", unfollowed := true, recurses := true, apart := false, narrowed := true }
def FnExactStopInUptoSaid : Prop := fnExactStopInUptoRow.holds Tryz.pinned (OpenSpec.upto fnExactStopInSpec)

/-- 'laws.FnExactTimerIn', WHERE WHAT IT READS IS OF BULK AT MOST 1048576: true; the input reads as it did. -/
def fnExactTimerInUptoRow : OpenClaim := { program := "ytihfpbhalnedcaagreat", sum := "ff6e27b1989cda27649e1dd279bf7e5b12a7d6b0fd94601df0a45075fdf04b96", func := "loop.example/g00673/laws.FnExactTimerIn", spec := "fnExactTimerIn", unfollowed := true, recurses := true, apart := false, narrowed := true }
def FnExactTimerInUptoSaid : Prop := fnExactTimerInUptoRow.holds Tryz.pinned (OpenSpec.upto fnExactTimerInSpec)

end Rows
end Go.Proofs.YtihfpbhalnedcaaGreat
