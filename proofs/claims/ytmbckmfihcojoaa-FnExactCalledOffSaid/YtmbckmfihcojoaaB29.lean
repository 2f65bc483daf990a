/- The abstract machine, part 29: tests by calls that look at what lies behind a pointer. -/
import Derived.Test.YtmbckmfihcojoaaB28
namespace Go.Proofs.Ytmbckmfihcojoaa.AM
open Go Go.RowKit

set_option linter.unusedVariables false
set_option linter.unusedSimpArgs false

variable {P : Program} {T : Nat → Option TI} {A : Sy}

/-- A call whose value is a test, wherever it stands; pointers may be looked through outside drawn regions. -/
theorem ACall.testX {dr : Bool} {f : FuncId} {al dp : Bool} {avs bs : List AV} {p : Prop} {lab : Nat} {st : St} {K : AV → Dl → Prop} (h : SoundM P f al bs [] (fun v os => (∃ b : Bool, (b = true ↔ p) ∧ v = .bool b) ∧ os = [])) (hg : Gives st al dp avs bs []) (hn : (!dr || bs.all AV.noR) = true)
    (h1 : p → K (.bool true) (backD dp A.len st avs bs [] lab [] (.bool true))) (h2 : ¬ p → K (.bool false) (backD dp A.len st avs bs [] lab [] (.bool false))) : ACall A dr P f avs lab st K := by
  cases dr with
  | true => exact .testD h hg (by simpa using hn) h1 h2
  | false => exact .test h hg h1 h2

end Go.Proofs.Ytmbckmfihcojoaa.AM
