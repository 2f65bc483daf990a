/- What the program's functions compute: tasks. -/
import Derived.Test.YtgooambndfkgkaaGreatD2
namespace Go.Proofs.YtgooambndfkgkaaGreat.AM
open Go Go.Proofs

def TaskOk (t : Task) : Prop :=
  (0 ≤ t.prog ∧ t.prog ≤ 7) ∧ (0 ≤ t.pc ∧ t.pc ≤ 12) ∧ (0 ≤ t.reg ∧ t.reg ≤ 999) ∧ (-1 ≤ t.group ∧ t.group ≤ 7) ∧ (0 ≤ t.err ∧ t.err ≤ 99) ∧
  ((t.state = 1 ∧ t.err = 0 ∧ (((t.why = 1 ∨ t.why = 2) ∧ 0 ≤ t.what ∧ t.what ≤ 59 ∨ (t.why = 3 ∨ t.why = 4) ∧ 0 ≤ t.what ∧ t.what ≤ 7) ∧ (t.why = 2 ∧ 0 ≤ t.timer ∧ t.timer ≤ 1000000 ∨ t.why ≠ 2 ∧ t.timer = -1))) ∨
   (0 ≤ t.state ∧ t.state ≤ 2 ∧ t.state ≠ 1 ∧ t.why = 0 ∧ t.what = 0 ∧ t.timer = -1 ∧ (t.state = 2 ∨ t.err = 0)))

instance (t : Task) : Decidable (TaskOk t) := by unfold TaskOk; infer_instance

def task0 : Task := ⟨0, 0, 0, 0, 0, 0, 0, 0, 0⟩

def Parked (t : Task) (why what timer : Int) : Task :=
  if TaskOk t then (if t.state = 0 ∧ TaskOk { t with state := 1, why := why, what := what, timer := timer } then { t with state := 1, why := why, what := what, timer := timer } else t) else task0

def Readied (t : Task) (reg : Int) : Task :=
  if TaskOk t then (if t.state ≠ 2 ∧ TaskOk { t with pc := t.pc + 1, state := 0, why := 0, what := 0, timer := -1, reg := reg } then { t with pc := t.pc + 1, state := 0, why := 0, what := 0, timer := -1, reg := reg } else t) else task0

def Ended (t : Task) (err : Int) : Task :=
  if TaskOk t then (if t.state ≠ 2 ∧ TaskOk { t with state := 2, why := 0, what := 0, timer := -1, err := err } then { t with state := 2, why := 0, what := 0, timer := -1, err := err } else t) else task0

end Go.Proofs.YtgooambndfkgkaaGreat.AM
