/- TaskIn: plain. (printed by split_v.py) -/
import Derived.Test.YtihfpbhalnedcaaGreatV0
set_option linter.unusedVariables false
set_option linter.unusedSimpArgs false
namespace Go.Proofs.YtihfpbhalnedcaaGreat.AM
open Go Go.Proofs

def newTaskT (prog group : Int) : Task := if TaskOk ⟨prog, 0, 0, 0, 0, -1, 0, group, 0⟩ then ⟨prog, 0, 0, 0, 0, -1, 0, group, 0⟩ else task0

def TaskD (prog : Int) (w : World) : World × Bool := ({ w with tasks := w.tasks ++ [newTaskT prog (-1)] }, true)

theorem taskD_total (w : World) (prog : Int) : (TaskD prog w).1.total <= w.total + 200 := by
  simp only [TaskD, World.total, List.length_append, List.length_cons, List.length_nil]
  omega

def TaskIn (w : World) (prog : Int) : World × Int := if (Asked w (TaskD prog)).2 = true then ((Asked w (TaskD prog)).1, (w.tasks.length : Int)) else ((Asked w (TaskD prog)).1, -1)

theorem taskIn_one (w : World) (prog : Int) : (TaskIn w prog).1 = (Asked w (TaskD prog)).1 := by
  unfold TaskIn
  split <;> rfl

end Go.Proofs.YtihfpbhalnedcaaGreat.AM
