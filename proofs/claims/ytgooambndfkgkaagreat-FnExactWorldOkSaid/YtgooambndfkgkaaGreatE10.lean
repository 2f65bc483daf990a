/- Contracts: timers armed and disarmed. (printed by ge10.py) -/
import Derived.Test.YtgooambndfkgkaaGreatE9
namespace Go.Proofs.YtgooambndfkgkaaGreat.AM
open Go Go.Proofs

set_option maxRecDepth 100000
set_option maxHeartbeats 4000000
set_option linter.unusedVariables false
set_option linter.unusedSimpArgs false

variable {P : Program} {A : Sy}

def rTimer (A : Sy) (l : List Timer) : AV := .own 5 true (A.enc cTimer l)
theorem plainTimer : Plain cTimer := fun _ => rfl

def rT (A : Sy) (x : Timers) : AV := .agg (ownTimers A x)


def oTB (A : Sy) (x : Timers × Bool) : List (Option Obj) := [some (.box (ownTimers A x.1))]
def rTB1 (x : Timers × Bool) : AV := .bool x.2
def rTB (A : Sy) (x : Timers × Bool) : AV := .tup [.agg (ownTimers A x.1), .bool x.2]

theorem stop_none {t : Timers} {q : Int} (h : timIdx t.list q < 0) : stopT t q = (t, false) := if_neg (by omega)
theorem stop_some {t : Timers} {q : Int} {x : Timer} (h : 0 ≤ timIdx t.list q) (hx : t.list[(timIdx t.list q).toNat]? = some x) : stopT t q = if x.armed = true then (⟨withoutL t.heap q, t.list.set (timIdx t.list q).toNat { x with armed := false }, t.next⟩, true) else (t, false) := by
  unfold stopT; rw [if_pos h, hx]

def armTB (x : Timers × Int) : AV := .int .i64 x.2
def oTI (A : Sy) (x : Timers × Int) : List (Option Obj) := [some (.box (ownTimers A x.1))]
def rTI (A : Sy) (x : Timers × Int) : AV := .tup [.agg (ownTimers A x.1), .int .i64 x.2]

end Go.Proofs.YtgooambndfkgkaaGreat.AM
