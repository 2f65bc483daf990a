/- Worlds: lent, told as own. -/
import Derived.Test.YtgooambndfkgkaaGreatD2
namespace Go.Proofs.YtgooambndfkgkaaGreat.AM
open Go Go.Proofs

set_option linter.unusedVariables false

structure World where
  now : Int
  progs : List (List Ins)
  tree : List Node
  events : List Event
  spread : Spread
  timers : Timers
  afters : Afters
  tasks : List Task
  groups : List Group
  sights : List Sight
  began : List Int
  rang : List Int
  deriving DecidableEq

/-- A program, as a cell of a still slice, of an own one, of one that is being filled. -/
def roProg (A : Sy) (l : List Ins) : List AV := [.ro (A.enc cIns l)]
def ownProg (A : Sy) (l : List Ins) : List AV := [.own 3 true (A.enc cIns l)]
def optProg (A : Sy) : Option (List Ins) → List AV
  | none => [.own 1 true []]
  | some l => [.own 3 true (A.enc cIns l)]

def roWorld (A : Sy) (w : World) : List AV := [.int .i64 w.now, .ro (A.enc (roProg A) w.progs), .ro (A.enc cNode w.tree), .ro (A.enc cEvent w.events), .ro (A.enc cBool w.spread.told), .ro (A.enc cInt64 w.spread.work),
  .ro (A.enc cTwig w.timers.heap), .ro (A.enc cTimer w.timers.list), .int .i64 w.timers.next, .ro (A.enc cInt64 w.afters.slots.ages), .ro (A.enc cBool w.afters.slots.used), .ro (A.enc cAfter w.afters.list), .ro (A.enc cTask w.tasks),
  .ro (A.enc (roGroup A) w.groups), .ro (A.enc cSight w.sights), .ro (A.enc cInt64 w.began), .ro (A.enc cInt64 w.rang)]
def ownWorld (A : Sy) (w : World) : List AV := [.int .i64 w.now, .own 1 false (A.enc (ownProg A) w.progs), .own 5 true (A.enc cNode w.tree), .own 4 true (A.enc cEvent w.events), .own 1 true (A.enc cBool w.spread.told), .own 1 true (A.enc cInt64 w.spread.work),
  .own 3 true (A.enc cTwig w.timers.heap), .own 5 true (A.enc cTimer w.timers.list), .int .i64 w.timers.next, .own 1 true (A.enc cInt64 w.afters.slots.ages), .own 1 true (A.enc cBool w.afters.slots.used), .own 5 true (A.enc cAfter w.afters.list), .own 9 true (A.enc cTask w.tasks),
  .own 5 false (A.enc (ownGroup A) w.groups), .own 4 true (A.enc cSight w.sights), .own 1 true (A.enc cInt64 w.began), .own 1 true (A.enc cInt64 w.rang)]

theorem len_roProg (A : Sy) (x : List Ins) : (roProg A x).length = 1 := rfl
theorem len_ownProg (A : Sy) (x : List Ins) : (ownProg A x).length = 1 := rfl
theorem len_roGroup (A : Sy) (x : Group) : (roGroup A x).length = 5 := rfl
theorem len_ownGroup (A : Sy) (x : Group) : (ownGroup A x).length = 5 := rfl

def world0 : World := ⟨0, [], [], [], ⟨[], []⟩, ⟨[], [], 0⟩, ⟨⟨[], []⟩, []⟩, [], [], [], [], []⟩

end Go.Proofs.YtgooambndfkgkaaGreat.AM
