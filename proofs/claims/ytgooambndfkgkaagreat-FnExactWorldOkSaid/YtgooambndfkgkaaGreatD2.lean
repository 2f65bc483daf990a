/- Records of slices: lent, given, told as own. (printed by gen2.py) -/
import Derived.Test.YtgooambndfkgkaaGreatD1
namespace Go.Proofs.YtgooambndfkgkaaGreat.AM
open Go Go.Proofs

set_option linter.unusedVariables false

structure Slots where
  ages : List Int
  used : List Bool
  deriving DecidableEq
def roSlots (A : Sy) (x : Slots) : List AV := [.ro (A.enc cInt64 x.ages), .ro (A.enc cBool x.used)]
def ownSlots (A : Sy) (x : Slots) : List AV := [.own 1 true (A.enc cInt64 x.ages), .own 1 true (A.enc cBool x.used)]
/-- Short enough. -/
def Slots.few (x : Slots) (b : Nat) : Prop := x.ages.length ≤ b ∧ x.used.length ≤ b
def Slots.total (x : Slots) : Int := (x.ages.length : Int) + (x.used.length : Int)
def Slots.end (x : Slots) (k : Int) : Int := k + 1 * (x.ages.length : Int) + 1 * (x.used.length : Int)
/-- The marked ones. -/
def Slots.marked (x : Slots) (k : Int) : List (Option Obj) → Sy → Prop := fun os A => os = [some (.arr 1 true (A.enc cInt64 (marks mInt64 1 (k) x.ages.length))), some (.arr 1 true (A.enc cBool (marks mBool 1 (k + 1 * (x.ages.length : Int)) x.used.length)))]
def Slots.isMk (x : Slots) (k : Int) : Prop := x.ages = marks mInt64 1 (k) x.ages.length ∧ x.used = marks mBool 1 (k + 1 * (x.ages.length : Int)) x.used.length

structure Timers where
  heap : List Twig
  list : List Timer
  next : Int
  deriving DecidableEq
def roTimers (A : Sy) (x : Timers) : List AV := [.ro (A.enc cTwig x.heap), .ro (A.enc cTimer x.list), .int .i64 x.next]
def ownTimers (A : Sy) (x : Timers) : List AV := [.own 3 true (A.enc cTwig x.heap), .own 5 true (A.enc cTimer x.list), .int .i64 x.next]
/-- Short enough. -/
def Timers.few (x : Timers) (b : Nat) : Prop := x.heap.length ≤ b ∧ x.list.length ≤ b
def Timers.total (x : Timers) : Int := (x.heap.length : Int) + (x.list.length : Int)
def Timers.end (x : Timers) (k : Int) : Int := k + 3 * (x.heap.length : Int) + 5 * (x.list.length : Int)
/-- The marked ones. -/
def Timers.marked (x : Timers) (k : Int) : List (Option Obj) → Sy → Prop := fun os A => os = [some (.arr 3 true (A.enc cTwig (marks mTwig 3 (k) x.heap.length))), some (.arr 5 true (A.enc cTimer (marks mTimer 5 (k + 3 * (x.heap.length : Int)) x.list.length)))]
def Timers.isMk (x : Timers) (k : Int) : Prop := x.heap = marks mTwig 3 (k) x.heap.length ∧ x.list = marks mTimer 5 (k + 3 * (x.heap.length : Int)) x.list.length

structure Spread where
  told : List Bool
  work : List Int
  deriving DecidableEq
def roSpread (A : Sy) (x : Spread) : List AV := [.ro (A.enc cBool x.told), .ro (A.enc cInt64 x.work)]
def ownSpread (A : Sy) (x : Spread) : List AV := [.own 1 true (A.enc cBool x.told), .own 1 true (A.enc cInt64 x.work)]
/-- Short enough. -/
def Spread.few (x : Spread) (b : Nat) : Prop := x.told.length ≤ b ∧ x.work.length ≤ b
def Spread.total (x : Spread) : Int := (x.told.length : Int) + (x.work.length : Int)
def Spread.end (x : Spread) (k : Int) : Int := k + 1 * (x.told.length : Int) + 1 * (x.work.length : Int)
/-- The marked ones. -/
def Spread.marked (x : Spread) (k : Int) : List (Option Obj) → Sy → Prop := fun os A => os = [some (.arr 1 true (A.enc cBool (marks mBool 1 (k) x.told.length))), some (.arr 1 true (A.enc cInt64 (marks mInt64 1 (k + 1 * (x.told.length : Int)) x.work.length)))]
def Spread.isMk (x : Spread) (k : Int) : Prop := x.told = marks mBool 1 (k) x.told.length ∧ x.work = marks mInt64 1 (k + 1 * (x.told.length : Int)) x.work.length

structure Afters where
  slots : Slots
  list : List After
  deriving DecidableEq
def roAfters (A : Sy) (x : Afters) : List AV := [.ro (A.enc cInt64 x.slots.ages), .ro (A.enc cBool x.slots.used), .ro (A.enc cAfter x.list)]
def ownAfters (A : Sy) (x : Afters) : List AV := [.own 1 true (A.enc cInt64 x.slots.ages), .own 1 true (A.enc cBool x.slots.used), .own 5 true (A.enc cAfter x.list)]
/-- Short enough. -/
def Afters.few (x : Afters) (b : Nat) : Prop := x.slots.ages.length ≤ b ∧ x.slots.used.length ≤ b ∧ x.list.length ≤ b
def Afters.total (x : Afters) : Int := (x.slots.ages.length : Int) + (x.slots.used.length : Int) + (x.list.length : Int)
def Afters.end (x : Afters) (k : Int) : Int := k + 1 * (x.slots.ages.length : Int) + 1 * (x.slots.used.length : Int) + 5 * (x.list.length : Int)
/-- The marked ones. -/
def Afters.marked (x : Afters) (k : Int) : List (Option Obj) → Sy → Prop := fun os A => os = [some (.arr 1 true (A.enc cInt64 (marks mInt64 1 (k) x.slots.ages.length))), some (.arr 1 true (A.enc cBool (marks mBool 1 (k + 1 * (x.slots.ages.length : Int)) x.slots.used.length))), some (.arr 5 true (A.enc cAfter (marks mAfter 5 (k + 1 * (x.slots.ages.length : Int) + 1 * (x.slots.used.length : Int)) x.list.length)))]
def Afters.isMk (x : Afters) (k : Int) : Prop := x.slots.ages = marks mInt64 1 (k) x.slots.ages.length ∧ x.slots.used = marks mBool 1 (k + 1 * (x.slots.ages.length : Int)) x.slots.used.length ∧ x.list = marks mAfter 5 (k + 1 * (x.slots.ages.length : Int) + 1 * (x.slots.used.length : Int)) x.list.length

structure Group where
  node : Int
  limit : Int
  active : Int
  waits : List Int
  first : Int
  deriving DecidableEq
def roGroup (A : Sy) (x : Group) : List AV := [.int .i64 x.node, .int .i64 x.limit, .int .i64 x.active, .ro (A.enc cInt64 x.waits), .int .i64 x.first]
def ownGroup (A : Sy) (x : Group) : List AV := [.int .i64 x.node, .int .i64 x.limit, .int .i64 x.active, .own 1 true (A.enc cInt64 x.waits), .int .i64 x.first]
/-- Short enough. -/
def Group.few (x : Group) (b : Nat) : Prop := x.waits.length ≤ b
def Group.total (x : Group) : Int := (x.waits.length : Int)
def Group.end (x : Group) (k : Int) : Int := k + 1 * (x.waits.length : Int)
/-- The marked ones. -/
def Group.marked (x : Group) (k : Int) : List (Option Obj) → Sy → Prop := fun os A => os = [some (.arr 1 true (A.enc cInt64 (marks mInt64 1 (k) x.waits.length)))]
def Group.isMk (x : Group) (k : Int) : Prop := x.waits = marks mInt64 1 (k) x.waits.length

end Go.Proofs.YtgooambndfkgkaaGreat.AM
