/- The program's data, as plain records; their cells. -/
import Derived.Test.YtgooambndfkgkaaGreatBTab
namespace Go.Proofs.YtgooambndfkgkaaGreat.AM
open Go Go.Proofs

set_option linter.unusedVariables false

/-- The seat's program; what is kept apart. -/
structure Se (P : Program) (A : Sy) : Prop where
  prog : P = Tryz.prog
  eq : A = sy

theorem Se.cx {P : Program} {A : Sy} (S : Se P A) : Cx P tab A := ⟨S.prog ▸ tab_ok, S.prog ▸ mixed_ok, S.eq⟩

def cInt64 (n : Int) : List AV := [.int .i64 n]
def cBool (b : Bool) : List AV := [.bool b]
/-- What the laws mark with. -/
def mInt64 (k : Int) : Int := k
def mBool (k : Int) : Bool := decide (k.tmod 3 = 0)

structure Handle where
  slot : Int
  age : Int
  deriving DecidableEq
def cHandle (x : Handle) : List AV := [.int .i64 x.slot, .int .i64 x.age]
def mHandle (k : Int) : Handle := ⟨k, k + 1⟩

structure Twig where
  due : Int
  seq : Int
  lefts : Int
  deriving DecidableEq
def cTwig (x : Twig) : List AV := [.int .i64 x.due, .int .i64 x.seq, .int .i64 x.lefts]
def mTwig (k : Int) : Twig := ⟨k, k + 1, k + 2⟩

structure Timer where
  seq : Int
  due : Int
  what : Int
  whom : Int
  armed : Bool
  deriving DecidableEq
def cTimer (x : Timer) : List AV := [.int .i64 x.seq, .int .i64 x.due, .int .i64 x.what, .int .i64 x.whom, .bool x.armed]
def mTimer (k : Int) : Timer := ⟨k, k + 1, k + 2, k + 3, decide ((k + 4).tmod 3 = 0)⟩

structure Node where
  kind : Int
  up : Int
  due : Int
  key : Int
  value : Int
  deriving DecidableEq
def cNode (x : Node) : List AV := [.int .i64 x.kind, .int .i64 x.up, .int .i64 x.due, .int .i64 x.key, .int .i64 x.value]
def mNode (k : Int) : Node := ⟨k, k + 1, k + 2, k + 3, k + 4⟩

structure Event where
  node : Int
  err : Int
  cause : Int
  time : Int
  deriving DecidableEq
def cEvent (x : Event) : List AV := [.int .i64 x.node, .int .i64 x.err, .int .i64 x.cause, .int .i64 x.time]
def mEvent (k : Int) : Event := ⟨k, k + 1, k + 2, k + 3⟩

structure After where
  slot : Int
  age : Int
  node : Int
  func : Int
  queued : Bool
  deriving DecidableEq
def cAfter (x : After) : List AV := [.int .i64 x.slot, .int .i64 x.age, .int .i64 x.node, .int .i64 x.func, .bool x.queued]
def mAfter (k : Int) : After := ⟨k, k + 1, k + 2, k + 3, decide ((k + 4).tmod 3 = 0)⟩

structure Ins where
  op : Int
  a : Int
  b : Int
  deriving DecidableEq
def cIns (x : Ins) : List AV := [.int .i64 x.op, .int .i64 x.a, .int .i64 x.b]
def mIns (k : Int) : Ins := ⟨k, k + 1, k + 2⟩

structure Task where
  prog : Int
  pc : Int
  state : Int
  why : Int
  what : Int
  timer : Int
  reg : Int
  group : Int
  err : Int
  deriving DecidableEq
def cTask (x : Task) : List AV := [.int .i64 x.prog, .int .i64 x.pc, .int .i64 x.state, .int .i64 x.why, .int .i64 x.what, .int .i64 x.timer, .int .i64 x.reg, .int .i64 x.group, .int .i64 x.err]
def mTask (k : Int) : Task := ⟨k, k + 1, k + 2, k + 3, k + 4, k + 5, k + 6, k + 7, k + 8⟩

structure Sight where
  node : Int
  err : Int
  cause : Int
  at_ : Int
  deriving DecidableEq
def cSight (x : Sight) : List AV := [.int .i64 x.node, .int .i64 x.err, .int .i64 x.cause, .int .i64 x.at_]
def mSight (k : Int) : Sight := ⟨k, k + 1, k + 2, k + 3⟩

structure Pick where
  kind : Int
  who : Int
  deriving DecidableEq
def cPick (x : Pick) : List AV := [.int .i64 x.kind, .int .i64 x.who]
def mPick (k : Int) : Pick := ⟨k, k + 1⟩

structure Order where
  kind : Int
  a : Int
  b : Int
  c : Int
  d : Int
  deriving DecidableEq
def cOrder (x : Order) : List AV := [.int .i64 x.kind, .int .i64 x.a, .int .i64 x.b, .int .i64 x.c, .int .i64 x.d]
def mOrder (k : Int) : Order := ⟨k, k + 1, k + 2, k + 3, k + 4⟩

theorem boolSame {F : Bool → Prop} (b : Bool) (h1 : F true) (h2 : F false) : F b := by cases b; exact h2; exact h1
theorem get_of_lt {α : Type} {l : List α} {i : Nat} (h : i < l.length) : ∃ x, l[i]? = some x := ⟨_, List.getElem?_eq_getElem h⟩
theorem lt_of_get {α : Type} {l : List α} {i : Nat} {x : α} (h : l[i]? = some x) : i < l.length := (List.getElem?_eq_some_iff.1 h).1
theorem set_at {α : Type} {l m : List α} {i : Nat} {y : α} (h : m = l.set i y) (hi : i < l.length) : m[i]? = some y := by rw [h]; simp [hi]
theorem set_ne {α : Type} {l m : List α} {i j : Nat} {y : α} (h : m = l.set i y) (hij : i ≠ j) : m[j]? = l[j]? := by rw [h]; simp [hij]
theorem set_len {α : Type} {l m : List α} {i : Nat} {y : α} (h : m = l.set i y) : m.length = l.length := by rw [h]; simp
theorem ext_lt {α : Type} {l m : List α} (h : l.length = m.length) (k : ∀ j : Nat, j < l.length → l[j]? = m[j]?) : l = m := by
  refine List.ext_getElem? fun j => ?_
  rcases Nat.lt_or_ge j l.length with hj | hj
  · exact k j hj
  · rw [List.getElem?_eq_none hj, List.getElem?_eq_none (by omega)]

/-- The marks that a law lays. -/
def marks {α : Type} (m : Int → α) (w : Int) (k : Int) (n : Nat) : List α := (List.range n).map fun (i : Nat) => m (k + w * (i : Int))
theorem marks_len {α : Type} (m : Int → α) (w k : Int) (n : Nat) : (marks m w k n).length = n := by simp [marks]
theorem marks_get {α : Type} (m : Int → α) (w k : Int) {n i : Nat} (h : i < n) : (marks m w k n)[i]? = some (m (k + w * i)) := by simp [marks, h]

theorem len_cInt64 (x : Int) : (cInt64 x).length = 1 := rfl
theorem len_cBool (x : Bool) : (cBool x).length = 1 := rfl
theorem len_cHandle (x : Handle) : (cHandle x).length = 2 := rfl
theorem len_cTwig (x : Twig) : (cTwig x).length = 3 := rfl
theorem len_cTimer (x : Timer) : (cTimer x).length = 5 := rfl
theorem len_cNode (x : Node) : (cNode x).length = 5 := rfl
theorem len_cEvent (x : Event) : (cEvent x).length = 4 := rfl
theorem len_cAfter (x : After) : (cAfter x).length = 5 := rfl
theorem len_cIns (x : Ins) : (cIns x).length = 3 := rfl
theorem len_cTask (x : Task) : (cTask x).length = 9 := rfl
theorem len_cSight (x : Sight) : (cSight x).length = 4 := rfl
theorem len_cPick (x : Pick) : (cPick x).length = 2 := rfl
theorem len_cOrder (x : Order) : (cOrder x).length = 5 := rfl

end Go.Proofs.YtgooambndfkgkaaGreat.AM
