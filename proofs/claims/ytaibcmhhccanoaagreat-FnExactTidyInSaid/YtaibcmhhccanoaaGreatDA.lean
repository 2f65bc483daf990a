import Derived.Test.YtaibcmhhccanoaaGreatBTab
/- In one: D1 D2 M1 PL W1 -/
set_option linter.unusedVariables false
set_option linter.unusedSimpArgs false
namespace Go.Proofs.YtaibcmhhccanoaaGreat.AM
open Go Go.Proofs

set_option linter.unusedVariables false

/-- The seat's program; what is kept apart. -/
structure Se (P : Program) (A : Sy) : Prop where
  prog : P = Tryz.prog
  eq : A = sy

theorem Se.cx {P : Program} {A : Sy} (S : Se P A) : Cx P tab A := ⟨S.prog ▸ tab_ok, S.prog ▸ mixed_ok, S.eq⟩

/-! What calls and ends ask for, in short. -/

section
variable {P : Program} {A : Sy} {α : Type} {f : α → List AV} {l m : List α} {n off s id : Nat} {st : St} {al p : Bool}
theorem Se.ga (S : Se P A) : A.enc f l = (A.enc f l).take (A.enc f l).length := S.cx.giveEq
theorem Se.gb (S : Se P A) (h : n = l.length) : 0 + n ≤ (A.enc f l).length := S.cx.lendLe h
theorem Se.gc (S : Se P A) (h : n = l.length) : A.enc f l = ((A.enc f l).drop 0).take n := S.cx.lendEq h
theorem Se.gd (S : Se P A) : 0 + A.len (A.enc f l) ≤ (A.enc f l).length := S.cx.lendLe0
theorem Se.ge (S : Se P A) : A.enc f l = ((A.enc f l).drop 0).take (A.len (A.enc f l)) := S.cx.lendEq0
theorem Se.gf (S : Se P A) (h : off + n ≤ l.length) : off + n ≤ (A.enc f l).length := S.cx.partLe h
theorem Se.gg (S : Se P A) (h : m = (l.drop off).take n) : A.enc f m = ((A.enc f l).drop off).take n := S.cx.partEq h
theorem Se.gh (S : Se P A) : A.enc f [] = [] := S.cx.enc f []
theorem Se.ra (S : Se P A) (hq : lk st.sto id = some (.arr s true (A.enc f l))) (hn : n = l.length) : resCell al st (.ref p id 0 n) (.own s true (A.enc f l)) := resOwn S.cx hq hn
theorem Se.rb (S : Se P A) (hq : lk st.sto id = some (.arr s true (A.enc f l))) : resCell al st (.ref p id 0 (A.len (A.enc f l))) (.own s true (A.enc f l)) := resOwn S.cx hq (S.cx.lenE f l)
theorem Se.rc (S : Se P A) (hq : lk st.sto id = some (.arr s true (A.enc f l))) (hn : n = l.length) : resOk al st (.ref p id 0 n) (.own s true (A.enc f l)) := resOwn1 S.cx hq hn
theorem Se.rd (S : Se P A) (hq : lk st.sto id = some (.arr s true (A.enc f l))) (hn : n = l.length) : res1 al st (.ref p id 0 n) (.own s true (A.enc f l)) := by
  show resCell al st (.ref p id 0 n) (.own s true (A.enc f l))
  exact resOwn S.cx hq hn
end

theorem Gives.of {st : St} {al dp : Bool} {avs bs : List AV} {objs : List Obj} (h : (Ren.ok (rhoG st avs bs objs) && tgtOk (rhoG st avs bs objs) objs && (rhoA avs bs).all (fun p => nbeq (p.1 % 1000) 0 && nble 1000 p.1) && nble objs.length 40) = true)
    (k : AM.args st (AM.given dp (rhoG st avs bs objs)) al avs bs ∧ giveObjs st al (rhoA avs bs) 0 objs) : Gives st al dp avs bs objs := ⟨h, k.1, k.2⟩

def cInt64 (n : Int) : List AV := [.int .i64 n]
def cBool (b : Bool) : List AV := [.bool b]
/-- What the laws mark with. -/
def mInt64 (k : Int) : Int := k
def mBool (k : Int) : Bool := decide (k.tmod 3 = 0)

structure Handle where
  slot : Int
  age : Int
  deriving DecidableEq
def cHandle (x : Handle) : List AV := [.int .i64 x.slot, .int .i64 x.age]
def mHandle (k : Int) : Handle := ⟨k, k + 1⟩

structure Twig where
  due : Int
  seq : Int
  lefts : Int
  deriving DecidableEq
def cTwig (x : Twig) : List AV := [.int .i64 x.due, .int .i64 x.seq, .int .i64 x.lefts]
def mTwig (k : Int) : Twig := ⟨k, k + 1, k + 2⟩

structure Timer where
  seq : Int
  due : Int
  what : Int
  whom : Int
  armed : Bool
  deriving DecidableEq
def cTimer (x : Timer) : List AV := [.int .i64 x.seq, .int .i64 x.due, .int .i64 x.what, .int .i64 x.whom, .bool x.armed]
def mTimer (k : Int) : Timer := ⟨k, k + 1, k + 2, k + 3, decide ((k + 4).tmod 3 = 0)⟩

structure Node where
  kind : Int
  up : Int
  due : Int
  key : Int
  value : Int
  deriving DecidableEq
def cNode (x : Node) : List AV := [.int .i64 x.kind, .int .i64 x.up, .int .i64 x.due, .int .i64 x.key, .int .i64 x.value]
def mNode (k : Int) : Node := ⟨k, k + 1, k + 2, k + 3, k + 4⟩

structure Event where
  node : Int
  err : Int
  cause : Int
  time : Int
  deriving DecidableEq
def cEvent (x : Event) : List AV := [.int .i64 x.node, .int .i64 x.err, .int .i64 x.cause, .int .i64 x.time]
def mEvent (k : Int) : Event := ⟨k, k + 1, k + 2, k + 3⟩

structure After where
  slot : Int
  age : Int
  node : Int
  func : Int
  queued : Bool
  deriving DecidableEq
def cAfter (x : After) : List AV := [.int .i64 x.slot, .int .i64 x.age, .int .i64 x.node, .int .i64 x.func, .bool x.queued]
def mAfter (k : Int) : After := ⟨k, k + 1, k + 2, k + 3, decide ((k + 4).tmod 3 = 0)⟩

structure Ins where
  op : Int
  a : Int
  b : Int
  deriving DecidableEq
def cIns (x : Ins) : List AV := [.int .i64 x.op, .int .i64 x.a, .int .i64 x.b]
def mIns (k : Int) : Ins := ⟨k, k + 1, k + 2⟩

structure Task where
  prog : Int
  pc : Int
  state : Int
  why : Int
  what : Int
  timer : Int
  reg : Int
  group : Int
  err : Int
  deriving DecidableEq
def cTask (x : Task) : List AV := [.int .i64 x.prog, .int .i64 x.pc, .int .i64 x.state, .int .i64 x.why, .int .i64 x.what, .int .i64 x.timer, .int .i64 x.reg, .int .i64 x.group, .int .i64 x.err]
def mTask (k : Int) : Task := ⟨k, k + 1, k + 2, k + 3, k + 4, k + 5, k + 6, k + 7, k + 8⟩

structure Sight where
  node : Int
  err : Int
  cause : Int
  at_ : Int
  deriving DecidableEq
def cSight (x : Sight) : List AV := [.int .i64 x.node, .int .i64 x.err, .int .i64 x.cause, .int .i64 x.at_]
def mSight (k : Int) : Sight := ⟨k, k + 1, k + 2, k + 3⟩

structure Pick where
  kind : Int
  who : Int
  deriving DecidableEq
def cPick (x : Pick) : List AV := [.int .i64 x.kind, .int .i64 x.who]
def mPick (k : Int) : Pick := ⟨k, k + 1⟩

structure Order where
  kind : Int
  a : Int
  b : Int
  c : Int
  d : Int
  deriving DecidableEq
def cOrder (x : Order) : List AV := [.int .i64 x.kind, .int .i64 x.a, .int .i64 x.b, .int .i64 x.c, .int .i64 x.d]
def mOrder (k : Int) : Order := ⟨k, k + 1, k + 2, k + 3, k + 4⟩

theorem boolSame {F : Bool → Prop} (b : Bool) (h1 : F true) (h2 : F false) : F b := by cases b; exact h2; exact h1
theorem get_of_lt {α : Type} {l : List α} {i : Nat} (h : i < l.length) : ∃ x, l[i]? = some x := ⟨_, List.getElem?_eq_getElem h⟩
theorem lt_of_get {α : Type} {l : List α} {i : Nat} {x : α} (h : l[i]? = some x) : i < l.length := (List.getElem?_eq_some_iff.1 h).1
theorem set_at {α : Type} {l m : List α} {i : Nat} {y : α} (h : m = l.set i y) (hi : i < l.length) : m[i]? = some y := by rw [h]; simp [hi]
theorem set_ne {α : Type} {l m : List α} {i j : Nat} {y : α} (h : m = l.set i y) (hij : i ≠ j) : m[j]? = l[j]? := by rw [h]; simp [hij]
theorem set_len {α : Type} {l m : List α} {i : Nat} {y : α} (h : m = l.set i y) : m.length = l.length := by rw [h]; simp
theorem ext_lt {α : Type} {l m : List α} (h : l.length = m.length) (k : ∀ j : Nat, j < l.length → l[j]? = m[j]?) : l = m := by
  refine List.ext_getElem? fun j => ?_
  rcases Nat.lt_or_ge j l.length with hj | hj
  · exact k j hj
  · rw [List.getElem?_eq_none hj, List.getElem?_eq_none (by omega)]

/-- The marks that a law lays. -/
def marks {α : Type} (m : Int → α) (w : Int) (k : Int) (n : Nat) : List α := (List.range n).map fun (i : Nat) => m (k + w * (i : Int))
theorem marks_len {α : Type} (m : Int → α) (w k : Int) (n : Nat) : (marks m w k n).length = n := by simp [marks]
theorem marks_get {α : Type} (m : Int → α) (w k : Int) {n i : Nat} (h : i < n) : (marks m w k n)[i]? = some (m (k + w * i)) := by simp [marks, h]

theorem len_cInt64 (x : Int) : (cInt64 x).length = 1 := rfl
theorem len_cBool (x : Bool) : (cBool x).length = 1 := rfl
theorem len_cHandle (x : Handle) : (cHandle x).length = 2 := rfl
theorem len_cTwig (x : Twig) : (cTwig x).length = 3 := rfl
theorem len_cTimer (x : Timer) : (cTimer x).length = 5 := rfl
theorem len_cNode (x : Node) : (cNode x).length = 5 := rfl
theorem len_cEvent (x : Event) : (cEvent x).length = 4 := rfl
theorem len_cAfter (x : After) : (cAfter x).length = 5 := rfl
theorem len_cIns (x : Ins) : (cIns x).length = 3 := rfl
theorem len_cTask (x : Task) : (cTask x).length = 9 := rfl
theorem len_cSight (x : Sight) : (cSight x).length = 4 := rfl
theorem len_cPick (x : Pick) : (cPick x).length = 2 := rfl
theorem len_cOrder (x : Order) : (cOrder x).length = 5 := rfl

end Go.Proofs.YtaibcmhhccanoaaGreat.AM

namespace Go.Proofs.YtaibcmhhccanoaaGreat.AM
open Go Go.Proofs

set_option linter.unusedVariables false

structure Slots where
  ages : List Int
  used : List Bool
  deriving DecidableEq
def roSlots (A : Sy) (x : Slots) : List AV := [.ro (A.enc cInt64 x.ages), .ro (A.enc cBool x.used)]
def ownSlots (A : Sy) (x : Slots) : List AV := [.own 1 true (A.enc cInt64 x.ages), .own 1 true (A.enc cBool x.used)]
/-- Short enough. -/
def Slots.few (x : Slots) (b : Nat) : Prop := x.ages.length ≤ b ∧ x.used.length ≤ b
def Slots.total (x : Slots) : Int := (x.ages.length : Int) + (x.used.length : Int)
def Slots.end (x : Slots) (k : Int) : Int := k + 1 * (x.ages.length : Int) + 1 * (x.used.length : Int)
/-- The marked ones. -/
def Slots.marked (x : Slots) (k : Int) : List (Option Obj) → Sy → Prop := fun os A => os = [some (.arr 1 true (A.enc cInt64 (marks mInt64 1 (k) x.ages.length))), some (.arr 1 true (A.enc cBool (marks mBool 1 (k + 1 * (x.ages.length : Int)) x.used.length)))]
def Slots.isMk (x : Slots) (k : Int) : Prop := x.ages = marks mInt64 1 (k) x.ages.length ∧ x.used = marks mBool 1 (k + 1 * (x.ages.length : Int)) x.used.length

structure Timers where
  heap : List Twig
  list : List Timer
  next : Int
  deriving DecidableEq
def roTimers (A : Sy) (x : Timers) : List AV := [.ro (A.enc cTwig x.heap), .ro (A.enc cTimer x.list), .int .i64 x.next]
def ownTimers (A : Sy) (x : Timers) : List AV := [.own 3 true (A.enc cTwig x.heap), .own 5 true (A.enc cTimer x.list), .int .i64 x.next]
/-- Short enough. -/
def Timers.few (x : Timers) (b : Nat) : Prop := x.heap.length ≤ b ∧ x.list.length ≤ b
def Timers.total (x : Timers) : Int := (x.heap.length : Int) + (x.list.length : Int)
def Timers.end (x : Timers) (k : Int) : Int := k + 3 * (x.heap.length : Int) + 5 * (x.list.length : Int)
/-- The marked ones. -/
def Timers.marked (x : Timers) (k : Int) : List (Option Obj) → Sy → Prop := fun os A => os = [some (.arr 3 true (A.enc cTwig (marks mTwig 3 (k) x.heap.length))), some (.arr 5 true (A.enc cTimer (marks mTimer 5 (k + 3 * (x.heap.length : Int)) x.list.length)))]
def Timers.isMk (x : Timers) (k : Int) : Prop := x.heap = marks mTwig 3 (k) x.heap.length ∧ x.list = marks mTimer 5 (k + 3 * (x.heap.length : Int)) x.list.length

structure Spread where
  told : List Bool
  work : List Int
  deriving DecidableEq
def roSpread (A : Sy) (x : Spread) : List AV := [.ro (A.enc cBool x.told), .ro (A.enc cInt64 x.work)]
def ownSpread (A : Sy) (x : Spread) : List AV := [.own 1 true (A.enc cBool x.told), .own 1 true (A.enc cInt64 x.work)]
/-- Short enough. -/
def Spread.few (x : Spread) (b : Nat) : Prop := x.told.length ≤ b ∧ x.work.length ≤ b
def Spread.total (x : Spread) : Int := (x.told.length : Int) + (x.work.length : Int)
def Spread.end (x : Spread) (k : Int) : Int := k + 1 * (x.told.length : Int) + 1 * (x.work.length : Int)
/-- The marked ones. -/
def Spread.marked (x : Spread) (k : Int) : List (Option Obj) → Sy → Prop := fun os A => os = [some (.arr 1 true (A.enc cBool (marks mBool 1 (k) x.told.length))), some (.arr 1 true (A.enc cInt64 (marks mInt64 1 (k + 1 * (x.told.length : Int)) x.work.length)))]
def Spread.isMk (x : Spread) (k : Int) : Prop := x.told = marks mBool 1 (k) x.told.length ∧ x.work = marks mInt64 1 (k + 1 * (x.told.length : Int)) x.work.length

structure Afters where
  slots : Slots
  list : List After
  deriving DecidableEq
def roAfters (A : Sy) (x : Afters) : List AV := [.ro (A.enc cInt64 x.slots.ages), .ro (A.enc cBool x.slots.used), .ro (A.enc cAfter x.list)]
def ownAfters (A : Sy) (x : Afters) : List AV := [.own 1 true (A.enc cInt64 x.slots.ages), .own 1 true (A.enc cBool x.slots.used), .own 5 true (A.enc cAfter x.list)]
/-- Short enough. -/
def Afters.few (x : Afters) (b : Nat) : Prop := x.slots.ages.length ≤ b ∧ x.slots.used.length ≤ b ∧ x.list.length ≤ b
def Afters.total (x : Afters) : Int := (x.slots.ages.length : Int) + (x.slots.used.length : Int) + (x.list.length : Int)
def Afters.end (x : Afters) (k : Int) : Int := k + 1 * (x.slots.ages.length : Int) + 1 * (x.slots.used.length : Int) + 5 * (x.list.length : Int)
/-- The marked ones. -/
def Afters.marked (x : Afters) (k : Int) : List (Option Obj) → Sy → Prop := fun os A => os = [some (.arr 1 true (A.enc cInt64 (marks mInt64 1 (k) x.slots.ages.length))), some (.arr 1 true (A.enc cBool (marks mBool 1 (k + 1 * (x.slots.ages.length : Int)) x.slots.used.length))), some (.arr 5 true (A.enc cAfter (marks mAfter 5 (k + 1 * (x.slots.ages.length : Int) + 1 * (x.slots.used.length : Int)) x.list.length)))]
def Afters.isMk (x : Afters) (k : Int) : Prop := x.slots.ages = marks mInt64 1 (k) x.slots.ages.length ∧ x.slots.used = marks mBool 1 (k + 1 * (x.slots.ages.length : Int)) x.slots.used.length ∧ x.list = marks mAfter 5 (k + 1 * (x.slots.ages.length : Int) + 1 * (x.slots.used.length : Int)) x.list.length

structure Group where
  node : Int
  limit : Int
  active : Int
  waits : List Int
  first : Int
  deriving DecidableEq
def roGroup (A : Sy) (x : Group) : List AV := [.int .i64 x.node, .int .i64 x.limit, .int .i64 x.active, .ro (A.enc cInt64 x.waits), .int .i64 x.first]
def ownGroup (A : Sy) (x : Group) : List AV := [.int .i64 x.node, .int .i64 x.limit, .int .i64 x.active, .own 1 true (A.enc cInt64 x.waits), .int .i64 x.first]
/-- Short enough. -/
def Group.few (x : Group) (b : Nat) : Prop := x.waits.length ≤ b
def Group.total (x : Group) : Int := (x.waits.length : Int)
def Group.end (x : Group) (k : Int) : Int := k + 1 * (x.waits.length : Int)
/-- The marked ones. -/
def Group.marked (x : Group) (k : Int) : List (Option Obj) → Sy → Prop := fun os A => os = [some (.arr 1 true (A.enc cInt64 (marks mInt64 1 (k) x.waits.length)))]
def Group.isMk (x : Group) (k : Int) : Prop := x.waits = marks mInt64 1 (k) x.waits.length

end Go.Proofs.YtaibcmhhccanoaaGreat.AM

namespace Go.Proofs.YtaibcmhhccanoaaGreat.AM
open Go Go.Proofs

def TaskOk (t : Task) : Prop :=
  (0 ≤ t.prog ∧ t.prog ≤ 7) ∧ (0 ≤ t.pc ∧ t.pc ≤ 12) ∧ (0 ≤ t.reg ∧ t.reg ≤ 999) ∧ (-1 ≤ t.group ∧ t.group ≤ 7) ∧ (0 ≤ t.err ∧ t.err ≤ 99) ∧
  ((t.state = 1 ∧ t.err = 0 ∧ (((t.why = 1 ∨ t.why = 2) ∧ 0 ≤ t.what ∧ t.what ≤ 59 ∨ (t.why = 3 ∨ t.why = 4) ∧ 0 ≤ t.what ∧ t.what ≤ 7) ∧ (t.why = 2 ∧ 0 ≤ t.timer ∧ t.timer ≤ 1000000 ∨ t.why ≠ 2 ∧ t.timer = -1))) ∨
   (0 ≤ t.state ∧ t.state ≤ 2 ∧ t.state ≠ 1 ∧ t.why = 0 ∧ t.what = 0 ∧ t.timer = -1 ∧ (t.state = 2 ∨ t.err = 0)))

instance (t : Task) : Decidable (TaskOk t) := by unfold TaskOk; infer_instance

def task0 : Task := ⟨0, 0, 0, 0, 0, 0, 0, 0, 0⟩

def Parked (t : Task) (why what timer : Int) : Task :=
  if TaskOk t then (if t.state = 0 ∧ TaskOk { t with state := 1, why := why, what := what, timer := timer } then { t with state := 1, why := why, what := what, timer := timer } else t) else task0

def Readied (t : Task) (reg : Int) : Task :=
  if TaskOk t then (if t.state ≠ 2 ∧ TaskOk { t with pc := t.pc + 1, state := 0, why := 0, what := 0, timer := -1, reg := reg } then { t with pc := t.pc + 1, state := 0, why := 0, what := 0, timer := -1, reg := reg } else t) else task0

def Ended (t : Task) (err : Int) : Task :=
  if TaskOk t then (if t.state ≠ 2 ∧ TaskOk { t with state := 2, why := 0, what := 0, timer := -1, err := err } then { t with state := 2, why := 0, what := 0, timer := -1, err := err } else t) else task0

end Go.Proofs.YtaibcmhhccanoaaGreat.AM

namespace Go.Proofs.YtaibcmhhccanoaaGreat.AM

set_option linter.unusedVariables false

/-- So it is with the elements before a place. -/
def Upto {α : Type} (p : Nat → α → Prop) (l : List α) (i : Int) : Prop := ∀ (j : Nat) (x : α), (j : Int) < i → l[j]? = some x → p j x

theorem Upto.zero {α : Type} {p : Nat → α → Prop} {l : List α} : Upto p l 0 := fun j x h _ => by omega
theorem Upto.next {α : Type} {p : Nat → α → Prop} {l : List α} {i i' : Int} {x : α} (h : Upto p l i) (h0 : 0 ≤ i) (hx : l[i.toNat]? = some x) (hp : p i.toNat x) (hi : i' = i + 1) : Upto p l i' := fun j y hj hy => by
  by_cases e : (j : Int) < i
  · exact h j y e hy
  · obtain rfl : j = i.toNat := by omega
    rw [hx] at hy
    exact Option.some.inj hy ▸ hp
theorem Upto.all {α : Type} {p : Nat → α → Prop} {l : List α} {i : Int} (h : Upto p l i) (hi : (l.length : Int) ≤ i) : ∀ j x, l[j]? = some x → p j x := fun j x hx => by
  have := (List.getElem?_eq_some_iff.1 hx).1
  exact h j x (by omega) hx
theorem Upto.mem {α : Type} {p : α → Prop} {l : List α} {i : Int} (h : Upto (fun _ x => p x) l i) (hi : (l.length : Int) ≤ i) : ∀ x ∈ l, p x := fun x hx => by
  obtain ⟨j, hj⟩ := List.getElem?_of_mem hx
  exact h.all hi j x hj

theorem mem_at {α : Type} {l : List α} {j : Nat} {x : α} (h : l[j]? = some x) : x ∈ l := List.mem_of_getElem? h

theorem take_next {α : Type} {l : List α} {i : Nat} {x : α} (h : l[i]? = some x) : l.take (i + 1) = l.take i ++ [x] := by
  rw [List.take_add_one, h]; rfl

theorem nodup_take {l : List Int} : (∀ j x, l[j]? = some x → x ∉ l.take j) ↔ l.Nodup := by
  constructor
  · intro h
    suffices ∀ n, (l.take n).Nodup by simpa using this l.length
    intro n
    induction n with
    | zero => simp
    | succ n ih =>
      cases hx : l[n]? with
      | none => rw [List.take_add_one, hx]; simpa using ih
      | some x =>
        rw [take_next hx]
        refine List.nodup_append.2 ⟨ih, by simp, fun a ha b hb e => ?_⟩
        simp at hb; subst hb; subst e
        exact h n _ hx ha
  · intro h j x hx hm
    have hj := (List.getElem?_eq_some_iff.1 hx).1
    rw [← List.take_append_drop j l] at h
    obtain ⟨_, _, h3⟩ := List.nodup_append.1 h
    refine h3 _ hm _ ?_ rfl
    rw [List.drop_eq_getElem_cons hj, (List.getElem?_eq_some_iff.1 hx).2]
    exact List.mem_cons_self ..

theorem not_mem_take_next {α : Type} {l : List α} {i : Int} {x n : α} (h : n ∉ l.take i.toNat) (h0 : 0 ≤ i) (hx : l[i.toNat]? = some x) (hn : x ≠ n) {i' : Int} (hi : i' = i + 1) : n ∉ l.take i'.toNat := by
  rw [show i'.toNat = i.toNat + 1 by omega, take_next hx]
  intro hm
  rcases List.mem_append.1 hm with hm | hm
  · exact h hm
  · simp at hm; exact hn hm.symm

theorem take_all {α : Type} {l : List α} {i : Int} (h : (l.length : Int) ≤ i) : l.take i.toNat = l := List.take_of_length_le (by omega)

/-- The places of the elements that are so. -/
def idxFrom {α : Type} (p : α → Bool) : List α → Int → List Int
  | [], _ => []
  | x :: r, i => if p x then i :: idxFrom p r (i + 1) else idxFrom p r (i + 1)
def idxs {α : Type} (p : α → Bool) (l : List α) : List Int := idxFrom p l 0

theorem idxFrom_append {α : Type} (p : α → Bool) : ∀ (l m : List α) (i : Int), idxFrom p (l ++ m) i = idxFrom p l i ++ idxFrom p m (i + l.length)
  | [], m, i => by simp [idxFrom]
  | x :: r, m, i => by
    have := idxFrom_append p r m (i + 1)
    have e : i + ((x :: r).length : Int) = i + 1 + r.length := by simp; omega
    simp only [List.cons_append, idxFrom, this, e]
    split <;> simp

theorem idxs_next {α : Type} {p : α → Bool} {l : List α} {i : Int} {x : α} (h0 : 0 ≤ i) (hx : l[i.toNat]? = some x) {i' : Int} (hi : i' = i + 1) : idxs p (l.take i'.toNat) = if p x then idxs p (l.take i.toNat) ++ [i] else idxs p (l.take i.toNat) := by
  have hlt := (List.getElem?_eq_some_iff.1 hx).1
  rw [show i'.toNat = i.toNat + 1 by omega, take_next hx, idxs, idxFrom_append]
  have e : (0 : Int) + ((l.take i.toNat).length : Int) = i := by rw [List.length_take_of_le (Nat.le_of_lt hlt)]; omega
  rw [e]
  simp only [idxFrom, idxs]
  split <;> simp

theorem idxFrom_len {α : Type} (p : α → Bool) : ∀ (l : List α) (i : Int), (idxFrom p l i).length ≤ l.length
  | [], _ => Nat.le_refl _
  | x :: r, i => by
    have := idxFrom_len p r (i + 1)
    simp only [idxFrom]
    split <;> simp <;> omega

theorem idxs_len {α : Type} (p : α → Bool) (l : List α) : (idxs p l).length ≤ l.length := idxFrom_len p l 0

theorem idxFrom_mem {α : Type} (p : α → Bool) : ∀ (l : List α) (i n : Int), n ∈ idxFrom p l i ↔ i ≤ n ∧ ∃ x, l[(n - i).toNat]? = some x ∧ p x = true
  | [], i, n => by simp [idxFrom]
  | x :: r, i, n => by
    have ih := idxFrom_mem p r (i + 1) n
    have step : i + 1 ≤ n → (x :: r)[(n - i).toNat]? = r[(n - (i + 1)).toNat]? := fun h => by
      rw [show (n - i).toNat = (n - (i + 1)).toNat + 1 by omega]; simp
    simp only [idxFrom]
    by_cases hn : i = n
    · subst hn
      by_cases hp : p x = true
      · simp [hp]
      · rw [if_neg hp, ih]
        constructor
        · rintro ⟨h, _⟩; omega
        · rintro ⟨_, y, hy, hpy⟩; simp at hy; subst hy; exact absurd hpy hp
    · have : n ∈ (if p x = true then i :: idxFrom p r (i + 1) else idxFrom p r (i + 1)) ↔ n ∈ idxFrom p r (i + 1) := by
        split
        · simp [show n ≠ i from fun e => hn e.symm]
        · rfl
      rw [this, ih]
      constructor
      · rintro ⟨h, y, hy, hp⟩; exact ⟨by omega, y, by rw [step h]; exact hy, hp⟩
      · rintro ⟨h, y, hy, hp⟩; exact ⟨by omega, y, by rw [← step (by omega)]; exact hy, hp⟩

theorem idxs_mem {α : Type} {p : α → Bool} {l : List α} {n : Int} : n ∈ idxs p l ↔ 0 ≤ n ∧ ∃ x, l[n.toNat]? = some x ∧ p x = true := by
  rw [idxs, idxFrom_mem, show n - 0 = n by omega]

theorem idxFrom_ge {α : Type} {p : α → Bool} {l : List α} {i n : Int} (h : n ∈ idxFrom p l i) : i ≤ n := ((idxFrom_mem p l i n).1 h).1

theorem idxFrom_nodup {α : Type} (p : α → Bool) : ∀ (l : List α) (i : Int), (idxFrom p l i).Nodup
  | [], _ => by simp [idxFrom]
  | x :: r, i => by
    simp only [idxFrom]
    split
    · refine List.nodup_cons.2 ⟨fun h => ?_, idxFrom_nodup p r (i + 1)⟩
      have := idxFrom_ge h
      omega
    · exact idxFrom_nodup p r (i + 1)

theorem idxs_nodup {α : Type} (p : α → Bool) (l : List α) : (idxs p l).Nodup := idxFrom_nodup p l 0

end Go.Proofs.YtaibcmhhccanoaaGreat.AM

namespace Go.Proofs.YtaibcmhhccanoaaGreat.AM
open Go Go.Proofs

set_option linter.unusedVariables false

structure World where
  now : Int
  progs : List (List Ins)
  tree : List Node
  events : List Event
  spread : Spread
  timers : Timers
  afters : Afters
  tasks : List Task
  groups : List Group
  sights : List Sight
  began : List Int
  rang : List Int
  deriving DecidableEq

/-- A program, as a cell of a still slice, of an own one, of one that is being filled. -/
def roProg (A : Sy) (l : List Ins) : List AV := [.ro (A.enc cIns l)]
def ownProg (A : Sy) (l : List Ins) : List AV := [.own 3 true (A.enc cIns l)]
def optProg (A : Sy) : Option (List Ins) → List AV
  | none => [.own 1 true []]
  | some l => [.own 3 true (A.enc cIns l)]

def roWorld (A : Sy) (w : World) : List AV := [.int .i64 w.now, .ro (A.enc (roProg A) w.progs), .ro (A.enc cNode w.tree), .ro (A.enc cEvent w.events), .ro (A.enc cBool w.spread.told), .ro (A.enc cInt64 w.spread.work),
  .ro (A.enc cTwig w.timers.heap), .ro (A.enc cTimer w.timers.list), .int .i64 w.timers.next, .ro (A.enc cInt64 w.afters.slots.ages), .ro (A.enc cBool w.afters.slots.used), .ro (A.enc cAfter w.afters.list), .ro (A.enc cTask w.tasks),
  .ro (A.enc (roGroup A) w.groups), .ro (A.enc cSight w.sights), .ro (A.enc cInt64 w.began), .ro (A.enc cInt64 w.rang)]
def ownWorld (A : Sy) (w : World) : List AV := [.int .i64 w.now, .own 1 false (A.enc (ownProg A) w.progs), .own 5 true (A.enc cNode w.tree), .own 4 true (A.enc cEvent w.events), .own 1 true (A.enc cBool w.spread.told), .own 1 true (A.enc cInt64 w.spread.work),
  .own 3 true (A.enc cTwig w.timers.heap), .own 5 true (A.enc cTimer w.timers.list), .int .i64 w.timers.next, .own 1 true (A.enc cInt64 w.afters.slots.ages), .own 1 true (A.enc cBool w.afters.slots.used), .own 5 true (A.enc cAfter w.afters.list), .own 9 true (A.enc cTask w.tasks),
  .own 5 false (A.enc (ownGroup A) w.groups), .own 4 true (A.enc cSight w.sights), .own 1 true (A.enc cInt64 w.began), .own 1 true (A.enc cInt64 w.rang)]

theorem len_roProg (A : Sy) (x : List Ins) : (roProg A x).length = 1 := rfl
theorem len_ownProg (A : Sy) (x : List Ins) : (ownProg A x).length = 1 := rfl
theorem len_roGroup (A : Sy) (x : Group) : (roGroup A x).length = 5 := rfl
theorem len_ownGroup (A : Sy) (x : Group) : (ownGroup A x).length = 5 := rfl

def world0 : World := ⟨0, [], [], [], ⟨[], []⟩, ⟨[], [], 0⟩, ⟨⟨[], []⟩, []⟩, [], [], [], [], []⟩

end Go.Proofs.YtaibcmhhccanoaaGreat.AM
