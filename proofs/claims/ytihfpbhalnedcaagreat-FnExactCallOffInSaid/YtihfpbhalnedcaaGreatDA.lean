import Derived.Test.YtihfpbhalnedcaaGreatBTab
/- In one: D1 D2 M1 PL W1 -/
set_option linter.unusedVariables false
set_option linter.unusedSimpArgs false
namespace Go.Proofs.YtihfpbhalnedcaaGreat.AM
open Go Go.Proofs

structure Se (P : Program) (A : Sy) : Prop where
  prog : P = Tryz.prog
  eq : A = sy

theorem Se.cx {P : Program} {A : Sy} (S : Se P A) : Cx P tab A := ⟨S.prog ▸ tab_ok, S.prog ▸ mixed_ok, S.eq⟩

section
variable {P : Program} {A : Sy} {α : Type} {f : α -> List AV} {l m : List α} {n off s id : Nat} {st : St} {al p : Bool}
theorem Se.ga (S : Se P A) : A.enc f l = (A.enc f l).take (A.enc f l).length := S.cx.giveEq
theorem Se.gb (S : Se P A) (h : n = l.length) : 0 + n <= (A.enc f l).length := S.cx.lendLe h
theorem Se.gc (S : Se P A) (h : n = l.length) : A.enc f l = ((A.enc f l).drop 0).take n := S.cx.lendEq h
theorem Se.gd (S : Se P A) : 0 + A.len (A.enc f l) <= (A.enc f l).length := S.cx.lendLe0
theorem Se.ge (S : Se P A) : A.enc f l = ((A.enc f l).drop 0).take (A.len (A.enc f l)) := S.cx.lendEq0
theorem Se.gf (S : Se P A) (h : off + n <= l.length) : off + n <= (A.enc f l).length := S.cx.partLe h
theorem Se.gg (S : Se P A) (h : m = (l.drop off).take n) : A.enc f m = ((A.enc f l).drop off).take n := S.cx.partEq h
theorem Se.gh (S : Se P A) : A.enc f [] = [] := S.cx.enc f []
theorem Se.ra (S : Se P A) (hq : lk st.sto id = some (.arr s true (A.enc f l))) (hn : n = l.length) : resCell al st (.ref p id 0 n) (.own s true (A.enc f l)) := resOwn S.cx hq hn
theorem Se.rb (S : Se P A) (hq : lk st.sto id = some (.arr s true (A.enc f l))) : resCell al st (.ref p id 0 (A.len (A.enc f l))) (.own s true (A.enc f l)) := resOwn S.cx hq (S.cx.lenE f l)
theorem Se.rc (S : Se P A) (hq : lk st.sto id = some (.arr s true (A.enc f l))) (hn : n = l.length) : resOk al st (.ref p id 0 n) (.own s true (A.enc f l)) := resOwn1 S.cx hq hn
theorem Se.rd (S : Se P A) (hq : lk st.sto id = some (.arr s true (A.enc f l))) (hn : n = l.length) : res1 al st (.ref p id 0 n) (.own s true (A.enc f l)) := by
  show resCell al st (.ref p id 0 n) (.own s true (A.enc f l))
  exact resOwn S.cx hq hn
end

theorem Gives.of {st : St} {al dp : Bool} {avs bs : List AV} {objs : List Obj} (h : (Ren.ok (rhoG st avs bs objs) && tgtOk (rhoG st avs bs objs) objs && (rhoA avs bs).all (fun p => nbeq (p.1 % 1000) 0 && nble 1000 p.1) && nble objs.length 40) = true)
    (k : AM.args st (AM.given dp (rhoG st avs bs objs)) al avs bs /\ giveObjs st al (rhoA avs bs) 0 objs) : Gives st al dp avs bs objs := ⟨h, k.1, k.2⟩

theorem Gives.go {st : St} {al dp : Bool} {avs bs : List AV} {objs : List Obj} (h : (Ren.ok (rhoG st avs bs objs) && tgtOk (rhoG st avs bs objs) objs && (rhoA avs bs).all (fun p => nbeq (p.1 % 1000) 0 && nble 1000 p.1) && nble objs.length 40) = true := by exact rfl)
    (k : AM.args st (AM.given dp (rhoG st avs bs objs)) al avs bs /\ giveObjs st al (rhoA avs bs) 0 objs := by repeat' (first | exact trivial | exact rfl | exact Nat.le_refl _ | exact S.ga | exact S.gb ‹_› | exact S.gc ‹_› | exact S.gd | exact S.ge | exact S.gf ‹_› | exact S.gg ‹_› | exact S.gh | exact .inl rfl | exact S.gi ‹_› | exact S.gj ‹_› | exact S.gk | exact S.gl | refine ⟨?_, ?_⟩)) : Gives st al dp avs bs objs := ⟨h, k.1, k.2⟩
theorem Less.toA (over : Ren) {s t : St} (h1 : ((renOf t over).ok && (renOf t over).low s.used && (renOf t over).all (fun p => t.used.elem p.1)) = true := by exact rfl) (h2 : t.nt = s.nt := by exact rfl)
    (h3 : lkAll t.tmps fun k v => lk s.tmps k = some (v.back (renOf t over)) /\ v.fits (renOf t over) = true := by repeat' (first | exact trivial | exact ⟨rfl, rfl⟩ | exact ⟨_, rfl, Nat.zero_le _, rfl⟩ | apply And.intro | exact rfl)) (h4 : lkAll t.sto fun i o => stoOk s (renOf t over) i o := by repeat' (first | exact trivial | exact ⟨rfl, rfl⟩ | exact ⟨_, rfl, Nat.zero_le _, rfl⟩ | apply And.intro | exact rfl)) : Less s t := Less.to over h1 h2 h3 h4
theorem Done.isA {ι : Type} {r : ι -> AV} {al : Bool} {st : St} {v : AV} {e x : ι} (h : e = x) (h1 : resOk al st v (r x) := by repeat' (first | exact trivial | exact rfl | exact S.ra rfl ‹_› | exact S.rb rfl | exact S.rc rfl ‹_› | exact S.rd rfl ‹_› | exact S.gh | exact S.re rfl ‹_› | exact S.rf rfl ‹_› | exact S.rg rfl ‹_› | refine ⟨?_, ?_⟩)) (h2 : (Fits st v [] && (r x).small && boxesKept [] []) = true := by exact rfl) : Done al st v [] (fun v o => v = r e /\ o = []) := Done.is h1 h2 h
theorem Done.toA {al : Bool} {st : St} {v : AV} {objs : List Obj} {R : AV -> List (Option Obj) -> Prop} (r : AV) (os : List (Option Obj)) (h4 : R r os) (h1 : (Fits st v os && r.small && boxesKept objs os) = true := by exact rfl) (h2 : resOk al st v r := by repeat' (first | exact trivial | exact rfl | exact S.ra rfl ‹_› | exact S.rb rfl | exact S.rc rfl ‹_› | exact S.rd rfl ‹_› | exact S.gh | exact S.re rfl ‹_› | exact S.rf rfl ‹_› | exact S.rg rfl ‹_› | refine ⟨?_, ?_⟩)) (h3 : backOk al st 0 os := by repeat' (first | exact trivial | exact rfl | exact S.ra rfl ‹_› | exact S.rb rfl | exact S.rc rfl ‹_› | exact S.rd rfl ‹_› | exact S.gh | exact S.re rfl ‹_› | exact S.rf rfl ‹_› | exact S.rg rfl ‹_› | refine ⟨?_, ?_⟩)) : Done al st v objs R := Done.to r os h1 h2 h3 h4

def cInt64 (n : Int) : List AV := [.int .i64 n]
def cBool (b : Bool) : List AV := [.bool b]
def mInt64 (k : Int) : Int := k
def mBool (k : Int) : Bool := decide (k.tmod 3 = 0)

structure Handle where
  slot : Int
  age : Int
  deriving DecidableEq
def cHandle (x : Handle) : List AV := [.int .i64 x.slot, .int .i64 x.age]
def mHandle (k : Int) : Handle := ⟨k, k + 1⟩

structure Twig where
  due : Int
  seq : Int
  lefts : Int
  deriving DecidableEq
def cTwig (x : Twig) : List AV := [.int .i64 x.due, .int .i64 x.seq, .int .i64 x.lefts]
def mTwig (k : Int) : Twig := ⟨k, k + 1, k + 2⟩

structure Timer where
  seq : Int
  due : Int
  what : Int
  whom : Int
  armed : Bool
  deriving DecidableEq
def cTimer (x : Timer) : List AV := [.int .i64 x.seq, .int .i64 x.due, .int .i64 x.what, .int .i64 x.whom, .bool x.armed]
def mTimer (k : Int) : Timer := ⟨k, k + 1, k + 2, k + 3, decide ((k + 4).tmod 3 = 0)⟩

structure Node where
  kind : Int
  up : Int
  due : Int
  key : Int
  value : Int
  deriving DecidableEq
def cNode (x : Node) : List AV := [.int .i64 x.kind, .int .i64 x.up, .int .i64 x.due, .int .i64 x.key, .int .i64 x.value]
def mNode (k : Int) : Node := ⟨k, k + 1, k + 2, k + 3, k + 4⟩

structure Event where
  node : Int
  err : Int
  cause : Int
  time : Int
  deriving DecidableEq
def cEvent (x : Event) : List AV := [.int .i64 x.node, .int .i64 x.err, .int .i64 x.cause, .int .i64 x.time]
def mEvent (k : Int) : Event := ⟨k, k + 1, k + 2, k + 3⟩

structure After where
  slot : Int
  age : Int
  node : Int
  func : Int
  queued : Bool
  deriving DecidableEq
def cAfter (x : After) : List AV := [.int .i64 x.slot, .int .i64 x.age, .int .i64 x.node, .int .i64 x.func, .bool x.queued]
def mAfter (k : Int) : After := ⟨k, k + 1, k + 2, k + 3, decide ((k + 4).tmod 3 = 0)⟩

structure Ins where
  op : Int
  a : Int
  b : Int
  deriving DecidableEq
def cIns (x : Ins) : List AV := [.int .i64 x.op, .int .i64 x.a, .int .i64 x.b]
def mIns (k : Int) : Ins := ⟨k, k + 1, k + 2⟩

structure Task where
  prog : Int
  pc : Int
  state : Int
  why : Int
  what : Int
  timer : Int
  reg : Int
  group : Int
  err : Int
  deriving DecidableEq
def cTask (x : Task) : List AV := [.int .i64 x.prog, .int .i64 x.pc, .int .i64 x.state, .int .i64 x.why, .int .i64 x.what, .int .i64 x.timer, .int .i64 x.reg, .int .i64 x.group, .int .i64 x.err]
def mTask (k : Int) : Task := ⟨k, k + 1, k + 2, k + 3, k + 4, k + 5, k + 6, k + 7, k + 8⟩

structure Sight where
  node : Int
  err : Int
  cause : Int
  at_ : Int
  deriving DecidableEq
def cSight (x : Sight) : List AV := [.int .i64 x.node, .int .i64 x.err, .int .i64 x.cause, .int .i64 x.at_]
def mSight (k : Int) : Sight := ⟨k, k + 1, k + 2, k + 3⟩

structure Pick where
  kind : Int
  who : Int
  deriving DecidableEq
def cPick (x : Pick) : List AV := [.int .i64 x.kind, .int .i64 x.who]
def mPick (k : Int) : Pick := ⟨k, k + 1⟩

structure Order where
  kind : Int
  a : Int
  b : Int
  c : Int
  d : Int
  deriving DecidableEq
def cOrder (x : Order) : List AV := [.int .i64 x.kind, .int .i64 x.a, .int .i64 x.b, .int .i64 x.c, .int .i64 x.d]
def mOrder (k : Int) : Order := ⟨k, k + 1, k + 2, k + 3, k + 4⟩

theorem boolSame {F : Bool -> Prop} (b : Bool) (h1 : F true) (h2 : F false) : F b := by cases b; exact h2; exact h1
theorem get_of_lt {α : Type} {l : List α} {i : Nat} (h : i < l.length) : ∃ x, l[i]? = some x := ⟨_, List.getElem?_eq_getElem h⟩
theorem lt_of_get {α : Type} {l : List α} {i : Nat} {x : α} (h : l[i]? = some x) : i < l.length := (List.getElem?_eq_some_iff.1 h).1
theorem set_at {α : Type} {l m : List α} {i : Nat} {y : α} (h : m = l.set i y) (hi : i < l.length) : m[i]? = some y := by rw [h]; simp [hi]
theorem set_ne {α : Type} {l m : List α} {i j : Nat} {y : α} (h : m = l.set i y) (hij : i ≠ j) : m[j]? = l[j]? := by rw [h]; simp [hij]
theorem set_len {α : Type} {l m : List α} {i : Nat} {y : α} (h : m = l.set i y) : m.length = l.length := by rw [h]; simp
theorem ext_lt {α : Type} {l m : List α} (h : l.length = m.length) (k : ∀ j : Nat, j < l.length -> l[j]? = m[j]?) : l = m := by
  refine List.ext_getElem? fun j => ?_
  rcases Nat.lt_or_ge j l.length with hj | hj
  · exact k j hj
  · rw [List.getElem?_eq_none hj, List.getElem?_eq_none (by omega)]

def marks {α : Type} (m : Int -> α) (w : Int) (k : Int) (n : Nat) : List α := (List.range n).map fun (i : Nat) => m (k + w * (i : Int))
theorem marks_len {α : Type} (m : Int -> α) (w k : Int) (n : Nat) : (marks m w k n).length = n := by simp [marks]
theorem marks_get {α : Type} (m : Int -> α) (w k : Int) {n i : Nat} (h : i < n) : (marks m w k n)[i]? = some (m (k + w * i)) := by simp [marks, h]

theorem len_cInt64 (x : Int) : (cInt64 x).length = 1 := rfl
theorem len_cBool (x : Bool) : (cBool x).length = 1 := rfl
theorem len_cHandle (x : Handle) : (cHandle x).length = 2 := rfl
theorem len_cTwig (x : Twig) : (cTwig x).length = 3 := rfl
theorem len_cTimer (x : Timer) : (cTimer x).length = 5 := rfl
theorem len_cNode (x : Node) : (cNode x).length = 5 := rfl
theorem len_cEvent (x : Event) : (cEvent x).length = 4 := rfl
theorem len_cAfter (x : After) : (cAfter x).length = 5 := rfl
theorem len_cIns (x : Ins) : (cIns x).length = 3 := rfl
theorem len_cTask (x : Task) : (cTask x).length = 9 := rfl
theorem len_cSight (x : Sight) : (cSight x).length = 4 := rfl
theorem len_cPick (x : Pick) : (cPick x).length = 2 := rfl
theorem len_cOrder (x : Order) : (cOrder x).length = 5 := rfl

end Go.Proofs.YtihfpbhalnedcaaGreat.AM

namespace Go.Proofs.YtihfpbhalnedcaaGreat.AM
open Go Go.Proofs

structure Slots where
  ages : List Int
  used : List Bool
  deriving DecidableEq
def roSlots (A : Sy) (x : Slots) : List AV := [.ro (A.enc cInt64 x.ages), .ro (A.enc cBool x.used)]
def ownSlots (A : Sy) (x : Slots) : List AV := [.own 1 true (A.enc cInt64 x.ages), .own 1 true (A.enc cBool x.used)]
def Slots.few (x : Slots) (b : Nat) : Prop := x.ages.length <= b /\ x.used.length <= b
def Slots.total (x : Slots) : Int := (x.ages.length : Int) + (x.used.length : Int)
def Slots.end (x : Slots) (k : Int) : Int := k + 1 * (x.ages.length : Int) + 1 * (x.used.length : Int)
def Slots.marked (x : Slots) (k : Int) : List (Option Obj) -> Sy -> Prop := fun os A => os = [some (.arr 1 true (A.enc cInt64 (marks mInt64 1 (k) x.ages.length))), some (.arr 1 true (A.enc cBool (marks mBool 1 (k + 1 * (x.ages.length : Int)) x.used.length)))]
def Slots.isMk (x : Slots) (k : Int) : Prop := x.ages = marks mInt64 1 (k) x.ages.length /\ x.used = marks mBool 1 (k + 1 * (x.ages.length : Int)) x.used.length

structure Timers where
  heap : List Twig
  list : List Timer
  next : Int
  deriving DecidableEq
def roTimers (A : Sy) (x : Timers) : List AV := [.ro (A.enc cTwig x.heap), .ro (A.enc cTimer x.list), .int .i64 x.next]
def ownTimers (A : Sy) (x : Timers) : List AV := [.own 3 true (A.enc cTwig x.heap), .own 5 true (A.enc cTimer x.list), .int .i64 x.next]
def Timers.few (x : Timers) (b : Nat) : Prop := x.heap.length <= b /\ x.list.length <= b
def Timers.total (x : Timers) : Int := (x.heap.length : Int) + (x.list.length : Int)
def Timers.end (x : Timers) (k : Int) : Int := k + 3 * (x.heap.length : Int) + 5 * (x.list.length : Int)
def Timers.marked (x : Timers) (k : Int) : List (Option Obj) -> Sy -> Prop := fun os A => os = [some (.arr 3 true (A.enc cTwig (marks mTwig 3 (k) x.heap.length))), some (.arr 5 true (A.enc cTimer (marks mTimer 5 (k + 3 * (x.heap.length : Int)) x.list.length)))]
def Timers.isMk (x : Timers) (k : Int) : Prop := x.heap = marks mTwig 3 (k) x.heap.length /\ x.list = marks mTimer 5 (k + 3 * (x.heap.length : Int)) x.list.length

structure Spread where
  told : List Bool
  work : List Int
  deriving DecidableEq
def roSpread (A : Sy) (x : Spread) : List AV := [.ro (A.enc cBool x.told), .ro (A.enc cInt64 x.work)]
def ownSpread (A : Sy) (x : Spread) : List AV := [.own 1 true (A.enc cBool x.told), .own 1 true (A.enc cInt64 x.work)]
def Spread.few (x : Spread) (b : Nat) : Prop := x.told.length <= b /\ x.work.length <= b
def Spread.total (x : Spread) : Int := (x.told.length : Int) + (x.work.length : Int)
def Spread.end (x : Spread) (k : Int) : Int := k + 1 * (x.told.length : Int) + 1 * (x.work.length : Int)
def Spread.marked (x : Spread) (k : Int) : List (Option Obj) -> Sy -> Prop := fun os A => os = [some (.arr 1 true (A.enc cBool (marks mBool 1 (k) x.told.length))), some (.arr 1 true (A.enc cInt64 (marks mInt64 1 (k + 1 * (x.told.length : Int)) x.work.length)))]
def Spread.isMk (x : Spread) (k : Int) : Prop := x.told = marks mBool 1 (k) x.told.length /\ x.work = marks mInt64 1 (k + 1 * (x.told.length : Int)) x.work.length

structure Afters where
  slots : Slots
  list : List After
  deriving DecidableEq
def roAfters (A : Sy) (x : Afters) : List AV := [.ro (A.enc cInt64 x.slots.ages), .ro (A.enc cBool x.slots.used), .ro (A.enc cAfter x.list)]
def ownAfters (A : Sy) (x : Afters) : List AV := [.own 1 true (A.enc cInt64 x.slots.ages), .own 1 true (A.enc cBool x.slots.used), .own 5 true (A.enc cAfter x.list)]
def Afters.few (x : Afters) (b : Nat) : Prop := x.slots.ages.length <= b /\ x.slots.used.length <= b /\ x.list.length <= b
def Afters.total (x : Afters) : Int := (x.slots.ages.length : Int) + (x.slots.used.length : Int) + (x.list.length : Int)
def Afters.end (x : Afters) (k : Int) : Int := k + 1 * (x.slots.ages.length : Int) + 1 * (x.slots.used.length : Int) + 5 * (x.list.length : Int)
def Afters.marked (x : Afters) (k : Int) : List (Option Obj) -> Sy -> Prop := fun os A => os = [some (.arr 1 true (A.enc cInt64 (marks mInt64 1 (k) x.slots.ages.length))), some (.arr 1 true (A.enc cBool (marks mBool 1 (k + 1 * (x.slots.ages.length : Int)) x.slots.used.length))), some (.arr 5 true (A.enc cAfter (marks mAfter 5 (k + 1 * (x.slots.ages.length : Int) + 1 * (x.slots.used.length : Int)) x.list.length)))]
def Afters.isMk (x : Afters) (k : Int) : Prop := x.slots.ages = marks mInt64 1 (k) x.slots.ages.length /\ x.slots.used = marks mBool 1 (k + 1 * (x.slots.ages.length : Int)) x.slots.used.length /\ x.list = marks mAfter 5 (k + 1 * (x.slots.ages.length : Int) + 1 * (x.slots.used.length : Int)) x.list.length

structure Group where
  node : Int
  limit : Int
  active : Int
  waits : List Int
  first : Int
  deriving DecidableEq
def roGroup (A : Sy) (x : Group) : List AV := [.int .i64 x.node, .int .i64 x.limit, .int .i64 x.active, .ro (A.enc cInt64 x.waits), .int .i64 x.first]
def ownGroup (A : Sy) (x : Group) : List AV := [.int .i64 x.node, .int .i64 x.limit, .int .i64 x.active, .own 1 true (A.enc cInt64 x.waits), .int .i64 x.first]
def Group.few (x : Group) (b : Nat) : Prop := x.waits.length <= b
def Group.total (x : Group) : Int := (x.waits.length : Int)
def Group.end (x : Group) (k : Int) : Int := k + 1 * (x.waits.length : Int)
def Group.marked (x : Group) (k : Int) : List (Option Obj) -> Sy -> Prop := fun os A => os = [some (.arr 1 true (A.enc cInt64 (marks mInt64 1 (k) x.waits.length)))]
def Group.isMk (x : Group) (k : Int) : Prop := x.waits = marks mInt64 1 (k) x.waits.length

end Go.Proofs.YtihfpbhalnedcaaGreat.AM

namespace Go.Proofs.YtihfpbhalnedcaaGreat.AM
open Go Go.Proofs

def TaskOk (t : Task) : Prop :=
  (0 <= t.prog /\ t.prog <= 7) /\ (0 <= t.pc /\ t.pc <= 12) /\ (0 <= t.reg /\ t.reg <= 999) /\ (-1 <= t.group /\ t.group <= 7) /\ (0 <= t.err /\ t.err <= 99) /\
  ((t.state = 1 /\ t.err = 0 /\ (((t.why = 1 ∨ t.why = 2) /\ 0 <= t.what /\ t.what <= 59 ∨ (t.why = 3 ∨ t.why = 4) /\ 0 <= t.what /\ t.what <= 7) /\ (t.why = 2 /\ 0 <= t.timer /\ t.timer <= 1000000 ∨ t.why ≠ 2 /\ t.timer = -1))) ∨
   (0 <= t.state /\ t.state <= 2 /\ t.state ≠ 1 /\ t.why = 0 /\ t.what = 0 /\ t.timer = -1 /\ (t.state = 2 ∨ t.err = 0)))

instance (t : Task) : Decidable (TaskOk t) := by unfold TaskOk; infer_instance

def task0 : Task := ⟨0, 0, 0, 0, 0, 0, 0, 0, 0⟩

end Go.Proofs.YtihfpbhalnedcaaGreat.AM

namespace Go.Proofs.YtihfpbhalnedcaaGreat.AM

def Upto {α : Type} (p : Nat -> α -> Prop) (l : List α) (i : Int) : Prop := ∀ (j : Nat) (x : α), (j : Int) < i -> l[j]? = some x -> p j x

theorem Upto.zero {α : Type} {p : Nat -> α -> Prop} {l : List α} : Upto p l 0 := fun j x h _ => by omega
theorem Upto.next {α : Type} {p : Nat -> α -> Prop} {l : List α} {i i' : Int} {x : α} (h : Upto p l i) (h0 : 0 <= i) (hx : l[i.toNat]? = some x) (hp : p i.toNat x) (hi : i' = i + 1) : Upto p l i' := fun j y hj hy => by
  by_cases e : (j : Int) < i
  · exact h j y e hy
  · obtain rfl : j = i.toNat := by omega
    rw [hx] at hy
    exact Option.some.inj hy ▸ hp
theorem Upto.all {α : Type} {p : Nat -> α -> Prop} {l : List α} {i : Int} (h : Upto p l i) (hi : (l.length : Int) <= i) : ∀ j x, l[j]? = some x -> p j x := fun j x hx => by
  have := (List.getElem?_eq_some_iff.1 hx).1
  exact h j x (by omega) hx
theorem Upto.mem {α : Type} {p : α -> Prop} {l : List α} {i : Int} (h : Upto (fun _ x => p x) l i) (hi : (l.length : Int) <= i) : ∀ x ∈ l, p x := fun x hx => by
  obtain ⟨j, hj⟩ := List.getElem?_of_mem hx
  exact h.all hi j x hj

theorem mem_at {α : Type} {l : List α} {j : Nat} {x : α} (h : l[j]? = some x) : x ∈ l := List.mem_of_getElem? h

theorem take_next {α : Type} {l : List α} {i : Nat} {x : α} (h : l[i]? = some x) : l.take (i + 1) = l.take i ++ [x] := by
  rw [List.take_add_one, h]; rfl

theorem nodup_take {l : List Int} : (∀ j x, l[j]? = some x -> x ∉ l.take j) ↔ l.Nodup := by
  constructor
  · intro h
    suffices ∀ n, (l.take n).Nodup by simpa using this l.length
    intro n
    induction n with
    | zero => simp
    | succ n ih =>
      cases hx : l[n]? with
      | none => rw [List.take_add_one, hx]; simpa using ih
      | some x =>
        rw [take_next hx]
        refine List.nodup_append.2 ⟨ih, by simp, fun a ha b hb e => ?_⟩
        simp at hb; subst hb; subst e
        exact h n _ hx ha
  · intro h j x hx hm
    have hj := (List.getElem?_eq_some_iff.1 hx).1
    rw [<- List.take_append_drop j l] at h
    obtain ⟨_, _, h3⟩ := List.nodup_append.1 h
    refine h3 _ hm _ ?_ rfl
    rw [List.drop_eq_getElem_cons hj, (List.getElem?_eq_some_iff.1 hx).2]
    exact List.mem_cons_self ..

theorem not_mem_take_next {α : Type} {l : List α} {i : Int} {x n : α} (h : n ∉ l.take i.toNat) (h0 : 0 <= i) (hx : l[i.toNat]? = some x) (hn : x ≠ n) {i' : Int} (hi : i' = i + 1) : n ∉ l.take i'.toNat := by
  rw [show i'.toNat = i.toNat + 1 by omega, take_next hx]
  intro hm
  rcases List.mem_append.1 hm with hm | hm
  · exact h hm
  · simp at hm; exact hn hm.symm

theorem take_all {α : Type} {l : List α} {i : Int} (h : (l.length : Int) <= i) : l.take i.toNat = l := List.take_of_length_le (by omega)

def idxFrom {α : Type} (p : α -> Bool) : List α -> Int -> List Int
  | [], _ => []
  | x :: r, i => if p x then i :: idxFrom p r (i + 1) else idxFrom p r (i + 1)
def idxs {α : Type} (p : α -> Bool) (l : List α) : List Int := idxFrom p l 0

end Go.Proofs.YtihfpbhalnedcaaGreat.AM

namespace Go.Proofs.YtihfpbhalnedcaaGreat.AM
open Go Go.Proofs

structure World where
  now : Int
  progs : List (List Ins)
  tree : List Node
  events : List Event
  spread : Spread
  timers : Timers
  afters : Afters
  tasks : List Task
  groups : List Group
  sights : List Sight
  began : List Int
  rang : List Int
  deriving DecidableEq

def roProg (A : Sy) (l : List Ins) : List AV := [.ro (A.enc cIns l)]
def ownProg (A : Sy) (l : List Ins) : List AV := [.own 3 true (A.enc cIns l)]
def optProg (A : Sy) : Option (List Ins) -> List AV
  | none => [.own 1 true []]
  | some l => [.own 3 true (A.enc cIns l)]

def roWorld (A : Sy) (w : World) : List AV := [.int .i64 w.now, .ro (A.enc (roProg A) w.progs), .ro (A.enc cNode w.tree), .ro (A.enc cEvent w.events), .ro (A.enc cBool w.spread.told), .ro (A.enc cInt64 w.spread.work),
  .ro (A.enc cTwig w.timers.heap), .ro (A.enc cTimer w.timers.list), .int .i64 w.timers.next, .ro (A.enc cInt64 w.afters.slots.ages), .ro (A.enc cBool w.afters.slots.used), .ro (A.enc cAfter w.afters.list), .ro (A.enc cTask w.tasks),
  .ro (A.enc (roGroup A) w.groups), .ro (A.enc cSight w.sights), .ro (A.enc cInt64 w.began), .ro (A.enc cInt64 w.rang)]
def ownWorld (A : Sy) (w : World) : List AV := [.int .i64 w.now, .own 1 false (A.enc (ownProg A) w.progs), .own 5 true (A.enc cNode w.tree), .own 4 true (A.enc cEvent w.events), .own 1 true (A.enc cBool w.spread.told), .own 1 true (A.enc cInt64 w.spread.work),
  .own 3 true (A.enc cTwig w.timers.heap), .own 5 true (A.enc cTimer w.timers.list), .int .i64 w.timers.next, .own 1 true (A.enc cInt64 w.afters.slots.ages), .own 1 true (A.enc cBool w.afters.slots.used), .own 5 true (A.enc cAfter w.afters.list), .own 9 true (A.enc cTask w.tasks),
  .own 5 false (A.enc (ownGroup A) w.groups), .own 4 true (A.enc cSight w.sights), .own 1 true (A.enc cInt64 w.began), .own 1 true (A.enc cInt64 w.rang)]

def world0 : World := ⟨0, [], [], [], ⟨[], []⟩, ⟨[], [], 0⟩, ⟨⟨[], []⟩, []⟩, [], [], [], [], []⟩

end Go.Proofs.YtihfpbhalnedcaaGreat.AM
