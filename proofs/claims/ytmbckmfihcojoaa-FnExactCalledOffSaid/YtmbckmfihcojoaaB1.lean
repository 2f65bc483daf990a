/- The abstract machine, part 1: abstract values, their relation to a world, states. -/
import Derived.Below
import Derived.Tactics
import Derived.Deep.MidRow
import Derived.Laws.AppendOwn
import Derived.RowKit3
import Derived.WalkKit
namespace Go.Proofs.Ytmbckmfihcojoaa.AM
open Go Go.RowKit

set_option linter.unusedVariables false

/-- Tests of numbers. -/
def nbeq (a b : Nat) : Bool := a == b
def nblt (a b : Nat) : Bool := decide (a < b)
def nble (a b : Nat) : Bool := decide (a ≤ b)
theorem nbeq_refl (a : Nat) : nbeq a a = true := by simp [nbeq]
theorem nbeq_eq {a b : Nat} (h : nbeq a b = true) : a = b := by simpa [nbeq] using h
theorem nbeq_ne {a b : Nat} (h : a ≠ b) : nbeq a b = false := by simpa [nbeq] using h
theorem nblt_eq {a b : Nat} : (nblt a b = true) = (a < b) := by simp [nblt]
theorem nble_le {a b : Nat} (h : nble a b = true) : a ≤ b := by simpa [nble] using h

/-- Abstract values: a slice that is not ours by its content; one of our own by the name of its array. -/
inductive AV where
  | int (k : IntKind) (n : Int)
  | bool (b : Bool)
  | nilS
  | emp
  | ro (rows : List (List AV))
  | own (s : Nat) (fl : Bool) (rows : List (List AV))
  | ownp (cells : List AV)
  | ref (p : Bool) (id off len : Nat)
  | ptr (id row fld : Nat)
  | rptr (cells : List AV)
  | fn (f : FuncId) (first caps : List AV)
  | agg (cells : List AV)
  | tup (vs : List AV)
  | undef
  deriving Inhabited

structure Loc where
  blk : Nat
  base : Nat
  siz : Nat
  cap : Nat

inductive Tag where
  | root (id : Nat)
  | cell (id i j : Nat)

/-- A world, the blocks that stand still, the blocks that are ours, where our objects lie, the blocks of which but a part is ours. -/
structure Env where
  w : World
  S : Nat → Prop
  tag : Nat → Option Tag
  loc : Nat → Option Loc
  win : Nat → Option (Nat × Nat)

/-- A plain cell. -/
inductive SRel : AV → Value → Prop
  | int (k : IntKind) (n : Int) : (Lit.int k n).wf = true → SRel (.int k n) (.int k n)
  | bool (b : Bool) : SRel (.bool b) (.bool b)

def AV.scal : AV → Bool
  | .int _ _ => true
  | .bool _ => true
  | _ => false

/-- Values that lead to still memory alone. -/
inductive RRel (w : World) (S : Nat → Prop) : AV → Value → Prop
  | int (k : IntKind) (n : Int) : (Lit.int k n).wf = true → RRel w S (.int k n) (.int k n)
  | bool (b : Bool) : RRel w S (.bool b) (.bool b)
  | nilS : RRel w S .nilS (.slice none 0 0)
  | emp (a : Addr) : RRel w S .emp (.slice (some a) 0 0)
  | ro0 (a : Option Addr) (cap : Nat) : cap ≤ maxLen → (a = none → cap = 0) → RRel w S (.ro []) (.slice a 0 cap)
  | ro (rows : List (List AV)) (b o cap s : Nat) (f : Nat → Nat → Value) : rows ≠ [] → rows.length ≤ cap → cap ≤ maxLen → S b →
      (∀ (i : Nat) (r : List AV), rows[i]? = some r → r.length = s) →
      (∀ (i j : Nat) (r : List AV) (v : AV), rows[i]? = some r → r[j]? = some v → w.cell? ⟨b, o + i * s + j, none⟩ = some (f i j)) →
      (∀ (i j : Nat) (r : List AV) (v : AV), rows[i]? = some r → r[j]? = some v → RRel w S v (f i j)) →
      RRel w S (.ro rows) (.slice (some ⟨b, o, none⟩) rows.length cap)

theorem SRel.rrel {w : World} {S : Nat → Prop} {v : AV} {x : Value} (h : SRel v x) : RRel w S v x := by
  cases h with
  | int k n h => exact .int k n h
  | bool b => exact .bool b
theorem SRel.scal {v : AV} {x : Value} (h : SRel v x) : v.scal = true := by cases h <;> rfl
theorem RRel.srel {w : World} {S : Nat → Prop} {v : AV} {x : Value} (h : RRel w S v x) (hs : v.scal = true) : SRel v x := by
  cases h with
  | int k n h => exact .int k n h
  | bool b => exact .bool b
  | _ => cases hs

/-- An own array inside a cell, at a place: it is flat. -/
def OwnAt (w : World) (tag : Nat → Option Tag) (τ : Tag) (s : Nat) (rows : List (List AV)) (x : Value) : Prop :=
  (rows = [] ∧ ((∃ a, x = .slice (some a) 0 0) ∨ x = .slice none 0 0)) ∨
  ∃ b o cap c T, x = .slice (some ⟨b, o, none⟩) rows.length cap ∧ tag b = some τ ∧ w.heap[b]? = some (.cells c T (0, 0)) ∧ o + cap * s ≤ c.size ∧ rows.length ≤ cap ∧ 0 < cap ∧ cap ≤ maxLen ∧
    0 < s ∧ (∀ (i : Nat) (r : List AV), rows[i]? = some r → r.length = s) ∧
    ∀ (i j : Nat) (r : List AV) (v : AV), rows[i]? = some r → r[j]? = some v → ∃ y : Value, c[o + i * s + j]? = some y ∧ y.oneCell' = true ∧ SRel v y

/-- What a slot holds. -/
inductive Rel (E : Env) : AV → Value → Prop
  | base (v : AV) (x : Value) : RRel E.w E.S v x → Rel E v x
  | ref0 (id off cap : Nat) (a : Option Addr) : cap = 0 → Rel E (.ref false id off 0) (.slice a 0 cap)
  | ref (p : Bool) (id off len : Nat) (L : Loc) (cap : Nat) : E.loc id = some L → len ≤ cap → off + cap = L.cap → Rel E (.ref p id off len) (.slice (some ⟨L.blk, L.base + off * L.siz, none⟩) len cap)
  | ptr (id row fld : Nat) (L : Loc) : E.loc id = some L → Rel E (.ptr id row fld) (.pointer (some ⟨L.blk, L.base + row * L.siz + fld, none⟩))
  | rptr (cells : List AV) (b o : Nat) (f : Nat → Value) : E.S b → (∀ (j : Nat) (v : AV), cells[j]? = some v → E.w.cell? ⟨b, o + j, none⟩ = some (f j)) → (∀ (j : Nat) (v : AV), cells[j]? = some v → RRel E.w E.S v (f j)) →
      Rel E (.rptr cells) (.pointer (some ⟨b, o, none⟩))
  | fn (f : FuncId) (first caps : List AV) (xs ys : Array Value) : xs.size = first.length → ys.size = caps.length →
      (∀ (j : Nat) (v : AV) (x : Value), first[j]? = some v → xs[j]? = some x → Rel E v x) → (∀ (j : Nat) (v : AV) (x : Value), caps[j]? = some v → ys[j]? = some x → Rel E v x) → Rel E (.fn f first caps) (.func (.func f) xs ys)
  | agg (cells : List AV) (xs : Array Value) : xs.size = cells.length → (∀ (j : Nat) (x : Value), xs[j]? = some x → x.oneCell' = true) →
      (∀ (j : Nat) (v : AV) (x : Value), cells[j]? = some v → xs[j]? = some x → Rel E v x) → Rel E (.agg cells) (.agg xs)
  | tup (vs : List AV) (xs : Array Value) : xs.size = vs.length → (∀ (j : Nat) (v : AV) (x : Value), vs[j]? = some v → xs[j]? = some x → Rel E v x) → Rel E (.tup vs) (.tuple xs)
  | undef (x : Value) : Rel E .undef x

theorem SRel.rel {E : Env} {v : AV} {x : Value} (h : SRel v x) : Rel E v x := .base _ _ h.rrel

/-- What an array's cell holds. -/
def Cell (E : Env) (fl : Bool) (τ : Tag) (v : AV) (x : Value) : Prop :=
  match fl with
  | true => SRel v x
  | false => Rel E v x ∨ ∃ s rows, v = .own s true rows ∧ OwnAt E.w E.tag τ s rows x

/-- Our objects: a variable; an array. -/
inductive Obj where
  | box (cells : List AV)
  | arr (s : Nat) (fl : Bool) (rows : List (List AV))
  deriving Inhabited

def ORel (E : Env) (id : Nat) : Obj → Prop
  | .box cells => ∃ L c T, E.loc id = some L ∧ L.siz = 1 ∧ E.tag L.blk = some (.root id) ∧ E.w.heap[L.blk]? = some (.cells c T (0, 0)) ∧ L.base + cells.length ≤ c.size ∧
      (∀ lo hi, E.win L.blk = some (lo, hi) → lo ≤ L.base ∧ L.base + cells.length ≤ hi) ∧
      ∀ (j : Nat) (v : AV), cells[j]? = some v → ∃ y : Value, c[L.base + j]? = some y ∧ y.oneCell' = true ∧ Rel E v y
  | .arr s fl rows => (E.loc id = none ∧ rows = []) ∨
      ∃ L c T, E.loc id = some L ∧ L.siz = s ∧ 0 < L.siz ∧ E.tag L.blk = some (.root id) ∧ E.w.heap[L.blk]? = some (.cells c T (0, 0)) ∧ L.base + L.cap * L.siz ≤ c.size ∧ rows.length ≤ L.cap ∧ L.cap ≤ maxLen ∧ E.win L.blk = none ∧
        (∀ (i : Nat) (r : List AV), rows[i]? = some r → r.length = L.siz) ∧
        ∀ (i j : Nat) (r : List AV) (v : AV), rows[i]? = some r → r[j]? = some v → ∃ y : Value, c[L.base + i * L.siz + j]? = some y ∧ y.oneCell' = true ∧ Cell E fl (.cell id i j) v y

def lk {α : Type} : List (Nat × α) → Nat → Option α
  | [], _ => none
  | (k, v) :: r, n => bif nbeq k n then some v else lk r n

/-- A state: how many slots, what is known of them, what is known of our objects. -/
structure St where
  nt : Nat
  tmps : List (Nat × AV)
  sto : List (Nat × Obj)
  used : List Nat

/-- The names below this are those of what a caller gave. -/
def lab0 : Nat := 1000000

structure Env.Wf (E : Env) : Prop where
  still : ∀ b, E.S b → E.tag b = none ∧ b < E.w.heap.size
  owned : ∀ b, E.tag b ≠ none → b < E.w.heap.size
  windows : ∀ b, E.win b ≠ none → b < E.w.heap.size ∧ ∃ k L, k < lab0 ∧ E.loc k = some L ∧ L.blk = b ∧ E.tag b = some (.root k)

structure Sim (E : Env) (st : St) (a : Act) : Prop where
  wf : E.Wf
  defers : a.defers = []
  size : a.tmps.size = st.nt
  tmps : ∀ t v, lk st.tmps t = some v → ∃ x, a.tmps[t]? = some x ∧ Rel E v x
  sto : ∀ id o, lk st.sto id = some o → ORel E id o
  used : ∀ id L, E.loc id = some L → st.used.elem id = true
  keys : ∀ id o, lk st.sto id = some o → st.used.elem id = true

/-- From one world to a later one: nothing changes but what is ours; what is ours later was ours or is new. -/
structure Fr (E E' : Env) : Prop where
  os : E'.w.os = E.w.os
  tape : E'.w.tape = E.w.tape
  output : E'.w.output = E.w.output
  size : E.w.heap.size ≤ E'.w.heap.size
  block : ∀ b, b < E.w.heap.size → E.tag b = none → E'.w.heap[b]? = E.w.heap[b]?
  tag : ∀ b, E'.tag b ≠ none → E.tag b ≠ none ∨ E.w.heap.size ≤ b
  S : ∀ b, E.S b → E'.S b
  still : ∀ b, E'.S b → E.S b ∨ E.w.heap.size ≤ b
  keep : ∀ id L, id < lab0 → E.loc id = some L → E'.loc id = some L
  win : ∀ b lo hi, E.win b = some (lo, hi) → ∀ c T, E.w.heap[b]? = some (.cells c T (0, 0)) → ∃ c', E'.w.heap[b]? = some (.cells c' T (0, 0)) ∧ c'.size = c.size ∧ ∀ j, j < lo ∨ hi ≤ j → c'[j]? = c[j]?
  wins : E'.win = E.win

theorem Fr.refl (E : Env) : Fr E E := ⟨rfl, rfl, rfl, Nat.le_refl _, fun _ _ _ => rfl, fun _ h => .inl h, fun _ h => h, fun _ h => .inl h, fun _ _ _ h => h, fun _ _ _ _ c _ h => ⟨c, h, rfl, fun _ _ => rfl⟩, rfl⟩
theorem Fr.trans {E F G : Env} (h : Fr E F) (k : Fr F G) : Fr E G :=
  ⟨k.os.trans h.os, k.tape.trans h.tape, k.output.trans h.output, Nat.le_trans h.size k.size,
   fun b hb ht => by
    have hf : F.tag b = none := by
      cases hq : F.tag b with
      | none => rfl
      | some t => exact absurd ht (by rcases h.tag b (by simp [hq]) with h1 | h1; exact h1; omega)
    rw [k.block b (Nat.lt_of_lt_of_le hb h.size) hf, h.block b hb ht],
   fun b hb => by
    rcases k.tag b hb with h1 | h1
    · exact h.tag b h1
    · exact .inr (Nat.le_trans h.size h1),
   fun b hb => k.S b (h.S b hb),
   fun b hb => by
    rcases k.still b hb with h1 | h1
    · exact h.still b h1
    · exact .inr (Nat.le_trans h.size h1),
   fun id L hi hL => k.keep id L hi (h.keep id L hi hL),
   fun b lo hi hw c T hc => by
    obtain ⟨c1, h1, h2, h3⟩ := h.win b lo hi hw c T hc
    obtain ⟨c2, h4, h5, h6⟩ := k.win b lo hi (by rw [h.wins]; exact hw) c1 T h1
    exact ⟨c2, h4, h5.trans h2, fun j hj => (h6 j hj).trans (h3 j hj)⟩,
   k.wins.trans h.wins⟩

/-- Nothing of the memory has changed. -/
theorem Fr.ghost {E E' : Env} (hw : E'.w.heap = E.w.heap) (hos : E'.w.os = E.w.os) (htp : E'.w.tape = E.w.tape) (hout : E'.w.output = E.w.output) (htag : ∀ b, E'.tag b ≠ none → E.tag b ≠ none) (hS : E'.S = E.S) (hk : ∀ id L, id < lab0 → E.loc id = some L → E'.loc id = some L) (hwin : E'.win = E.win) : Fr E E' :=
  ⟨hos, htp, hout, by rw [hw]; exact Nat.le_refl _, fun _ _ _ => by rw [hw], fun b h => .inl (htag b h), fun b h => by rw [hS]; exact h, fun b h => .inl (by rw [← hS]; exact h), hk,
   fun b lo hi _ c T h => ⟨c, by rw [hw]; exact h, rfl, fun _ _ => rfl⟩, hwin⟩

/-- Still values stay what they are where still blocks do. -/
theorem RRel.mono {w w' : World} {S S' : Nat → Prop} (hS : ∀ b, S b → S' b) (hw : ∀ b, S b → w'.heap[b]? = w.heap[b]?) {v : AV} {x : Value} (h : RRel w S v x) : RRel w' S' v x := by
  induction h with
  | int k n h => exact .int k n h
  | bool b => exact .bool b
  | nilS => exact .nilS
  | emp a => exact .emp a
  | ro0 a cap h1 h2 => exact .ro0 a cap h1 h2
  | ro rows b o cap s f h1 h2 h3 h4 h5 h6 h7 ih =>
    exact .ro rows b o cap s f h1 h2 h3 (hS _ h4) h5 (fun i j r v hi hj => by rw [World.cell?_of_block (w := w) (hw b h4)]; exact h6 i j r v hi hj) (fun i j r v hi hj => ih i j r v hi hj)

theorem OwnAt.mono {w w' : World} {tag tag' : Nat → Option Tag} {τ τ' : Tag} {s : Nat} {rows : List (List AV)} {x : Value}
    (h : OwnAt w tag τ s rows x) (ht : ∀ b, tag b = some τ → tag' b = some τ' ∧ w'.heap[b]? = w.heap[b]?) : OwnAt w' tag' τ' s rows x := by
  rcases h with h | ⟨b, o, cap, c, T, h1, h2, h3, h4⟩
  · exact .inl h
  · exact .inr ⟨b, o, cap, c, T, h1, (ht b h2).1, by rw [(ht b h2).2]; exact h3, h4⟩

mutual
/-- The names in a value. -/
def AV.ids : AV → List Nat
  | .ref _ id _ _ => [id]
  | .ptr id _ _ => [id]
  | .fn _ first caps => idsL first ++ idsL caps
  | .agg cells => idsL cells
  | .tup vs => idsL vs
  | _ => []
def idsL : List AV → List Nat
  | [] => []
  | v :: r => v.ids ++ idsL r
end

theorem idsL_mem {l : List AV} {j : Nat} {v : AV} (h : l[j]? = some v) {id : Nat} (hi : id ∈ v.ids) : id ∈ idsL l := by
  induction l generalizing j with
  | nil => simp at h
  | cons u r ih =>
    unfold idsL
    cases j with
    | zero => simp at h; subst h; exact List.mem_append_left _ hi
    | succ j => exact List.mem_append_right _ (ih (by simpa using h))

theorem idsL_mem_inv {id : Nat} : ∀ {l : List AV}, id ∈ idsL l → ∃ v ∈ l, id ∈ v.ids
  | [], h => by simp [idsL] at h
  | v :: r, h => by
    unfold idsL at h
    rcases List.mem_append.1 h with h | h
    · exact ⟨v, by simp, h⟩
    · obtain ⟨u, hu, hi⟩ := idsL_mem_inv h
      exact ⟨u, List.mem_cons_of_mem _ hu, hi⟩

/-- What a slot holds stays what it is where still blocks stay and its names lie where they lay. -/
theorem Rel.to {E E' : Env} {v : AV} {x : Value} (h : Rel E v x) (hS : ∀ b, E.S b → E'.S b ∧ E'.w.heap[b]? = E.w.heap[b]?) (hl : ∀ id L, id ∈ v.ids → E.loc id = some L → E'.loc id = some L) : Rel E' v x := by
  induction h with
  | base v x h => exact .base _ _ (h.mono (fun b hb => (hS b hb).1) (fun b hb => (hS b hb).2))
  | ref0 id off cap a h => exact .ref0 id off cap a h
  | ref p id off len L cap h1 h2 h3 => exact .ref p id off len L cap (hl id L (by simp [AV.ids]) h1) h2 h3
  | ptr id row fld L h1 => exact .ptr id row fld L (hl id L (by simp [AV.ids]) h1)
  | rptr cells b o f h1 h2 h3 =>
    exact .rptr cells b o f (hS b h1).1 (fun j v hj => by rw [World.cell?_of_block (w := E.w) (hS b h1).2]; exact h2 j v hj) (fun j v hj => (h3 j v hj).mono (fun b hb => (hS b hb).1) (fun b hb => (hS b hb).2))
  | fn f first caps xs ys h1 h2 h3 h4 ih1 ih2 =>
    refine .fn f first caps xs ys h1 h2 (fun j v x hv hx => ih1 j v x hv hx fun id L hid => hl id L ?_) (fun j v x hv hx => ih2 j v x hv hx fun id L hid => hl id L ?_)
    · unfold AV.ids; exact List.mem_append_left _ (idsL_mem hv hid)
    · unfold AV.ids; exact List.mem_append_right _ (idsL_mem hv hid)
  | agg cells xs h1 h2 h3 ih =>
    refine .agg cells xs h1 h2 (fun j v x hv hx => ih j v x hv hx fun id L hid => hl id L ?_)
    unfold AV.ids; exact idsL_mem hv hid
  | tup vs xs h1 h3 ih =>
    refine .tup vs xs h1 (fun j v x hv hx => ih j v x hv hx fun id L hid => hl id L ?_)
    unfold AV.ids; exact idsL_mem hv hid
  | undef x => exact .undef x

theorem Cell.to {fl : Bool} {E E' : Env} {τ τ' : Tag} {v : AV} {x : Value} (h : Cell E fl τ v x) (hS : ∀ b, E.S b → E'.S b ∧ E'.w.heap[b]? = E.w.heap[b]?) (hl : ∀ id L, id ∈ v.ids → E.loc id = some L → E'.loc id = some L)
    (ht : ∀ b, E.tag b = some τ → E'.tag b = some τ' ∧ E'.w.heap[b]? = E.w.heap[b]?) : Cell E' fl τ' v x := by
  cases fl with
  | true => exact h
  | false =>
    rcases h with h | ⟨s, rows, hv, h⟩
    · exact .inl (h.to hS hl)
    · exact .inr ⟨s, rows, hv, h.mono ht⟩

def Obj.ids : Obj → List Nat
  | .box cells => idsL cells
  | .arr _ true _ => []
  | .arr _ false rows => rows.flatMap idsL

theorem idsR_mem {s : Nat} {rows : List (List AV)} {i j : Nat} {r : List AV} {v : AV} (hi : rows[i]? = some r) (hj : r[j]? = some v) {id : Nat} (h : id ∈ v.ids) : id ∈ (Obj.arr s false rows).ids := by
  unfold Obj.ids
  exact List.mem_flatMap.2 ⟨r, List.mem_of_getElem? hi, idsL_mem hj h⟩

/-- An object stays what it is where its blocks and its place do. -/
theorem ORel.to {E E' : Env} {id : Nat} {o : Obj} (h : ORel E id o) (hS : ∀ b, E.S b → E'.S b ∧ E'.w.heap[b]? = E.w.heap[b]?)
    (hid : E'.loc id = E.loc id) (hwin : E'.win = E.win) (hl : ∀ i L, i ∈ o.ids → E.loc i = some L → E'.loc i = some L)
    (ht : ∀ b, (E.tag b = some (.root id) ∨ ∃ i j, E.tag b = some (.cell id i j)) → E'.tag b = E.tag b ∧ E'.w.heap[b]? = E.w.heap[b]?) : ORel E' id o := by
  cases o with
  | box cells =>
    obtain ⟨L, c, T, h1, h2, h3, h4, h5, hw, h6⟩ := h
    obtain ⟨t1, t2⟩ := ht L.blk (.inl h3)
    refine ⟨L, c, T, hid.trans h1, h2, t1.trans h3, t2.trans h4, h5, by rw [hwin]; exact hw, ?_⟩
    intro j v hj
    obtain ⟨y, hy1, hy2, hy3⟩ := h6 j v hj
    exact ⟨y, hy1, hy2, hy3.to hS fun i L hi => hl i L (by unfold Obj.ids; exact idsL_mem hj hi)⟩
  | arr s fl rows =>
    rcases h with ⟨h1, h2⟩ | ⟨L, c, T, h1, hsz, h2, h3, h4, h5, h6, h7, hw, h8, h9⟩
    · exact .inl ⟨hid.trans h1, h2⟩
    · obtain ⟨t1, t2⟩ := ht L.blk (.inl h3)
      refine .inr ⟨L, c, T, hid.trans h1, hsz, h2, t1.trans h3, t2.trans h4, h5, h6, h7, by rw [hwin]; exact hw, h8, ?_⟩
      intro i j r v hi hj
      obtain ⟨y, hy1, hy2, hy3⟩ := h9 i j r v hi hj
      refine ⟨y, hy1, hy2, ?_⟩
      cases fl with
      | true => exact hy3
      | false =>
        refine hy3.to hS (fun q L hq => hl q L (idsR_mem hi hj hq)) fun b hb => ?_
        obtain ⟨u1, u2⟩ := ht b (.inr ⟨i, j, hb⟩)
        exact ⟨u1.trans hb, u2⟩

theorem lk_cons_eq {α : Type} (k : Nat) (v : α) (r : List (Nat × α)) : lk ((k, v) :: r) k = some v := by simp [lk, nbeq_refl]
theorem lk_cons_ne {α : Type} {k n : Nat} (v : α) (r : List (Nat × α)) (h : k ≠ n) : lk ((k, v) :: r) n = lk r n := by simp [lk, nbeq_ne h]
theorem lk_cons {α : Type} (k n : Nat) (v : α) (r : List (Nat × α)) : lk ((k, v) :: r) n = if k = n then some v else lk r n := by
  by_cases h : k = n
  · subst h; simp [lk_cons_eq]
  · rw [lk_cons_ne v r h, if_neg h]

end Go.Proofs.Ytmbckmfihcojoaa.AM
