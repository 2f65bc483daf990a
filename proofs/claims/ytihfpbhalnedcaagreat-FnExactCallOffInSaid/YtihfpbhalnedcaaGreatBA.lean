import Derived.Below
import Derived.Tactics
import Derived.Deep.MidRow
import Derived.Laws.AppendOwn
import Derived.RowKit3
import Derived.WalkKit
import Derived.Lib.SliceRun
import Derived.Laws.Small
import Derived.Laws.StructEq
import Derived.Laws.MakeOwn
import Derived.Great.BuildSlice
/- The abstract machine, part 1: abstract values, their relation to a world, states. -/
set_option linter.unusedVariables false
set_option linter.unusedSimpArgs false
namespace Go.Proofs.YtihfpbhalnedcaaGreat.AM
open Go Go.RowKit

def nbeq (a b : Nat) : Bool := a == b
def nblt (a b : Nat) : Bool := decide (a < b)
def nble (a b : Nat) : Bool := decide (a <= b)
theorem nbeq_refl (a : Nat) : nbeq a a = true := by simp [nbeq]
theorem nbeq_eq {a b : Nat} (h : nbeq a b = true) : a = b := by simpa [nbeq] using h
theorem nbeq_ne {a b : Nat} (h : a ≠ b) : nbeq a b = false := by simpa [nbeq] using h
theorem nblt_eq {a b : Nat} : (nblt a b = true) = (a < b) := by simp [nblt]
theorem nble_le {a b : Nat} (h : nble a b = true) : a <= b := by simpa [nble] using h

inductive AV where
  | int (k : IntKind) (n : Int)
  | bool (b : Bool)
  | nilS
  | emp
  | ro (rows : List (List AV))
  | own (s : Nat) (fl : Bool) (rows : List (List AV))
  | ownp (cells : List AV)
  | ref (p : Bool) (id off len : Nat)
  | ptr (id row fld : Nat)
  | rptr (cells : List AV)
  | fn (f : FuncId) (first caps : List AV)
  | agg (cells : List AV)
  | tup (vs : List AV)
  | undef
  deriving Inhabited

structure Loc where
  blk : Nat
  base : Nat
  siz : Nat
  cap : Nat

inductive Tag where
  | root (id : Nat)
  | cell (id i j : Nat)

structure Env where
  w : World
  S : Nat -> Prop
  tag : Nat -> Option Tag
  loc : Nat -> Option Loc
  win : Nat -> Option (Nat × Nat)

inductive SRel : AV -> Value -> Prop
  | int (k : IntKind) (n : Int) : (Lit.int k n).wf = true -> SRel (.int k n) (.int k n)
  | bool (b : Bool) : SRel (.bool b) (.bool b)

def AV.scal : AV -> Bool
  | .int _ _ => true
  | .bool _ => true
  | _ => false

inductive RRel (w : World) (S : Nat -> Prop) : AV -> Value -> Prop
  | int (k : IntKind) (n : Int) : (Lit.int k n).wf = true -> RRel w S (.int k n) (.int k n)
  | bool (b : Bool) : RRel w S (.bool b) (.bool b)
  | nilS : RRel w S .nilS (.slice none 0 0)
  | emp (a : Addr) : RRel w S .emp (.slice (some a) 0 0)
  | ro0 (a : Option Addr) (cap : Nat) : cap <= maxLen -> (a = none -> cap = 0) -> RRel w S (.ro []) (.slice a 0 cap)
  | ro (rows : List (List AV)) (b o cap s : Nat) (f : Nat -> Nat -> Value) : rows ≠ [] -> rows.length <= cap -> cap <= maxLen -> S b ->
      (∀ (i : Nat) (r : List AV), rows[i]? = some r -> r.length = s) ->
      (∀ (i j : Nat) (r : List AV) (v : AV), rows[i]? = some r -> r[j]? = some v -> w.cell? ⟨b, o + i * s + j, none⟩ = some (f i j)) ->
      (∀ (i j : Nat) (r : List AV) (v : AV), rows[i]? = some r -> r[j]? = some v -> RRel w S v (f i j)) ->
      RRel w S (.ro rows) (.slice (some ⟨b, o, none⟩) rows.length cap)

theorem SRel.rrel {w : World} {S : Nat -> Prop} {v : AV} {x : Value} (h : SRel v x) : RRel w S v x := by
  cases h with
  | int k n h => exact .int k n h
  | bool b => exact .bool b
theorem SRel.scal {v : AV} {x : Value} (h : SRel v x) : v.scal = true := by cases h <;> rfl
theorem RRel.srel {w : World} {S : Nat -> Prop} {v : AV} {x : Value} (h : RRel w S v x) (hs : v.scal = true) : SRel v x := by
  cases h with
  | int k n h => exact .int k n h
  | bool b => exact .bool b
  | _ => cases hs

def OwnAt (w : World) (tag : Nat -> Option Tag) (τ : Tag) (s : Nat) (rows : List (List AV)) (x : Value) : Prop :=
  (rows = [] /\ ((∃ a, x = .slice (some a) 0 0) ∨ x = .slice none 0 0)) ∨
  ∃ b o cap c T, x = .slice (some ⟨b, o, none⟩) rows.length cap /\ tag b = some τ /\ w.heap[b]? = some (.cells c T (0, 0)) /\ o + cap * s <= c.size /\ rows.length <= cap /\ 0 < cap /\ cap <= maxLen /\
    0 < s /\ (∀ (i : Nat) (r : List AV), rows[i]? = some r -> r.length = s) /\
    ∀ (i j : Nat) (r : List AV) (v : AV), rows[i]? = some r -> r[j]? = some v -> ∃ y : Value, c[o + i * s + j]? = some y /\ y.oneCell' = true /\ SRel v y

mutual
def AV.ids : AV -> List Nat
  | .ref _ id _ _ => [id]
  | .ptr id _ _ => [id]
  | .fn _ first caps => idsL first ++ idsL caps
  | .agg cells => idsL cells
  | .tup vs => idsL vs
  | _ => []
def idsL : List AV -> List Nat
  | [] => []
  | v :: r => v.ids ++ idsL r
end

def AV.isFn : AV -> Bool
  | .fn _ _ _ => true
  | _ => false

inductive Rel (E : Env) : AV -> Value -> Prop
  | base (v : AV) (x : Value) : RRel E.w E.S v x -> Rel E v x
  | ref0 (id off cap : Nat) (a : Option Addr) : cap = 0 -> Rel E (.ref false id off 0) (.slice a 0 cap)
  | ref (p : Bool) (id off len : Nat) (L : Loc) (cap : Nat) : E.loc id = some L -> len <= cap -> off + cap = L.cap -> Rel E (.ref p id off len) (.slice (some ⟨L.blk, L.base + off * L.siz, none⟩) len cap)
  | ptr (id row fld : Nat) (L : Loc) : E.loc id = some L -> Rel E (.ptr id row fld) (.pointer (some ⟨L.blk, L.base + row * L.siz + fld, none⟩))
  | rptr (cells : List AV) (b o : Nat) (f : Nat -> Value) : E.S b -> (∀ (j : Nat) (v : AV), cells[j]? = some v -> E.w.cell? ⟨b, o + j, none⟩ = some (f j)) -> (∀ (j : Nat) (v : AV), cells[j]? = some v -> v.isFn = false -> RRel E.w E.S v (f j)) ->
      (∀ (j : Nat) (v : AV), cells[j]? = some v -> v.isFn = true -> v.ids = []) -> (∀ (j : Nat) (v : AV), cells[j]? = some v -> v.isFn = true -> Rel E v (f j)) -> Rel E (.rptr cells) (.pointer (some ⟨b, o, none⟩))
  | fn (f : FuncId) (first caps : List AV) (xs ys : Array Value) : xs.size = first.length -> ys.size = caps.length ->
      (∀ (j : Nat) (v : AV) (x : Value), first[j]? = some v -> xs[j]? = some x -> Rel E v x) -> (∀ (j : Nat) (v : AV) (x : Value), caps[j]? = some v -> ys[j]? = some x -> Rel E v x) -> Rel E (.fn f first caps) (.func (.func f) xs ys)
  | agg (cells : List AV) (xs : Array Value) : xs.size = cells.length -> (∀ (j : Nat) (x : Value), xs[j]? = some x -> x.oneCell' = true) ->
      (∀ (j : Nat) (v : AV) (x : Value), cells[j]? = some v -> xs[j]? = some x -> Rel E v x) -> Rel E (.agg cells) (.agg xs)
  | tup (vs : List AV) (xs : Array Value) : xs.size = vs.length -> (∀ (j : Nat) (v : AV) (x : Value), vs[j]? = some v -> xs[j]? = some x -> Rel E v x) -> Rel E (.tup vs) (.tuple xs)
  | undef (x : Value) : Rel E .undef x

theorem RRel.notFn {w : World} {S : Nat -> Prop} {v : AV} {x : Value} (h : RRel w S v x) : v.isFn = false := by cases h <;> rfl

theorem SRel.rel {E : Env} {v : AV} {x : Value} (h : SRel v x) : Rel E v x := .base _ _ h.rrel

def Cell (E : Env) (fl : Bool) (τ : Tag) (v : AV) (x : Value) : Prop :=
  match fl with
  | true => SRel v x
  | false => Rel E v x ∨ ∃ s rows, v = .own s true rows /\ OwnAt E.w E.tag τ s rows x

inductive Obj where
  | box (cells : List AV)
  | arr (s : Nat) (fl : Bool) (rows : List (List AV))
  deriving Inhabited

def ORel (E : Env) (id : Nat) : Obj -> Prop
  | .box cells => ∃ L c T, E.loc id = some L /\ L.siz = 1 /\ E.tag L.blk = some (.root id) /\ E.w.heap[L.blk]? = some (.cells c T (0, 0)) /\ L.base + cells.length <= c.size /\
      (∀ lo hi, E.win L.blk = some (lo, hi) -> lo <= L.base /\ L.base + cells.length <= hi) /\
      ∀ (j : Nat) (v : AV), cells[j]? = some v -> ∃ y : Value, c[L.base + j]? = some y /\ y.oneCell' = true /\ Rel E v y
  | .arr s fl rows => (E.loc id = none /\ rows = []) ∨
      ∃ L c T, E.loc id = some L /\ L.siz = s /\ 0 < L.siz /\ E.tag L.blk = some (.root id) /\ E.w.heap[L.blk]? = some (.cells c T (0, 0)) /\ L.base + L.cap * L.siz <= c.size /\ rows.length <= L.cap /\ L.cap <= maxLen /\ E.win L.blk = none /\
        (∀ (i : Nat) (r : List AV), rows[i]? = some r -> r.length = L.siz) /\
        ∀ (i j : Nat) (r : List AV) (v : AV), rows[i]? = some r -> r[j]? = some v -> ∃ y : Value, c[L.base + i * L.siz + j]? = some y /\ y.oneCell' = true /\ Cell E fl (.cell id i j) v y

def lk {α : Type} : List (Nat × α) -> Nat -> Option α
  | [], _ => none
  | (k, v) :: r, n => bif nbeq k n then some v else lk r n

structure St where
  nt : Nat
  tmps : List (Nat × AV)
  sto : List (Nat × Obj)
  used : List Nat

def lab0 : Nat := 1000000

structure Env.Wf (E : Env) : Prop where
  still : ∀ b, E.S b -> E.tag b = none /\ b < E.w.heap.size
  owned : ∀ b, E.tag b ≠ none -> b < E.w.heap.size
  windows : ∀ b, E.win b ≠ none -> b < E.w.heap.size /\ ∃ k L, k < lab0 /\ E.loc k = some L /\ L.blk = b /\ E.tag b = some (.root k)

structure Sim (E : Env) (st : St) (a : Act) : Prop where
  wf : E.Wf
  defers : a.defers = []
  size : a.tmps.size = st.nt
  tmps : ∀ t v, lk st.tmps t = some v -> ∃ x, a.tmps[t]? = some x /\ Rel E v x
  sto : ∀ id o, lk st.sto id = some o -> ORel E id o
  used : ∀ id L, E.loc id = some L -> st.used.elem id = true
  keys : ∀ id o, lk st.sto id = some o -> st.used.elem id = true

structure Fr (E E' : Env) : Prop where
  os : E'.w.os = E.w.os
  tape : E'.w.tape = E.w.tape
  output : E'.w.output = E.w.output
  size : E.w.heap.size <= E'.w.heap.size
  block : ∀ b, b < E.w.heap.size -> E.tag b = none -> E'.w.heap[b]? = E.w.heap[b]?
  tag : ∀ b, E'.tag b ≠ none -> E.tag b ≠ none ∨ E.w.heap.size <= b
  S : ∀ b, E.S b -> E'.S b
  still : ∀ b, E'.S b -> E.S b ∨ E.w.heap.size <= b
  keep : ∀ id L, id < lab0 -> E.loc id = some L -> E'.loc id = some L
  win : ∀ b lo hi, E.win b = some (lo, hi) -> ∀ c T, E.w.heap[b]? = some (.cells c T (0, 0)) -> ∃ c', E'.w.heap[b]? = some (.cells c' T (0, 0)) /\ c'.size = c.size /\ ∀ j, j < lo ∨ hi <= j -> c'[j]? = c[j]?
  wins : E'.win = E.win

theorem Fr.refl (E : Env) : Fr E E := ⟨rfl, rfl, rfl, Nat.le_refl _, fun _ _ _ => rfl, fun _ h => .inl h, fun _ h => h, fun _ h => .inl h, fun _ _ _ h => h, fun _ _ _ _ c _ h => ⟨c, h, rfl, fun _ _ => rfl⟩, rfl⟩
theorem Fr.trans {E F G : Env} (h : Fr E F) (k : Fr F G) : Fr E G :=
  ⟨k.os.trans h.os, k.tape.trans h.tape, k.output.trans h.output, Nat.le_trans h.size k.size,
   fun b hb ht => by
    have hf : F.tag b = none := by
      cases hq : F.tag b with
      | none => rfl
      | some t => exact absurd ht (by rcases h.tag b (by simp [hq]) with h1 | h1; exact h1; omega)
    rw [k.block b (Nat.lt_of_lt_of_le hb h.size) hf, h.block b hb ht],
   fun b hb => by
    rcases k.tag b hb with h1 | h1
    · exact h.tag b h1
    · exact .inr (Nat.le_trans h.size h1),
   fun b hb => k.S b (h.S b hb),
   fun b hb => by
    rcases k.still b hb with h1 | h1
    · exact h.still b h1
    · exact .inr (Nat.le_trans h.size h1),
   fun id L hi hL => k.keep id L hi (h.keep id L hi hL),
   fun b lo hi hw c T hc => by
    obtain ⟨c1, h1, h2, h3⟩ := h.win b lo hi hw c T hc
    obtain ⟨c2, h4, h5, h6⟩ := k.win b lo hi (by rw [h.wins]; exact hw) c1 T h1
    exact ⟨c2, h4, h5.trans h2, fun j hj => (h6 j hj).trans (h3 j hj)⟩,
   k.wins.trans h.wins⟩

theorem Fr.ghost {E E' : Env} (hw : E'.w.heap = E.w.heap) (hos : E'.w.os = E.w.os) (htp : E'.w.tape = E.w.tape) (hout : E'.w.output = E.w.output) (htag : ∀ b, E'.tag b ≠ none -> E.tag b ≠ none) (hS : E'.S = E.S) (hk : ∀ id L, id < lab0 -> E.loc id = some L -> E'.loc id = some L) (hwin : E'.win = E.win) : Fr E E' :=
  ⟨hos, htp, hout, by rw [hw]; exact Nat.le_refl _, fun _ _ _ => by rw [hw], fun b h => .inl (htag b h), fun b h => by rw [hS]; exact h, fun b h => .inl (by rw [<- hS]; exact h), hk,
   fun b lo hi _ c T h => ⟨c, by rw [hw]; exact h, rfl, fun _ _ => rfl⟩, hwin⟩

theorem RRel.mono {w w' : World} {S S' : Nat -> Prop} (hS : ∀ b, S b -> S' b) (hw : ∀ b, S b -> w'.heap[b]? = w.heap[b]?) {v : AV} {x : Value} (h : RRel w S v x) : RRel w' S' v x := by
  induction h with
  | int k n h => exact .int k n h
  | bool b => exact .bool b
  | nilS => exact .nilS
  | emp a => exact .emp a
  | ro0 a cap h1 h2 => exact .ro0 a cap h1 h2
  | ro rows b o cap s f h1 h2 h3 h4 h5 h6 h7 ih =>
    exact .ro rows b o cap s f h1 h2 h3 (hS _ h4) h5 (fun i j r v hi hj => by rw [World.cell?_of_block (w := w) (hw b h4)]; exact h6 i j r v hi hj) (fun i j r v hi hj => ih i j r v hi hj)

theorem OwnAt.mono {w w' : World} {tag tag' : Nat -> Option Tag} {τ τ' : Tag} {s : Nat} {rows : List (List AV)} {x : Value}
    (h : OwnAt w tag τ s rows x) (ht : ∀ b, tag b = some τ -> tag' b = some τ' /\ w'.heap[b]? = w.heap[b]?) : OwnAt w' tag' τ' s rows x := by
  rcases h with h | ⟨b, o, cap, c, T, h1, h2, h3, h4⟩
  · exact .inl h
  · exact .inr ⟨b, o, cap, c, T, h1, (ht b h2).1, by rw [(ht b h2).2]; exact h3, h4⟩

theorem idsL_mem {l : List AV} {j : Nat} {v : AV} (h : l[j]? = some v) {id : Nat} (hi : id ∈ v.ids) : id ∈ idsL l := by
  induction l generalizing j with
  | nil => simp at h
  | cons u r ih =>
    unfold idsL
    cases j with
    | zero => simp at h; subst h; exact List.mem_append_left _ hi
    | succ j => exact List.mem_append_right _ (ih (by simpa using h))

theorem idsL_mem_inv {id : Nat} : ∀ {l : List AV}, id ∈ idsL l -> ∃ v ∈ l, id ∈ v.ids
  | [], h => by simp [idsL] at h
  | v :: r, h => by
    unfold idsL at h
    rcases List.mem_append.1 h with h | h
    · exact ⟨v, by simp, h⟩
    · obtain ⟨u, hu, hi⟩ := idsL_mem_inv h
      exact ⟨u, List.mem_cons_of_mem _ hu, hi⟩

theorem Rel.to {E E' : Env} {v : AV} {x : Value} (h : Rel E v x) (hS : ∀ b, E.S b -> E'.S b /\ E'.w.heap[b]? = E.w.heap[b]?) (hl : ∀ id L, id ∈ v.ids -> E.loc id = some L -> E'.loc id = some L) : Rel E' v x := by
  induction h with
  | base v x h => exact .base _ _ (h.mono (fun b hb => (hS b hb).1) (fun b hb => (hS b hb).2))
  | ref0 id off cap a h => exact .ref0 id off cap a h
  | ref p id off len L cap h1 h2 h3 => exact .ref p id off len L cap (hl id L (by simp [AV.ids]) h1) h2 h3
  | ptr id row fld L h1 => exact .ptr id row fld L (hl id L (by simp [AV.ids]) h1)
  | rptr cells b o f h1 h2 h3 h4 h5 ih =>
    exact .rptr cells b o f (hS b h1).1 (fun j v hj => by rw [World.cell?_of_block (w := E.w) (hS b h1).2]; exact h2 j v hj) (fun j v hj hf => (h3 j v hj hf).mono (fun b hb => (hS b hb).1) (fun b hb => (hS b hb).2)) h4 (fun j v hj hf => ih j v hj hf fun id L hid => by rw [h4 j v hj hf] at hid; cases hid)
  | fn f first caps xs ys h1 h2 h3 h4 ih1 ih2 =>
    refine .fn f first caps xs ys h1 h2 (fun j v x hv hx => ih1 j v x hv hx fun id L hid => hl id L ?_) (fun j v x hv hx => ih2 j v x hv hx fun id L hid => hl id L ?_)
    · unfold AV.ids; exact List.mem_append_left _ (idsL_mem hv hid)
    · unfold AV.ids; exact List.mem_append_right _ (idsL_mem hv hid)
  | agg cells xs h1 h2 h3 ih =>
    refine .agg cells xs h1 h2 (fun j v x hv hx => ih j v x hv hx fun id L hid => hl id L ?_)
    unfold AV.ids; exact idsL_mem hv hid
  | tup vs xs h1 h3 ih =>
    refine .tup vs xs h1 (fun j v x hv hx => ih j v x hv hx fun id L hid => hl id L ?_)
    unfold AV.ids; exact idsL_mem hv hid
  | undef x => exact .undef x

theorem Cell.to {fl : Bool} {E E' : Env} {τ τ' : Tag} {v : AV} {x : Value} (h : Cell E fl τ v x) (hS : ∀ b, E.S b -> E'.S b /\ E'.w.heap[b]? = E.w.heap[b]?) (hl : ∀ id L, id ∈ v.ids -> E.loc id = some L -> E'.loc id = some L)
    (ht : ∀ b, E.tag b = some τ -> E'.tag b = some τ' /\ E'.w.heap[b]? = E.w.heap[b]?) : Cell E' fl τ' v x := by
  cases fl with
  | true => exact h
  | false =>
    rcases h with h | ⟨s, rows, hv, h⟩
    · exact .inl (h.to hS hl)
    · exact .inr ⟨s, rows, hv, h.mono ht⟩

def Obj.ids : Obj -> List Nat
  | .box cells => idsL cells
  | .arr _ true _ => []
  | .arr _ false rows => rows.flatMap idsL

theorem idsR_mem {s : Nat} {rows : List (List AV)} {i j : Nat} {r : List AV} {v : AV} (hi : rows[i]? = some r) (hj : r[j]? = some v) {id : Nat} (h : id ∈ v.ids) : id ∈ (Obj.arr s false rows).ids := by
  unfold Obj.ids
  exact List.mem_flatMap.2 ⟨r, List.mem_of_getElem? hi, idsL_mem hj h⟩

theorem ORel.to {E E' : Env} {id : Nat} {o : Obj} (h : ORel E id o) (hS : ∀ b, E.S b -> E'.S b /\ E'.w.heap[b]? = E.w.heap[b]?)
    (hid : E'.loc id = E.loc id) (hwin : E'.win = E.win) (hl : ∀ i L, i ∈ o.ids -> E.loc i = some L -> E'.loc i = some L)
    (ht : ∀ b, (E.tag b = some (.root id) ∨ ∃ i j, E.tag b = some (.cell id i j)) -> E'.tag b = E.tag b /\ E'.w.heap[b]? = E.w.heap[b]?) : ORel E' id o := by
  cases o with
  | box cells =>
    obtain ⟨L, c, T, h1, h2, h3, h4, h5, hw, h6⟩ := h
    obtain ⟨t1, t2⟩ := ht L.blk (.inl h3)
    refine ⟨L, c, T, hid.trans h1, h2, t1.trans h3, t2.trans h4, h5, by rw [hwin]; exact hw, ?_⟩
    intro j v hj
    obtain ⟨y, hy1, hy2, hy3⟩ := h6 j v hj
    exact ⟨y, hy1, hy2, hy3.to hS fun i L hi => hl i L (by unfold Obj.ids; exact idsL_mem hj hi)⟩
  | arr s fl rows =>
    rcases h with ⟨h1, h2⟩ | ⟨L, c, T, h1, hsz, h2, h3, h4, h5, h6, h7, hw, h8, h9⟩
    · exact .inl ⟨hid.trans h1, h2⟩
    · obtain ⟨t1, t2⟩ := ht L.blk (.inl h3)
      refine .inr ⟨L, c, T, hid.trans h1, hsz, h2, t1.trans h3, t2.trans h4, h5, h6, h7, by rw [hwin]; exact hw, h8, ?_⟩
      intro i j r v hi hj
      obtain ⟨y, hy1, hy2, hy3⟩ := h9 i j r v hi hj
      refine ⟨y, hy1, hy2, ?_⟩
      cases fl with
      | true => exact hy3
      | false =>
        refine hy3.to hS (fun q L hq => hl q L (idsR_mem hi hj hq)) fun b hb => ?_
        obtain ⟨u1, u2⟩ := ht b (.inr ⟨i, j, hb⟩)
        exact ⟨u1.trans hb, u2⟩

theorem lk_cons_eq {α : Type} (k : Nat) (v : α) (r : List (Nat × α)) : lk ((k, v) :: r) k = some v := by simp [lk, nbeq_refl]
theorem lk_cons_ne {α : Type} {k n : Nat} (v : α) (r : List (Nat × α)) (h : k ≠ n) : lk ((k, v) :: r) n = lk r n := by simp [lk, nbeq_ne h]
theorem lk_cons {α : Type} (k n : Nat) (v : α) (r : List (Nat × α)) : lk ((k, v) :: r) n = if k = n then some v else lk r n := by
  by_cases h : k = n
  · subst h; simp [lk_cons_eq]
  · rw [lk_cons_ne v r h, if_neg h]

end Go.Proofs.YtihfpbhalnedcaaGreat.AM

namespace Go.Proofs.YtihfpbhalnedcaaGreat.AM
open Go Go.RowKit

def ofConst : Value -> AV
  | .int k n => if (Lit.int k n).wf then .int k n else .undef
  | .bool b => .bool b
  | .slice none 0 0 => .nilS
  | _ => .undef

def St.get (st : St) (t : Nat) : AV := (lk st.tmps t).getD .undef

def St.ev (st : St) : Operand -> AV
  | .tmp t => st.get t
  | .const v => ofConst v
  | .func f => .fn f [] []
  | .global _ => .undef

def St.put (st : St) (d : Option Tmp) (v : AV) : St :=
  match d with
  | some d => bif nblt d st.nt then { st with tmps := (d, v) :: st.tmps } else st
  | none => st

theorem rel_const (E : Env) (v : Value) : Rel E (ofConst v) v := by
  unfold ofConst
  split
  · split
    · exact .base _ _ (.int _ _ ‹_›)
    · exact .undef _
  · exact .base _ _ (.bool _)
  · exact .base _ _ .nilS
  · exact .undef _

theorem Sim.get {E : Env} {st : St} {a : Act} (h : Sim E st a) (t : Nat) : Rel E (st.get t) (a.tmps.getD t undef) := by
  unfold St.get
  cases hq : lk st.tmps t with
  | none => exact .undef _
  | some v =>
    obtain ⟨x, hx, hr⟩ := h.tmps t v hq
    have : a.tmps.getD t undef = x := by simp [Array.getD_eq_getD_getElem?, hx]
    rw [this]; exact hr

theorem Sim.ev {E : Env} {st : St} {a : Act} (h : Sim E st a) (x : Operand) : Rel E (st.ev x) (a.eval x) := by
  cases x with
  | tmp t => exact h.get t
  | const v => exact rel_const E v
  | global g => exact .undef _
  | func f => exact .fn f [] [] #[] #[] rfl rfl (fun j v x hj => by simp at hj) (fun j v x hj => by simp at hj)

theorem Sim.put {E : Env} {st : St} {a : Act} (h : Sim E st a) (d : Option Tmp) {v : AV} {x : Value} (hr : Rel E v x) : Sim E (st.put d v) (a.put d x) := by
  cases d with
  | none => exact h
  | some d =>
    unfold St.put
    by_cases hd : d < st.nt
    · have hb : nblt d st.nt = true := by simpa [nblt_eq] using hd
      simp only [hb, cond_true]
      refine ⟨h.wf, h.defers, by simp [Act.put, h.size], ?_, h.sto, h.used, h.keys⟩
      intro t u hu
      simp only [lk_cons] at hu
      by_cases ht : d = t
      · subst ht
        rw [if_pos rfl] at hu
        obtain rfl := Option.some.inj hu
        refine ⟨x, ?_, hr⟩
        simp [Act.put, Array.getElem?_setIfInBounds, h.size, hd]
      · rw [if_neg ht] at hu
        obtain ⟨y, hy, hry⟩ := h.tmps t u hu
        refine ⟨y, ?_, hry⟩
        simp [Act.put, Array.getElem?_setIfInBounds, ht, hy]
    · have hb : nblt d st.nt = false := by
        cases hq : nblt d st.nt with
        | false => rfl
        | true => exact absurd (by simpa [nblt_eq] using hq) hd
      simp only [hb, cond_false]
      have : a.put (some d) x = a := by
        have : ¬ d < a.tmps.size := by rw [h.size]; exact hd
        simp [Act.put, Array.setIfInBounds, this]
      rw [this]
      exact h

def lift (E₀ : Env) (Q : Exit -> St -> Prop) : Exit -> Act -> World -> Prop := fun e a w =>
  (match e with | .normal | .exit _ | .ret => True | _ => False) /\ ∃ E st, E.w = w /\ Fr E₀ E /\ Sim E st a /\ Q e st

theorem lift_mono {E₀ E₁ : Env} {Q Q' : Exit -> St -> Prop} (hf : Fr E₀ E₁) (hq : ∀ e st, Q e st -> Q' e st) : ∀ e a w, lift E₁ Q e a w -> lift E₀ Q' e a w := by
  rintro e a w ⟨h1, E, st, hw, hfr, hs, hQ⟩
  exact ⟨h1, E, st, hw, hf.trans hfr, hs, hq _ _ hQ⟩

def awp (P : Program) (c : Code) (Q : Exit -> St -> Prop) (st : St) : Prop :=
  ∀ E a, Sim E st a -> c.wp P (lift E Q) a E.w

def thenQ (n : St -> Prop) (Q : Exit -> St -> Prop) : Exit -> St -> Prop
  | .normal, st => n st
  | e, st => Q e st

def blockQ (id : Nat) (Q : Exit -> St -> Prop) : Exit -> St -> Prop
  | .exit id', st => bif nbeq id' id then Q .normal st else Q (.exit id') st
  | e, st => Q e st

section
variable {P : Program} {Q : Exit -> St -> Prop} {st : St}

theorem awp_mono {c : Code} {Q' : Exit -> St -> Prop} (h : awp P c Q st) (hq : ∀ e st, Q e st -> Q' e st) : awp P c Q' st :=
  fun E a hs => wp_mono (h E a hs) (lift_mono (Fr.refl E) hq)

theorem awp_skip (h : Q .normal st) : awp P .skip Q st := fun E a hs => wp_skip ⟨trivial, E, st, rfl, Fr.refl E, hs, h⟩
theorem awp_label {l : Nat} (h : Q .normal st) : awp P (.label l) Q st := fun E a hs => wp_label ⟨trivial, E, st, rfl, Fr.refl E, hs, h⟩
theorem awp_exit {id : Nat} (h : Q (.exit id) st) : awp P (.exit id) Q st := fun E a hs => wp_exit ⟨trivial, E, st, rfl, Fr.refl E, hs, h⟩
theorem awp_ret (h : Q .ret st) : awp P .ret Q st := fun E a hs => wp_ret ⟨trivial, E, st, rfl, Fr.refl E, hs, h⟩

theorem awp_seq {x y : Code} (h : awp P x (thenQ (awp P y Q) Q) st) : awp P (.seq x y) Q st := by
  intro E a hs
  refine wp_seq (wp_mono (h E a hs) ?_)
  rintro e a' w' ⟨h1, E', st', rfl, hf, hs', hq⟩
  cases e with
  | normal => exact wp_mono (hq E' a' hs') (lift_mono hf (fun _ _ h => h))
  | exit id => exact ⟨h1, E', st', rfl, hf, hs', hq⟩
  | ret => exact ⟨h1, E', st', rfl, hf, hs', hq⟩
  | _ => exact h1.elim

theorem awp_block {id : Nat} {c : Code} (h : awp P c (blockQ id Q) st) : awp P (.block id c) Q st := by
  intro E a hs
  refine wp_block (wp_mono (h E a hs) ?_)
  rintro e a' w' ⟨h1, E', st', rfl, hf, hs', hq⟩
  cases e with
  | normal => exact ⟨h1, E', st', rfl, hf, hs', hq⟩
  | exit id' =>
    simp only [Exit.inBlock]
    by_cases hid : id' = id
    · subst hid
      simp only [blockQ, nbeq_refl, cond_true] at hq
      rw [if_pos rfl]; exact ⟨trivial, E', st', rfl, hf, hs', hq⟩
    · have : nbeq id' id = false := by
        cases hb : nbeq id' id with
        | false => rfl
        | true => exact absurd (nbeq_eq hb) hid
      simp only [blockQ, this, cond_false] at hq
      rw [if_neg hid]; exact ⟨trivial, E', st', rfl, hf, hs', hq⟩
  | ret => exact ⟨h1, E', st', rfl, hf, hs', hq⟩
  | _ => exact h1.elim

theorem rel_bool {E : Env} {b : Bool} {x : Value} (h : Rel E (.bool b) x) : x = .bool b := by
  cases h with
  | base _ _ h => cases h; rfl

theorem awp_cond {c : Operand} {x y : Code} {b : Bool} (hc : st.ev c = .bool b) (ht : b = true -> awp P x Q st) (hf : b = false -> awp P y Q st) : awp P (.cond c x y) Q st := by
  intro E a hs
  have hr := hs.ev c
  rw [hc] at hr
  exact wp_cond_split (rel_bool hr) (fun h => ht h E a hs) (fun h => hf h E a hs)

theorem wp_loop_n {P : Program} {Q : Exit -> Act -> World -> Prop} {a : Act} {w : World} {c : Code} (I : Nat -> Act -> World -> Prop) (n₀ : Nat) (h₀ : I n₀ a w)
    (round : ∀ n a w, I n a w -> c.wp P (Exit.then (fun a' w' => ∃ m, m < n /\ I m a' w') Q) a w) : (Code.loop c).wp P Q a w := by
  intro b k cs
  have key : ∀ n a w, I n a w ->
      ∃ e a' w', Q e a' w' /\ Arrives P (lone (b.at a (.code c :: .inLoop c :: k)) cs w) b k cs e a' w' := by
    intro n
    induction n using Nat.strongRecOn with
    | _ n ih =>
      intro a w hI
      obtain ⟨e, a₁, w₁, hq, harr⟩ := round n a w hI b (.inLoop c :: k) cs
      cases e with
      | normal =>
        obtain ⟨m, hlt, hI₁⟩ := hq
        obtain ⟨e₂, a₂, w₂, hq₂, harr₂⟩ := ih m hlt a₁ w₁ hI₁
        exact ⟨e₂, a₂, w₂, hq₂, .of_steps (Steps.trans harr (.one step_inLoop)) harr₂⟩
      | exit id => exact ⟨_, a₁, w₁, hq, .pass (x := .inLoop c) rfl (fun _ _ => .inl (by simp)) harr⟩
      | goto l => exact ⟨_, a₁, w₁, hq, .pass (x := .inLoop c) rfl (fun _ _ => .inl (by simp)) harr⟩
      | ret => exact ⟨_, a₁, w₁, hq, .pass (x := .inLoop c) rfl (fun _ _ => .inl (by simp)) harr⟩
      | panic ch => exact ⟨_, a₁, w₁, hq, .pass (x := .inLoop c) rfl (fun _ _ => .inl (by simp)) harr⟩
      | outgrown => exact ⟨_, a₁, w₁, hq, .pass (x := .inLoop c) rfl (fun _ _ => .inl (by simp)) harr⟩
  obtain ⟨e, a', w', hq, harr⟩ := key _ a w h₀
  exact ⟨e, a', w', hq, .of_steps (.one step_loop) harr⟩

def Weak (st st' : St) : Prop := ∀ E a, Sim E st a -> ∃ E', E'.w = E.w /\ Fr E E' /\ Sim E' st' a

theorem awp_loop {c : Code} (F : Nat -> St -> Prop) (n₀ : Nat) (st₀ : St) (hst : Weak st st₀) (h₀ : F n₀ st₀)
    (round : ∀ n s, F n s -> awp P c (thenQ (fun s' => ∃ m s'', m < n /\ F m s'' /\ Weak s' s'') Q) s) : awp P (.loop c) Q st := by
  intro E a hs
  obtain ⟨E0, hw0, hf0, hs0⟩ := hst E a hs
  refine wp_loop_n (fun n a' w' => ∃ E' s, E'.w = w' /\ Fr E E' /\ F n s /\ Sim E' s a') n₀ ⟨E0, st₀, hw0, hf0, h₀, hs0⟩ ?_
  rintro n a' w' ⟨E', s, rfl, hf, hF, hs'⟩
  refine wp_mono (round n s hF E' a' hs') ?_
  rintro e a'' w'' ⟨h1, E'', st', rfl, hf', hs'', hq⟩
  cases e with
  | normal =>
    obtain ⟨m, s'', hm, hF', hwk⟩ := hq
    obtain ⟨E3, hw3, hf3, hs3⟩ := hwk E'' a'' hs''
    exact ⟨m, hm, E3, s'', hw3, hf.trans (hf'.trans hf3), hF', hs3⟩
  | exit id => exact ⟨h1, E'', st', rfl, hf.trans hf', hs'', hq⟩
  | ret => exact ⟨h1, E'', st', rfl, hf.trans hf', hs'', hq⟩
  | _ => exact h1.elim

theorem awp_weak {c : Code} {st' : St} (h : Weak st st') (k : awp P c Q st') : awp P c Q st := by
  intro E a hs
  obtain ⟨E', hw, hf, hs'⟩ := h E a hs
  have := k E' a hs'
  rw [hw] at this
  exact wp_mono this (lift_mono hf (fun _ _ h => h))

def lkAll {α : Type} (l : List (Nat × α)) (p : Nat -> α -> Prop) : Prop :=
  match l with
  | [] => True
  | (k, v) :: r => p k v /\ lkAll r p

theorem lkAll_spec {α : Type} {p : Nat -> α -> Prop} : ∀ (l : List (Nat × α)), lkAll l p -> ∀ t v, lk l t = some v -> p t v
  | [], _, t, v, h => by simp [lk] at h
  | (k, u) :: r, ⟨h1, h2⟩, t, v, h => by
    rw [lk_cons] at h
    by_cases hk : k = t
    · subst hk; rw [if_pos rfl] at h; obtain rfl := Option.some.inj h; exact h1
    · rw [if_neg hk] at h; exact lkAll_spec r h2 t v h

theorem Weak.refl (st : St) : Weak st st := fun E a hs => ⟨E, rfl, Fr.refl E, hs⟩
theorem Weak.trans {s t u : St} (h : Weak s t) (k : Weak t u) : Weak s u := fun E a hs => by
  obtain ⟨E', hw, hf, hs'⟩ := h E a hs
  obtain ⟨E'', hw', hf', hs''⟩ := k E' a hs'
  exact ⟨E'', hw'.trans hw, hf.trans hf', hs''⟩

def OpOk (P : Program) (o : Oper) (st : St) (K : AV -> St -> Prop) : Prop :=
  ∀ (E : Env) (a : Act) (KW : Act -> World -> Prop) (QW : Exit -> Act -> World -> Prop), Sim E st a ->
    (∀ E' v x st', Fr E E' -> Sim E' st' a -> Rel E' v x -> K v st' -> KW (a.put o.dst x) E'.w) -> o.wp P a E.w KW QW

theorem OpOk.mono {o : Oper} {K K' : AV -> St -> Prop} (h : OpOk P o st K) (hk : ∀ v s, K v s -> K' v s) : OpOk P o st K' :=
  fun E a KW QW hs hK => h E a KW QW hs (fun E' v x st' h1 h2 h3 h4 => hK E' v x st' h1 h2 h3 (hk _ _ h4))

def awpL (P : Program) (ops : Array Oper) (Q : Exit -> St -> Prop) (l : List Oper) (st : St) : Prop :=
  ∀ E₀ E a, Fr E₀ E -> Sim E st a -> wpList P ops (lift E₀ Q) l a E.w

theorem awpL_nil {ops : Array Oper} (h : Q .normal st) : awpL P ops Q [] st := fun E₀ E a hf hs => ⟨trivial, E, st, rfl, hf, hs, h⟩

theorem awpL_cons {ops : Array Oper} {o : Oper} {rest : List Oper} (hg : o.guard = none) (h : OpOk P o st fun v s => awpL P ops Q rest (s.put o.dst v)) : awpL P ops Q (o :: rest) st :=
  fun E₀ E a hf hs => wpList_plain hg fun KW hK => h E a KW _ hs fun E' v x st' hf' hs' hr hk => hK _ _ (hk E₀ E' _ (hf.trans hf') (hs'.put o.dst hr))

def dstOf (ops : Array Oper) (j : Nat) : Option Tmp := (ops[j]?).bind (·.dst)

theorem rel_skip (E : Env) : Rel E (.tup []) undef := .tup [] #[] rfl (fun j v x h => by simp at h)

theorem yielded_skip {E : Env} {a : Act} (hs : Sim E st a) {ops : Array Oper} {j t : Nat} (hd : dstOf ops j = some t) (hb : st.get t = .tup []) : yielded ops a.tmps j = none := by
  unfold St.get at hb
  cases hq : lk st.tmps t with
  | none => simp [hq] at hb
  | some v =>
    simp [hq] at hb
    subst hb
    obtain ⟨x, hx, hr⟩ := hs.tmps t _ hq
    have hxe : ∃ xs : Array Value, x = .tuple xs := by
      cases hr with
      | base _ _ h => cases h
      | tup _ xs _ _ => exact ⟨xs, rfl⟩
    obtain ⟨xs, rfl⟩ := hxe
    unfold dstOf at hd
    simp [yielded, hd, hx]

theorem yielded_of {E : Env} {a : Act} (hs : Sim E st a) {ops : Array Oper} {j t : Nat} {b : Bool} (hd : dstOf ops j = some t) (hb : st.get t = .bool b) : yielded ops a.tmps j = some b := by
  unfold St.get at hb
  cases hq : lk st.tmps t with
  | none => simp [hq] at hb
  | some v =>
    simp [hq] at hb
    subst hb
    obtain ⟨x, hx, hr⟩ := hs.tmps t _ hq
    obtain rfl := rel_bool hr
    unfold dstOf at hd
    simp [yielded, hd, hx]

theorem awpL_guard {ops : Array Oper} {o : Oper} {rest : List Oper} {j t : Nat} {want b : Bool} (hg : o.guard = some (j, want)) (hd : dstOf ops j = some t) (hb : st.get t = .bool b)
    (h1 : b = want -> OpOk P o st fun v s => awpL P ops Q rest (s.put o.dst v)) (h2 : b = !want -> awpL P ops Q rest (st.put o.dst (.tup []))) : awpL P ops Q (o :: rest) st := by
  intro E₀ E a hf hs
  refine wpList_step fun KW hK => ?_
  have hy := yielded_of hs hd hb
  by_cases hbw : b = want
  · rw [if_pos (by simp [Region.wanted, hg, hy, hbw])]
    exact h1 hbw E a KW _ hs fun E' v x st' hf' hs' hr hk => hK _ _ (hk E₀ E' _ (hf.trans hf') (hs'.put o.dst hr))
  · rw [if_neg (by simp [Region.wanted, hg, hy, hbw])]
    refine hK _ _ (h2 (by cases b <;> cases want <;> simp_all) E₀ E _ hf (hs.put o.dst (rel_skip E)))

theorem awpL_skip {ops : Array Oper} {o : Oper} {rest : List Oper} {j t : Nat} {want : Bool} (hg : o.guard = some (j, want)) (hd : dstOf ops j = some t) (hb : st.get t = .tup [])
    (h : awpL P ops Q rest (st.put o.dst (.tup []))) : awpL P ops Q (o :: rest) st := by
  intro E₀ E a hf hs
  refine wpList_step fun KW hK => ?_
  have hy := yielded_skip hs hd hb
  rw [if_neg (by simp [Region.wanted, hg, hy])]
  exact hK _ _ (h E₀ E _ hf (hs.put o.dst (rel_skip E)))

theorem awp_region {id : Nat} {ops : Array Oper} (h : awpL P ops Q ops.toList st) : awp P (.region id ops false) Q st :=
  fun E a hs => wp_region_list (h E E a (Fr.refl E) hs)

theorem OpOk.pure {o : Oper} {K : AV -> St -> Prop} (v : AV) (h : ∀ E a, Sim E st a -> ∃ x, (execOp a.eval o).run P E.w = .ok (.value x) E.w /\ Rel E v x) (hk : K v st) : OpOk P o st K := by
  intro E a KW QW hs hK
  obtain ⟨x, hx, hr⟩ := h E a hs
  unfold Oper.wp
  rw [hx]
  exact hK E v x st (Fr.refl E) hs hr hk

end
end Go.Proofs.YtihfpbhalnedcaaGreat.AM

namespace Go.Proofs.YtihfpbhalnedcaaGreat.AM
open Go Go.RowKit

def rm {α : Type} : List (Nat × α) -> Nat -> List (Nat × α)
  | [], _ => []
  | (k, v) :: r, n => bif nbeq k n then rm r n else (k, v) :: rm r n

theorem lk_rm {α : Type} (l : List (Nat × α)) (n t : Nat) : lk (rm l n) t = if n = t then none else lk l t := by
  induction l with
  | nil => simp [rm, lk]
  | cons p r ih =>
    obtain ⟨k, v⟩ := p
    unfold rm
    by_cases hk : k = n
    · subst hk
      rw [nbeq_refl, cond_true, ih, lk_cons]
      by_cases ht : k = t
      · rw [if_pos ht, if_pos ht]
      · rw [if_neg ht, if_neg ht, if_neg ht]
    · rw [nbeq_ne hk, cond_false, lk_cons, ih, lk_cons]
      by_cases ht : n = t
      · subst ht
        rw [if_neg hk, if_pos rfl, if_pos rfl]
      · rw [if_neg ht, if_neg ht]

abbrev Ren := List (Nat × (Nat × Nat))

def Ren.inv : Ren -> Nat -> Option (Nat × Nat)
  | [], _ => none
  | (t, (s, o)) :: r, n => bif nbeq s n then some (t, o) else Ren.inv r n

def Ren.ok : Ren -> Bool
  | [] => true
  | (t, (s, _)) :: r => r.all (fun p => !(nbeq p.1 t) && !(nbeq p.2.1 s)) && Ren.ok r

theorem lk_mem {α : Type} : ∀ {l : List (Nat × α)} {k : Nat} {v : α}, lk l k = some v -> (k, v) ∈ l
  | [], _, _, h => by simp [lk] at h
  | (k', v') :: r, k, v, h => by
    rw [lk_cons] at h
    by_cases he : k' = k
    · rw [if_pos he] at h; obtain rfl := Option.some.inj h; rw [he]; simp
    · rw [if_neg he] at h; exact List.mem_cons_of_mem _ (lk_mem h)

theorem Ren.inv_mem : ∀ {ρ : Ren} {s t o : Nat}, ρ.inv s = some (t, o) -> (t, (s, o)) ∈ ρ
  | [], _, _, _, h => by simp [Ren.inv] at h
  | (t', (s', o')) :: r, s, t, o, h => by
    unfold Ren.inv at h
    by_cases hk : s' = s
    · subst hk
      rw [nbeq_refl, cond_true] at h
      simp only [Option.some.injEq, Prod.mk.injEq] at h
      obtain ⟨rfl, rfl⟩ := h
      simp
    · rw [nbeq_ne hk, cond_false] at h
      exact List.mem_cons_of_mem _ (Ren.inv_mem h)

theorem Ren.of_mem : ∀ {ρ : Ren} (_ : ρ.ok = true) {s t o : Nat}, (t, (s, o)) ∈ ρ -> lk ρ t = some (s, o) /\ ρ.inv s = some (t, o)
  | [], _, _, _, _, h => by cases h
  | (t', (s', o')) :: r, hk, s, t, o, h => by
    unfold Ren.ok at hk
    rw [Bool.and_eq_true] at hk
    rcases List.mem_cons.1 h with h | h
    · simp only [Prod.mk.injEq] at h
      obtain ⟨rfl, rfl, rfl⟩ := h
      exact ⟨lk_cons_eq _ _ _, by unfold Ren.inv; rw [nbeq_refl, cond_true]⟩
    · have := List.all_eq_true.1 hk.1 _ h
      simp only [Bool.and_eq_true, Bool.not_eq_true'] at this
      have n1 : t' ≠ t := fun e => by subst e; rw [nbeq_refl] at this; cases this.1
      have n2 : s' ≠ s := fun e => by subst e; rw [nbeq_refl] at this; cases this.2
      obtain ⟨g1, g2⟩ := Ren.of_mem hk.2 h
      exact ⟨by rw [lk_cons_ne _ _ n1]; exact g1, by unfold Ren.inv; rw [nbeq_ne n2, cond_false]; exact g2⟩

theorem Ren.inv_of {ρ : Ren} (h : ρ.ok = true) {s t o : Nat} (k : lk ρ t = some (s, o)) : ρ.inv s = some (t, o) := (Ren.of_mem h (lk_mem k)).2
theorem Ren.lk_of {ρ : Ren} (h : ρ.ok = true) {s t o : Nat} (k : ρ.inv s = some (t, o)) : lk ρ t = some (s, o) := (Ren.of_mem h (Ren.inv_mem k)).1

def Loc.shift (o : Nat) (L : Loc) : Loc := { L with base := L.base + o * L.siz, cap := L.cap - o }

def renTag (ρ : Ren) : Tag -> Option Tag
  | .root s => (ρ.inv s).map fun p => .root p.1
  | .cell s i j => (ρ.inv s).bind fun p => if p.2 <= i then some (.cell p.1 (i - p.2) j) else none

def Env.ren (E : Env) (ρ : Ren) (S' : Nat -> Prop) (win' : Nat -> Option (Nat × Nat)) : Env :=
  ⟨E.w, S', fun b => (E.tag b).bind (renTag ρ), fun t => (lk ρ t).bind fun p => (E.loc p.1).map (Loc.shift p.2), win'⟩

mutual
def AV.back (ρ : Ren) : AV -> AV
  | .ref p t off len => match lk ρ t with
    | some (s, o) => .ref p s (off + o) len
    | none => .undef
  | .ptr t row fld => match lk ρ t with
    | some (s, o) => .ptr s row (fld + o)
    | none => .undef
  | .fn f x y => .fn f (backL ρ x) (backL ρ y)
  | .agg cs => .agg (backL ρ cs)
  | .tup cs => .tup (backL ρ cs)
  | v => v
def backL (ρ : Ren) : List AV -> List AV
  | [] => []
  | v :: r => v.back ρ :: backL ρ r
end

mutual
def AV.fits (ρ : Ren) : AV -> Bool
  | .ref _ t _ _ => (lk ρ t).isSome
  | .ptr t _ _ => match lk ρ t with
    | some (_, o) => nbeq o 0
    | none => false
  | .fn _ x y => fitsL ρ x && fitsL ρ y
  | .agg cs => fitsL ρ cs
  | .tup cs => fitsL ρ cs
  | _ => true
def fitsL (ρ : Ren) : List AV -> Bool
  | [] => true
  | v :: r => v.fits ρ && fitsL ρ r
end

theorem backL_get {ρ : Ren} : ∀ (l : List AV) (j : Nat), (backL ρ l)[j]? = (l[j]?).map (·.back ρ)
  | [], j => by simp [backL]
  | v :: r, j => by
    unfold backL
    cases j with
    | zero => rfl
    | succ j => simpa using backL_get r j

theorem backL_length {ρ : Ren} : ∀ (l : List AV), (backL ρ l).length = l.length
  | [] => rfl
  | v :: r => by simp [backL, backL_length r]

theorem fitsL_get {ρ : Ren} : ∀ {l : List AV} {j : Nat} {v : AV}, fitsL ρ l = true -> l[j]? = some v -> v.fits ρ = true
  | [], j, v, _, h => by simp at h
  | u :: r, j, v, hf, h => by
    unfold fitsL at hf
    rw [Bool.and_eq_true] at hf
    cases j with
    | zero => simp at h; subst h; exact hf.1
    | succ j => exact fitsL_get hf.2 (by simpa using h)

mutual
theorem AV.back_none (ρ : Ren) : ∀ v : AV, v.ids = [] -> v.back ρ = v /\ v.fits ρ = true
  | .ref _ _ _ _, h => by simp [AV.ids] at h
  | .ptr _ _ _, h => by simp [AV.ids] at h
  | .fn f x y, h => by
    unfold AV.ids at h
    have h := List.append_eq_nil_iff.1 h
    obtain ⟨a1, a2⟩ := backL_none ρ x h.1
    obtain ⟨b1, b2⟩ := backL_none ρ y h.2
    unfold AV.back AV.fits
    rw [a1, b1, a2, b2]; exact ⟨rfl, rfl⟩
  | .agg cs, h => by
    unfold AV.ids at h
    obtain ⟨a1, a2⟩ := backL_none ρ cs h
    unfold AV.back AV.fits
    rw [a1, a2]; exact ⟨rfl, rfl⟩
  | .tup cs, h => by
    unfold AV.ids at h
    obtain ⟨a1, a2⟩ := backL_none ρ cs h
    unfold AV.back AV.fits
    rw [a1, a2]; exact ⟨rfl, rfl⟩
  | .int _ _, _ => by unfold AV.back AV.fits; exact ⟨rfl, rfl⟩
  | .bool _, _ => by unfold AV.back AV.fits; exact ⟨rfl, rfl⟩
  | .nilS, _ => by unfold AV.back AV.fits; exact ⟨rfl, rfl⟩
  | .emp, _ => by unfold AV.back AV.fits; exact ⟨rfl, rfl⟩
  | .ro _, _ => by unfold AV.back AV.fits; exact ⟨rfl, rfl⟩
  | .own _ _ _, _ => by unfold AV.back AV.fits; exact ⟨rfl, rfl⟩
  | .ownp _, _ => by unfold AV.back AV.fits; exact ⟨rfl, rfl⟩
  | .rptr _, _ => by unfold AV.back AV.fits; exact ⟨rfl, rfl⟩
  | .undef, _ => by unfold AV.back AV.fits; exact ⟨rfl, rfl⟩
theorem backL_none (ρ : Ren) : ∀ l : List AV, idsL l = [] -> backL ρ l = l /\ fitsL ρ l = true
  | [], _ => by unfold backL fitsL; exact ⟨rfl, rfl⟩
  | v :: r, h => by
    unfold idsL at h
    have h := List.append_eq_nil_iff.1 h
    obtain ⟨a1, a2⟩ := AV.back_none ρ v h.1
    obtain ⟨b1, b2⟩ := backL_none ρ r h.2
    unfold backL fitsL
    rw [a1, b1, a2, b2]; exact ⟨rfl, rfl⟩
end

theorem Rel.ren {E : Env} {ρ : Ren} {S' : Nat -> Prop} {win' : Nat -> Option (Nat × Nat)} (hS : ∀ b, E.S b -> S' b) {u : AV} {x : Value} (h : Rel E u x) : ∀ v : AV, u = v.back ρ -> v.fits ρ = true -> Rel (E.ren ρ S' win') v x := by
  have loc : ∀ {t s o : Nat} {L : Loc}, lk ρ t = some (s, o) -> E.loc s = some L -> (E.ren ρ S' win').loc t = some (L.shift o) := fun h1 h2 => by simp [Env.ren, h1, h2]
  induction h with
  | base u x h =>
    intro v e hf
    have hm : Rel (E.ren ρ S' win') u x := .base _ _ (h.mono hS fun _ _ => rfl)
    cases v with
    | ref p t off len =>
      unfold AV.back at e
      split at e <;> subst e <;> cases h
    | ptr t row fld =>
      unfold AV.back at e
      split at e <;> subst e <;> cases h
    | fn f a b => unfold AV.back at e; subst e; cases h
    | agg cs => unfold AV.back at e; subst e; cases h
    | tup cs => unfold AV.back at e; subst e; cases h
    | _ => unfold AV.back at e; subst e; exact hm
  | ref0 id off cap a h =>
    intro v e hf
    cases v with
    | ref p t off' len =>
      unfold AV.back at e
      split at e
      · rename_i s o hl
        simp only [AV.ref.injEq] at e
        obtain ⟨rfl, rfl, rfl, rfl⟩ := e
        exact .ref0 _ _ _ _ h
      · cases e
    | ptr t row fld =>
      unfold AV.back at e
      split at e <;> cases e
    | _ => unfold AV.back at e; cases e
  | ref p id off len L cap h1 h2 h3 =>
    intro v e hf
    cases v with
    | ref p' t off' len' =>
      unfold AV.back at e
      split at e
      · rename_i s o hl
        simp only [AV.ref.injEq] at e
        obtain ⟨rfl, rfl, rfl, rfl⟩ := e
        have := Rel.ref (E := E.ren ρ S' win') p t off' len (L.shift o) cap (loc hl h1) h2 (by simp only [Loc.shift]; omega)
        have he : (L.shift o).base + off' * (L.shift o).siz = L.base + (off' + o) * L.siz := by
          simp only [Loc.shift]; rw [Nat.add_mul]; omega
        rw [he] at this
        exact this
      · cases e
    | ptr t row fld =>
      unfold AV.back at e
      split at e <;> cases e
    | _ => unfold AV.back at e; cases e
  | ptr id row fld L h1 =>
    intro v e hf
    cases v with
    | ptr t row' fld' =>
      unfold AV.back at e
      split at e
      · rename_i s o hl
        simp only [AV.ptr.injEq] at e
        obtain ⟨rfl, rfl, rfl⟩ := e
        unfold AV.fits at hf
        rw [hl] at hf
        have ho : o = 0 := nbeq_eq hf
        subst ho
        have := Rel.ptr (E := E.ren ρ S' win') t row fld' (L.shift 0) (loc hl h1)
        simpa [Loc.shift] using this
      · cases e
    | ref p' t off' len' =>
      unfold AV.back at e
      split at e <;> cases e
    | _ => unfold AV.back at e; cases e
  | rptr cells b o f h1 h2 h3 h4 h5 ih =>
    intro v e hf
    have hm : Rel (E.ren ρ S' win') (.rptr cells) (.pointer (some ⟨b, o, none⟩)) := .rptr cells b o f (hS b h1) h2 (fun j v hj hf => (h3 j v hj hf).mono hS fun _ _ => rfl) h4 (fun j v hj hf => ih j v hj hf v (AV.back_none ρ v (h4 j v hj hf)).1.symm (AV.back_none ρ v (h4 j v hj hf)).2)
    cases v with
    | rptr cs => unfold AV.back at e; cases e; exact hm
    | ptr t row fld =>
      unfold AV.back at e
      split at e <;> cases e
    | ref p' t off' len' =>
      unfold AV.back at e
      split at e <;> cases e
    | _ => unfold AV.back at e; cases e
  | fn f first caps xs ys h1 h2 h3 h4 ih1 ih2 =>
    intro v e hf
    cases v with
    | fn g a b =>
      unfold AV.back at e
      simp only [AV.fn.injEq] at e
      obtain ⟨rfl, rfl, rfl⟩ := e
      unfold AV.fits at hf
      rw [Bool.and_eq_true] at hf
      refine .fn _ _ _ xs ys (by rw [h1, backL_length]) (by rw [h2, backL_length]) (fun j v x hv hx => ?_) (fun j v x hv hx => ?_)
      · exact ih1 j (v.back ρ) x (by rw [backL_get, hv]; rfl) hx v rfl (fitsL_get hf.1 hv)
      · exact ih2 j (v.back ρ) x (by rw [backL_get, hv]; rfl) hx v rfl (fitsL_get hf.2 hv)
    | ptr t row fld =>
      unfold AV.back at e
      split at e <;> cases e
    | ref p' t off' len' =>
      unfold AV.back at e
      split at e <;> cases e
    | _ => unfold AV.back at e; cases e
  | agg cells xs h1 h2 h3 ih =>
    intro v e hf
    cases v with
    | agg cs =>
      unfold AV.back at e
      simp only [AV.agg.injEq] at e
      subst e
      unfold AV.fits at hf
      exact .agg _ xs (by rw [h1, backL_length]) h2 fun j v x hv hx => ih j (v.back ρ) x (by rw [backL_get, hv]; rfl) hx v rfl (fitsL_get hf hv)
    | ptr t row fld =>
      unfold AV.back at e
      split at e <;> cases e
    | ref p' t off' len' =>
      unfold AV.back at e
      split at e <;> cases e
    | _ => unfold AV.back at e; cases e
  | tup vs xs h1 h3 ih =>
    intro v e hf
    cases v with
    | tup cs =>
      unfold AV.back at e
      simp only [AV.tup.injEq] at e
      subst e
      unfold AV.fits at hf
      exact .tup _ xs (by rw [h1, backL_length]) fun j v x hv hx => ih j (v.back ρ) x (by rw [backL_get, hv]; rfl) hx v rfl (fitsL_get hf hv)
    | ptr t row fld =>
      unfold AV.back at e
      split at e <;> cases e
    | ref p' t off' len' =>
      unfold AV.back at e
      split at e <;> cases e
    | _ => unfold AV.back at e; cases e
  | undef x =>
    intro v e hf
    cases v with
    | undef => exact .undef _
    | ref p t off len =>
      unfold AV.fits at hf
      unfold AV.back at e
      cases hl : lk ρ t with
      | none => rw [hl] at hf; cases hf
      | some q => rw [hl] at e; cases e
    | ptr t row fld =>
      unfold AV.fits at hf
      unfold AV.back at e
      cases hl : lk ρ t with
      | none => rw [hl] at hf; cases hf
      | some q => rw [hl] at e; cases e
    | _ => unfold AV.back at e; cases e

def noRefs (rows : List (List AV)) : Prop := ∀ r ∈ rows, ∀ v ∈ r, v.ids = []

theorem ren_tag_root {E : Env} {ρ : Ren} {S' : Nat -> Prop} {win' : Nat -> Option (Nat × Nat)} (hρ : ρ.ok = true) {s t o b : Nat} (hl : lk ρ t = some (s, o)) (h : E.tag b = some (.root s)) : (E.ren ρ S' win').tag b = some (.root t) := by
  simp [Env.ren, h, renTag, Ren.inv_of hρ hl]

theorem ren_tag_cell {E : Env} {ρ : Ren} {S' : Nat -> Prop} {win' : Nat -> Option (Nat × Nat)} (hρ : ρ.ok = true) {s t o b i j : Nat} (hl : lk ρ t = some (s, o)) (h : E.tag b = some (.cell s (o + i) j)) : (E.ren ρ S' win').tag b = some (.cell t i j) := by
  simp [Env.ren, h, renTag, Ren.inv_of hρ hl]

theorem ren_arr {E : Env} {ρ : Ren} {S' : Nat -> Prop} {win' : Nat -> Option (Nat × Nat)} (hρ : ρ.ok = true) (hS : ∀ b, E.S b -> S' b) {s t o n sz : Nat} {fl : Bool} {rows rows' : List (List AV)} (hl : lk ρ t = some (s, o))
    (h : ORel E s (.arr sz fl rows)) (ho : o <= rows.length) (hr : rows' = (rows.drop o).take n) (hfl : fl = false -> noRefs rows') (hwin : ∀ b, E.tag b = some (.root s) -> E.win b = none -> win' b = none) : ORel (E.ren ρ S' win') t (.arr sz fl rows') := by
  rcases h with ⟨h1, h2⟩ | ⟨L, c, T, h1, hsz, h2, h3, h4, h5, h6, h7, hw, h8, h9⟩
  · subst h2
    refine .inl ⟨by simp [Env.ren, hl, h1], by rw [hr]; simp⟩
  · have hget : ∀ (i : Nat) (r : List AV), rows'[i]? = some r -> rows[o + i]? = some r := fun i r hh => by
      rw [hr, List.getElem?_take] at hh
      split at hh
      · rw [List.getElem?_drop] at hh; exact hh
      · cases hh
    have hlen : rows'.length <= rows.length - o := by rw [hr]; simp; omega
    refine .inr ⟨L.shift o, c, T, by simp [Env.ren, hl, h1], hsz, h2, ren_tag_root hρ hl h3, h4, ?_, by simp only [Loc.shift]; omega, by simp only [Loc.shift]; omega, hwin _ h3 hw, fun i r hi => h8 _ _ (hget i r hi), fun i j r v hi hj => ?_⟩
    · simp only [Loc.shift]
      rw [Nat.add_assoc, <- Nat.add_mul, show o + (L.cap - o) = L.cap by omega]
      exact h5
    · obtain ⟨y, y1, y2, y3⟩ := h9 _ j r v (hget i r hi) hj
      refine ⟨y, ?_, y2, ?_⟩
      · rw [<- y1]; congr 1
        simp only [Loc.shift]; rw [Nat.add_mul]; omega
      · cases fl with
        | true => exact y3
        | false =>
          rcases y3 with y3 | ⟨s', rs, e, y3⟩
          · refine .inl ?_
            have hids := hfl rfl r (List.mem_of_getElem? hi) v (List.mem_of_getElem? hj)
            exact y3.to (fun b hb => ⟨hS b hb, rfl⟩) fun q L hq _ => by rw [hids] at hq; cases hq
          · exact .inr ⟨s', rs, e, y3.mono fun b hb => ⟨ren_tag_cell hρ hl hb, rfl⟩⟩

theorem ren_box {E : Env} {ρ : Ren} {S' : Nat -> Prop} {win' : Nat -> Option (Nat × Nat)} (hρ : ρ.ok = true) (hS : ∀ b, E.S b -> S' b) {s t o : Nat} {cells cells' : List AV} (hl : lk ρ t = some (s, o))
    (h : ORel E s (.box cells)) (hle : o + cells'.length <= cells.length) (hc : ∀ (j : Nat) (v u : AV) (y : Value), cells'[j]? = some v -> cells[o + j]? = some u -> Rel E u y -> Rel E (v.back ρ) y) (hf : fitsL ρ cells' = true)
    (hwin : ∀ L lo hi, E.loc s = some L -> (∀ lo hi, E.win L.blk = some (lo, hi) -> lo <= L.base /\ L.base + cells.length <= hi) -> win' L.blk = some (lo, hi) -> lo <= L.base + o /\ L.base + o + cells'.length <= hi) : ORel (E.ren ρ S' win') t (.box cells') := by
  obtain ⟨L, c, T, h1, h2, h3, h4, h5, hw, h6⟩ := h
  have hb : (L.shift o).base = L.base + o := by simp [Loc.shift, h2]
  refine ⟨L.shift o, c, T, by simp [Env.ren, hl, h1], h2, ren_tag_root hρ hl h3, h4, by rw [hb]; omega, fun lo hi hq => ?_, fun j v hj => ?_⟩
  · rw [hb]; exact hwin L lo hi h1 hw hq
  · have hj' := (List.getElem?_eq_some_iff.1 hj).1
    have hu : cells[o + j]? = some cells[o + j] := List.getElem?_eq_getElem (by omega)
    obtain ⟨y, y1, y2, y3⟩ := h6 _ _ hu
    exact ⟨y, by rw [hb, <- y1]; congr 1; omega, y2, (hc j v _ y hj hu y3).ren hS v rfl (fitsL_get hf hj)⟩

def Ren.low (ρ : Ren) (used : List Nat) : Bool :=
  used.all (fun u => nble lab0 u || (match lk ρ u with | some (s, o) => nbeq s u && nbeq o 0 | none => false)) && ρ.all (fun p => nble lab0 p.1 && nble lab0 p.2.1 || nbeq p.1 p.2.1)

def stoOk (s : St) (ρ : Ren) (i : Nat) (o : Obj) : Prop :=
  match lk ρ i with
  | some (src, off) => match o with
    | .box cells => nbeq off 0 = true /\ lk s.sto src = some (.box (backL ρ cells)) /\ fitsL ρ cells = true
    | .arr sz true rows => ∃ rows0, lk s.sto src = some (.arr sz true rows0) /\ off <= rows0.length /\ rows0.drop off = rows
    | .arr sz false rows => (∃ rows0, lk s.sto src = some (.arr sz false rows0) /\ off <= rows0.length /\ rows0.drop off = rows) /\ noRefs rows
  | none => False

theorem Weak.to (ρ : Ren) {s t : St} (hρ : ρ.ok = true) (hn : t.nt = s.nt) (hlow : ρ.low s.used = true) (hu : ρ.all (fun p => t.used.elem p.1) = true)
    (ht : lkAll t.tmps fun k v => lk s.tmps k = some (v.back ρ) /\ v.fits ρ = true) (ho : lkAll t.sto fun i o => stoOk s ρ i o) : Weak s t := by
  intro E a hs
  have ht' := lkAll_spec _ ht
  have ho' := lkAll_spec _ ho
  unfold Ren.low at hlow
  rw [Bool.and_eq_true] at hlow
  have hlow1 : ∀ u, u ∈ s.used -> u < lab0 -> lk ρ u = some (u, 0) := fun u hu hlt => by
    have := List.all_eq_true.1 hlow.1 u hu
    rw [Bool.or_eq_true] at this
    rcases this with h | h
    · have := nble_le h; omega
    · cases hq : lk ρ u with
      | none => rw [hq] at h; cases h
      | some p =>
        obtain ⟨q, o⟩ := p
        rw [hq] at h
        simp only [Bool.and_eq_true] at h
        rw [nbeq_eq h.1, nbeq_eq h.2]
  have hS : ∀ b, E.S b -> E.S b := fun _ h => h
  have key : ∀ t' p, lk ρ t' = some p -> t.used.elem t' = true := fun t' p h => List.all_eq_true.1 hu _ (lk_mem h)
  have hlock : ∀ id L, id < lab0 -> E.loc id = some L -> (E.ren ρ E.S E.win).loc id = some L := fun id L hlt hL => by
    have := hs.used id L hL
    rw [List.elem_iff] at this
    simp [Env.ren, hlow1 id this hlt, hL, Loc.shift]
  refine ⟨E.ren ρ E.S E.win, rfl, Fr.ghost rfl rfl rfl rfl (fun b hb e => hb (by simp [Env.ren, e])) rfl hlock rfl, ⟨fun b hb => ?_, fun b hb => ?_, fun b hb => ?_⟩, hs.defers, hs.size.trans hn.symm, fun k v hv => ?_, fun i o hv => ?_, fun i L hL => ?_, fun i o hv => ?_⟩
  · obtain ⟨h1, h2⟩ := hs.wf.still b hb
    exact ⟨by simp [Env.ren, h1], h2⟩
  · exact hs.wf.owned b (fun e => hb (by simp [Env.ren, e]))
  · obtain ⟨h1, k, L, h2, hL, hb', h3⟩ := hs.wf.windows b hb
    have hk : lk ρ k = some (k, 0) := hlow1 k (by have := hs.used k L hL; rwa [List.elem_iff] at this) h2
    exact ⟨h1, k, L, h2, hlock k L h2 hL, hb', ren_tag_root hρ hk h3⟩
  · obtain ⟨h1, h2⟩ := ht' k v hv
    obtain ⟨x, hx, hr⟩ := hs.tmps k _ h1
    exact ⟨x, hx, hr.ren hS v rfl h2⟩
  · have h := ho' i o hv
    unfold stoOk at h
    cases hq : lk ρ i with
    | none => rw [hq] at h; exact h.elim
    | some p =>
      obtain ⟨src, off⟩ := p
      rw [hq] at h
      cases o with
      | box cells =>
        obtain ⟨h1, h2, h3⟩ := h
        have h1 := nbeq_eq h1
        subst h1
        have hlen : (backL ρ cells).length = cells.length := backL_length _
        refine ren_box hρ hS hq (hs.sto src _ h2) (by omega) (fun j v u y hv hu hr => ?_) h3 (fun L lo hi _ hw hlh => ?_)
        · rw [Nat.zero_add, backL_get, hv] at hu
          simp at hu
          subst hu; exact hr
        · have := hw lo hi hlh
          omega
      | arr sz fl rows =>
        cases fl with
        | true =>
          obtain ⟨rows0, h1, h2, h3⟩ := h
          exact ren_arr hρ hS hq (hs.sto src _ h1) h2 (n := rows.length) (by rw [h3, List.take_length]) (fun e => by cases e) (fun b _ h => h)
        | false =>
          obtain ⟨⟨rows0, h1, h2, h3⟩, h4⟩ := h
          exact ren_arr hρ hS hq (hs.sto src _ h1) h2 (n := rows.length) (by rw [h3, List.take_length]) (fun _ => h4) (fun b _ h => h)
  · simp only [Env.ren] at hL
    cases hq : lk ρ i with
    | none => simp [hq] at hL
    | some p => exact key i p hq
  · have h := ho' i o hv
    unfold stoOk at h
    cases hq : lk ρ i with
    | none => rw [hq] at h; exact h.elim
    | some p => exact key i p hq

theorem rows_set_get {rows : List (List AV)} {i : Nat} {r : List AV} (hr : rows[i]? = some r) {j : Nat} {u : AV} {i' j' : Nat} {r' : List AV} {v : AV} (h1 : (rows.set i (r.set j u))[i']? = some r') (h2 : r'[j']? = some v) :
    (i' = i /\ j' = j /\ v = u) ∨ (¬ (i' = i /\ j' = j) /\ ∃ r0, rows[i']? = some r0 /\ r0[j']? = some v) := by
  have hi := (List.getElem?_eq_some_iff.1 hr).1
  rw [List.getElem?_set] at h1
  by_cases h : i = i'
  · subst h
    rw [if_pos rfl, if_pos hi] at h1
    obtain rfl := Option.some.inj h1
    rw [List.getElem?_set] at h2
    by_cases hj : j = j'
    · subst hj
      rw [if_pos rfl] at h2
      split at h2
      · exact .inl ⟨rfl, rfl, (Option.some.inj h2).symm⟩
      · cases h2
    · rw [if_neg hj] at h2
      exact .inr ⟨fun h => hj h.2.symm, r, hr, h2⟩
  · rw [if_neg h] at h1
    exact .inr ⟨fun h' => h h'.1.symm, r', h1, h2⟩

theorem rows_set_len {rows : List (List AV)} {i j n : Nat} {r : List AV} {u : AV} (hr : rows[i]? = some r) (h : ∀ (i : Nat) (r : List AV), rows[i]? = some r -> r.length = n) : ∀ (i' : Nat) (r' : List AV), (rows.set i (r.set j u))[i']? = some r' -> r'.length = n := by
  intro i' r' h1
  have hi := (List.getElem?_eq_some_iff.1 hr).1
  rw [List.getElem?_set] at h1
  by_cases hh : i = i'
  · subst hh
    rw [if_pos rfl, if_pos hi] at h1
    obtain rfl := Option.some.inj h1
    rw [List.length_set]; exact h _ _ hr
  · rw [if_neg hh] at h1
    exact h _ _ h1

theorem Sim.notUsed {E : Env} {st : St} {a : Act} (h : Sim E st a) {id : Nat} (hu : st.used.elem id = false) : E.loc id = none := by
  cases hq : E.loc id with
  | none => rfl
  | some L => rw [h.used id L hq] at hu; cases hu

theorem Weak.unfold {s : St} {id i j sz s0 L : Nat} {rows rows' : List (List AV)} {r : List AV} (hq : lk s.sto id = some (.arr s0 false rows)) (hr : rows[i]? = some r) (hc : r[j]? = some (.own sz true rows')) (hu : s.used.elem L = false) :
    Weak s { s with sto := (L, .arr sz true rows') :: (id, .arr s0 false (rows.set i (r.set j (.ref false L 0 rows'.length)))) :: s.sto, used := L :: s.used } := by
  intro E a hs
  have hLn := hs.notUsed hu
  have hLk : ∀ o, lk s.sto L = some o -> False := fun o h => by rw [hs.keys L o h] at hu; cases hu
  have hid : id ≠ L := fun e => hLk _ (e ▸ hq)
  rcases hs.sto id _ hq with ⟨g1, g2⟩ | ⟨L0, c, T, g1, gsz, g2, g3, g4, g5, g6, g7, gw, g8, g9⟩
  · subst g2; simp at hr
  obtain ⟨y, y1, y2, y3⟩ := g9 i j r _ hr hc
  have y3 : OwnAt E.w E.tag (.cell id i j) sz rows' y := by
    rcases y3 with y3 | ⟨_, _, e, y3⟩
    · cases y3 with
      | base _ _ h => cases h
    · cases e; exact y3
  -- where it lies
  have : ∃ (lc : Option Loc) (tag' : Nat -> Option Tag), (∀ b, tag' b ≠ none -> E.tag b ≠ none) /\ (∀ b, E.tag b ≠ none -> tag' b ≠ none) /\ (∀ b, E.tag b ≠ some (.cell id i j) -> tag' b = E.tag b) /\
      (∀ E' : Env, E'.w = E.w -> E'.win = E.win -> E'.tag = tag' -> E'.loc L = lc -> ORel E' L (.arr sz true rows') /\ Rel E' (.ref false L 0 rows'.length) y) := by
    rcases y3 with ⟨h1, h2⟩ | ⟨b, o, cap, c', T', h1, h2, h3, h4, h5, h5', h6, h7, h8, h9⟩
    · subst h1
      refine ⟨none, E.tag, fun _ h => h, fun _ h => h, fun _ _ => rfl, fun E' _ _ _ hl => ⟨.inl ⟨hl, rfl⟩, ?_⟩⟩
      rcases h2 with ⟨a, rfl⟩ | rfl <;> exact .ref0 _ _ _ _ rfl
    · refine ⟨some ⟨b, o, sz, cap⟩, fun b' => if b' = b then some (.root L) else E.tag b', fun b' hb => ?_, fun b' hb => ?_, fun b' hb => ?_, fun E' e1 e2 e3 e4 => ⟨.inr ⟨_, c', T', e4, rfl, h7, ?_, ?_, h4, h5, h6, ?_, h8, h9⟩, ?_⟩⟩
      · by_cases e : b' = b
        · subst e; rw [h2]; simp
        · simpa [e] using hb
      · by_cases e : b' = b
        · simp [e]
        · simpa [e] using hb
      · have : b' ≠ b := fun e => hb (e ▸ h2)
        simp [this]
      · rw [e3]; simp
      · rw [e1]; exact h3
      · rw [e2]
        cases hw : E.win b with
        | none => rfl
        | some p =>
          obtain ⟨_, k, _, _, _, _, ht⟩ := hs.wf.windows b (by rw [hw]; simp)
          rw [h2] at ht; cases ht
      · rw [h1]
        have := Rel.ref (E := E') false L 0 rows'.length _ cap e4 h5 (by simp)
        simpa using this
  obtain ⟨lc, tag', t1, t2, t3, t4⟩ := this
  let E' : Env := ⟨E.w, E.S, tag', fun k => if k = L then lc else E.loc k, E.win⟩
  have hloc : ∀ k Lk, E.loc k = some Lk -> E'.loc k = some Lk := fun k Lk hL => by
    have : k ≠ L := fun e => by rw [e, hLn] at hL; cases hL
    simp only [E', if_neg this]; exact hL
  obtain ⟨o1, o2⟩ := t4 E' rfl rfl rfl (by simp [E'])
  have hS : ∀ b, E.S b -> E'.S b /\ E'.w.heap[b]? = E.w.heap[b]? := fun b h => ⟨h, rfl⟩
  refine ⟨E', rfl, Fr.ghost rfl rfl rfl rfl t1 rfl (fun k Lk _ h => hloc k Lk h) rfl, ⟨fun b hb => ?_, fun b hb => hs.wf.owned b (t1 b hb), fun b hb => ?_⟩, hs.defers, hs.size, fun t v hv => ?_, fun k ob hk => ?_, fun k Lk hL => ?_, fun k ob hk => ?_⟩
  · obtain ⟨h1, h2⟩ := hs.wf.still b hb
    refine ⟨?_, h2⟩
    show tag' b = none
    rw [t3 b (by rw [h1]; simp)]; exact h1
  · obtain ⟨h1, k, Lk, h2, h3, hb', h4⟩ := hs.wf.windows b hb
    exact ⟨h1, k, Lk, h2, hloc k Lk h3, hb', by show tag' b = _; rw [t3 b (by rw [h4]; simp)]; exact h4⟩
  · obtain ⟨x, hx, hrx⟩ := hs.tmps t v hv
    exact ⟨x, hx, hrx.to hS fun k Lk _ h => hloc k Lk h⟩
  · rw [lk_cons] at hk
    by_cases e1 : L = k
    · subst e1
      rw [if_pos rfl] at hk
      obtain rfl := Option.some.inj hk
      exact o1
    · rw [if_neg e1, lk_cons] at hk
      by_cases e2 : id = k
      · subst e2
        rw [if_pos rfl] at hk
        obtain rfl := Option.some.inj hk
        refine .inr ⟨L0, c, T, hloc _ _ g1, gsz, g2, by show tag' _ = _; rw [t3 _ (by rw [g3]; simp)]; exact g3, g4, g5, by simpa using g6, g7, gw, rows_set_len hr g8, fun i' j' r' v hi' hj' => ?_⟩
        rcases rows_set_get hr hi' hj' with ⟨rfl, rfl, rfl⟩ | ⟨hne, r0, k1, k2⟩
        · exact ⟨y, y1, y2, .inl o2⟩
        · obtain ⟨z, z1, z2, z3⟩ := g9 _ _ _ _ k1 k2
          refine ⟨z, z1, z2, z3.to hS (fun k Lk _ h => hloc k Lk h) fun b hb => ⟨?_, rfl⟩⟩
          show tag' b = _
          rw [t3 b (by rw [hb]; simp; exact fun e => fun e' => hne ⟨e, e'⟩)]; exact hb
      · rw [if_neg e2] at hk
        refine (hs.sto k ob hk).to hS (by show (if k = L then lc else E.loc k) = _; rw [if_neg (Ne.symm e1)]) rfl (fun q Lq _ h => hloc q Lq h) fun b hb => ⟨?_, rfl⟩
        show tag' b = _
        rw [t3 b (by rcases hb with hb | ⟨_, _, hb⟩ <;> rw [hb] <;> simp; exact fun e => absurd e.symm e2)]
  · by_cases e : k = L
    · subst e; simp
    · simp only [E', if_neg e] at hL
      have := hs.used k Lk hL
      simp only [List.elem_cons, this]
      split <;> rfl
  · rw [lk_cons] at hk
    by_cases e1 : L = k
    · subst e1; simp
    · rw [if_neg e1, lk_cons] at hk
      have : s.used.elem k = true := by
        by_cases e2 : id = k
        · subst e2; exact hs.keys _ _ hq
        · rw [if_neg e2] at hk; exact hs.keys _ _ hk
      simp only [List.elem_cons, this]
      split <;> rfl

theorem Weak.fold {s : St} {id i j sz s0 L n : Nat} {p : Bool} {rows rows' : List (List AV)} {r : List AV} (hq : lk s.sto id = some (.arr s0 false rows)) (hr : rows[i]? = some r) (hc : r[j]? = some (.ref p L 0 n))
    (hL : lk s.sto L = some (.arr sz true rows')) (hn : rows'.length = n) (hlow : lab0 <= L) :
    Weak s { s with sto := (id, .arr s0 false (rows.set i (r.set j (.own sz true rows')))) :: rm s.sto L } := by
  intro E a hs
  have hid : id ≠ L := fun e => by rw [e, hL] at hq; cases hq
  rcases hs.sto id _ hq with ⟨g1, g2⟩ | ⟨L0, c, T, g1, gsz, g2, g3, g4, g5, g6, g7, gw, g8, g9⟩
  · subst g2; simp at hr
  obtain ⟨y, y1, y2, y3⟩ := g9 i j r _ hr hc
  have y3 : Rel E (.ref p L 0 n) y := by
    rcases y3 with y3 | ⟨_, _, e, y3⟩
    · exact y3
    · cases e
  have : ∃ (tag' : Nat -> Option Tag), (∀ b, tag' b ≠ none -> E.tag b ≠ none) /\ (∀ b, E.tag b ≠ some (.root L) -> tag' b = E.tag b) /\ OwnAt E.w tag' (.cell id i j) sz rows' y := by
    cases y3 with
    | base _ _ h => cases h
    | ref0 _ _ cap ad h0 =>
      subst h0
      refine ⟨E.tag, fun _ h => h, fun _ _ => rfl, .inl ⟨List.eq_nil_of_length_eq_zero hn, ?_⟩⟩
      cases ad with
      | none => exact .inr rfl
      | some ad => exact .inl ⟨ad, rfl⟩
    | ref _ _ _ _ Lc cap h1 h2 h3 =>
      rcases hs.sto L _ hL with ⟨k1, k2⟩ | ⟨L', c', T', k1, ksz, k2, k3, k4, k5, k6, k7, kw, k8, k9⟩
      · rw [k1] at h1; cases h1
      rw [k1] at h1
      obtain rfl := Option.some.inj h1
      refine ⟨fun b => if b = L'.blk then some (.cell id i j) else E.tag b, fun b hb => ?_, fun b hb => ?_, ?_⟩
      · by_cases e : b = L'.blk
        · subst e; rw [k3]; simp
        · simpa [e] using hb
      · have : b ≠ L'.blk := fun e => hb (e ▸ k3)
        simp [this]
      · rw [Nat.zero_mul, Nat.add_zero, <- hn]
        by_cases h0 : cap = 0
        · subst h0
          refine .inl ⟨List.eq_nil_of_length_eq_zero (by omega), .inl ⟨⟨L'.blk, L'.base, none⟩, ?_⟩⟩
          rw [show rows'.length = 0 by omega]
        · refine .inr ⟨L'.blk, L'.base, cap, c', T', rfl, by simp, k4, ?_, by omega, by omega, by omega, by rw [<- ksz]; exact k2, fun i r hi => by rw [<- ksz]; exact k8 i r hi, fun i j r v hi hj => by rw [<- ksz]; exact k9 i j r v hi hj⟩
          rw [<- ksz, show cap = L'.cap by omega]; exact k5
  obtain ⟨tag', t1, t3, t4⟩ := this
  let E' : Env := ⟨E.w, E.S, tag', E.loc, E.win⟩
  have hS : ∀ b, E.S b -> E'.S b /\ E'.w.heap[b]? = E.w.heap[b]? := fun b h => ⟨h, rfl⟩
  refine ⟨E', rfl, Fr.ghost rfl rfl rfl rfl t1 rfl (fun k Lk _ h => h) rfl, ⟨fun b hb => ?_, fun b hb => hs.wf.owned b (t1 b hb), fun b hb => ?_⟩, hs.defers, hs.size, fun t v hv => ?_, fun k ob hk => ?_, hs.used, fun k ob hk => ?_⟩
  · obtain ⟨h1, h2⟩ := hs.wf.still b hb
    refine ⟨?_, h2⟩
    show tag' b = none
    rw [t3 b (by rw [h1]; simp)]; exact h1
  · obtain ⟨h1, k, Lk, h2, h3, hb', h4⟩ := hs.wf.windows b hb
    refine ⟨h1, k, Lk, h2, h3, hb', ?_⟩
    show tag' b = _
    rw [t3 b (by rw [h4]; simp only [ne_eq, Option.some.injEq, Tag.root.injEq]; unfold lab0 at *; omega)]; exact h4
  · obtain ⟨x, hx, hrx⟩ := hs.tmps t v hv
    exact ⟨x, hx, hrx.to hS fun k Lk _ h => h⟩
  · rw [lk_cons] at hk
    by_cases e2 : id = k
    · subst e2
      rw [if_pos rfl] at hk
      obtain rfl := Option.some.inj hk
      refine .inr ⟨L0, c, T, g1, gsz, g2, by show tag' _ = _; rw [t3 _ (by rw [g3]; simpa using hid)]; exact g3, g4, g5, by simpa using g6, g7, gw, rows_set_len hr g8, fun i' j' r' v hi' hj' => ?_⟩
      rcases rows_set_get hr hi' hj' with ⟨rfl, rfl, rfl⟩ | ⟨hne, r0, k1, k2⟩
      · exact ⟨y, y1, y2, .inr ⟨_, _, rfl, t4⟩⟩
      · obtain ⟨z, z1, z2, z3⟩ := g9 _ _ _ _ k1 k2
        refine ⟨z, z1, z2, z3.to hS (fun k Lk _ h => h) fun b hb => ⟨?_, rfl⟩⟩
        show tag' b = _
        rw [t3 b (by rw [hb]; simp)]; exact hb
    · rw [if_neg e2, lk_rm] at hk
      by_cases e1 : L = k
      · rw [if_pos e1] at hk; cases hk
      · rw [if_neg e1] at hk
        refine (hs.sto k ob hk).to hS rfl rfl (fun q Lq _ h => h) fun b hb => ⟨?_, rfl⟩
        show tag' b = _
        rw [t3 b (by rcases hb with hb | ⟨_, _, hb⟩ <;> rw [hb] <;> simp; exact fun e => absurd e.symm e1)]
  · rw [lk_cons] at hk
    by_cases e2 : id = k
    · subst e2; exact hs.keys _ _ hq
    · rw [if_neg e2, lk_rm] at hk
      by_cases e1 : L = k
      · rw [if_pos e1] at hk; cases hk
      · rw [if_neg e1] at hk; exact hs.keys _ _ hk

end Go.Proofs.YtihfpbhalnedcaaGreat.AM

namespace Go.Proofs.YtihfpbhalnedcaaGreat.AM
open Go Go.RowKit

inductive TD where
  | int (k : IntKind)
  | bool
  | slice (e : Nat)
  | strct (fields : List (Nat × Nat))
  | func
  | other
  deriving DecidableEq, Inhabited

structure TI where
  desc : TD
  size : Nat
  bytes : Nat
  zero : List AV
  flat : Bool
  deriving Inhabited

def tdOf : TypeDesc -> TD
  | .int k => .int k
  | .bool => .bool
  | .slice e => .slice e
  | .struct fs => .strct (fs.toList.map fun f => (f.offset, f.type))
  | .func _ _ _ => .func
  | _ => .other

def tiOf (P : Program) (t : Nat) : Option TI :=
  match P.info? t, P.underlying t with
  | some i, some d => some { desc := tdOf d, size := i.size, bytes := i.bytes, flat := !i.hasPointers, zero := (i.zero.map fun z => z.cells.toList.map ofConst).getD [] }
  | _, _ => none

def TabOk (P : Program) (T : Nat -> Option TI) : Prop := ∀ t i, T t = some i -> tiOf P t = some i /\ i.zero.length = i.size /\ ((P.info? t).bind (·.zero)).any (fun z => z.cells.all (·.oneCell')) = true

theorem tabOk_of {P : Program} {l : List (Nat × TI)} (h : lkAll l fun t i => tiOf P t = some i /\ i.zero.length = i.size /\ ((P.info? t).bind (·.zero)).any (fun z => z.cells.all (·.oneCell')) = true) : TabOk P (lk l) :=
  fun t i hi => lkAll_spec l h t i hi

section
variable {P : Program} {T : Nat -> Option TI}

theorem TabOk.info (h : TabOk P T) {t : Nat} {i : TI} (hi : T t = some i) :
    ∃ info d z, P.info? t = some info /\ P.underlying t = some d /\ tdOf d = i.desc /\ info.size = i.size /\ info.bytes = i.bytes /\ info.zero = some z /\ z.cells.toList.map ofConst = i.zero /\ z.cells.size = i.size /\ z.cells.all (·.oneCell') = true := by
  obtain ⟨h1, h2, h3⟩ := h t i hi
  unfold tiOf at h1
  split at h1
  · rename_i info d hd hu
    obtain rfl := Option.some.inj h1
    cases hz : info.zero with
    | none => simp [hd, hz] at h3
    | some z =>
      refine ⟨info, d, z, hd, hu, rfl, rfl, rfl, hz, by simp [hz], ?_, by simpa [hd, hz] using h3⟩
      have : (z.cells.toList.map ofConst).length = info.size := by simpa [hz] using h2
      simpa using this
  · cases h1

theorem TabOk.size (h : TabOk P T) {t : Nat} {i : TI} (hi : T t = some i) (w : World) : (sizeOf t).run P w = .ok i.size w := by
  obtain ⟨info, d, z, h1, h2, h3, h4, _⟩ := h.info hi
  simp [sizeOf, typeInfo, h1, h4]

theorem TabOk.und (h : TabOk P T) {t : Nat} {i : TI} (hi : T t = some i) : ∃ d, P.underlying t = some d /\ tdOf d = i.desc := by
  obtain ⟨info, d, z, h1, h2, h3, h4, _⟩ := h.info hi
  exact ⟨d, h2, h3⟩

theorem tdOf_slice {d : TypeDesc} {e : Nat} (h : tdOf d = .slice e) : d = .slice e := by
  cases d <;> simp [tdOf] at h
  subst h; rfl
theorem tdOf_int {d : TypeDesc} {k : IntKind} (h : tdOf d = .int k) : d = .int k := by
  cases d <;> simp [tdOf] at h
  subst h; rfl
theorem tdOf_bool {d : TypeDesc} (h : tdOf d = .bool) : d = .bool := by
  cases d <;> simp [tdOf] at h
  rfl
theorem tdOf_strct {d : TypeDesc} {l : List (Nat × Nat)} (h : tdOf d = .strct l) : ∃ fs, d = .struct fs /\ fs.toList.map (fun f => (f.offset, f.type)) = l := by
  cases d <;> simp [tdOf] at h
  exact ⟨_, rfl, h⟩

def TD.isAgg : TD -> Bool
  | .strct _ => true
  | _ => false

def TD.known : TD -> Bool
  | .other => false
  | _ => true

theorem TabOk.agg (h : TabOk P T) {t : Nat} {i : TI} (hi : T t = some i) (hk : i.desc.known = true) (w : World) : (isAgg t).run P w = .ok i.desc.isAgg w := by
  obtain ⟨d, h1, h2⟩ := h.und hi
  unfold isAgg
  rw [Sem.run_bind, run_underlying h1 w]
  rw [<- h2] at hk ⊢
  clear h1 h2
  cases d <;> simp [tdOf, TD.isAgg, TD.known] at hk ⊢

variable {E : Env}

theorem rel_int {k : IntKind} {n : Int} {x : Value} (h : Rel E (.int k n) x) : x = .int k n /\ (Lit.int k n).wf = true := by
  cases h with
  | base _ _ h => cases h; exact ⟨rfl, ‹_›⟩

theorem rel_agg {cs : List AV} {x : Value} (h : Rel E (.agg cs) x) : ∃ xs : Array Value, x = .agg xs /\ xs.size = cs.length /\ (∀ (j : Nat) (y : Value), xs[j]? = some y -> y.oneCell' = true) /\
    (∀ (j : Nat) (v : AV) (y : Value), cs[j]? = some v -> xs[j]? = some y -> Rel E v y) := by
  cases h with
  | base _ _ h => cases h
  | agg _ xs h1 h2 h3 => exact ⟨xs, rfl, h1, h2, h3⟩

theorem rel_tup {cs : List AV} {x : Value} (h : Rel E (.tup cs) x) : ∃ xs : Array Value, x = .tuple xs /\ xs.size = cs.length /\
    (∀ (j : Nat) (v : AV) (y : Value), cs[j]? = some v -> xs[j]? = some y -> Rel E v y) := by
  cases h with
  | base _ _ h => cases h
  | tup _ xs h1 h3 => exact ⟨xs, rfl, h1, h3⟩

theorem wf_iff (k : IntKind) (n : Int) : (Lit.int k n).wf = true ↔ k.min <= n /\ n <= k.max := by simp [Lit.wf]

theorem wf_wrap (k : IntKind) (n : Int) : (Lit.int k (k.wrap n)).wf = true := by
  rw [wf_iff]
  cases k <;> simp only [IntKind.wrap, IntKind.min, IntKind.max, IntKind.signed, IntKind.bits] <;> simp <;> (try split) <;> omega

theorem wf_tmod (k : IntKind) (a b : Int) (ha : (Lit.int k a).wf = true) : (Lit.int k (a.tmod b)).wf = true := by
  rw [wf_iff] at ha ⊢
  have h1 : a.tmod b = a - b * a.tdiv b := Int.tmod_def a b
  have h2 : (a.tmod b).natAbs <= a.natAbs := by
    rw [Int.natAbs_tmod]; exact Nat.mod_le _ _
  have h3 : 0 <= a -> 0 <= a.tmod b := fun h => Int.tmod_nonneg b h
  have h4 : a <= 0 -> a.tmod b <= 0 := fun h => by
    have := Int.tmod_nonneg b (a := -a) (by omega)
    rw [Int.neg_tmod] at this
    omega
  have hk : k.min <= 0 /\ 0 <= k.max := by cases k <;> decide
  omega

variable {st : St} {K : AV -> St -> Prop} {o : Oper}

theorem ok_move {x : Operand} (ho : o.op = .move x ∨ o.op = .assign x) (hk : K (st.ev x) st) : OpOk P o st K :=
  OpOk.pure _ (fun E a hs => ⟨a.eval x, by rcases ho with h | h <;> simp [execOp, h], hs.ev x⟩) hk

theorem ok_pick {c x y : Operand} {b : Bool} (ho : o.op = .pick c x y) (hc : st.ev c = .bool b) (hk : K (bif b then st.ev x else st.ev y) st) : OpOk P o st K :=
  OpOk.pure _ (fun E a hs => by
    have hr := hs.ev c
    rw [hc] at hr
    refine ⟨if b then a.eval x else a.eval y, by simp [execOp, ho, rel_bool hr, asBool], ?_⟩
    cases b
    · exact hs.ev y
    · exact hs.ev x) hk

theorem ok_not {x : Operand} {t : Nat} {b : Bool} (ho : o.op = .unOp .not t x) (hx : st.ev x = .bool b) (hk : K (.bool (!b)) st) : OpOk P o st K :=
  OpOk.pure _ (fun E a hs => by
    have hr := hs.ev x
    rw [hx] at hr
    exact ⟨.bool (!b), by simp [execOp, ho, rel_bool hr, Op.unary], .base _ _ (.bool _)⟩) hk

theorem ok_neg {x : Operand} {t : Nat} {k : IntKind} {n : Int} (ho : o.op = .unOp .neg t x) (hx : st.ev x = .int k n) (hk : K (.int k (k.wrap (0 - n))) st) : OpOk P o st K :=
  OpOk.pure _ (fun E a hs => by
    have hr := hs.ev x
    rw [hx] at hr
    exact ⟨.int k (k.wrap (0 - n)), by simp [execOp, ho, (rel_int hr).1, Op.unary, Op.intArith], .base _ _ (.int _ _ (wf_wrap _ _))⟩) hk

def intBin (op : BinOp) (k : IntKind) (m n : Int) (K : AV -> Prop) : Prop :=
  match op with
  | .add => K (.int k (k.wrap (m + n)))
  | .sub => K (.int k (k.wrap (m - n)))
  | .mul => K (.int k (k.wrap (m * n)))
  | .quo => n ≠ 0 /\ K (.int k (k.wrap (m.tdiv n)))
  | .rem => n ≠ 0 /\ K (.int k (m.tmod n))
  | .and => K (.int k (k.wrap (BitVec.ofInt k.bits m &&& BitVec.ofInt k.bits n).toNat))
  | .shr => 0 <= n /\ K (.int k (k.wrap (m.fdiv (2 ^ (min n.toNat k.bits)))))
  | .eql => K (.bool (decide (m = n)))
  | .neq => K (.bool (decide (m ≠ n)))
  | .lss => K (.bool (decide (m < n)))
  | .leq => K (.bool (decide (m <= n)))
  | .gtr => K (.bool (decide (m > n)))
  | .geq => K (.bool (decide (m ≥ n)))
  | _ => False

theorem eqGuard_int {op : BinOp} {t : Nat} {x y : Operand} {k k' : IntKind} {m n : Int} (w : World) : (eqGuard op t x y (.int k m) (.int k' n)).run P w = .ok () w := by
  unfold eqGuard
  cases op <;> simp

theorem eqGuard_bool {op : BinOp} {t : Nat} {x y : Operand} {m n : Bool} (w : World) : (eqGuard op t x y (.bool m) (.bool n)).run P w = .ok () w := by
  unfold eqGuard
  cases op <;> simp

theorem eqGuard_slice {op : BinOp} {t : Nat} {x y : Operand} {a b : Option Addr} {m n c d : Nat} (w : World) : (eqGuard op t x y (.slice a m c) (.slice b n d)).run P w = .ok () w := by
  unfold eqGuard
  cases op <;> simp

theorem wf_fdiv (k : IntKind) (m : Int) (e : Nat) (hm : (Lit.int k m).wf = true) : k.wrap (m.fdiv (2 ^ e)) = m.fdiv (2 ^ e) := by
  rw [wf_iff] at hm
  have hp : (0 : Int) < 2 ^ e := Int.pow_pos (by decide)
  have h1 : m.fdiv (2 ^ e) = m / 2 ^ e := Int.fdiv_eq_ediv_of_nonneg _ (by omega)
  rw [h1]
  have h2 : 0 <= m -> 0 <= m / 2 ^ e /\ m / 2 ^ e <= m := fun h => ⟨Int.ediv_nonneg h (by omega), Int.ediv_le_self _ h⟩
  have h3 : m < 0 -> m <= m / 2 ^ e /\ m / 2 ^ e < 0 := fun h => by
    refine ⟨?_, Int.ediv_neg_of_neg_of_pos h hp⟩
    have := Int.le_ediv_of_mul_le (a := m) (b := m) hp (by
      have : (1 : Int) <= 2 ^ e := by omega
      calc m * 2 ^ e <= m * 1 := Int.mul_le_mul_of_nonpos_left (by omega) this
        _ = m := by omega)
    exact this
  have hb : k.min <= m / 2 ^ e /\ m / 2 ^ e <= k.max := by
    have hk : k.min <= 0 /\ 0 <= k.max := by cases k <;> decide
    rcases Int.lt_or_le m 0 with h | h
    · have := h3 h; omega
    · have := h2 h; omega
  generalize m / 2 ^ e = q at hb
  cases k <;> simp only [IntKind.wrap, IntKind.min, IntKind.max, IntKind.signed, IntKind.bits] at hb ⊢ <;> simp at hb ⊢ <;> (try split) <;> omega

theorem ok_intBin {op : BinOp} {t u : Nat} {x y : Operand} {k : IntKind} {m n : Int} (ho : o.op = .binOp op t x y u) (hx : st.ev x = .int k m) (hy : st.ev y = .int k n)
    (hk : intBin op k m n fun v => K v st) : OpOk P o st K := by
  have key : ∀ v : AV, ∀ xv : Value, (∀ w, (binOp op t (.int k m) (.int k n)).run P w = .ok xv w) -> (∀ E : Env, (Lit.int k m).wf = true -> Rel E v xv) -> K v st -> OpOk P o st K := by
    intro v xv h1 h2 h3
    refine OpOk.pure v (fun E a hs => ?_) h3
    have hrx := hs.ev x
    have hry := hs.ev y
    rw [hx] at hrx
    rw [hy] at hry
    refine ⟨xv, ?_, h2 E (rel_int hrx).2⟩
    simp [execOp, ho, (rel_int hrx).1, (rel_int hry).1, eqGuard_int, h1]
  cases op <;> simp only [intBin] at hk
  case add => exact key _ _ (fun w => by simp [binOp, Op.intArith]) (fun E _ => .base _ _ (.int _ _ (wf_wrap _ _))) hk
  case sub => exact key _ _ (fun w => by simp [binOp, Op.intArith]) (fun E _ => .base _ _ (.int _ _ (wf_wrap _ _))) hk
  case mul => exact key _ _ (fun w => by simp [binOp, Op.intArith]) (fun E _ => .base _ _ (.int _ _ (wf_wrap _ _))) hk
  case quo => exact key _ _ (fun w => by simp [binOp, Op.intDiv, hk.1]) (fun E _ => .base _ _ (.int _ _ (wf_wrap _ _))) hk.2
  case rem => exact key _ _ (fun w => by simp [binOp, Op.intDiv, hk.1]) (fun E hw => .base _ _ (.int _ _ (wf_tmod _ _ _ hw))) hk.2
  case and => exact key _ _ (fun w => by simp [binOp, Op.intBits]) (fun E _ => .base _ _ (.int _ _ (wf_wrap _ _))) hk
  case shr =>
    refine key _ (.int k (m.fdiv (2 ^ (min n.toNat k.bits)))) (fun w => by simp [binOp, Op.shift, Int.not_lt.2 hk.1]) (fun E hw => ?_) hk.2
    rw [wf_fdiv _ _ _ hw]
    exact .base _ _ (.int _ _ (by rw [<- wf_fdiv _ _ _ hw]; exact wf_wrap _ _))
  case eql => exact key _ (.bool (decide (m = n))) (fun w => by simp [binOp, Op.intCmp]; rfl) (fun E _ => .base _ _ (.bool _)) hk
  case neq => exact key _ (.bool (decide (m ≠ n))) (fun w => by simp [binOp, Op.intCmp, bne]; rfl) (fun E _ => .base _ _ (.bool _)) hk
  case lss => exact key _ _ (fun w => by simp [binOp, Op.intCmp]) (fun E _ => .base _ _ (.bool _)) hk
  case leq => exact key _ _ (fun w => by simp [binOp, Op.intCmp]) (fun E _ => .base _ _ (.bool _)) hk
  case gtr => exact key _ _ (fun w => by simp [binOp, Op.intCmp]) (fun E _ => .base _ _ (.bool _)) hk
  case geq => exact key _ _ (fun w => by simp [binOp, Op.intCmp]) (fun E _ => .base _ _ (.bool _)) hk

theorem ok_boolEq {op : BinOp} {t u : Nat} {x y : Operand} {m n : Bool} (h : TabOk P T) {i : TI} (hi : T t = some i) (hd : i.desc = .bool) (ho : o.op = .binOp op t x y u) (hx : st.ev x = .bool m) (hy : st.ev y = .bool n)
    (hk : (op = .eql /\ K (.bool (m == n)) st) ∨ (op = .neq /\ K (.bool (m != n)) st)) : OpOk P o st K := by
  obtain ⟨d, hu, htd⟩ := h.und hi
  have hdb := tdOf_bool (htd.trans hd)
  subst hdb
  have h1 : ∀ w, (binOp .eql t (.bool m) (.bool n)).run P w = .ok (.bool (m == n)) w := fun w => by simp [binOp, run_equal_bool w t m n hu]
  have h2 : ∀ w, (binOp .neq t (.bool m) (.bool n)).run P w = .ok (.bool (m != n)) w := fun w => by simp [binOp, run_equal_bool w t m n hu, bne]
  rcases hk with ⟨rfl, hk⟩ | ⟨rfl, hk⟩
  · refine OpOk.pure _ (fun E a hs => ?_) hk
    have hrx := hs.ev x
    have hry := hs.ev y
    rw [hx] at hrx
    rw [hy] at hry
    exact ⟨.bool (m == n), by simp [execOp, ho, rel_bool hrx, rel_bool hry, eqGuard_bool, h1], .base _ _ (.bool _)⟩
  · refine OpOk.pure _ (fun E a hs => ?_) hk
    have hrx := hs.ev x
    have hry := hs.ev y
    rw [hx] at hrx
    rw [hy] at hry
    exact ⟨.bool (m != n), by simp [execOp, ho, rel_bool hrx, rel_bool hry, eqGuard_bool, h2], .base _ _ (.bool _)⟩

theorem ok_extract {x : Operand} {i : Nat} {vs : List AV} {v : AV} (ho : o.op = .extract x i) (hx : st.ev x = .tup vs) (hv : vs[i]? = some v) (hk : K v st) : OpOk P o st K :=
  OpOk.pure _ (fun E a hs => by
    have hr := hs.ev x
    rw [hx] at hr
    obtain ⟨xs, h1, h2, h3⟩ := rel_tup hr
    have hlt : i < xs.size := by rw [h2]; exact (List.getElem?_eq_some_iff.1 hv).1
    have hg : xs[i]? = some xs[i] := Array.getElem?_eq_getElem hlt
    exact ⟨xs[i], by simp [execOp, ho, h1, Instr.extract, hg], h3 i v _ hv hg⟩) hk

theorem ok_convInt {src dst : Nat} {x : Operand} {k k' k0 : IntKind} {n : Int} (h : TabOk P T) {i j : TI} (hi : T src = some i) (hj : T dst = some j) (hid : i.desc = .int k0) (hjd : j.desc = .int k')
    (ho : o.op = .convert src dst x) (hx : st.ev x = .int k n) (hk : K (.int k' (k'.wrap n)) st) : OpOk P o st K := by
  obtain ⟨d, hu, htd⟩ := h.und hi
  obtain ⟨d', hu', htd'⟩ := h.und hj
  have h1 := tdOf_int (htd.trans hid)
  have h2 := tdOf_int (htd'.trans hjd)
  subst h1 h2
  refine OpOk.pure _ (fun E a hs => ?_) hk
  have hr := hs.ev x
  rw [hx] at hr
  exact ⟨.int k' (k'.wrap n), by simp [execOp, ho, (rel_int hr).1, convert, run_underlying hu, run_underlying hu', Conv.intToInt], .base _ _ (.int _ _ (wf_wrap _ _))⟩

theorem ok_makeFunc {f : FuncId} {first caps : Array Operand} (ho : o.op = .makeFunc (.func f) first caps) (hk : K (.fn f (first.toList.map st.ev) (caps.toList.map st.ev)) st) : OpOk P o st K :=
  OpOk.pure _ (fun E a hs => by
    refine ⟨.func (.func f) (first.map a.eval) (caps.map a.eval), by simp [execOp, ho, Instr.makeFunc], .fn _ _ _ _ _ (by simp) (by simp) ?_ ?_⟩
    all_goals
      intro j v x hv hx
      simp only [List.getElem?_map, Option.map_eq_some_iff] at hv
      obtain ⟨p, hp, rfl⟩ := hv
      simp only [Array.getElem?_map, Option.map_eq_some_iff] at hx
      obtain ⟨q, hq, rfl⟩ := hx
      have : p = q := by simpa [hq] using hp.symm
      subst this
      exact hs.ev p) hk

def AV.len? : AV -> Option Nat
  | .nilS => some 0
  | .emp => some 0
  | .ro rows => some rows.length
  | .ref _ _ _ len => some len
  | _ => none

theorem rel_slice {v : AV} {x : Value} {n : Nat} (h : Rel E v x) (hn : v.len? = some n) : ∃ a cap, x = .slice a n cap := by
  cases h with
  | base _ _ h => cases h <;> simp_all [AV.len?]
  | ref0 => simp [AV.len?] at hn; subst hn; exact ⟨_, _, rfl⟩
  | ref => simp [AV.len?] at hn; subst hn; exact ⟨_, _, rfl⟩
  | ptr => simp [AV.len?] at hn
  | rptr => simp [AV.len?] at hn
  | fn => simp [AV.len?] at hn
  | agg => simp [AV.len?] at hn
  | tup => simp [AV.len?] at hn
  | undef => simp [AV.len?] at hn

theorem ok_len {x : Operand} {t ty : Nat} {n : Nat} (h : TabOk P T) {i : TI} {e : Nat} (hi : T t = some i) (hd : i.desc = .slice e)
    (ho : o.op = .call { callee := .builtin .len, args := #[x], argTypes := #[t] }) (hx : (st.ev x).len? = some n) (hm : n <= maxLen) (hk : K (.int .i64 n) st) : OpOk P o st K := by
  obtain ⟨d, hu, htd⟩ := h.und hi
  have h1 := tdOf_slice (htd.trans hd)
  subst h1
  refine OpOk.pure _ (fun E a hs => ?_) hk
  obtain ⟨ad, cap, hv⟩ := rel_slice (hs.ev x) hx
  refine ⟨.int .i64 n, by simp [execOp, ho, resolve, invoke, builtin, Builtin.len_, hv, run_underlying hu, goInt], .base _ _ (.int _ _ ?_)⟩
  rw [wf_iff]
  simp only [maxLen] at hm
  simp [IntKind.min, IntKind.max, IntKind.signed, IntKind.bits]
  omega

theorem rel_nilS {x : Value} (h : Rel E .nilS x) : x = .slice none 0 0 := by
  cases h with
  | base _ _ h => cases h; rfl

def AV.some? : AV -> Bool
  | .emp => true
  | .ro (_ :: _) => true
  | .ref _ _ _ (_ + 1) => true
  | .ref true _ _ 0 => true
  | _ => false

theorem rel_some {v : AV} {x : Value} (h : Rel E v x) (hv : v.some? = true) : ∃ b n c, x = .slice (some b) n c := by
  cases h with
  | base _ _ h => cases h <;> first | exact ⟨_, _, _, rfl⟩ | simp [AV.some?] at hv
  | ref => exact ⟨_, _, _, rfl⟩
  | _ => simp [AV.some?] at hv

theorem ok_nilEq {op : BinOp} {t u e : Nat} {x y : Operand} (h : TabOk P T) {i : TI} (hi : T t = some i) (hd : i.desc = .slice e) (ho : o.op = .binOp op t x y u) (hy : st.ev y = .nilS) {b : Bool}
    (hx : (st.ev x = .nilS /\ b = true) ∨ ((st.ev x).some? = true /\ b = false)) (hk : (op = .eql /\ K (.bool b) st) ∨ (op = .neq /\ K (.bool (!b)) st)) : OpOk P o st K := by
  obtain ⟨d, hu, htd⟩ := h.und hi
  have h1 := tdOf_slice (htd.trans hd)
  subst h1
  have hv : ∀ E a, Sim E st a -> ∃ ad n c, a.eval x = .slice ad n c /\ ad.isNone = b /\ a.eval y = .slice none 0 0 := fun E a hs => by
    have hr := hs.ev x
    have hr' := hs.ev y
    rw [hy] at hr'
    rcases hx with ⟨hx, rfl⟩ | ⟨hx, rfl⟩
    · rw [hx] at hr
      exact ⟨none, 0, 0, rel_nilS hr, rfl, rel_nilS hr'⟩
    · obtain ⟨ad, n, c, h⟩ := rel_some hr hx
      exact ⟨some ad, n, c, h, rfl, rel_nilS hr'⟩
  have hneq : ∀ (w : World) (ad : Option Addr) (n c : Nat), (binOp .neq t (.slice ad n c) (.slice none 0 0)).run P w = .ok (.bool (!ad.isNone)) w := fun w ad n c => by
    simp only [binOp]
    simp [Op.equal, Op.maxDepth, Lib.run_equalIn_slice_nil w 9999 t e ad n c 0 0 hu]
  rcases hk with ⟨rfl, hk⟩ | ⟨rfl, hk⟩
  · refine OpOk.pure _ (fun E a hs => ?_) hk
    obtain ⟨ad, n, c, h1, rfl, h2⟩ := hv E a hs
    exact ⟨.bool ad.isNone, by simp [execOp, ho, h1, h2, eqGuard_slice, Lib.run_eql_slice_nil E.w t e ad n c 0 0 hu], .base _ _ (.bool _)⟩
  · refine OpOk.pure _ (fun E a hs => ?_) hk
    obtain ⟨ad, n, c, h1, rfl, h2⟩ := hv E a hs
    exact ⟨.bool (!ad.isNone), by simp [execOp, ho, h1, h2, eqGuard_slice, hneq], .base _ _ (.bool _)⟩

end
end Go.Proofs.YtihfpbhalnedcaaGreat.AM

namespace Go.Proofs.YtihfpbhalnedcaaGreat.AM
open Go Go.RowKit

def Env.new (E : Env) (id : Nat) (c : Array Value) (T : TypeId) (siz cap : Nat) : Env :=
  { w := E.w.alloc (.cells c T), S := E.S, tag := fun b => if b = E.w.heap.size then some (.root id) else E.tag b, loc := fun i => if i = id then some ⟨E.w.heap.size, 0, siz, cap⟩ else E.loc i, win := E.win }

theorem heap_new (w : World) (o : Go.Obj) : (w.alloc o).heap[w.heap.size]? = some o := heap_alloc_new w o

theorem Env.new_fr {E : Env} {id : Nat} (hn : E.loc id = none) (hwf : E.Wf) (c : Array Value) (T : TypeId) (siz cap : Nat) : Fr E (E.new id c T siz cap) := by
  refine ⟨rfl, rfl, rfl, by simp [Env.new], fun b hb _ => Below.heap_alloc _ _ _ hb, fun b hb => ?_, fun b h => h, fun b h => .inl h, fun i L _ hL => ?_, fun b lo hi hw c' T' hc => ⟨c', ?_, rfl, fun _ _ => rfl⟩, rfl⟩
  · by_cases h : b = E.w.heap.size
    · exact .inr (by omega)
    · simp only [Env.new, if_neg h] at hb
      exact .inl hb
  · have : i ≠ id := fun e => by rw [e, hn] at hL; cases hL
    simp only [Env.new, if_neg this]; exact hL
  · have := (hwf.windows b (by rw [hw]; simp)).1
    show (E.w.alloc _).heap[b]? = _
    rw [Below.heap_alloc _ _ _ this]; exact hc

theorem Env.new_wf {E : Env} {id : Nat} (hn : E.loc id = none) (h : E.Wf) (c : Array Value) (T : TypeId) (siz cap : Nat) : (E.new id c T siz cap).Wf := by
  refine ⟨fun b hb => ?_, fun b hb => ?_, fun b hb => ?_⟩
  · obtain ⟨h1, h2⟩ := h.still b hb
    refine ⟨?_, by simp [Env.new]; omega⟩
    simp only [Env.new, if_neg (show b ≠ E.w.heap.size by omega)]
    exact h1
  · by_cases hq : b = E.w.heap.size
    · simp [Env.new, hq]
    · simp only [Env.new, if_neg hq] at hb
      have := h.owned b hb
      simp [Env.new]; omega
  · obtain ⟨h1, k, L, h2, h3, hb', h4⟩ := h.windows b hb
    refine ⟨by simp [Env.new]; omega, k, L, h2, ?_, hb', ?_⟩
    · have : k ≠ id := fun e => by rw [e, hn] at h3; cases h3
      simp only [Env.new, if_neg this]; exact h3
    · simp only [Env.new, if_neg (show b ≠ E.w.heap.size by omega)]; exact h4

variable {P : Program} {T : Nat -> Option TI} {E : Env} {st : St} {a : Act} {K : AV -> St -> Prop} {o : Oper}

theorem Sim.relNew (h : Sim E st a) {id : Nat} (hu : st.used.elem id = false) (c : Array Value) (ty : TypeId) (siz cap : Nat) {v : AV} {x : Value} (hr : Rel E v x) : Rel (E.new id c ty siz cap) v x :=
  hr.to (fun b hb => ⟨hb, Below.heap_alloc _ _ _ (h.wf.still b hb).2⟩) fun i L _ hL => by
    have : i ≠ id := fun e => by rw [e, h.notUsed hu] at hL; cases hL
    simp only [Env.new, if_neg this]
    exact hL

theorem Sim.new (h : Sim E st a) {id : Nat} (hu : st.used.elem id = false) {c : Array Value} {ty : TypeId} {siz cap : Nat} {ob : Obj} (ho : ORel (E.new id c ty siz cap) id ob) :
    Sim (E.new id c ty siz cap) { st with sto := (id, ob) :: st.sto, used := id :: st.used } a := by
  have hn := h.notUsed hu
  refine ⟨Env.new_wf hn h.wf _ _ _ _, h.defers, h.size, fun t v hv => ?_, fun i ob' hi => ?_, fun i L hL => ?_, fun i ob' hi => ?_⟩
  · obtain ⟨x, hx, hr⟩ := h.tmps t v hv
    exact ⟨x, hx, h.relNew hu _ _ _ _ hr⟩
  · simp only [lk_cons] at hi
    by_cases he : id = i
    · subst he
      rw [if_pos rfl] at hi
      obtain rfl := Option.some.inj hi
      exact ho
    · rw [if_neg he] at hi
      refine (h.sto i ob' hi).to (fun b hb => ⟨hb, Below.heap_alloc _ _ _ (h.wf.still b hb).2⟩) (by simp only [Env.new, if_neg (Ne.symm he)]) rfl (fun k L hk hL => ?_) (fun b hb => ?_)
      · have : k ≠ id := fun e => by rw [e, hn] at hL; cases hL
        simp only [Env.new, if_neg this]
        exact hL
      · have hlt : b < E.w.heap.size := h.wf.owned b (by rcases hb with hb | ⟨_, _, hb⟩ <;> simp [hb])
        exact ⟨by simp only [Env.new, if_neg (show b ≠ E.w.heap.size by omega)], Below.heap_alloc _ _ _ hlt⟩
  · by_cases he : i = id
    · subst he; simp
    · simp only [Env.new, if_neg he] at hL
      have := h.used i L hL
      simp only [List.elem_cons, this]
      split <;> rfl
  · simp only [lk_cons] at hi
    by_cases he : id = i
    · subst he; simp
    · rw [if_neg he] at hi
      have := h.keys i ob' hi
      simp only [List.elem_cons, this]
      split <;> rfl

theorem Sim.write (h : Sim E st a) {id : Nat} {ob ob0 : Obj} {w' : World} (hob0 : lk st.sto id = some ob0) (hos : w'.os = E.w.os) (htp : w'.tape = E.w.tape) (hout : w'.output = E.w.output) (hsz : w'.heap.size = E.w.heap.size)
    (hb : ∀ b, E.tag b ≠ some (.root id) -> w'.heap[b]? = E.w.heap[b]?) (hwn : ∀ b lo hi, E.win b = some (lo, hi) -> ∀ c T, E.w.heap[b]? = some (.cells c T (0, 0)) -> ∃ c', w'.heap[b]? = some (.cells c' T (0, 0)) /\ c'.size = c.size /\ ∀ j, j < lo ∨ hi <= j -> c'[j]? = c[j]?)
    (ho : ORel { E with w := w' } id ob) :
    Sim { E with w := w' } { st with sto := (id, ob) :: st.sto } a /\ Fr E { E with w := w' } := by
  have hS : ∀ b, E.S b -> E.S b /\ w'.heap[b]? = E.w.heap[b]? := fun b hs => ⟨hs, hb b (by rw [(h.wf.still b hs).1]; simp)⟩
  refine ⟨⟨⟨fun b hs => ⟨(h.wf.still b hs).1, by simp only [hsz]; exact (h.wf.still b hs).2⟩, fun b ht => by simp only [hsz]; exact h.wf.owned b ht, fun b ht => by simp only [hsz]; exact h.wf.windows b ht⟩, h.defers, h.size, fun t v hv => ?_, fun i ob' hi => ?_, h.used, fun i ob' hi => ?_⟩,
    ⟨hos, htp, hout, by simp [hsz], fun b _ ht => hb b (by rw [ht]; simp), fun b ht => .inl ht, fun b h => h, fun b h => .inl h, fun _ _ _ h => h, hwn, rfl⟩⟩
  · obtain ⟨x, hx, hr⟩ := h.tmps t v hv
    exact ⟨x, hx, hr.to hS fun _ _ _ hL => hL⟩
  · simp only [lk_cons] at hi
    by_cases he : id = i
    · subst he
      rw [if_pos rfl] at hi
      obtain rfl := Option.some.inj hi
      exact ho
    · rw [if_neg he] at hi
      refine (h.sto i ob' hi).to hS rfl rfl (fun _ _ _ hL => hL) (fun b hq => ⟨rfl, hb b ?_⟩)
      rcases hq with hq | ⟨_, _, hq⟩ <;> rw [hq] <;> simp
      exact fun e => he e.symm
  · simp only [lk_cons] at hi
    by_cases he : id = i
    · subst he; exact h.keys id ob0 hob0
    · rw [if_neg he] at hi
      exact h.keys i ob' hi

theorem heap_setCells (b : Nat) (ty : TypeId) : ∀ (vs : List Value) (o : Nat) (w : World) (c : Array Value), w.heap[b]? = some (.cells c ty (0, 0)) ->
    ∃ c', (w.setCells b o vs).heap[b]? = some (.cells c' ty (0, 0)) /\ c'.size = c.size /\ ∀ j, c'[j]? = if o <= j /\ j < o + vs.length /\ j < c.size then vs[j - o]? else c[j]?
  | [], o, w, c, h => ⟨c, h, rfl, fun j => by rw [if_neg (by simp; omega)]⟩
  | v :: r, o, w, c, h => by
    have h1 : (w.setCell ⟨b, o, none⟩ v).heap[b]? = some (.cells (c.setIfInBounds o v) ty (0, 0)) := by
      simp [World.setCell, Array.getElem?_modify, h]
    obtain ⟨c', h2, h3, h4⟩ := heap_setCells b ty r (o + 1) _ _ h1
    refine ⟨c', h2, by simpa using h3, fun j => ?_⟩
    rw [h4]
    simp only [Array.size_setIfInBounds, List.length_cons]
    by_cases hj : o + 1 <= j /\ j < o + 1 + r.length /\ j < c.size
    · rw [if_pos hj, if_pos (by omega)]
      have : j - o = (j - (o + 1)) + 1 := by omega
      rw [this, List.getElem?_cons_succ]
    · rw [if_neg hj]
      by_cases hoj : j = o
      · subst hoj
        by_cases hlt : j < c.size
        · rw [if_pos (by omega)]
          simp [Array.getElem?_setIfInBounds, hlt]
        · rw [if_neg (by omega)]
          simp [Array.getElem?_setIfInBounds, hlt]
      · rw [if_neg (by omega)]
        simp [Array.getElem?_setIfInBounds, Ne.symm hoj]

theorem setCells_rest (b : Nat) : ∀ (vs : List Value) (o : Nat) (w : World), (w.setCells b o vs).os = w.os /\ (w.setCells b o vs).tape = w.tape /\ (w.setCells b o vs).output = w.output /\
    (w.setCells b o vs).heap.size = w.heap.size /\ ∀ k, k ≠ b -> (w.setCells b o vs).heap[k]? = w.heap[k]?
  | [], _, _ => ⟨rfl, rfl, rfl, rfl, fun _ _ => rfl⟩
  | v :: r, o, w => by
    obtain ⟨h1, h2, h3, h4, h5⟩ := setCells_rest b r (o + 1) (w.setCell ⟨b, o, none⟩ v)
    exact ⟨h1, h2, h3, by rw [World.setCells, h4]; simp, fun k hk => by rw [World.setCells, h5 k hk]; exact Below.heap_setCell _ _ _ _ hk⟩

def AV.one : AV -> Bool
  | .agg _ | .tup _ | .undef | .own _ _ _ | .ownp _ => false
  | _ => true

theorem rel_one {v : AV} {x : Value} (h : Rel E v x) (hv : v.one = true) : x.oneCell' = true := by
  cases h with
  | base _ _ h => cases h <;> rfl
  | agg => simp [AV.one] at hv
  | tup => simp [AV.one] at hv
  | undef => simp [AV.one] at hv
  | _ => rfl

theorem rrel_one {w : World} {S : Nat -> Prop} {v : AV} {x : Value} (h : RRel w S v x) : x.oneCell' = true := by cases h <;> rfl

def AV.flat : AV -> Option (List AV)
  | .agg cs => some cs
  | .tup _ | .undef | .own _ _ _ | .ownp _ => none
  | v => some [v]

theorem rel_flat {v : AV} {x : Value} {cs : List AV} (h : Rel E v x) (hf : v.flat = some cs) : x.cells.size = cs.length /\ (∀ (j : Nat) (y : Value), x.cells[j]? = some y -> y.oneCell' = true) /\
    (∀ (j : Nat) (u : AV) (y : Value), cs[j]? = some u -> x.cells[j]? = some y -> Rel E u y) := by
  by_cases hv : v.one = true
  · have h1 := rel_one h hv
    have h2 : cs = [v] := by cases v <;> simp_all [AV.one, AV.flat]
    subst h2
    have h3 : x.cells = #[x] := by cases x <;> simp_all [Value.oneCell', Value.cells]
    rw [h3]
    refine ⟨rfl, fun j y hy => ?_, fun j u y hu hy => ?_⟩
    · cases j <;> simp at hy
      subst hy; exact h1
    · cases j <;> simp at hu hy
      subst hu hy; exact h
  · cases v with
    | agg cs' =>
      simp [AV.flat] at hf
      subst hf
      obtain ⟨xs, rfl, h2, h3, h4⟩ := rel_agg h
      exact ⟨h2, h3, h4⟩
    | tup => simp [AV.flat] at hf
    | undef => simp [AV.flat] at hf
    | own => simp [AV.flat] at hf
    | ownp => simp [AV.flat] at hf
    | _ => simp [AV.one] at hv

def AV.view : AV -> AV
  | .own _ _ _ => .undef
  | v => v

theorem rel_view {fl : Bool} {v : AV} {x : Value} {τ : Tag} (h : Cell E fl τ v x) : Rel E v.view x := by
  cases fl with
  | true => cases h with
    | int k n h => exact .base _ _ (.int k n h)
    | bool b => exact .base _ _ (.bool b)
  | false =>
    rcases h with h | ⟨_, rows, rfl, h⟩
    · cases v <;> first | exact h | exact .undef _
    · exact .undef _

def St.at (st : St) : AV -> Option (List AV)
  | .ptr id row fld =>
    match lk st.sto id with
    | some (.box cells) => bif nbeq row 0 then some (cells.drop fld) else none
    | some (.arr _ _ rows) => (rows[row]?).map fun r => r.drop fld
    | none => none
  | .rptr cells => some cells
  | _ => none

theorem at_rel (hs : Sim E st a) {p : AV} {x : Value} (hp : Rel E p x) {cells : List AV} (hc : st.at p = some cells) :
    ∃ b o, x = .pointer (some ⟨b, o, none⟩) /\ ∀ j v, cells[j]? = some v -> ∃ y, E.w.cell? ⟨b, o + j, none⟩ = some y /\ y.oneCell' = true /\ Rel E v.view y := by
  cases p with
  | ptr id row fld =>
    cases hp with
    | base _ _ h => cases h
    | ptr _ _ _ L hL =>
      refine ⟨_, _, rfl, fun j v hj => ?_⟩
      simp only [St.at] at hc
      split at hc
      · rename_i cs hq
        cases hrow : nbeq row 0 with
        | false => simp [hrow] at hc
        | true =>
          obtain rfl := nbeq_eq hrow
          simp [hrow] at hc
          subst hc
          obtain ⟨L', c, ty, h1, h2, h3, h4, h5, hwb, h6⟩ := hs.sto id _ hq
          rw [h1] at hL
          obtain rfl := Option.some.inj hL
          rw [List.getElem?_drop] at hj
          obtain ⟨y, hy1, hy2, hy3⟩ := h6 _ v hj
          refine ⟨y, ?_, hy2, ?_⟩
          · rw [cell_of_row E.w L'.blk _ c ty (0, 0) h4, <- hy1]; congr 1
            omega
          · cases v <;> first | exact hy3 | exact .undef _
      · rename_i sz fl rows hq
        cases hr : rows[row]? with
        | none => simp [hr] at hc
        | some r =>
          simp [hr] at hc
          subst hc
          rw [List.getElem?_drop] at hj
          rcases hs.sto id _ hq with ⟨h1, h2⟩ | ⟨L', c, ty, h1, hsz', h2, h3, h4, h5, h6, h7, hwa, h8, h9⟩
          · rw [h2] at hr; simp at hr
          · rw [h1] at hL
            obtain rfl := Option.some.inj hL
            obtain ⟨y, hy1, hy2, hy3⟩ := h9 row _ r v hr hj
            refine ⟨y, ?_, hy2, rel_view hy3⟩
            rw [cell_of_row E.w L'.blk _ c ty (0, 0) h4]
            rw [<- hy1]; congr 1; omega
      · cases hc
  | rptr cs =>
    simp [St.at] at hc
    subst hc
    cases hp with
    | base _ _ h => cases h
    | rptr _ b o f h1 h2 h3 h4 h5 =>
      refine ⟨b, o, rfl, fun j v hj => ?_⟩
      cases hf : v.isFn with
      | true =>
        have hr := h5 j v hj hf
        cases v <;> simp only [AV.isFn] at hf <;> try cases hf
        refine ⟨f j, h2 j _ hj, ?_, hr⟩
        generalize f j = y at hr
        cases hr with
        | base _ _ h => cases h
        | fn => rfl
      | false =>
        refine ⟨f j, h2 j v hj, rrel_one (h3 j v hj hf), ?_⟩
        have := h3 j v hj hf
        cases v <;> first | exact .base _ _ this | exact .undef _
  | _ => simp [St.at] at hc

def loadA (i : TI) (cells : List AV) : Option AV :=
  bif i.desc.isAgg then bif nble i.size cells.length then some (.agg ((cells.take i.size).map AV.view)) else none
  else match cells with
    | v :: _ => some v.view
    | [] => none

theorem load_rel {t : Nat} {i : TI} {cells : List AV} {v : AV} {x : Value} {p : AV} (h : TabOk P T) (hi : T t = some i) (hkn : i.desc.known = true) (hs : Sim E st a) (hp : Rel E p x) (hc : st.at p = some cells) (hl : loadA i cells = some v) :
    ∃ ad y, x = .pointer (some ad) /\ (loadVar t ad).run P E.w = .ok y E.w /\ Rel E v y := by
  have hsz := fun w => h.size (P := P) hi w
  have hag := fun w => h.agg (P := P) hi hkn w
  obtain ⟨b, of, hx, hcell⟩ := at_rel hs hp hc
  cases hq : i.desc.isAgg with
  | true =>
    rw [hq] at hag
    simp only [loadA, hq, cond_true] at hl
    cases hle : nble i.size cells.length with
    | false => simp [hle] at hl
    | true =>
      simp only [hle, cond_true] at hl
      obtain rfl := Option.some.inj hl
      have hle' := nble_le hle
      let f : Nat -> Value := fun j => (E.w.cell? ⟨b, of + j, none⟩).getD undef
      have hf : ∀ j v, cells[j]? = some v -> E.w.cell? ⟨b, of + j, none⟩ = some (f j) /\ (f j).oneCell' = true /\ Rel E v.view (f j) := fun j v hj => by
        obtain ⟨y, h1, h2, h3⟩ := hcell j v hj
        have : f j = y := by simp [f, h1]
        rw [this]; exact ⟨h1, h2, h3⟩
      have hcs : (loadCells ⟨b, of, none⟩ i.size).run P E.w = .ok ((List.range i.size).map f).toArray E.w :=
        run_loadCells_list (P := P) E.w ⟨b, of, none⟩ ((List.range i.size).map f) (fun j v hj => by
          simp only [List.getElem?_map, Option.map_eq_some_iff] at hj
          obtain ⟨k, hk1, rfl⟩ := hj
          obtain ⟨hlt, hk2⟩ := List.getElem?_eq_some_iff.1 hk1
          have hjs : j < i.size := by simpa using hlt
          have : k = j := by simpa using hk2.symm
          subst this
          rw [Addr.add_mid]
          exact (hf k _ (List.getElem?_eq_getElem (by omega))).1) |> (by simpa using ·)
      refine ⟨_, .agg ((List.range i.size).map f).toArray, hx, by simp [loadVar, hag, hsz, hcs], .agg _ _ (by simp; omega) (fun j x hx' => ?_) (fun j v x hv hx' => ?_)⟩
      · simp only [List.getElem?_toArray, List.getElem?_map, Option.map_eq_some_iff] at hx'
        obtain ⟨k, hk1, rfl⟩ := hx'
        obtain ⟨hlt, hk2⟩ := List.getElem?_eq_some_iff.1 hk1
        have hkl : k < i.size := by
          have : k = j := by simpa using hk2.symm
          subst this
          simpa using hlt
        exact (hf k _ (List.getElem?_eq_getElem (by omega))).2.1
      · simp only [List.getElem?_toArray, List.getElem?_map, Option.map_eq_some_iff] at hx' hv
        obtain ⟨k, hk1, rfl⟩ := hx'
        obtain ⟨u, hu, rfl⟩ := hv
        obtain ⟨hlt, hk2⟩ := List.getElem?_eq_some_iff.1 hk1
        have : k = j := by simpa using hk2.symm
        subst this
        rw [List.getElem?_take] at hu
        split at hu
        · exact (hf k u hu).2.2
        · cases hu
  | false =>
    rw [hq] at hag
    simp only [loadA, hq, cond_false] at hl
    split at hl
    · rename_i v' r
      obtain rfl := Option.some.inj hl
      obtain ⟨y, h1, h2, h3⟩ := hcell 0 v' rfl
      refine ⟨_, y, hx, ?_, h3⟩
      have hld : (load ⟨b, of, none⟩).run P E.w = .ok y E.w := by
        simp at h1
        simp [load, Sem.run, h1]
      simp only [loadVar, hag, hld, Sem.run_bind, Sem.run_pure, Result.andThen_ok, Bool.false_eq_true, if_false]
    · cases hl

theorem ok_load {t : Nat} {i : TI} {p : Operand} {cells : List AV} {v : AV} (h : TabOk P T) (hi : T t = some i) (hkn : i.desc.known = true) (ho : o.op = .load t p) (hc : st.at (st.ev p) = some cells)
    (hl : loadA i cells = some v) (hk : K v st) : OpOk P o st K :=
  OpOk.pure _ (fun E a hs => by
    obtain ⟨ad, y, h1, h2, h3⟩ := load_rel h hi hkn hs (hs.ev p) hc hl
    exact ⟨y, by simp [execOp, ho, h1, Instr.loadAt, Instr.sureAddr, h2], h3⟩) hk

def AV.shift (off : Nat) : AV -> Option AV
  | .ptr id row fld => some (.ptr id row (fld + off))
  | .rptr cells => some (.rptr (cells.drop off))
  | _ => none

theorem ok_fieldAddr {s f : Nat} {i j : TI} {fs : List (Nat × Nat)} {off ft : Nat} {p : Operand} {v : AV} (h : TabOk P T) (hi : T s = some i) (hd : i.desc = .strct fs) (hf : fs[f]? = some (off, ft)) (hj : T ft = some j) (hpos : 0 < j.size)
    (ho : o.op = .fieldAddr s p f) (hv : (st.ev p).shift off = some v) (hk : K v st) : OpOk P o st K := by
  obtain ⟨d, hu, htd⟩ := h.und hi
  obtain ⟨F, rfl, hF⟩ := tdOf_strct (htd.trans hd)
  have hfl : ∃ fld, F[f]? = some fld /\ fld.offset = off /\ fld.type = ft := by
    rw [<- hF] at hf
    simp only [List.getElem?_map, Option.map_eq_some_iff] at hf
    obtain ⟨fld, h1, h2⟩ := hf
    exact ⟨fld, by simpa using h1, by simpa using congrArg Prod.fst h2, by simpa using congrArg Prod.snd h2⟩
  obtain ⟨fld, hfl, hoff, hty⟩ := hfl
  have hsz := fun w => h.size (P := P) hj w
  refine OpOk.pure _ (fun E a hs => ?_) hk
  have hr := hs.ev p
  have key : ∀ b oo, a.eval p = .pointer (some ⟨b, oo, none⟩) -> (execOp a.eval o).run P E.w = .ok (.value (.pointer (some ⟨b, oo + off, none⟩))) E.w := by
    intro b oo hx
    simp [execOp, ho, hx, Instr.fieldAt, run_underlying hu, hfl, Instr.sureAddr, fieldPlace, hty, hsz, show ¬ j.size = 0 by omega, hoff, Addr.add_mid]
  cases hp : st.ev p with
  | ptr id row fl =>
    rw [hp] at hr hv
    simp [AV.shift] at hv
    subst hv
    generalize a.eval p = x at hr key
    cases hr with
    | base _ _ h => cases h
    | ptr _ _ _ L hL =>
      refine ⟨_, key _ _ rfl, ?_⟩
      rw [Nat.add_assoc]
      exact .ptr _ _ _ L hL
  | rptr cells =>
    rw [hp] at hr hv
    simp [AV.shift] at hv
    subst hv
    generalize a.eval p = x at hr key
    cases hr with
    | base _ _ h => cases h
    | rptr _ b oo f h1 h2 h3 h4 h5 =>
      refine ⟨_, key _ _ rfl, .rptr _ b (oo + off) (fun j => f (off + j)) h1 (fun j v hj => ?_) (fun j v hj hf => ?_) (fun j v hj hf => ?_) (fun j v hj hf => ?_)⟩
      · rw [List.getElem?_drop] at hj
        rw [<- h2 _ v hj, Nat.add_assoc]
      · rw [List.getElem?_drop] at hj
        exact h3 _ v hj hf
      · rw [List.getElem?_drop] at hj
        exact h4 _ v hj hf
      · rw [List.getElem?_drop] at hj
        exact h5 _ v hj hf
  | _ => rw [hp] at hv; simp [AV.shift] at hv

def St.elem (st : St) (size : Nat) (x : AV) (n : Int) (K : AV -> Prop) : Prop :=
  match x with
  | .ref _ id off len => (0 <= n /\ n < len) /\ match lk st.sto id with
    | some (.arr s _ rows) => s = size /\ off + n.toNat < rows.length /\ K (.ptr id (off + n.toNat) 0)
    | _ => False
  | .ro rows => 0 <= n /\ ∃ r, rows[n.toNat]? = some r /\ r.length = size /\ K (.rptr r)
  | _ => False

theorem ok_indexAddr {t e : Nat} {i j : TI} {x y : Operand} {n : Int} {k : IntKind} (h : TabOk P T) (hi : T t = some i) (hd : i.desc = .slice e) (hj : T e = some j)
    (ho : o.op = .indexAddr t x y) (hy : st.ev y = .int k n) (hk : st.elem j.size (st.ev x) n fun v => K v st) : OpOk P o st K := by
  obtain ⟨d, hu, htd⟩ := h.und hi
  have h1 := tdOf_slice (htd.trans hd)
  subst h1
  have hsz := fun w => h.size (P := P) hj w
  have key : ∀ (E : Env) (a : Act), Sim E st a -> ∀ (ad : Addr) (len cap : Nat), a.eval x = .slice (some ad) len cap -> 0 <= n -> n < len -> (execOp a.eval o).run P E.w = .ok (.value (.pointer (some (ad.add (n.toNat * j.size))))) E.w := by
    intro E a hs ad len cap hx h0 hn
    have hry := hs.ev y
    rw [hy] at hry
    simp [execOp, ho, hx, (rel_int hry).1, Instr.indexAt, asIntOf, run_underlying hu, h0, hn, hsz]
  unfold St.elem at hk
  split at hk
  · rename_i pf id off len hp
    obtain ⟨⟨h0, hn⟩, hk⟩ := hk
    split at hk
    · rename_i sz fl rows hq
      obtain ⟨hsz', hlt, hk⟩ := hk
      refine OpOk.pure _ (fun E a hs => ?_) hk
      have hrx := hs.ev x
      rw [hp] at hrx
      rcases hs.sto id _ hq with ⟨h1, h2⟩ | ⟨L, c, ty, h1, hsz2, h2, h3, h4, h5, h6, h7, hwa, h8, h9⟩
      · rw [h2] at hlt; simp at hlt
      · have hk' := key E a hs
        generalize a.eval x = xv at hrx hk'
        cases hrx with
        | base _ _ h => cases h
        | ref0 => simp at hn; omega
        | ref _ _ _ _ L' cap hL hle hcap =>
          rw [h1] at hL
          obtain rfl := Option.some.inj hL
          refine ⟨_, hk' _ _ _ rfl h0 hn, ?_⟩
          have hs' : L.siz = j.size := hsz2.trans hsz'
          rw [Addr.add_mid, <- hs']
          have : L.base + off * L.siz + n.toNat * L.siz = L.base + (off + n.toNat) * L.siz + 0 := by rw [Nat.add_mul]; omega
          rw [this]
          exact .ptr _ _ _ L h1
    · exact hk.elim
  · rename_i rows hp
    obtain ⟨h0, r, hr, hrl, hk⟩ := hk
    refine OpOk.pure _ (fun E a hs => ?_) hk
    have hrx := hs.ev x
    rw [hp] at hrx
    have hk' := key E a hs
    generalize a.eval x = xv at hrx hk'
    have hlt := (List.getElem?_eq_some_iff.1 hr).1
    cases hrx with
    | base _ _ h =>
      cases h with
      | ro0 => simp at hr
      | ro _ b oo cap s f g1 g2 g3 g4 g5 g6 g7 =>
        refine ⟨_, hk' _ _ _ rfl h0 (by omega), ?_⟩
        have hs' : s = j.size := by rw [<- hrl]; exact (g5 _ _ hr).symm
        rw [Addr.add_mid, <- hs']
        exact .rptr _ b _ (fun q => f n.toNat q) g4 (fun q v hq => g6 _ _ _ _ hr hq) (fun q v hq _ => g7 _ _ _ _ hr hq) (fun q v hq hf => by rw [(g7 _ _ _ _ hr hq).notFn] at hf; cases hf) (fun q v hq hf => by rw [(g7 _ _ _ _ hr hq).notFn] at hf; cases hf)
  · exact hk.elim

end Go.Proofs.YtihfpbhalnedcaaGreat.AM

namespace Go.Proofs.YtihfpbhalnedcaaGreat.AM
open Go Go.RowKit

variable {P : Program} {T : Nat -> Option TI} {E : Env} {st : St} {a : Act} {K : AV -> St -> Prop} {o : Oper}

theorem OpOk.new {id : Nat} (hu : st.used.elem id = false) (ob : Obj) (v : AV)
    (h : ∀ E a, Sim E st a -> ∃ c ty siz cap x, (execOp a.eval o).run P E.w = .ok (.value x) (E.w.alloc (.cells c ty)) /\ ORel (E.new id c ty siz cap) id ob /\ Rel (E.new id c ty siz cap) v x)
    (hk : K v { st with sto := (id, ob) :: st.sto, used := id :: st.used }) : OpOk P o st K := by
  intro E a KW QW hs hK
  obtain ⟨c, ty, siz, cap, x, hx, ho, hr⟩ := h E a hs
  unfold Oper.wp
  rw [hx]
  exact hK _ v x _ (Env.new_fr (hs.notUsed hu) hs.wf c ty siz cap) (hs.new hu ho) hr hk

theorem Sim.noWin (hs : Sim E st a) : E.win E.w.heap.size = none := by
  cases hq : E.win E.w.heap.size with
  | none => rfl
  | some p => exact absurd (hs.wf.windows _ (by rw [hq]; simp)).1 (Nat.lt_irrefl _)

theorem Env.new_loc {E : Env} {id : Nat} {c : Array Value} {ty : TypeId} {siz cap : Nat} : (E.new id c ty siz cap).loc id = some ⟨E.w.heap.size, 0, siz, cap⟩ := by simp [Env.new]

theorem TabOk.zero (h : TabOk P T) {t : Nat} {i : TI} (hi : T t = some i) : ∃ z : Value, (∀ w, (zeroValue t).run P w = .ok z w) /\ z.cells.size = i.zero.length /\ i.zero.length = i.size /\
    (∀ (j : Nat) (y : Value), z.cells[j]? = some y -> y.oneCell' = true) /\ ∀ (E : Env) (j : Nat) (v : AV) (y : Value), i.zero[j]? = some v -> z.cells[j]? = some y -> Rel E v y := by
  obtain ⟨info, d, z, h1, h2, h3, h4, h5, h6, h7, h8, h9⟩ := h.info hi
  refine ⟨z, fun w => by simp [zeroValue, typeInfo, h1, h6], by rw [<- h7]; simp, (h t i hi).2.1, fun j y hy => ?_, fun E j v y hv hy => ?_⟩
  · exact (Array.all_eq_true_iff_forall_mem.1 h9) y (Array.mem_of_getElem? hy)
  · rw [<- h7] at hv
    simp only [List.getElem?_map, Option.map_eq_some_iff] at hv
    obtain ⟨u, hu, rfl⟩ := hv
    have : u = y := by simpa [hy] using hu.symm
    subst this
    exact rel_const E u

theorem ok_alloc {id t : Nat} {i : TI} (h : TabOk P T) (hi : T t = some i) (hu : st.used.elem id = false) (ho : o.op = .alloc t)
    (hk : K (.ptr id 0 0) { st with sto := (id, .box i.zero) :: st.sto, used := id :: st.used }) : OpOk P o st K := by
  obtain ⟨z, hz, hz1, hz2, hz3, hz4⟩ := h.zero hi
  refine OpOk.new hu _ _ (fun E a hs => ⟨z.cells, t, 1, i.zero.length, .pointer (some ⟨E.w.heap.size, 0, none⟩), ?_, ?_, ?_⟩) hk
  · simp [execOp, ho, Instr.alloc, hz, newVar, newRow]
  · refine ⟨_, z.cells, t, Env.new_loc, rfl, by simp [Env.new], heap_new _ _, by simp [hz1], fun lo hi hw => (by rw [show (E.new id z.cells t 1 i.zero.length).win = E.win from rfl, hs.noWin] at hw; cases hw), fun j v hj => ?_⟩
    have hlt : j < z.cells.size := by rw [hz1]; exact (List.getElem?_eq_some_iff.1 hj).1
    exact ⟨z.cells[j], by simp [hlt], hz3 j _ (Array.getElem?_eq_getElem hlt), hz4 _ j v _ hj (Array.getElem?_eq_getElem hlt)⟩
  · have := Rel.ptr (E := E.new id z.cells t 1 i.zero.length) id 0 0 _ Env.new_loc
    simpa using this

theorem ok_box {id t : Nat} {x : Operand} {cs : List AV} (hu : st.used.elem id = false) (ho : o.op = .box t x) (hf : (st.ev x).flat = some cs)
    (hk : K (.ptr id 0 0) { st with sto := (id, .box cs) :: st.sto, used := id :: st.used }) : OpOk P o st K := by
  refine OpOk.new hu _ _ (fun E a hs => ⟨(a.eval x).cells, t, 1, cs.length, .pointer (some ⟨E.w.heap.size, 0, none⟩), ?_, ?_, ?_⟩) hk
  · simp [execOp, ho, Instr.box, newVar, newRow]
  · obtain ⟨h1, h2, h3⟩ := rel_flat (hs.ev x) hf
    refine ⟨_, _, t, Env.new_loc, rfl, by simp [Env.new], heap_new _ _, by simp [h1], fun lo hi hw => (by rw [show (E.new id (a.eval x).cells t 1 cs.length).win = E.win from rfl, hs.noWin] at hw; cases hw), fun j v hj => ?_⟩
    have hlt : j < (a.eval x).cells.size := by rw [h1]; exact (List.getElem?_eq_some_iff.1 hj).1
    have hg := Array.getElem?_eq_getElem hlt
    exact ⟨_, by simp [hlt], h2 j _ hg, hs.relNew hu _ _ _ _ (h3 j v _ hj hg)⟩
  · have := Rel.ptr (E := E.new id (a.eval x).cells t 1 cs.length) id 0 0 _ Env.new_loc
    simpa using this

def setMany {α : Type} (l : List α) (o : Nat) (vs : List α) : List α := l.take o ++ vs ++ l.drop (o + vs.length)

theorem setMany_get {α : Type} (l : List α) (o : Nat) (vs : List α) (h : o + vs.length <= l.length) (j : Nat) : (setMany l o vs)[j]? = if o <= j /\ j < o + vs.length then vs[j - o]? else l[j]? := by
  unfold setMany
  rw [List.append_assoc, List.getElem?_append, List.length_take, Nat.min_eq_left (by omega)]
  by_cases h1 : j < o
  · rw [if_pos h1, if_neg (by omega), List.getElem?_take, if_pos h1]
  · rw [if_neg h1, List.getElem?_append]
    by_cases h2 : j - o < vs.length
    · rw [if_pos h2, if_pos (by omega)]
    · rw [if_neg h2, if_neg (by omega), List.getElem?_drop]
      congr 1; omega

theorem setMany_length {α : Type} (l : List α) (o : Nat) (vs : List α) (h : o + vs.length <= l.length) : (setMany l o vs).length = l.length := by
  unfold setMany
  simp only [List.length_append, List.length_take, List.length_drop]
  omega

def CellsRel (E : Env) (cells : List AV) (xs : Array Value) : Prop :=
  xs.size = cells.length /\ (∀ (j : Nat) (y : Value), xs[j]? = some y -> y.oneCell' = true) /\ ∀ (j : Nat) (v : AV) (y : Value), cells[j]? = some v -> xs[j]? = some y -> Rel E v y

def fillA (place : Nat -> Option (Nat × Nat)) (ev : Operand -> AV) : List AV -> List (Nat × Operand) -> Option (List AV)
  | cells, [] => some cells
  | cells, (i, x) :: rest =>
    match place i, (ev x).flat with
    | some (off, size), some cs => bif nbeq cs.length size && nble (off + cs.length) cells.length then fillA place ev (setMany cells off cs) rest else none
    | _, _ => none

theorem fold_set (cs : List Value) : ∀ (k off : Nat) (xs : Array Value), 
    ((cs.zipIdx k).foldl (fun cs (x : Value × Nat) => cs.setIfInBounds (off + x.2) x.1) xs).size = xs.size /\
    ∀ j, ((cs.zipIdx k).foldl (fun cs (x : Value × Nat) => cs.setIfInBounds (off + x.2) x.1) xs)[j]? = if off + k <= j /\ j < off + k + cs.length /\ j < xs.size then cs[j - (off + k)]? else xs[j]? := by
  induction cs with
  | nil => intro k off xs; exact ⟨rfl, fun j => by rw [if_neg (by simp; omega)]; rfl⟩
  | cons c r ih =>
    intro k off xs
    obtain ⟨h1, h2⟩ := ih (k + 1) off (xs.setIfInBounds (off + k) c)
    simp only [List.zipIdx_cons, List.foldl_cons]
    refine ⟨by rw [h1]; simp, fun j => ?_⟩
    rw [h2]
    simp only [Array.size_setIfInBounds, List.length_cons]
    by_cases hj : off + (k + 1) <= j /\ j < off + (k + 1) + r.length /\ j < xs.size
    · rw [if_pos hj, if_pos (by omega), show j - (off + k) = (j - (off + (k + 1))) + 1 by omega, List.getElem?_cons_succ]
    · rw [if_neg hj, Array.getElem?_setIfInBounds]
      by_cases he : off + k = j
      · rw [if_pos he]
        by_cases hlt : off + k < xs.size
        · rw [if_pos hlt, if_pos (by omega), show j - (off + k) = 0 by omega]; rfl
        · rw [if_neg hlt, if_neg (by omega)]
          rw [Array.getElem?_eq_none (by omega)]
      · rw [if_neg he, if_neg (by omega)]

theorem fillA_rel (hs : Sim E st a) (place : Nat -> Option (Nat × Nat)) : ∀ (parts : List (Nat × Operand)) (cells cells' : List AV) (xs : Array Value), CellsRel E cells xs -> fillA place st.ev cells parts = some cells' ->
    ∃ xs', Instr.fill place xs (parts.map fun p => (p.1, a.eval p.2)) = some xs' /\ CellsRel E cells' xs'
  | [], cells, cells', xs, h, hf => by simp [fillA] at hf; subst hf; exact ⟨xs, rfl, h⟩
  | (i, x) :: rest, cells, cells', xs, ⟨h1, h2, h3⟩, hf => by
    unfold fillA at hf
    split at hf
    · rename_i off size cs hp hfl
      cases hc : (nbeq cs.length size && nble (off + cs.length) cells.length) with
      | false => simp [hc] at hf
      | true =>
        simp only [hc, cond_true] at hf
        rw [Bool.and_eq_true] at hc
        have hcs := nbeq_eq hc.1
        have hle := nble_le hc.2
        obtain ⟨g1, g2, g3⟩ := rel_flat (hs.ev x) hfl
        have hfold := fold_set (a.eval x).cells.toList 0 off xs
        have hfe : ((a.eval x).cells.zipIdx.foldl (fun cs (x : Value × Nat) => cs.setIfInBounds (off + x.2) x.1) xs) = (((a.eval x).cells.toList.zipIdx 0).foldl (fun cs (x : Value × Nat) => cs.setIfInBounds (off + x.2) x.1) xs) := by
          rw [<- Array.foldl_toList, Array.toList_zipIdx]
        obtain ⟨xs', hx', hr'⟩ := fillA_rel hs place rest (setMany cells off cs) cells' ((a.eval x).cells.zipIdx.foldl (fun cs (x : Value × Nat) => cs.setIfInBounds (off + x.2) x.1) xs)
          (by
            rw [hfe]
            have hget := fun j => hfold.2 j
            simp only [Nat.add_zero, Array.length_toList] at hget
            refine ⟨by rw [hfold.1, setMany_length _ _ _ hle, h1], fun j y hy => ?_, fun j v y hv hy => ?_⟩
            · rw [hget] at hy
              split at hy
              · exact g2 (j - off) y (by simpa using hy)
              · exact h2 j y hy
            · rw [hget] at hy
              rw [setMany_get _ _ _ hle] at hv
              by_cases hj : off <= j /\ j < off + cs.length
              · have hj' : off <= j /\ j < off + (a.eval x).cells.size /\ j < xs.size := by rw [g1, h1]; omega
                rw [if_pos hj'] at hy
                rw [if_pos hj] at hv
                exact g3 (j - off) v y hv (by simpa using hy)
              · have hj' : ¬ (off <= j /\ j < off + (a.eval x).cells.size /\ j < xs.size) := by rw [g1, h1]; omega
                rw [if_neg hj'] at hy
                rw [if_neg hj] at hv
                exact h3 j v y hv hy) hf
        refine ⟨xs', ?_, hr'⟩
        have hcond : ((decide ((a.eval x).cells.size ≠ size) || decide (off + (a.eval x).cells.size > xs.size)) = true) -> False := by
          rw [g1, h1, hcs]
          simp
          omega
        simp only [List.map_cons, Instr.fill, hp]
        rw [if_neg hcond]
        exact hx'
    · cases hf

def placesOf (T : Nat -> Option TI) (fs : List (Nat × Nat)) (i : Nat) : Option (Nat × Nat) :=
  match fs[i]? with
  | some (off, ft) => (T ft).map fun j => (off, j.size)
  | none => none

theorem ok_build {t : Nat} {i : TI} {fs : List (Nat × Nat)} {parts : Array (Nat × Operand)} {cells : List AV} (h : TabOk P T) (hi : T t = some i) (hd : i.desc = .strct fs) (hall : fs.all (fun p => (T p.2).isSome) = true)
    (ho : o.op = .build t parts) (hf : fillA (placesOf T fs) st.ev i.zero parts.toList = some cells) (hk : K (.agg cells) st) : OpOk P o st K := by
  obtain ⟨info, d, z0, h1, hu, htd, hsz, hby, hz0, hzc, hzs, hzo⟩ := h.info hi
  obtain ⟨F, rfl, hF⟩ := tdOf_strct (htd.trans hd)
  refine OpOk.pure _ (fun E a hs => ?_) hk
  have hz : CellsRel E i.zero z0.cells := by
    refine ⟨by rw [hzs]; exact (h t i hi).2.1.symm, fun j y hy => (Array.all_eq_true_iff_forall_mem.1 hzo) y (Array.mem_of_getElem? hy), fun j v y hv hy => ?_⟩
    rw [<- hzc] at hv
    simp only [List.getElem?_map, Option.map_eq_some_iff] at hv
    obtain ⟨u, hu, rfl⟩ := hv
    have : u = y := by simpa [hy] using hu.symm
    subst this
    exact rel_const E u
  obtain ⟨xs, hx, hr⟩ := fillA_rel hs _ _ _ _ _ hz hf
  have hpl : ∃ places, F.toList.mapM (fun f => (P.info? f.type).map fun i => (f.offset, i.size)) = some places /\ ∀ i, placesOf T fs i = places[i]? := by
    rw [<- hF]
    rw [<- hF] at hall
    generalize F.toList = l at hall
    clear hF hf hx hu htd
    induction l with
    | nil => exact ⟨[], rfl, fun i => by simp [placesOf]⟩
    | cons f r ih =>
      simp only [List.map_cons, List.all_cons, Bool.and_eq_true] at hall
      obtain ⟨ps, hp1, hp2⟩ := ih hall.2
      obtain ⟨j, hj⟩ := Option.isSome_iff_exists.1 hall.1
      obtain ⟨info', _, _, g1, _, _, g2, _⟩ := h.info hj
      refine ⟨(f.offset, j.size) :: ps, by simp [List.mapM_cons, g1, g2, hp1], fun i => ?_⟩
      cases i with
      | zero => simp [placesOf, hj]
      | succ i => simpa [placesOf] using hp2 i
  obtain ⟨places, hp1, hp2⟩ := hpl
  have hplace : placesOf T fs = (places.toArray[·]?) := funext fun i => by rw [hp2]; simp
  refine ⟨.agg xs, ?_, .agg _ _ hr.1 hr.2.1 hr.2.2⟩
  have hb : P.built t ((parts.map fun (i, x) => (i, a.eval x))).toList = some xs := by
    unfold Program.built
    rw [h1, hu]
    simp only [hz0, hp1]
    rw [<- hplace, <- hx]
    congr 1
    simp
  simp only [execOp, ho, Sem.run_bind, run_build E.w t _ xs hb, Result.andThen_ok, Sem.run_pure]

theorem ok_field {t f : Nat} {i j : TI} {fs : List (Nat × Nat)} {off ft : Nat} {x : Operand} {cells : List AV} (h : TabOk P T) (hi : T t = some i) (hd : i.desc = .strct fs) (hf : fs[f]? = some (off, ft)) (hj : T ft = some j) (hkn : j.desc.known = true)
    (ho : o.op = .field t x f) (hx : st.ev x = .agg cells)
    (hk : if j.desc.isAgg then off + j.size <= cells.length /\ K (.agg ((cells.drop off).take j.size)) st else ∃ v r, cells.drop off = v :: r /\ K v st) : OpOk P o st K := by
  obtain ⟨d, hu, htd⟩ := h.und hi
  obtain ⟨F, rfl, hF⟩ := tdOf_strct (htd.trans hd)
  have hfl : ∃ fld, F[f]? = some fld /\ fld.offset = off /\ fld.type = ft := by
    rw [<- hF] at hf
    simp only [List.getElem?_map, Option.map_eq_some_iff] at hf
    obtain ⟨fld, h1, h2⟩ := hf
    exact ⟨fld, by simpa using h1, by simpa using congrArg Prod.fst h2, by simpa using congrArg Prod.snd h2⟩
  obtain ⟨fld, hfl, hoff, hty⟩ := hfl
  have hsz := fun w => h.size (P := P) hj w
  have hag := fun w => h.agg (P := P) hj hkn w
  cases hq : j.desc.isAgg with
  | true =>
    rw [hq] at hag hk
    simp only [if_true] at hk
    refine OpOk.pure _ (fun E a hs => ?_) hk.2
    have hr := hs.ev x
    rw [hx] at hr
    obtain ⟨xs, h1, h2, h3, h4⟩ := rel_agg hr
    refine ⟨.agg (xs.extract off (off + j.size)), by simp [execOp, ho, h1, Instr.field, run_underlying hu, hfl, hty, hoff, asAgg, part, hag, hsz], .agg _ _ (by simp; omega) (fun q y hy => ?_) (fun q v y hv hy => ?_)⟩
    · simp only [Array.getElem?_extract] at hy
      split at hy
      · exact h3 _ y hy
      · cases hy
    · simp only [Array.getElem?_extract] at hy
      rw [List.getElem?_take] at hv
      split at hv
      · rw [List.getElem?_drop] at hv
        split at hy
        · exact h4 _ v y hv hy
        · cases hy
      · cases hv
  | false =>
    rw [hq] at hag hk
    obtain ⟨v, r, hc, hk⟩ := hk
    refine OpOk.pure _ (fun E a hs => ?_) hk
    have hr := hs.ev x
    rw [hx] at hr
    obtain ⟨xs, h1, h2, h3, h4⟩ := rel_agg hr
    have hv : cells[off]? = some v := by
      have : (cells.drop off)[0]? = some v := by rw [hc]; rfl
      simpa using this
    have hlt : off < xs.size := by rw [h2]; exact (List.getElem?_eq_some_iff.1 hv).1
    have hg : xs[off]? = some xs[off] := Array.getElem?_eq_getElem hlt
    exact ⟨xs[off], by simp [execOp, ho, h1, Instr.field, run_underlying hu, hfl, hty, hoff, asAgg, part, hag, hg], h4 _ v _ hv hg⟩

end Go.Proofs.YtihfpbhalnedcaaGreat.AM

namespace Go.Proofs.YtihfpbhalnedcaaGreat.AM
open Go Go.RowKit

variable {P : Program} {T : Nat -> Option TI} {E : Env} {st : St} {a : Act} {K : AV -> St -> Prop} {o : Oper}

theorem run_store_own {t : Nat} {i : TI} (h : TabOk P T) (hi : T t = some i) (w : World) (b of : Nat) (v : Value) (c : Array Value) (ty : TypeId) (hh : w.heap[b]? = some (.cells c ty (0, 0))) (hs : v.cells.size = i.size)
    (hle : of + v.cells.size <= c.size) (h1 : ∀ (j : Nat) (y : Value), v.cells[j]? = some y -> y.oneCell' = true) :
    (Instr.storeAt t (.pointer (some ⟨b, of, none⟩)) v).run P w = .ok () (w.setCells b of v.cells.toList) := by
  have hst := run_storeCells_cells (P := P) b of v.cells.toList 0 w
    (fun j hj => by
      rw [cell_of_row w b _ c ty (0, 0) hh]
      have : of + 0 + j < c.size := by simp at hj; omega
      simpa using this)
    (fun j hj => by simp [World.frozen?, hh])
    (fun y hy => by
      obtain ⟨j, hj⟩ := List.getElem?_of_mem hy
      exact h1 j y (by simpa using hj))
  simp only [Nat.add_zero] at hst
  simp [Instr.storeAt, Instr.sureAddr, storeVar, h.size hi, hs, hst]

theorem OpOk.write {id : Nat} (ob : Obj) {ob0 : Obj} (hob0 : lk st.sto id = some ob0) (h : ∀ E a, Sim E st a -> ∃ b of vs, E.tag b = some (.root id) /\ (∀ lo hi, E.win b = some (lo, hi) -> lo <= of /\ of + vs.length <= hi) /\ (execOp a.eval o).run P E.w = .ok .skip (E.w.setCells b of vs) /\ ORel { E with w := E.w.setCells b of vs } id ob)
    (hk : K .undef { st with sto := (id, ob) :: st.sto }) : OpOk P o st K := by
  intro E a KW QW hs hK
  obtain ⟨b, of, vs, ht, hwn, hx, ho⟩ := h E a hs
  unfold Oper.wp
  rw [hx]
  obtain ⟨h1, h2, h3, h4, h5⟩ := setCells_rest b vs of E.w
  obtain ⟨g1, g2⟩ := hs.write (id := id) (ob := ob) (w' := E.w.setCells b of vs) hob0 h1 h2 h3 h4 (fun k hk => h5 k (fun e => hk (e ▸ ht))) (fun k lo hi hw c T hc => by
    by_cases e : k = b
    · subst e
      obtain ⟨c', q1, q2, q3⟩ := heap_setCells k T vs of E.w c hc
      obtain ⟨w1, w2⟩ := hwn lo hi hw
      exact ⟨c', q1, q2, fun j hj => by rw [q3, if_neg (by omega)]⟩
    · exact ⟨c, by rw [h5 k e]; exact hc, rfl, fun _ _ => rfl⟩) ho
  exact hK _ .undef _ _ g2 g1 (.undef _) hk

theorem still_write (hs : Sim E st a) {id b of : Nat} {vs : List Value} (ht : E.tag b = some (.root id)) : ∀ k, E.S k -> E.S k /\ (E.w.setCells b of vs).heap[k]? = E.w.heap[k]? := fun k hk =>
  ⟨hk, (setCells_rest b vs of E.w).2.2.2.2 k (fun e => by rw [e] at hk; rw [(hs.wf.still b hk).1] at ht; cases ht)⟩

theorem ok_storeBox {t id fld : Nat} {i : TI} {p x : Operand} {cells vs : List AV} (h : TabOk P T) (hi : T t = some i) (ho : o.op = .store t p x) (hp : st.ev p = .ptr id 0 fld) (hb : lk st.sto id = some (.box cells))
    (hf : (st.ev x).flat = some vs) (hn : vs.length = i.size) (hle : fld + vs.length <= cells.length) (hk : K .undef { st with sto := (id, .box (setMany cells fld vs)) :: st.sto }) : OpOk P o st K := by
  refine OpOk.write _ hb (fun E a hs => ?_) hk
  obtain ⟨L, c, ty, h1, h2, h3, h4, h5, hw, h6⟩ := hs.sto id _ hb
  have hrp := hs.ev p
  rw [hp] at hrp
  obtain ⟨g1, g2, g3⟩ := rel_flat (hs.ev x) hf
  have hpv : a.eval p = .pointer (some ⟨L.blk, L.base + fld, none⟩) := by
    generalize a.eval p = xv at hrp
    cases hrp with
    | base _ _ h => cases h
    | ptr _ _ _ L' hL =>
      rw [h1] at hL
      obtain rfl := Option.some.inj hL
      simp
  refine ⟨L.blk, L.base + fld, (a.eval x).cells.toList, h3, fun lo hi hq => ?_, ?_, ?_⟩
  · have := hw lo hi hq
    simp only [Array.length_toList]
    omega
  · simp [execOp, ho, hpv, run_store_own h hi E.w L.blk (L.base + fld) (a.eval x) c ty h4 (by omega) (by omega) g2]
  · obtain ⟨c', hc1, hc2, hc3⟩ := heap_setCells L.blk ty (a.eval x).cells.toList (L.base + fld) E.w c h4
    have hsl := setMany_length cells fld vs hle
    refine ⟨L, c', ty, h1, h2, h3, hc1, by rw [hc2, hsl]; exact h5, by rw [hsl]; exact hw, fun j v hj => ?_⟩
    rw [setMany_get _ _ _ hle] at hj
    rw [hc3]
    simp only [Array.length_toList]
    by_cases hjj : fld <= j /\ j < fld + vs.length
    · rw [if_pos hjj] at hj
      have hlt : j - fld < (a.eval x).cells.size := by omega
      have hg := Array.getElem?_eq_getElem hlt
      rw [if_pos (by omega)]
      exact ⟨(a.eval x).cells[j - fld], by rw [show L.base + j - (L.base + fld) = j - fld by omega]; simp [hlt], g2 _ _ hg, (g3 _ v _ hj hg).to (still_write hs h3) fun _ _ _ hL => hL⟩
    · rw [if_neg hjj] at hj
      rw [if_neg (by omega)]
      obtain ⟨y, hy1, hy2, hy3⟩ := h6 j v hj
      exact ⟨y, hy1, hy2, hy3.to (still_write hs h3) fun _ _ _ hL => hL⟩

def AV.cell (fl : Bool) (v : AV) : Option AV :=
  match fl with
  | true => match v with
    | .int k n => some (.int k n)
    | .bool b => some (.bool b)
    | _ => none
  | false => match v with
    | .nilS => some (.own 1 true [])
    | .emp => some (.own 1 true [])
    | .tup _ => none
    | .agg _ => none
    | .own _ _ _ => none
    | .ownp _ => none
    | v => some v

def cellsOf (fl : Bool) : List AV -> Option (List AV)
  | [] => some []
  | v :: r => match v.cell fl, cellsOf fl r with
    | some u, some us => some (u :: us)
    | _, _ => none

theorem cellsOf_get {fl : Bool} : ∀ {vs us : List AV}, cellsOf fl vs = some us -> us.length = vs.length /\ ∀ (j : Nat) (u : AV), us[j]? = some u -> ∃ v, vs[j]? = some v /\ v.cell fl = some u
  | [], us, h => by simp [cellsOf] at h; subst h; exact ⟨rfl, fun j u hj => by simp at hj⟩
  | v :: r, us, h => by
    unfold cellsOf at h
    split at h
    · rename_i u us' h1 h2
      obtain rfl := Option.some.inj h
      obtain ⟨g1, g2⟩ := cellsOf_get h2
      refine ⟨by simp [g1], fun j w hj => ?_⟩
      cases j with
      | zero => simp at hj; subst hj; exact ⟨v, rfl, h1⟩
      | succ j => exact g2 j w (by simpa using hj)
    · cases h

theorem cell_rel {fl : Bool} {v u : AV} {x : Value} {τ : Tag} (h : Rel E v x) (hc : v.cell fl = some u) : Cell E fl τ u x := by
  cases fl with
  | true =>
    cases v with
    | int k n => simp [AV.cell] at hc; subst hc; rw [(rel_int h).1]; exact .int _ _ (rel_int h).2
    | bool b => simp [AV.cell] at hc; subst hc; rw [rel_bool h]; exact .bool _
    | _ => simp [AV.cell] at hc
  | false =>
    cases v with
    | nilS => simp [AV.cell] at hc; subst hc; rw [rel_nilS h]; exact .inr ⟨_, [], rfl, .inl ⟨rfl, .inr rfl⟩⟩
    | emp =>
      simp [AV.cell] at hc
      subst hc
      cases h with
      | base _ _ h => cases h; exact .inr ⟨_, [], rfl, .inl ⟨rfl, .inl ⟨_, rfl⟩⟩⟩
    | _ => simp [AV.cell] at hc <;> (subst hc; exact .inl h)

theorem ok_storeArr {t id row fld sz : Nat} {fl : Bool} {i : TI} {p x : Operand} {rows : List (List AV)} {r vs us : List AV} (h : TabOk P T) (hi : T t = some i) (ho : o.op = .store t p x) (hp : st.ev p = .ptr id row fld) (hb : lk st.sto id = some (.arr sz fl rows))
    (hr : rows[row]? = some r) (hf : (st.ev x).flat = some vs) (hn : vs.length = i.size) (hle : fld + vs.length <= r.length) (hu : cellsOf fl vs = some us)
    (hk : K .undef { st with sto := (id, .arr sz fl (rows.set row (setMany r fld us))) :: st.sto }) : OpOk P o st K := by
  refine OpOk.write _ hb (fun E a hs => ?_) hk
  rcases hs.sto id _ hb with ⟨_, h2⟩ | ⟨L, c, ty, h1, hsz, h2, h3, h4, h5, h6, h7, hwa, h8, h9⟩
  · rw [h2] at hr; simp at hr
  have hrp := hs.ev p
  rw [hp] at hrp
  obtain ⟨g1, g2, g3⟩ := rel_flat (hs.ev x) hf
  obtain ⟨q1, q2⟩ := cellsOf_get hu
  have hpv : a.eval p = .pointer (some ⟨L.blk, L.base + row * L.siz + fld, none⟩) := by
    generalize a.eval p = xv at hrp
    cases hrp with
    | base _ _ h => cases h
    | ptr _ _ _ L' hL =>
      rw [h1] at hL
      obtain rfl := Option.some.inj hL
      rfl
  have hrow := (List.getElem?_eq_some_iff.1 hr).1
  have hrl := h8 _ _ hr
  have hmul : row * L.siz + L.siz <= L.cap * L.siz := by
    rw [<- Nat.succ_mul]; exact Nat.mul_le_mul_right _ (by omega)
  refine ⟨L.blk, L.base + row * L.siz + fld, (a.eval x).cells.toList, h3, (fun lo hi hq => by rw [hwa] at hq; cases hq), ?_, ?_⟩
  · simp [execOp, ho, hpv, run_store_own h hi E.w L.blk (L.base + row * L.siz + fld) (a.eval x) c ty h4 (by omega) (by omega) g2]
  · obtain ⟨c', hc1, hc2, hc3⟩ := heap_setCells L.blk ty (a.eval x).cells.toList (L.base + row * L.siz + fld) E.w c h4
    have hset : ∀ (i : Nat) (r' : List AV), (rows.set row (setMany r fld us))[i]? = some r' -> r'.length = L.siz := fun i r' hi' => by
      by_cases hri : row = i
      · rw [List.getElem?_set, if_pos hri, if_pos hrow] at hi'
        obtain rfl := Option.some.inj hi'
        rw [setMany_length _ _ _ (by omega)]; exact hrl
      · rw [List.getElem?_set, if_neg hri] at hi'
        exact h8 _ _ hi'
    refine .inr ⟨L, c', ty, h1, hsz, h2, h3, hc1, by rw [hc2]; exact h5, by simpa using h6, h7, hwa, hset, fun i j r' v hi' hj => ?_⟩
    have hcell : ∀ {u : AV} {y : Value}, Cell E fl (.cell id i j) u y -> Cell { E with w := E.w.setCells L.blk (L.base + row * L.siz + fld) (a.eval x).cells.toList } fl (.cell id i j) u y := fun hq =>
      hq.to (still_write hs h3) (fun _ _ _ hL => hL) fun b hb => ⟨hb, (setCells_rest _ _ _ _).2.2.2.2 b (fun e => by rw [e, h3] at hb; cases hb)⟩
    rw [hc3]
    simp only [Array.length_toList]
    rw [List.getElem?_set] at hi'
    by_cases hir : row = i
    · subst hir
      rw [if_pos rfl, if_pos hrow] at hi'
      obtain rfl := Option.some.inj hi'
      rw [setMany_get _ _ _ (by omega)] at hj
      by_cases hjj : fld <= j /\ j < fld + us.length
      · rw [if_pos hjj] at hj
        obtain ⟨v', hv1, hv2⟩ := q2 _ _ hj
        have hlt : j - fld < (a.eval x).cells.size := by omega
        have hg := Array.getElem?_eq_getElem hlt
        rw [if_pos (by omega)]
        have he : L.base + row * L.siz + j - (L.base + row * L.siz + fld) = j - fld := by omega
        rw [he]
        exact ⟨(a.eval x).cells[j - fld], by simp [hlt], g2 _ _ hg, hcell (cell_rel (g3 _ v' _ hv1 hg) hv2)⟩
      · rw [if_neg hjj] at hj
        rw [if_neg (by omega)]
        obtain ⟨y, hy1, hy2, hy3⟩ := h9 _ _ _ _ hr hj
        exact ⟨y, hy1, hy2, hcell hy3⟩
    · rw [if_neg hir] at hi'
      have hjl : j < L.siz := by rw [<- h8 _ _ hi']; exact (List.getElem?_eq_some_iff.1 hj).1
      have hne : ¬ (L.base + row * L.siz + fld <= L.base + i * L.siz + j /\ L.base + i * L.siz + j < L.base + row * L.siz + fld + (a.eval x).cells.size /\ L.base + i * L.siz + j < c.size) := by
        rcases Nat.lt_or_gt_of_ne hir with hlt | hgt
        · have : row * L.siz + L.siz <= i * L.siz := by rw [<- Nat.succ_mul]; exact Nat.mul_le_mul_right _ hlt
          omega
        · have : i * L.siz + L.siz <= row * L.siz := by rw [<- Nat.succ_mul]; exact Nat.mul_le_mul_right _ hgt
          omega
      rw [if_neg hne]
      obtain ⟨y, hy1, hy2, hy3⟩ := h9 _ _ _ _ hi' hj
      exact ⟨y, hy1, hy2, hcell hy3⟩

def hiOf (n : Nat) (hi : Option AV) : Option Int :=
  match hi with
  | none => some n
  | some (.int _ h) => some h
  | _ => none

def loOf (lo : Option AV) : Option Int :=
  match lo with
  | none => some 0
  | some (.int _ h) => some h
  | _ => none

theorem loOf_some {v : AV} {l : Int} (h : loOf (some v) = some l) : ∃ k, v = .int k l := by
  cases v <;> simp [loOf] at h
  subst h; exact ⟨_, rfl⟩
theorem hiOf_some {v : AV} {n : Nat} {l : Int} (h : hiOf n (some v) = some l) : ∃ k, v = .int k l := by
  cases v <;> simp [hiOf] at h
  subst h; exact ⟨_, rfl⟩

def St.cut (st : St) (size : Nat) (x : AV) (lo hi : Option AV) (K : AV -> Prop) : Prop :=
  match x with
  | .ref p id off len =>
    match lk st.sto id, loOf lo, hiOf len hi with
    | some (.arr s _ rows), some l, some h => (0 <= l /\ l <= h /\ (h <= len ∨ (p = true /\ h <= ((rows.length - off : Nat) : Int)))) /\ (off + len <= rows.length) /\ s = size /\ K (.ref ((p || decide (0 < len)) && decide (off + l.toNat < rows.length)) id (off + l.toNat) (h - l).toNat)
    | _, _, _ => False
  | .ro rows =>
    match loOf lo, hiOf rows.length hi with
    | some l, some h => (0 <= l /\ l <= h /\ h <= rows.length) /\ (∀ r ∈ rows, r.length = size) /\ K (.ro ((rows.take h.toNat).drop l.toNat))
    | _, _ => False
  | .nilS => match loOf lo, hiOf 0 hi with
    | some l, some h => (l = 0 /\ h = 0) /\ K .nilS
    | _, _ => False
  | _ => False

theorem run_sliceBound (w : World) (k : IntKind) (n : Int) (y : Nat) (c : BoundsCode) (h0 : 0 <= n) (h : n <= y) : (Instr.sliceBound (.int k n) y c).run P w = .ok n.toNat w := by
  simp [Instr.sliceBound, asIntOf, h0, h]

theorem ok_slice {t e : Nat} {i j : TI} {x : Operand} {lo hi : Option Operand} (h : TabOk P T) (hti : T t = some i) (hd : i.desc = .slice e) (hj : T e = some j) (ho : o.op = .slice t x lo hi none)
    (hk : st.cut j.size (st.ev x) (lo.map st.ev) (hi.map st.ev) fun v => K v st) : OpOk P o st K := by
  obtain ⟨d, hu, htd⟩ := h.und hti
  have hd1 := tdOf_slice (htd.trans hd)
  subst hd1
  have hsz := fun w => h.size (P := P) hj w
  have key : ∀ (E : Env) (a : Act), Sim E st a -> ∀ (ad : Option Addr) (len cap : Nat) (l hh : Int), a.eval x = .slice ad len cap -> len <= cap -> loOf (lo.map st.ev) = some l -> hiOf len (hi.map st.ev) = some hh -> 0 <= l -> l <= hh -> hh <= cap ->
      (execOp a.eval o).run P E.w = .ok (.value (.slice (if cap = l.toNat then ad else ad.map (·.add (l.toNat * j.size))) (hh.toNat - l.toNat) (cap - l.toNat))) E.w := by
    intro E a hs ad len cap l hh hx hlc hl hhi h0 hlh hhc
    have hlo : ∀ y : Nat, l <= y -> (match lo.map a.eval with | some v => Instr.sliceBound v y .sliceB | none => pure 0 : Sem Nat).run P E.w = .ok l.toNat E.w := fun y hy => by
      cases lo with
      | none => simp [loOf] at hl; subst hl; simp
      | some lo =>
        obtain ⟨k, hv⟩ := loOf_some hl
        have hr := hs.ev lo
        rw [hv] at hr
        simp [(rel_int hr).1, run_sliceBound (P := P) E.w _ _ _ _ h0 hy]
    have hb : (Instr.sliceBounds true len cap (lo.map a.eval) (hi.map a.eval) none).run P E.w = .ok (l.toNat, hh.toNat, cap) E.w := by
      cases hi with
      | none =>
        simp [hiOf] at hhi
        subst hhi
        have := hlo len hlh
        simp only [Instr.sliceBounds, Option.map_none, Sem.run_bind, Sem.run_pure, Result.andThen_ok, Option.isSome_none, Bool.false_eq_true, if_false, this, Int.toNat_natCast]
        cases lo with
        | none => simp only [Option.map_none, Sem.run_pure, Result.ok.injEq] at this; simp [this.1]
        | some lo => simp only [Option.map_some] at this; simp only [Option.map_some, Sem.run_bind, this, Result.andThen_ok, Sem.run_pure]
      | some hi =>
        obtain ⟨k, hv⟩ := hiOf_some hhi
        have hr := hs.ev hi
        rw [hv] at hr
        have hb2 := run_sliceBound (P := P) E.w k hh cap .sliceAcap (by omega) hhc
        have := hlo hh.toNat (by omega)
        simp only [Instr.sliceBounds, Option.map_none, Option.map_some, (rel_int hr).1, Sem.run_bind, Sem.run_pure, Result.andThen_ok, Option.isSome_none, Bool.false_eq_true, if_false, if_true, hb2, this]
        cases lo with
        | none => simp only [Option.map_none, Sem.run_pure, Result.ok.injEq] at this; simp [this.1]
        | some lo => simp only [Option.map_some] at this; simp only [Option.map_some, Sem.run_bind, this, Result.andThen_ok, Sem.run_pure]
    simp [execOp, ho, hx, Instr.sliceAt, Instr.slice, run_underlying hu, hb, hsz]
  unfold St.cut at hk
  split at hk
  · rename_i pf id off len hp
    split at hk
    · rename_i sz fl rows l hh hq hl hhi
      obtain ⟨⟨h0, hlh, hhr⟩, hor, hrl, hk⟩ := hk
      refine OpOk.pure _ (fun E a hs => ?_) hk
      have hrx := hs.ev x
      rw [hp] at hrx
      have hk' := key E a hs
      generalize a.eval x = xv at hrx hk'
      cases hrx with
      | base _ _ h => cases h
      | ref0 _ _ cap ad hc =>
        subst hc
        have hh0 : hh = 0 := by rcases hhr with h | ⟨h, _⟩; omega; cases h
        have hl0 : l = 0 := by omega
        subst hh0 hl0
        refine ⟨_, hk' _ _ _ 0 0 rfl (by omega) hl hhi h0 hlh (by omega), ?_⟩
        simp
        exact .ref0 _ _ _ _ rfl
      | ref _ _ _ _ L cap hL hle hcap =>
        rcases hs.sto id _ hq with ⟨h1, h2⟩ | ⟨L', c, ty, h1, hsz2, h2, h3, h4, h5, h6, h7, hwa, h8, h9⟩
        · rw [h1] at hL; cases hL
        rw [h1] at hL
        obtain rfl := Option.some.inj hL
        have hhc : hh <= cap := by rcases hhr with h | ⟨_, h⟩ <;> omega
        refine ⟨_, hk' _ _ _ l hh rfl hle hl hhi h0 hlh hhc, ?_⟩
        by_cases hcl : cap = l.toNat
        · rw [if_pos hcl, show hh.toNat - l.toNat = 0 by omega, show (hh - l).toNat = 0 by omega]
          have : decide (off + l.toNat < rows.length) = false := by simp; omega
          rw [this, Bool.and_false]
          exact .ref0 _ _ _ _ (by omega)
        · rw [if_neg hcl]
          simp only [Option.map_some, Addr.add_mid]
          have hsl : l.toNat * j.size = l.toNat * L'.siz := by rw [hsz2, hrl]
          rw [hsl, Nat.add_assoc, <- Nat.add_mul, show hh.toNat - l.toNat = (hh - l).toNat by omega]
          exact .ref _ _ _ _ L' _ h1 (by omega) (by omega)
    · exact hk.elim
  · rename_i rows hp
    split at hk
    · rename_i l hh hl hhi
      obtain ⟨⟨h0, hlh, hhr⟩, hrl, hk⟩ := hk
      refine OpOk.pure _ (fun E a hs => ?_) hk
      have hrx := hs.ev x
      rw [hp] at hrx
      have hk' := key E a hs
      generalize a.eval x = xv at hrx hk'
      cases hrx with
      | base _ _ h =>
        cases h with
        | ro0 ad cap hc1 hc2 =>
          simp at hhr
          refine ⟨_, hk' _ _ _ l hh rfl (by omega) hl hhi h0 hlh (by omega), ?_⟩
          have hl0 : l = 0 := by omega
          have hh0 : hh = 0 := by omega
          subst hl0 hh0
          have : (if cap = Int.toNat 0 then ad else Option.map (fun x => x.add (Int.toNat 0 * j.size)) ad) = ad := by
            split
            · rfl
            · cases ad <;> simp [Addr.add]
          rw [this]
          simpa using Rel.base (E := E) _ _ (.ro0 ad cap hc1 hc2)
        | ro _ b oo cap s f g1 g2 g3 g4 g5 g6 g7 =>
          refine ⟨_, hk' _ _ _ l hh rfl (by omega) hl hhi h0 hlh (by omega), ?_⟩
          have hlen : ((rows.take hh.toNat).drop l.toNat).length = hh.toNat - l.toNat := by simp; omega
          by_cases hemp : hh.toNat - l.toNat = 0
          · have : (rows.take hh.toNat).drop l.toNat = [] := List.eq_nil_of_length_eq_zero (by omega)
            rw [this, hemp]
            refine .base _ _ (.ro0 _ _ (by omega) ?_)
            intro hn
            split at hn <;> simp at hn
          · have hcl : ¬ cap = l.toNat := by omega
            rw [if_neg hcl]
            simp only [Option.map_some, Addr.add_mid]
            have hsl : l.toNat * j.size = l.toNat * s := by
              have hlt : 0 < rows.length := by omega
              have hg := List.getElem?_eq_getElem hlt
              rw [<- g5 _ _ hg, hrl _ (List.getElem_mem hlt)]
            rw [hsl, <- hlen]
            refine .base _ _ (.ro _ b _ _ s (fun p q => f (l.toNat + p) q) (fun e => by rw [e] at hlen; simp at hlen; omega) (by omega) (by omega) g4 ?_ ?_ ?_)
            all_goals
              intro p
              have hget : ∀ r', ((rows.take hh.toNat).drop l.toNat)[p]? = some r' -> rows[l.toNat + p]? = some r' := fun r' hr' => by
                rw [List.getElem?_drop, List.getElem?_take] at hr'
                split at hr'
                · exact hr'
                · cases hr'
            · intro r' hr'
              exact g5 _ _ (hget _ hr')
            · intro q r' v hr' hq
              rw [<- g6 _ _ _ _ (hget _ hr') hq]
              congr 2
              rw [Nat.add_mul]; omega
            · intro q r' v hr' hq
              exact g7 _ _ _ _ (hget _ hr') hq
    · exact hk.elim
  · rename_i hp
    split at hk
    · rename_i l hh hl hhi
      obtain ⟨⟨rfl, rfl⟩, hk⟩ := hk
      refine OpOk.pure _ (fun E a hs => ?_) hk
      have hrx := hs.ev x
      rw [hp] at hrx
      have hax := rel_nilS hrx
      refine ⟨_, key E a hs none 0 0 0 0 hax (Nat.le_refl _) hl hhi (Int.le_refl _) (Int.le_refl _) (Int.le_refl _), ?_⟩
      simp
      exact .base _ _ .nilS
    · exact hk.elim
  · exact hk.elim

theorem ok_sliceNil {t e : Nat} {i j : TI} {x : Operand} (h : TabOk P T) (hti : T t = some i) (hd : i.desc = .slice e) (hj : T e = some j) (ho : o.op = .slice t x none none none) (hx : st.ev x = .nilS) (hk : K .nilS st) : OpOk P o st K := by
  obtain ⟨d, hu, htd⟩ := h.und hti
  have hd1 := tdOf_slice (htd.trans hd)
  subst hd1
  have hsz := fun w => h.size (P := P) hj w
  refine OpOk.pure _ (fun E a hs => ?_) hk
  have hr := hs.ev x
  rw [hx] at hr
  refine ⟨.slice none 0 0, ?_, .base _ _ .nilS⟩
  simp [execOp, ho, rel_nilS hr, Instr.sliceAt, Instr.slice, run_underlying hu, Instr.sliceBounds, hsz]

end Go.Proofs.YtihfpbhalnedcaaGreat.AM

namespace Go.Proofs.YtihfpbhalnedcaaGreat.AM
open Go Go.RowKit

variable {P : Program} {T : Nat -> Option TI} {E : Env} {st : St} {a : Act} {K : AV -> St -> Prop} {o : Oper}

inductive SK where
  | flat
  | ro
  | raw

def St.rows (st : St) : AV -> Option (SK × List (List AV))
  | .nilS => some (.flat, [])
  | .emp => some (.flat, [])
  | .ro rows => some (.ro, rows)
  | .ref _ id off len => match lk st.sto id with
    | some (.arr _ fl rows) => bif nble (off + len) rows.length then some (bif fl then .flat else .raw, (rows.drop off).take len) else none
    | _ => none
  | _ => none

def AV.isOwn : AV -> Bool
  | .own _ _ _ => true
  | _ => false

def Lays (k : SK) (fl : Bool) (ys : List (List AV)) : Prop :=
  match k, fl with
  | .flat, _ => True
  | .ro, false => True
  | .raw, false => ∀ r ∈ ys, ∀ v ∈ r, v.isOwn = false
  | _, true => ∀ r ∈ ys, ∀ v ∈ r, v.scal = true

def SrcCell (E : Env) (k : SK) (v : AV) (u : Value) : Prop :=
  match k with
  | .flat => SRel v u
  | .ro => RRel E.w E.S v u
  | .raw => v.isOwn = false -> Rel E v u

theorem rel_scal {v : AV} {u : Value} (h : Rel E v u) (hs : v.scal = true) : SRel v u := by
  cases v with
  | int k n => rw [(rel_int h).1]; exact .int _ _ (rel_int h).2
  | bool b => rw [rel_bool h]; exact .bool _
  | _ => cases hs

def NCell (E : Env) (fl : Bool) (v : AV) (x : Value) : Prop :=
  match fl with
  | true => SRel v x
  | false => Rel E v x

theorem NCell.cell {fl : Bool} {v : AV} {x : Value} {τ : Tag} (h : NCell E fl v x) : Cell E fl τ v x := by
  cases fl with
  | true => exact h
  | false => exact .inl h

theorem NCell.to {E' : Env} {fl : Bool} {v : AV} {x : Value} (h : NCell E fl v x) (hS : ∀ b, E.S b -> E'.S b /\ E'.w.heap[b]? = E.w.heap[b]?) (hl : ∀ id L, E.loc id = some L -> E'.loc id = some L) : NCell E' fl v x := by
  cases fl with
  | true => exact h
  | false => exact Rel.to h hS fun id L _ => hl id L

theorem SrcCell.ncell {k : SK} {fl : Bool} {ys : List (List AV)} {r : List AV} {v : AV} {u : Value} (h : SrcCell E k v u) (hl : Lays k fl ys) (hr : r ∈ ys) (hv : v ∈ r) : NCell E fl v u := by
  cases k <;> cases fl
  · exact h.rel
  · exact h
  · exact .base _ _ h
  · exact RRel.srel h (hl r hr v hv)
  · exact h (hl r hr v hv)
  · have hsc := hl r hr v hv
    have : v.isOwn = false := by cases v <;> first | rfl | cases hsc
    exact rel_scal (h this) hsc

structure Src (E : Env) (size : Nat) (ys : List (List AV)) (x : Value) (news : List Value) : Prop where
  len : news.length = ys.length * size
  val : ∃ sb c, x = .slice sb ys.length c /\ ys.length <= c /\ (ys ≠ [] -> ∃ b o, sb = some ⟨b, o, none⟩ /\ b < E.w.heap.size /\ ∀ k u, news[k]? = some u -> E.w.cell? ⟨b, o + k, none⟩ = some u)
  one : ∀ u ∈ news, u.oneCell' = true

theorem range_get {α : Type} (n : Nat) (f : Nat -> α) (k : Nat) : ((List.range n).map f)[k]? = if k < n then some (f k) else none := by
  rw [List.getElem?_map]
  by_cases h : k < n
  · rw [if_pos h, List.getElem?_range h]; rfl
  · rw [if_neg h, List.getElem?_eq_none (by simpa using h)]; rfl

theorem flat_div {n size k : Nat} (h : k < n * size) : k / size < n /\ k % size < size /\ k = k / size * size + k % size := by
  have hs : 0 < size := by
    rcases Nat.eq_zero_or_pos size with h0 | h0
    · subst h0; simp at h
    · exact h0
  exact ⟨(Nat.div_lt_iff_lt_mul hs).2 h, Nat.mod_lt _ hs, by rw [Nat.mul_comm]; exact (Nat.div_add_mod k size).symm⟩

theorem src_of (hs : Sim E st a) {y : AV} {x : Value} (hy : Rel E y x) {ys : List (List AV)} {size : Nat} {kd : SK} (hr : st.rows y = some (kd, ys)) (hsz : ∀ r ∈ ys, r.length = size) (hpos : 0 < size) :
    ∃ news, Src E size ys x news /\ ∀ (i j : Nat) (r : List AV) (v : AV), ys[i]? = some r -> r[j]? = some v -> ∃ u, news[i * size + j]? = some u /\ u.oneCell' = true /\ SrcCell E kd v u := by
  have hlen : ∀ (i : Nat) (r : List AV), ys[i]? = some r -> r.length = size := fun i r h => hsz r (List.mem_of_getElem? h)
  -- from a function of cells
  have key : ∀ (b oo c : Nat) (g : Nat -> Nat -> Value), x = .slice (some ⟨b, oo, none⟩) ys.length c -> ys.length <= c -> b < E.w.heap.size ->
      (∀ (i j : Nat) (r : List AV) (v : AV), ys[i]? = some r -> r[j]? = some v -> E.w.cell? ⟨b, oo + i * size + j, none⟩ = some (g i j) /\ (g i j).oneCell' = true /\ SrcCell E kd v (g i j)) ->
      ∃ news, Src E size ys x news /\ ∀ (i j : Nat) (r : List AV) (v : AV), ys[i]? = some r -> r[j]? = some v -> ∃ u, news[i * size + j]? = some u /\ u.oneCell' = true /\ SrcCell E kd v u := by
    intro b oo c g hx hc hb hg
    have hat : ∀ k, k < ys.length * size -> ∃ r v, ys[k / size]? = some r /\ r[k % size]? = some v := fun k hk => by
      obtain ⟨h1, h2, h3⟩ := flat_div hk
      have hg1 := List.getElem?_eq_getElem h1
      have hl := hlen _ _ hg1
      exact ⟨_, _, hg1, List.getElem?_eq_getElem (by omega)⟩
    refine ⟨(List.range (ys.length * size)).map fun k => g (k / size) (k % size), ⟨by simp, ⟨some ⟨b, oo, none⟩, c, hx, hc, fun _ => ⟨b, oo, rfl, hb, fun k u hu => ?_⟩⟩, fun u hu => ?_⟩, fun i j r v hi hj => ?_⟩
    · rw [range_get] at hu
      split at hu
      · rename_i hk
        obtain rfl := Option.some.inj hu
        obtain ⟨r, v, h1, h2⟩ := hat k hk
        obtain ⟨q1, q2, q3⟩ := flat_div hk
        rw [<- (hg _ _ r v h1 h2).1]
        congr 2
        omega
      · cases hu
    · simp only [List.mem_map, List.mem_range] at hu
      obtain ⟨k, hk, rfl⟩ := hu
      obtain ⟨r, v, h1, h2⟩ := hat k hk
      exact (hg _ _ r v h1 h2).2.1
    · have hil := (List.getElem?_eq_some_iff.1 hi).1
      have hjl : j < size := by rw [<- hlen _ _ hi]; exact (List.getElem?_eq_some_iff.1 hj).1
      have hk : i * size + j < ys.length * size := by
        have : i * size + size <= ys.length * size := by rw [<- Nat.succ_mul]; exact Nat.mul_le_mul_right _ hil
        omega
      have hd : (i * size + j) / size = i := by
        rw [Nat.add_comm, Nat.add_mul_div_right _ _ hpos, Nat.div_eq_of_lt hjl]; simp
      have hm : (i * size + j) % size = j := by
        rw [Nat.add_comm, Nat.add_mul_mod_self_right, Nat.mod_eq_of_lt hjl]
      refine ⟨g i j, by rw [range_get, if_pos hk, hd, hm], (hg i j r v hi hj).2.1, (hg i j r v hi hj).2.2⟩
  have nil : ∀ sb c, x = .slice sb 0 c -> ys = [] -> ∃ news, Src E size ys x news /\ ∀ (i j : Nat) (r : List AV) (v : AV), ys[i]? = some r -> r[j]? = some v -> ∃ u, news[i * size + j]? = some u /\ u.oneCell' = true /\ SrcCell E kd v u := by
    intro sb c hx hn
    subst hn
    exact ⟨[], ⟨by simp, ⟨sb, c, hx, Nat.zero_le _, fun h => absurd rfl h⟩, fun u hu => by simp at hu⟩, fun i j r v hi => by simp at hi⟩
  cases y with
  | nilS => simp [St.rows] at hr; obtain ⟨rfl, rfl⟩ := hr; exact nil _ _ (rel_nilS hy) rfl
  | emp =>
    simp [St.rows] at hr; obtain ⟨rfl, rfl⟩ := hr
    cases hy with
    | base _ _ h => cases h; exact nil _ _ rfl rfl
  | ro rows =>
    simp [St.rows] at hr; obtain ⟨rfl, rfl⟩ := hr
    cases hy with
    | base _ _ h =>
      cases h with
      | ro0 a cap h1 h2 => exact nil _ _ rfl rfl
      | ro _ b oo cap s f g1 g2 g3 g4 g5 g6 g7 =>
        have hss : s = size := by
          cases hq : rows with
          | nil => exact absurd hq g1
          | cons r rs => rw [<- g5 0 r (by rw [hq]; rfl)]; exact hlen 0 r (by rw [hq]; rfl)
        subst hss
        exact key b oo cap f rfl g2 (hs.wf.still b g4).2 fun i j r v hi hj => ⟨g6 i j r v hi hj, rrel_one (g7 i j r v hi hj), g7 i j r v hi hj⟩
  | ref p id off len =>
    simp only [St.rows] at hr
    split at hr
    · rename_i sz fl rows hq
      cases hle : nble (off + len) rows.length with
      | false => simp [hle] at hr
      | true =>
        have hle' := nble_le hle
        simp [hle] at hr
        obtain ⟨hkd, rfl⟩ := hr
        have hl : ((rows.drop off).take len).length = len := by simp; omega
        cases hy with
        | base _ _ h => cases h
        | ref0 _ _ cap ad hc => exact nil _ _ rfl (List.eq_nil_of_length_eq_zero (by omega))
        | ref _ _ _ _ L cap hL h1 h2 =>
          rcases hs.sto id _ hq with ⟨g1, g2⟩ | ⟨L', c, ty, g1, gsz, g2, g3, g4, g5, g6, g7, gwa, g8, g9⟩
          · rw [g1] at hL; cases hL
          rw [g1] at hL
          obtain rfl := Option.some.inj hL
          by_cases hz : len = 0
          · subst hz
            exact nil _ _ rfl (List.eq_nil_of_length_eq_zero (by omega))
          · have hget : ∀ (i : Nat) (r : List AV), ((rows.drop off).take len)[i]? = some r -> rows[off + i]? = some r := fun i r h => by
              rw [List.getElem?_take] at h
              split at h
              · rw [List.getElem?_drop] at h; exact h
              · cases h
            have hsiz : L'.siz = size := by
              have h0 : 0 < ((rows.drop off).take len).length := by omega
              have hg := List.getElem?_eq_getElem h0
              rw [<- g8 _ _ (hget _ _ hg)]
              exact hlen _ _ hg
            refine key L'.blk (L'.base + off * L'.siz) cap (fun i j => (c[L'.base + (off + i) * L'.siz + j]?).getD undef) (by rw [hl]) (by omega) (hs.wf.owned _ (by rw [g3]; simp)) fun i j r v hi hj => ?_
            obtain ⟨y, hy1, hy2, hy3⟩ := g9 _ j r v (hget i r hi) hj
            have he : (c[L'.base + (off + i) * L'.siz + j]?).getD undef = y := by rw [hy1]; rfl
            rw [he]
            refine ⟨?_, hy2, ?_⟩
            · rw [cell_of_row E.w L'.blk _ c ty (0, 0) g4, <- hy1]
              congr 1
              rw [<- hsiz, Nat.add_mul]; omega
            · cases fl with
              | true => simp at hkd; subst hkd; exact hy3
              | false =>
                simp at hkd; subst hkd
                intro ho
                rcases hy3 with h | ⟨_, _, rfl, _⟩
                · exact h
                · cases ho
    · cases hr
  | _ => simp [St.rows] at hr

theorem Sim.drew (hs : Sim E st a) : Sim { E with w := E.w.drew } st a :=
  ⟨⟨hs.wf.still, hs.wf.owned, hs.wf.windows⟩, hs.defers, hs.size, fun t v hv => by
    obtain ⟨x, hx, hr⟩ := hs.tmps t v hv
    exact ⟨x, hx, hr.to (fun b hb => ⟨hb, rfl⟩) fun _ _ _ h => h⟩, fun i ob hi => (hs.sto i ob hi).to (fun b hb => ⟨hb, rfl⟩) rfl rfl (fun _ _ _ h => h) (fun b _ => ⟨rfl, rfl⟩), hs.used, hs.keys⟩

theorem Fr.drew : Fr E { E with w := E.w.drew } := ⟨rfl, rfl, rfl, Nat.le_refl _, fun _ _ _ => rfl, fun _ h => .inl h, fun _ h => h, fun _ h => .inl h, fun _ _ _ h => h, fun _ _ _ _ c _ h => ⟨c, h, rfl, fun _ _ => rfl⟩, rfl⟩

theorem run_append_none (w : World) (t ty e : TypeId) (i : TypeInfo) (ht : P.underlying t = some (.slice e)) (hi : P.info? e = some i) (base sb : Option Addr) (n cap c : Nat) (hn : n <= cap) :
    (Builtin.append_ #[t, t] ty #[.slice base n cap, .slice sb 0 c]).run P w = .ok (.slice base n cap) w := by
  cases base <;> cases sb <;> simp [Builtin.append_, run_underlying ht, sizeOf, typeInfo, hi, Builtin.lenOf, Builtin.firstCells, loadCells, loadCellsFrom, hn, storeCells]

theorem run_append_in (w : World) (t ty e : TypeId) (i : TypeInfo) (ht : P.underlying t = some (.slice e)) (hi : P.info? e = some i) (b oo n cap : Nat) (cur : Array Value) (et : TypeId) (hg : w.heap[b]? = some (.cells cur et (0, 0)))
    (sb : Addr) (m c : Nat) (news : List Value) (hl : news.length = m * i.size) (hnews : ∀ j u, news[j]? = some u -> w.cell? (sb.add j) = some u) (h1 : ∀ u ∈ news, u.oneCell' = true)
    (hroom : n + m <= cap) (hfit : oo + n * i.size + news.length <= cur.size) :
    (Builtin.append_ #[t, t] ty #[.slice (some ⟨b, oo, none⟩) n cap, .slice (some sb) m c]).run P w = .ok (.slice (some ⟨b, oo, none⟩) (n + m) cap) (w.setCells b (oo + n * i.size) news) := by
  have hf := run_firstCells_some (P := P) w i.size m sb m c news hl hnews
  have hst := run_storeCells_cells (P := P) b (oo + n * i.size) news 0 w
    (fun j hj => by
      rw [cell_of_row w b _ cur et (0, 0) hg]
      have : oo + n * i.size + 0 + j < cur.size := by omega
      simpa using this)
    (fun j hj => by simp [World.frozen?, hg]) h1
  simp only [Nat.add_zero] at hst
  simp [Builtin.append_, run_underlying ht, sizeOf, typeInfo, hi, Builtin.lenOf, hroom, hf, Addr.add_mid, hst]

theorem sim_grown (hs : Sim E st a) {id' size : Nat} {fl : Bool} (hu : st.used.elem id' = false) (e : TypeId) (cells : Array Value) (ncap : Nat) (zs : List (List AV)) (hpos : 0 < size)
    (hcs : cells.size = ncap * size) (hz : zs.length <= ncap) (hm : ncap <= maxLen) (hzl : ∀ (i : Nat) (r : List AV), zs[i]? = some r -> r.length = size)
    (hcell : ∀ (i j : Nat) (r : List AV) (v : AV), zs[i]? = some r -> r[j]? = some v -> ∃ u, cells[i * size + j]? = some u /\ u.oneCell' = true /\ Cell E fl (.cell id' i j) v u) :
    ∃ E', E'.w = E.w.drew.alloc (.cells cells e) /\ Fr E E' /\ Sim E' { st with sto := (id', .arr size fl zs) :: st.sto, used := id' :: st.used } a /\
      Rel E' (.ref false id' 0 zs.length) (.slice (some ⟨E.w.heap.size, 0, none⟩) zs.length ncap) := by
  let E1 : Env := { E with w := E.w.drew }
  have hs1 : Sim E1 st a := hs.drew
  refine ⟨E1.new id' cells e size ncap, rfl, Fr.trans Fr.drew (Env.new_fr (hs1.notUsed hu) hs1.wf cells e size ncap), hs1.new hu (.inr ⟨_, cells, e, Env.new_loc, rfl, hpos, by simp [Env.new], heap_new _ _, by simp [hcs], hz, hm, hs1.noWin, hzl, fun i j r v hi hj => ?_⟩), ?_⟩
  · obtain ⟨u, h1, h2, h3⟩ := hcell i j r v hi hj
    refine ⟨u, by simpa using h1, h2, h3.to (fun b hb => ⟨hb, Below.heap_alloc _ _ _ (hs.wf.still b hb).2⟩) (fun k L _ hL => ?_) fun b hb => ?_⟩
    · have : k ≠ id' := fun e => by rw [e, hs.notUsed hu] at hL; cases hL
      simp only [Env.new, if_neg this]; exact hL
    have hlt : b < E.w.heap.size := hs.wf.owned b (by rw [hb]; simp)
    exact ⟨by simp only [Env.new, if_neg (show b ≠ E1.w.heap.size from fun e => by rw [e] at hlt; exact absurd hlt (Nat.lt_irrefl _))]; exact hb, Below.heap_alloc _ _ _ hlt⟩
  · have := Rel.ref (E := E1.new id' cells e size ncap) false id' 0 zs.length _ ncap Env.new_loc hz (by simp)
    simp at this
    exact this

theorem sim_none (hs : Sim E st a) {id' size : Nat} {fl : Bool} (hu : st.used.elem id' = false) : Sim E { st with sto := (id', .arr size fl []) :: st.sto, used := id' :: st.used } a := by
  refine ⟨hs.wf, hs.defers, hs.size, hs.tmps, fun i ob hi => ?_, fun i L hL => ?_, fun i ob hi => ?_⟩
  · simp only [lk_cons] at hi
    by_cases he : id' = i
    · subst he
      rw [if_pos rfl] at hi
      obtain rfl := Option.some.inj hi
      exact .inl ⟨hs.notUsed hu, rfl⟩
    · rw [if_neg he] at hi
      exact hs.sto i ob hi
  · have := hs.used i L hL
    simp only [List.elem_cons, this]
    split <;> rfl
  · simp only [lk_cons] at hi
    by_cases he : id' = i
    · subst he; simp
    · rw [if_neg he] at hi
      have := hs.keys i ob hi
      simp only [List.elem_cons, this]
      split <;> rfl

theorem OpOk.upon {K' : AV -> St -> Prop} (h : ∀ E a, Sim E st a -> ∃ x E' v st', (execOp a.eval o).run P E.w = .ok (.value x) E'.w /\ Fr E E' /\ Sim E' st' a /\ Rel E' v x /\ K' v st') : OpOk P o st K' := by
  intro E a KW QW hs hK
  obtain ⟨x, E', v, st', hx, hf, hs', hr, hk⟩ := h E a hs
  unfold Oper.wp
  rw [hx]
  exact hK E' v x st' hf hs' hr hk

def maxBytes : Nat := 140737488355328

theorem append_maxLen {n bytes : Nat} (hb : 0 < bytes) (h : n * bytes <= maxBytes) : n <= maxLen := by
  have : n <= n * bytes := Nat.le_mul_of_pos_right _ hb
  simp only [maxLen, maxBytes] at *
  omega

theorem ok_appendNew {t e id' : Nat} {i j : TI} {x y : Operand} {ys : List (List AV)} (h : TabOk P T) (hti : T t = some i) (hd : i.desc = .slice e) (hj : T e = some j) (hpos : 0 < j.size) (hby : 0 < j.bytes)
    (ho : o.op = .call { callee := .builtin .append, args := #[x, y], argTypes := #[t, t] }) (hu : st.used.elem id' = false) (hx : st.ev x = .nilS ∨ st.ev x = .emp) {kd : SK} (hy : st.rows (st.ev y) = some (kd, ys)) (hlay : Lays kd j.flat ys)
    (hys : ∀ r ∈ ys, r.length = j.size) (hb : ys.length * j.bytes <= maxBytes)
    (hk : K (.ref false id' 0 ys.length) { st with sto := (id', .arr j.size j.flat ys) :: st.sto, used := id' :: st.used }) : OpOk P o st K := by
  obtain ⟨info, d, z, hi1, hi2, hi3, hi4, hi5, hi6, hi7, hi8, _⟩ := h.info hj
  obtain ⟨d', hu', htd'⟩ := h.und hti
  have hd1 := tdOf_slice (htd'.trans hd)
  subst hd1
  refine OpOk.upon (fun E a hs => ?_)
  obtain ⟨news, hsrc, hcells⟩ := src_of hs (hs.ev y) hy hys hpos
  obtain ⟨sb, c, hyv, hyc, hmem⟩ := hsrc.val
  have hxv : ∃ base, a.eval x = .slice base 0 0 := by
    have hr := hs.ev x
    rcases hx with hx | hx
    · rw [hx] at hr; exact ⟨none, rel_nilS hr⟩
    · rw [hx] at hr
      generalize a.eval x = xv at hr
      cases hr with | base _ _ h => cases h; exact ⟨_, rfl⟩
  obtain ⟨base, hxv⟩ := hxv
  by_cases hm : ys = []
  · subst hm
    refine ⟨.slice base 0 0, E, _, _, ?_, Fr.refl E, sim_none hs hu, .ref0 _ _ _ _ rfl, hk⟩
    simp only [execOp, ho, resolve, invoke, builtin, Sem.run_bind, Sem.run_pure, Result.andThen_ok, List.map_toArray, List.map_cons, List.map_nil, hxv, hyv, List.length_nil, run_append_none E.w t _ e info hu' hi1 base sb 0 0 c (Nat.le_refl _)]
  · obtain ⟨b, oo, rfl, hbl, hcell⟩ := hmem hm
    have hml : 0 < ys.length := by cases ys with | nil => exact absurd rfl hm | cons => simp
    have hnews : ∀ k u, news[k]? = some u -> E.w.cell? ((⟨b, oo, none⟩ : Addr).add k) = some u := fun k u hk => by rw [Addr.add_mid]; exact hcell k u hk
    have hml2 := append_maxLen hby hb
    have hl63 : ((0 + ys.length : Nat) : Int) <= 9223372036854775807 := by simp only [maxLen] at hml2; omega
    have hfit : Builtin.nextslicecap (0 + ys.length) 0 * info.bytes <= 281474976710656 := growslice_fits (by omega) (by rw [hi5, Nat.zero_add]; exact hb)
    have hlen : news.length = ys.length * info.size := by rw [hi4]; exact hsrc.len
    let ncap := grownCap E.w (0 + ys.length) 0 e
    have hge : 0 + ys.length <= ncap := grownCap_ge E.w _ 0 e
    have hcm : ncap <= maxLen := grownCap_le_maxLen E.w _ 0 e (by omega)
    let cells := (([] : List Value).toArray ++ news.toArray ++ Builtin.zeroCells z.cells (ncap - (0 + ys.length)))
    have hrun : (Builtin.append_ #[t, t] o.type #[.slice base 0 0, .slice (some ⟨b, oo, none⟩) ys.length c]).run P E.w = .ok (.slice (some ⟨E.w.heap.size, 0, none⟩) (0 + ys.length) ncap) (E.w.drew.alloc (.cells cells e)) := by
      cases base with
      | none =>
        have := run_append_nil (P := P) E.w t o.type e info z hu' hi1 hi6 ⟨b, oo, none⟩ ys.length c news hlen hnews hml (by omega) (by rw [hi5]; simp only [maxBytes] at hb; omega)
        simp only [cells, ncap, Nat.zero_add] at *
        rw [this]
        simp
      | some ba =>
        exact run_append_grow (P := P) E.w t o.type e info z hu' hi1 hi6 ba 0 0 [] (by simp) (fun k u hk => by simp at hk) ⟨b, oo, none⟩ ys.length c news hlen hnews (by omega) hl63 hfit
    have hcs : cells.size = ncap * j.size := by
      simp only [cells, Array.size_append, List.size_toArray, size_zeroCells, hi8, hsrc.len, List.length_nil, <- Nat.add_mul, Nat.zero_add]
      congr 1
      omega
    obtain ⟨E', hw, hf, hs', hr'⟩ := sim_grown hs hu e cells ncap ys hpos hcs (by omega) hcm (fun i r hir => hys r (List.mem_of_getElem? hir)) (fun i jj r v hir hjv => by
      obtain ⟨u, h1, h2, h3⟩ := hcells i jj r v hir hjv
      refine ⟨u, ?_, h2, (h3.ncell hlay (List.mem_of_getElem? hir) (List.mem_of_getElem? hjv)).cell⟩
      have hlt := (List.getElem?_eq_some_iff.1 h1).1
      simp only [cells, Array.getElem?_append, List.size_toArray, List.length_nil, Array.size_append, Nat.zero_add]
      rw [if_pos hlt]
      simpa using h1)
    refine ⟨_, E', _, _, ?_, hf, hs', hr', hk⟩
    simp only [execOp, ho, resolve, invoke, builtin, Sem.run_bind, Sem.run_pure, Result.andThen_ok, List.map_toArray, List.map_cons, List.map_nil, hxv, hyv, hrun, hw, Nat.zero_add, ncap]

def retag (id id' off : Nat) : Option Tag -> Option Tag
  | some (.root k) => if k = id then some (.root id') else some (.root k)
  | some (.cell k i j) => if k = id then some (.cell id' (i - off) j) else some (.cell k i j)
  | none => none

theorem retag_none {id id' off : Nat} {t : Option Tag} : retag id id' off t = none ↔ t = none := by
  cases t with
  | none => simp [retag]
  | some t => cases t <;> simp only [retag] <;> split <;> simp

theorem sim_retag (hs : Sim E st a) (id id' off : Nat) (hnb : ∀ k L, k = id -> E.loc k = some L -> E.win L.blk = none) : Sim { E with tag := fun b => retag id id' off (E.tag b) } { st with sto := rm st.sto id } a /\ Fr E { E with tag := fun b => retag id id' off (E.tag b) } := by
  refine ⟨⟨⟨fun b hb => ⟨retag_none.2 (hs.wf.still b hb).1, (hs.wf.still b hb).2⟩, fun b hb => hs.wf.owned b (fun e => hb (retag_none.2 e)), fun b hb => ?_⟩, hs.defers, hs.size, fun t v hv => ?_, fun k ob hk => ?_, hs.used, fun k ob hk => ?_⟩,
    Fr.ghost rfl rfl rfl rfl (fun b hb e => hb (retag_none.2 e)) rfl (fun _ _ _ h => h) rfl⟩
  · obtain ⟨h1, k, L, h2, h3, h4, h5⟩ := hs.wf.windows b hb
    refine ⟨h1, k, L, h2, h3, h4, ?_⟩
    have : k ≠ id := fun e => hb (by rw [<- h4]; exact hnb k L e h3)
    show retag id id' off (E.tag b) = _
    rw [h5]; simp [retag, this]
  · obtain ⟨x, hx, hr⟩ := hs.tmps t v hv
    exact ⟨x, hx, hr.to (fun b hb => ⟨hb, rfl⟩) fun _ _ _ h => h⟩
  · rw [lk_rm] at hk
    by_cases he : id = k
    · rw [if_pos he] at hk; cases hk
    · rw [if_neg he] at hk
      refine (hs.sto k ob hk).to (fun b hb => ⟨hb, rfl⟩) rfl rfl (fun _ _ _ h => h) (fun b hb => ⟨?_, rfl⟩)
      show retag id id' off (E.tag b) = E.tag b
      rcases hb with hb | ⟨i, j, hb⟩ <;> rw [hb] <;> simp [retag, Ne.symm he]
  · rw [lk_rm] at hk
    by_cases he : id = k
    · rw [if_pos he] at hk; cases hk
    · rw [if_neg he] at hk
      exact hs.keys k ob hk

theorem sim_add (hs : Sim E st a) {id' : Nat} (hu : st.used.elem id' = false) {L' : Loc} {w' : World} {ob : Obj} (hos : w'.os = E.w.os) (htp : w'.tape = E.w.tape) (hout : w'.output = E.w.output) (hsz : w'.heap.size = E.w.heap.size)
    (ht : E.tag L'.blk ≠ none) (hkeep : ∀ k b, lk st.sto k ≠ none -> (E.tag b = some (.root k) ∨ ∃ i j, E.tag b = some (.cell k i j)) -> b ≠ L'.blk) (hb : ∀ b, b ≠ L'.blk -> w'.heap[b]? = E.w.heap[b]?) (hwn : E.win L'.blk = none)
    (ho : ORel { E with w := w', loc := fun k => if k = id' then some L' else E.loc k } id' ob) :
    Sim { E with w := w', loc := fun k => if k = id' then some L' else E.loc k } { st with sto := (id', ob) :: st.sto, used := id' :: st.used } a /\ Fr E { E with w := w', loc := fun k => if k = id' then some L' else E.loc k } := by
  have hS : ∀ b, E.S b -> E.S b /\ w'.heap[b]? = E.w.heap[b]? := fun b h => ⟨h, hb b (fun e => ht (e ▸ (hs.wf.still b h).1))⟩
  have hloc : ∀ k L, E.loc k = some L -> (if k = id' then some L' else E.loc k) = some L := fun k L hL => by
    have : k ≠ id' := fun e => by rw [e, hs.notUsed hu] at hL; cases hL
    rw [if_neg this]; exact hL
  refine ⟨⟨⟨fun b h => ⟨(hs.wf.still b h).1, by simp only [hsz]; exact (hs.wf.still b h).2⟩, fun b h => by simp only [hsz]; exact hs.wf.owned b h, fun b h => by
    obtain ⟨h1, k, L, h2, h3, h4, h5⟩ := hs.wf.windows b h
    exact ⟨by simp only [hsz]; exact h1, k, L, h2, hloc k L h3, h4, h5⟩⟩, hs.defers, hs.size, fun t v hv => ?_, fun k ob' hk => ?_, fun k L hL => ?_, fun k ob' hk => ?_⟩,
    ⟨hos, htp, hout, by simp only [hsz]; exact Nat.le_refl _, fun b _ htb => hb b (fun e => ht (e ▸ htb)), fun b h => .inl h, fun _ h => h, fun _ h => .inl h, fun k L _ h => hloc k L h, fun b lo hi hw c T hc => ⟨c, by rw [hb b (fun e => by rw [e, hwn] at hw; cases hw)]; exact hc, rfl, fun _ _ => rfl⟩, rfl⟩⟩
  · obtain ⟨x, hx, hr⟩ := hs.tmps t v hv
    exact ⟨x, hx, hr.to hS fun k L _ hL => hloc k L hL⟩
  · simp only [lk_cons] at hk
    by_cases he : id' = k
    · subst he
      rw [if_pos rfl] at hk
      obtain rfl := Option.some.inj hk
      exact ho
    · rw [if_neg he] at hk
      refine (hs.sto k ob' hk).to hS (by simp only [if_neg (Ne.symm he)]) rfl (fun i L _ hL => hloc i L hL) (fun b hbt => ⟨rfl, hb b (hkeep k b (by rw [hk]; simp) hbt)⟩)
  · by_cases he : k = id'
    · subst he; simp
    · simp only [if_neg he] at hL
      have := hs.used k L hL
      simp only [List.elem_cons, this]
      split <;> rfl
  · simp only [lk_cons] at hk
    by_cases he : id' = k
    · subst he; simp
    · rw [if_neg he] at hk
      have := hs.keys k ob' hk
      simp only [List.elem_cons, this]
      split <;> rfl

theorem flat_get (rows : List (List AV)) (s : Nat) (c : Array Value) (b0 : Nat) (olds : List Value) (ho : olds = (List.range (rows.length * s)).map fun k => (c[b0 + k]?).getD undef)
    (hin : b0 + rows.length * s <= c.size) : olds.length = rows.length * s /\ ∀ k u, olds[k]? = some u -> c[b0 + k]? = some u := by
  subst ho
  refine ⟨by simp, fun k u hk => ?_⟩
  rw [range_get] at hk
  split at hk
  · obtain rfl := Option.some.inj hk
    have : b0 + k < c.size := by omega
    simp [this]
  · cases hk

theorem ok_appendRef {t e id id' off len : Nat} {p fl : Bool} {i j : TI} {x y : Operand} {rows ys : List (List AV)} (h : TabOk P T) (hti : T t = some i) (hd : i.desc = .slice e) (hj : T e = some j) (hpos : 0 < j.size) (hby : 0 < j.bytes)
    (ho : o.op = .call { callee := .builtin .append, args := #[x, y], argTypes := #[t, t] }) (hu : st.used.elem id' = false) (hx : st.ev x = .ref p id off len) (hq : lk st.sto id = some (.arr j.size fl rows)) (hle : off + len <= rows.length)
    {kd : SK} (hy : st.rows (st.ev y) = some (kd, ys)) (hlay : Lays kd fl ys) (hys : ∀ r ∈ ys, r.length = j.size) (hb : (len + ys.length) * j.bytes <= maxBytes)
    (hk : K (.ref false id' 0 (len + ys.length)) { st with sto := (id', .arr j.size fl ((rows.drop off).take len ++ ys)) :: rm st.sto id, used := id' :: st.used }) : OpOk P o st K := by
  obtain ⟨info, d, z, hi1, hi2, hi3, hi4, hi5, hi6, hi7, hi8, _⟩ := h.info hj
  obtain ⟨d', hu', htd'⟩ := h.und hti
  have hd1 := tdOf_slice (htd'.trans hd)
  subst hd1
  refine OpOk.upon (fun E a hs => ?_)
  obtain ⟨news, hsrc, hcells⟩ := src_of hs (hs.ev y) hy hys hpos
  obtain ⟨sb, c, hyv, hyc, hmem⟩ := hsrc.val
  have hml2 := append_maxLen hby hb
  have hl63 : ((len + ys.length : Nat) : Int) <= 9223372036854775807 := by simp only [maxLen] at hml2; omega
  have hlen : news.length = ys.length * info.size := by rw [hi4]; exact hsrc.len
  have hol : ((rows.drop off).take len).length = len := by simp; omega
  have hzl : ((rows.drop off).take len ++ ys).length = len + ys.length := by rw [List.length_append, hol]
  obtain ⟨hs0, hf0⟩ := sim_retag hs id id' off (fun k L e hL => by
    subst e
    rcases hs.sto k _ hq with ⟨g1, g2⟩ | ⟨L', c, ty, g1, gsz, g2, g3, g4, g5, g6, g7, gwa, g8, g9⟩
    · rw [g1] at hL; cases hL
    · rw [g1] at hL; obtain rfl := Option.some.inj hL; exact gwa)
  have hu0 : (st.used.elem id') = false := hu
  have hget : ∀ (i : Nat) (r : List AV), ((rows.drop off).take len)[i]? = some r -> rows[off + i]? = some r := fun i r hh => by
    rw [List.getElem?_take] at hh
    split at hh
    · rw [List.getElem?_drop] at hh; exact hh
    · cases hh
  have hrx := hs.ev x
  rw [hx] at hrx
  -- the run, where memory must be had
  have grow : ∀ (base : Option Addr) (cap : Nat) (olds : List Value), a.eval x = .slice base len cap -> cap < len + ys.length -> (base = none -> len = 0 /\ cap = 0) -> olds.length = len * j.size ->
      (∀ b, base = some b -> ∀ k u, olds[k]? = some u -> E.w.cell? (b.add k) = some u) ->
      (∀ (i jj : Nat) (r : List AV) (v : AV), ((rows.drop off).take len)[i]? = some r -> r[jj]? = some v -> ∃ u, olds[i * j.size + jj]? = some u /\ u.oneCell' = true /\ Cell { E with tag := fun b => retag id id' off (E.tag b) } fl (.cell id' i jj) v u) ->
      (∀ (i : Nat) (r : List AV), ((rows.drop off).take len)[i]? = some r -> r.length = j.size) ->
      ∃ x E' v st', (execOp a.eval o).run P E.w = .ok (.value x) E'.w /\ Fr E E' /\ Sim E' st' a /\ Rel E' v x /\ K v st' := by
    intro base cap olds hxv hcap hbn hol2 hold hco hro
    have hm : ys ≠ [] := fun e => by
      subst e
      simp at hcap
      cases base with
      | none => have := hbn rfl; omega
      | some b =>
        have := rel_slice hrx (n := len) rfl
        generalize a.eval x = xv at hrx hxv
        subst hxv
        cases hrx with
        | base _ _ h => cases h
        | ref0 => omega
        | ref => omega
    obtain ⟨b, oo, rfl, hbl, hcell⟩ := hmem hm
    have hml : 0 < ys.length := by cases ys with | nil => exact absurd rfl hm | cons => simp
    have hnews : ∀ k u, news[k]? = some u -> E.w.cell? ((⟨b, oo, none⟩ : Addr).add k) = some u := fun k u hk => by rw [Addr.add_mid]; exact hcell k u hk
    let ncap := grownCap E.w (len + ys.length) cap e
    have hge : len + ys.length <= ncap := grownCap_ge E.w _ cap e
    have hcm : ncap <= maxLen := grownCap_le_maxLen E.w _ cap e hml2
    let cells := (olds.toArray ++ news.toArray ++ Builtin.zeroCells z.cells (ncap - (len + ys.length)))
    have hfit : Builtin.nextslicecap (len + ys.length) cap * info.bytes <= 281474976710656 := growslice_fits hcap (by rw [hi5]; exact hb)
    have hrun : (Builtin.append_ #[t, t] o.type #[.slice base len cap, .slice (some ⟨b, oo, none⟩) ys.length c]).run P E.w = .ok (.slice (some ⟨E.w.heap.size, 0, none⟩) (len + ys.length) ncap) (E.w.drew.alloc (.cells cells e)) := by
      cases base with
      | none =>
        obtain ⟨h1, h2⟩ := hbn rfl
        subst h1 h2
        have hon : olds = [] := List.eq_nil_of_length_eq_zero (by simpa using hol2)
        have := run_append_nil (P := P) E.w t o.type e info z hu' hi1 hi6 ⟨b, oo, none⟩ ys.length c news hlen hnews hml (by omega) (by rw [hi5]; rw [Nat.zero_add] at hb; simp only [maxBytes] at hb; omega)
        simp only [cells, ncap, Nat.zero_add, hon] at *
        rw [this]
        simp
      | some ba =>
        exact run_append_grow (P := P) E.w t o.type e info z hu' hi1 hi6 ba len cap olds (by rw [hi4]; exact hol2) (hold ba rfl) ⟨b, oo, none⟩ ys.length c news hlen hnews hcap hl63 hfit
    have hcs : cells.size = ncap * j.size := by
      simp only [cells, Array.size_append, List.size_toArray, size_zeroCells, hi8, hsrc.len, hol2, <- Nat.add_mul]
      congr 1
      omega
    have hrl : ∀ (i : Nat) (r : List AV), ((rows.drop off).take len ++ ys)[i]? = some r -> r.length = j.size := fun i r hir => by
      rw [List.getElem?_append] at hir
      split at hir
      · exact hro i r hir
      · exact hys r (List.mem_of_getElem? hir)
    obtain ⟨E', hw, hf, hs', hr'⟩ := sim_grown hs0 hu0 e cells ncap ((rows.drop off).take len ++ ys) hpos hcs (by omega) hcm hrl (fun i jj r v hir hjv => by
      rw [List.getElem?_append, hol] at hir
      have hcl : ∀ q, q < olds.length + news.length -> cells[q]? = (olds ++ news)[q]? := fun q hq => by
        simp only [cells, Array.getElem?_append, List.size_toArray, Array.size_append]
        rw [if_pos hq, List.getElem?_append]
        split <;> simp
      by_cases hil : i < len
      · rw [if_pos hil] at hir
        obtain ⟨u, h1, h2, h3⟩ := hco i jj r v hir hjv
        have hlt := (List.getElem?_eq_some_iff.1 h1).1
        refine ⟨u, ?_, h2, h3⟩
        rw [hcl _ (by omega), List.getElem?_append, if_pos hlt]
        exact h1
      · rw [if_neg hil] at hir
        obtain ⟨u, h1, h2, h3⟩ := hcells (i - len) jj r v hir hjv
        have hlt := (List.getElem?_eq_some_iff.1 h1).1
        have he : i * j.size + jj = olds.length + ((i - len) * j.size + jj) := by
          rw [hol2]
          have : i * j.size = len * j.size + (i - len) * j.size := by rw [<- Nat.add_mul]; congr 1; omega
          omega
        refine ⟨u, ?_, h2, ((h3.ncell hlay (List.mem_of_getElem? hir) (List.mem_of_getElem? hjv)).to (E' := { E with tag := fun b => retag id id' off (E.tag b) }) (fun b hb => ⟨hb, rfl⟩) (fun _ _ h => h)).cell⟩
        rw [he, hcl _ (by omega), List.getElem?_append, if_neg (by omega)]
        simpa using h1)
    refine ⟨_, E', _, _, ?_, hf0.trans hf, hs', hr', by rw [hzl]; exact hk⟩
    simp only [execOp, ho, resolve, invoke, builtin, Sem.run_bind, Sem.run_pure, Result.andThen_ok, List.map_toArray, List.map_cons, List.map_nil, hxv, hyv, hrun, hw, hzl, ncap]
  generalize hxv : a.eval x = xv at hrx grow
  cases hrx with
  | base _ _ h => cases h
  | ref0 _ _ cap base hc0 =>
    subst hc0
    have hold0 : (rows.drop off).take 0 = [] := by simp
    by_cases hm : ys = []
    · subst hm
      refine ⟨.slice base 0 0, { E with tag := fun b => retag id id' off (E.tag b) }, _, _, ?_, hf0, sim_none hs0 hu0, .ref0 _ _ _ _ rfl, by simpa using hk⟩
      simp only [execOp, ho, resolve, invoke, builtin, Sem.run_bind, Sem.run_pure, Result.andThen_ok, List.map_toArray, List.map_cons, List.map_nil, hxv, hyv, List.length_nil, run_append_none E.w t _ e info hu' hi1 base sb 0 0 c (Nat.le_refl _)]
    · have hml : 0 < ys.length := by cases ys with | nil => exact absurd rfl hm | cons => simp
      exact grow base 0 [] rfl (by omega) (fun _ => ⟨rfl, rfl⟩) (by simp) (fun b _ k u hk => by simp at hk) (fun i jj r v hir => by simp at hir) (fun i r hir => by simp at hir)
  | ref _ _ _ _ L cap hL hcap1 hcap2 =>
    rcases hs.sto id _ hq with ⟨g1, g2⟩ | ⟨L', c0, ty, g1, gsz, g2, g3, g4, g5, g6, g7, gwa, g8, g9⟩
    · rw [g1] at hL; cases hL
    rw [g1] at hL
    obtain rfl := Option.some.inj hL
    have hmulc : (off + cap) * j.size = L'.cap * j.size := by rw [hcap2]
    have hle2 : L'.base + off * j.size + cap * j.size <= c0.size := by rw [<- gsz, Nat.add_assoc, <- Nat.add_mul, hcap2]; exact g5
    have hro : ∀ (i : Nat) (r : List AV), ((rows.drop off).take len)[i]? = some r -> r.length = j.size := fun i r hir => by rw [<- gsz]; exact g8 _ _ (hget i r hir)
    have hold : ∀ (i jj : Nat) (r : List AV) (v : AV), ((rows.drop off).take len)[i]? = some r -> r[jj]? = some v ->
        ∃ u, c0[L'.base + off * j.size + (i * j.size + jj)]? = some u /\ u.oneCell' = true /\ Cell { E with tag := fun b => retag id id' off (E.tag b) } fl (.cell id' i jj) v u := fun i jj r v hir hjv => by
      obtain ⟨u, h1, h2, h3⟩ := g9 _ jj r v (hget i r hir) hjv
      refine ⟨u, ?_, h2, h3.to (fun b hb => ⟨hb, rfl⟩) (fun _ _ _ h => h) fun b hb => ⟨?_, rfl⟩⟩
      · rw [<- h1]; congr 1
        rw [gsz, Nat.add_mul]; omega
      · show retag id id' off (E.tag b) = _
        rw [hb]; simp [retag]
    by_cases hroom : len + ys.length <= cap
    · -- in place
      have hblk : E.tag L'.blk ≠ none := by rw [g3]; simp
      have hfit : L'.base + off * j.size + len * info.size + news.length <= c0.size := by
        have : (len + ys.length) * j.size <= cap * j.size := Nat.mul_le_mul_right _ hroom
        rw [hi4, hsrc.len]
        rw [Nat.add_mul] at this
        omega
      have hrun : (Builtin.append_ #[t, t] o.type #[.slice (some ⟨L'.blk, L'.base + off * L'.siz, none⟩) len cap, a.eval y]).run P E.w =
          .ok (.slice (some ⟨L'.blk, L'.base + off * L'.siz, none⟩) (len + ys.length) cap) (E.w.setCells L'.blk (L'.base + off * j.size + len * info.size) news) := by
        rw [hyv]
        by_cases hm : ys = []
        · subst hm
          have hn : news = [] := List.eq_nil_of_length_eq_zero (by simpa using hsrc.len)
          subst hn
          exact run_append_none E.w t _ e info hu' hi1 _ sb len cap c hcap1
        · obtain ⟨b, oo, rfl, hbl, hcell⟩ := hmem hm
          have := run_append_in (P := P) E.w t o.type e info hu' hi1 L'.blk (L'.base + off * j.size) len cap c0 ty g4 ⟨b, oo, none⟩ ys.length c news hlen (fun k u hk => by rw [Addr.add_mid]; exact hcell k u hk) hsrc.one hroom hfit
          rw [gsz]
          exact this
      obtain ⟨c', hc1, hc2, hc3⟩ := heap_setCells L'.blk ty news (L'.base + off * j.size + len * info.size) E.w c0 g4
      obtain ⟨r1, r2, r3, r4, r5⟩ := setCells_rest L'.blk news (L'.base + off * j.size + len * info.size) E.w
      have hsame : ∀ b, E.S b -> E.S b /\ (E.w.setCells L'.blk (L'.base + off * j.size + len * info.size) news).heap[b]? = E.w.heap[b]? := fun b hb => ⟨hb, r5 b (fun e => hblk (e ▸ (hs.wf.still b hb).1))⟩
      have hlocs : ∀ k L, E.loc k = some L -> (if k = id' then some (⟨L'.blk, L'.base + off * j.size, j.size, cap⟩ : Loc) else E.loc k) = some L := fun k L hL => by
        have : k ≠ id' := fun e => by rw [e, hs.notUsed hu] at hL; cases hL
        rw [if_neg this]; exact hL
      have hor : ORel { E with w := E.w.setCells L'.blk (L'.base + off * j.size + len * info.size) news, tag := fun b => retag id id' off (E.tag b), loc := fun k => if k = id' then some ⟨L'.blk, L'.base + off * j.size, j.size, cap⟩ else E.loc k } id' (.arr j.size fl ((rows.drop off).take len ++ ys)) := by
        refine .inr ⟨⟨L'.blk, L'.base + off * j.size, j.size, cap⟩, c', ty, by simp, rfl, hpos, ?_, hc1, by rw [hc2]; exact hle2, by rw [hzl]; exact hroom, Nat.le_trans (show cap <= L'.cap by omega) g7, gwa, fun i r hir => ?_, fun i jj r v hir hjv => ?_⟩
        · show retag id id' off (E.tag L'.blk) = _
          rw [g3]; simp [retag]
        · rw [List.getElem?_append] at hir
          split at hir
          · exact hro i r hir
          · exact hys r (List.mem_of_getElem? hir)
        · rw [hc3]
          dsimp only
          rw [List.getElem?_append, hol] at hir
          by_cases hil : i < len
          · rw [if_pos hil] at hir
            obtain ⟨u, h1, h2, h3⟩ := hold i jj r v hir hjv
            have hjl : jj < j.size := by rw [<- hro i r hir]; exact (List.getElem?_eq_some_iff.1 hjv).1
            have hlt : i * j.size + jj < len * j.size := by
              have : i * j.size + j.size <= len * j.size := by rw [<- Nat.succ_mul]; exact Nat.mul_le_mul_right _ hil
              omega
            rw [if_neg (by rw [hi4]; omega)]
            refine ⟨u, by rw [<- h1]; congr 1; omega, h2, h3.to hsame (fun k L _ h => hlocs k L h) fun b hb => ⟨hb, r5 b (fun e => ?_)⟩⟩
            rw [e] at hb
            simp only [g3, retag, if_true] at hb
            cases hb
          · rw [if_neg hil] at hir
            obtain ⟨u, h1, h2, h3⟩ := hcells (i - len) jj r v hir hjv
            have hlt := (List.getElem?_eq_some_iff.1 h1).1
            have he : L'.base + off * j.size + i * j.size + jj = L'.base + off * j.size + len * info.size + ((i - len) * j.size + jj) := by
              have : i * j.size = len * j.size + (i - len) * j.size := by rw [<- Nat.add_mul]; congr 1; omega
              rw [hi4]; omega
            refine ⟨u, ?_, h2, ((h3.ncell hlay (List.mem_of_getElem? hir) (List.mem_of_getElem? hjv)).to hsame hlocs).cell⟩
            show (if _ then _ else _) = _
            rw [he, if_pos (by omega), <- h1]
            congr 1; omega
      obtain ⟨q1, q2⟩ := sim_add (E := { E with tag := fun b => retag id id' off (E.tag b) }) hs0 (id' := id') hu0 (L' := ⟨L'.blk, L'.base + off * j.size, j.size, cap⟩) (w' := E.w.setCells L'.blk (L'.base + off * j.size + len * info.size) news) r1 r2 r3 r4
        (by
          show retag id id' off (E.tag L'.blk) ≠ none
          exact fun e => hblk (retag_none.1 e))
        (fun k b hkk hbt e => by
          subst e
          have hne : k ≠ id := fun e => by subst e; simp [lk_rm] at hkk
          have hne' : k ≠ id' ∨ k = id' := by omega
          rcases hbt with hbt | ⟨i, jj, hbt⟩
          · simp only [g3, retag, if_true, Option.some.injEq, Tag.root.injEq] at hbt
            subst hbt
            obtain ⟨ob, hob⟩ := Option.ne_none_iff_exists'.1 hkk
            have hob' : lk st.sto id' = some ob := by
              simp only [lk_rm] at hob
              rwa [if_neg (Ne.symm hne)] at hob
            have := hs.keys id' ob hob'
            rw [hu] at this
            cases this
          · simp only [g3, retag, if_true] at hbt
            cases hbt) (fun b hb => r5 b hb) gwa hor
      refine ⟨.slice (some ⟨L'.blk, L'.base + off * L'.siz, none⟩) (len + ys.length) cap, _, .ref false id' 0 (len + ys.length), _, ?_, hf0.trans q2, q1, ?_, hk⟩
      · simp only [execOp, ho, resolve, invoke, builtin, Sem.run_bind, Sem.run_pure, Result.andThen_ok, List.map_toArray, List.map_cons, List.map_nil, hxv, hrun]
      · have := Rel.ref (E := { E with w := E.w.setCells L'.blk (L'.base + off * j.size + len * info.size) news, tag := fun b => retag id id' off (E.tag b), loc := fun k => if k = id' then some ⟨L'.blk, L'.base + off * j.size, j.size, cap⟩ else E.loc k }) false id' 0 (len + ys.length) ⟨L'.blk, L'.base + off * j.size, j.size, cap⟩ cap (by simp) hroom (by simp)
        rw [gsz]
        simpa using this
    · have hlem : len * j.size <= cap * j.size := Nat.mul_le_mul_right _ hcap1
      obtain ⟨o1, o2⟩ := flat_get ((rows.drop off).take len) j.size c0 (L'.base + off * j.size) _ rfl (by rw [hol]; omega)
      refine grow (some ⟨L'.blk, L'.base + off * L'.siz, none⟩) cap _ rfl (by omega) (fun e => by cases e) (by rw [o1, hol]) (fun b hb k u hk => ?_) (fun i jj r v hir hjv => ?_) hro
      · obtain rfl := Option.some.inj hb
        rw [Addr.add_mid, cell_of_row E.w L'.blk _ c0 ty (0, 0) g4, gsz]
        exact o2 k u hk
      · obtain ⟨u, h1, h2, h3⟩ := hold i jj r v hir hjv
        refine ⟨u, ?_, h2, h3⟩
        have hil := (List.getElem?_eq_some_iff.1 hir).1
        have hjl : jj < j.size := by rw [<- hro i r hir]; exact (List.getElem?_eq_some_iff.1 hjv).1
        have hlt : i * j.size + jj < ((rows.drop off).take len).length * j.size := by
          have : i * j.size + j.size <= ((rows.drop off).take len).length * j.size := by rw [<- Nat.succ_mul]; exact Nat.mul_le_mul_right _ hil
          omega
        rw [range_get, if_pos hlt, h1]
        rfl

theorem ok_appendIn {t e id off len : Nat} {p fl : Bool} {i j : TI} {x y : Operand} {rows ys : List (List AV)} (h : TabOk P T) (hti : T t = some i) (hd : i.desc = .slice e) (hj : T e = some j) (hpos : 0 < j.size)
    (ho : o.op = .call { callee := .builtin .append, args := #[x, y], argTypes := #[t, t] }) (hx : st.ev x = .ref p id off len) (hp : p = true ∨ 0 < len) (hq : lk st.sto id = some (.arr j.size fl rows)) (hle : off + len + ys.length <= rows.length)
    {kd : SK} (hy : st.rows (st.ev y) = some (kd, ys)) (hlay : Lays kd fl ys) (hys : ∀ r ∈ ys, r.length = j.size)
    (hk : K (.ref p id off (len + ys.length)) { st with sto := (id, .arr j.size fl (setMany rows (off + len) ys)) :: st.sto }) : OpOk P o st K := by
  obtain ⟨info, d, z, hi1, hi2, hi3, hi4, hi5, hi6, hi7, hi8, _⟩ := h.info hj
  obtain ⟨d', hu', htd'⟩ := h.und hti
  have hd1 := tdOf_slice (htd'.trans hd)
  subst hd1
  refine OpOk.upon (fun E a hs => ?_)
  obtain ⟨news, hsrc, hcells⟩ := src_of hs (hs.ev y) hy hys hpos
  obtain ⟨sb, c, hyv, hyc, hmem⟩ := hsrc.val
  have hlen : news.length = ys.length * info.size := by rw [hi4]; exact hsrc.len
  have hrx := hs.ev x
  rw [hx] at hrx
  generalize hxv : a.eval x = xv at hrx
  cases hrx with
  | base _ _ h => cases h
  | ref0 => rcases hp with h | h; cases h; omega
  | ref _ _ _ _ L cap hL hcap1 hcap2 =>
    rcases hs.sto id _ hq with ⟨g1, g2⟩ | ⟨L', c0, ty, g1, gsz, g2, g3, g4, g5, g6, g7, gwa, g8, g9⟩
    · rw [g1] at hL; cases hL
    rw [g1] at hL
    obtain rfl := Option.some.inj hL
    have hroom : len + ys.length <= cap := by omega
    have hle2 : L'.base + off * j.size + cap * j.size <= c0.size := by rw [<- gsz, Nat.add_assoc, <- Nat.add_mul, hcap2]; exact g5
    have hblk : E.tag L'.blk ≠ none := by rw [g3]; simp
    have hmul : (len + ys.length) * j.size <= cap * j.size := Nat.mul_le_mul_right _ hroom
    have hfit : L'.base + off * j.size + len * info.size + news.length <= c0.size := by
      rw [hi4, hsrc.len]
      rw [Nat.add_mul] at hmul
      omega
    have hrun : (Builtin.append_ #[t, t] o.type #[.slice (some ⟨L'.blk, L'.base + off * L'.siz, none⟩) len cap, a.eval y]).run P E.w =
        .ok (.slice (some ⟨L'.blk, L'.base + off * L'.siz, none⟩) (len + ys.length) cap) (E.w.setCells L'.blk (L'.base + off * j.size + len * info.size) news) := by
      rw [hyv]
      by_cases hm : ys = []
      · subst hm
        have hn : news = [] := List.eq_nil_of_length_eq_zero (by simpa using hsrc.len)
        subst hn
        exact run_append_none E.w t _ e info hu' hi1 _ sb len cap c hcap1
      · obtain ⟨b, oo, rfl, hbl, hcell⟩ := hmem hm
        have := run_append_in (P := P) E.w t o.type e info hu' hi1 L'.blk (L'.base + off * j.size) len cap c0 ty g4 ⟨b, oo, none⟩ ys.length c news hlen (fun k u hk => by rw [Addr.add_mid]; exact hcell k u hk) hsrc.one hroom hfit
        rw [gsz]
        exact this
    obtain ⟨c', hc1, hc2, hc3⟩ := heap_setCells L'.blk ty news (L'.base + off * j.size + len * info.size) E.w c0 g4
    obtain ⟨r1, r2, r3, r4, r5⟩ := setCells_rest L'.blk news (L'.base + off * j.size + len * info.size) E.w
    have hsame : ∀ b, E.S b -> E.S b /\ (E.w.setCells L'.blk (L'.base + off * j.size + len * info.size) news).heap[b]? = E.w.heap[b]? := still_write hs g3
    have hsl := setMany_length rows (off + len) ys hle
    have hor : ORel { E with w := E.w.setCells L'.blk (L'.base + off * j.size + len * info.size) news } id (.arr j.size fl (setMany rows (off + len) ys)) := by
      refine .inr ⟨L', c', ty, g1, gsz, g2, g3, hc1, by rw [hc2]; exact g5, by rw [hsl]; exact g6, g7, gwa, fun i r hir => ?_, fun i jj r v hir hjv => ?_⟩
      · rw [setMany_get _ _ _ hle] at hir
        split at hir
        · rw [gsz]; exact hys r (List.mem_of_getElem? hir)
        · exact g8 i r hir
      · rw [hc3]
        rw [setMany_get _ _ _ hle] at hir
        have e1 : (off + len) * j.size = off * j.size + len * j.size := Nat.add_mul ..
        by_cases hii : off + len <= i /\ i < off + len + ys.length
        · rw [if_pos hii] at hir
          obtain ⟨u, h1, h2, h3⟩ := hcells _ jj r v hir hjv
          have hlt := (List.getElem?_eq_some_iff.1 h1).1
          have e2 : i * j.size = (off + len) * j.size + (i - (off + len)) * j.size := by rw [<- Nat.add_mul]; congr 1; omega
          refine ⟨u, ?_, h2, ((h3.ncell hlay (List.mem_of_getElem? hir) (List.mem_of_getElem? hjv)).to (E' := { E with w := E.w.setCells L'.blk (L'.base + off * j.size + len * info.size) news }) hsame (fun _ _ h => h)).cell⟩
          rw [gsz, hi4] at *
          rw [if_pos (by omega), <- h1]
          congr 1; omega
        · rw [if_neg hii] at hir
          obtain ⟨u, h1, h2, h3⟩ := g9 i jj r v hir hjv
          have hjl : jj < j.size := by rw [<- gsz, <- g8 i r hir]; exact (List.getElem?_eq_some_iff.1 hjv).1
          refine ⟨u, ?_, h2, h3.to hsame (fun _ _ _ h => h) fun b hb => ⟨hb, r5 b (fun e => by rw [e, g3] at hb; cases hb)⟩⟩
          rw [if_neg, h1]
          rw [gsz, hi4, hsrc.len]
          rcases Nat.lt_or_ge i (off + len) with hlt | hge
          · have : i * j.size + j.size <= (off + len) * j.size := by rw [<- Nat.succ_mul]; exact Nat.mul_le_mul_right _ hlt
            omega
          · have : (off + len) * j.size + ys.length * j.size <= i * j.size := by rw [<- Nat.add_mul]; exact Nat.mul_le_mul_right _ (by omega)
            omega
    obtain ⟨q1, q2⟩ := hs.write (id := id) (ob := .arr j.size fl (setMany rows (off + len) ys)) (w' := E.w.setCells L'.blk (L'.base + off * j.size + len * info.size) news) hq r1 r2 r3 r4 (fun k hk => r5 k (fun e => hk (e ▸ g3))) (fun k lo hi hw cc T hcc => ⟨cc, by rw [r5 k (fun e => by rw [e, gwa] at hw; cases hw)]; exact hcc, rfl, fun _ _ => rfl⟩) hor
    refine ⟨.slice (some ⟨L'.blk, L'.base + off * L'.siz, none⟩) (len + ys.length) cap, _, .ref p id off (len + ys.length), _, ?_, q2, q1, ?_, hk⟩
    · simp only [execOp, ho, resolve, invoke, builtin, Sem.run_bind, Sem.run_pure, Result.andThen_ok, List.map_toArray, List.map_cons, List.map_nil, hxv, hrun]
    · exact .ref _ _ _ _ L' _ g1 hroom hcap2

end Go.Proofs.YtihfpbhalnedcaaGreat.AM

namespace Go.Proofs.YtihfpbhalnedcaaGreat.AM
open Go Go.RowKit

variable {P : Program} {T : Nat -> Option TI} {E : Env} {st : St} {a : Act} {K : AV -> St -> Prop} {o : Oper}

theorem madeCells_get {z : Array Value} {n size i j : Nat} (hz : z.size = size) (hi : i < n) (hj : j < size) : (madeCells z (n * size))[i * size + j]? = z[j]? := by
  have h1 : i * size + j < n * size := by
    have : i * size + size <= n * size := by rw [<- Nat.succ_mul]; exact Nat.mul_le_mul_right _ hi
    omega
  have h2 : (i * size + j) % z.size = j := by rw [hz, Nat.mul_comm, Nat.mul_add_mod, Nat.mod_eq_of_lt hj]
  have hjz : j < z.size := by omega
  simp only [madeCells, Array.getElem?_map, Array.getElem?_range, h1, if_true, Option.map_some]
  rw [h2]
  simp [hjz]

theorem ok_makeSlice {t e lab : Nat} {i j : TI} {x y : Operand} {k k' : IntKind} {n m : Int} {us : List AV} (h : TabOk P T) (hti : T t = some i) (hd : i.desc = .slice e) (hj : T e = some j) (hpos : 0 < j.size) (hby : 0 < j.bytes)
    (ho : o.op = .makeSlice t x y) (hu : st.used.elem lab = false) (hx : st.ev x = .int k n) (hy : st.ev y = .int k' m) (h0 : 0 <= n) (hnm : n <= m) (hb : m.toNat * j.bytes <= maxBytes) (hz : cellsOf j.flat j.zero = some us)
    (hk : K (.ref false lab 0 n.toNat) { st with sto := (lab, .arr j.size j.flat (List.replicate n.toNat us)) :: st.sto, used := lab :: st.used }) : OpOk P o st K := by
  obtain ⟨info, d, z, hi1, hi2, hi3, hi4, hi5, hi6, hi7, hi8, hi9⟩ := h.info hj
  obtain ⟨d', hu', htd'⟩ := h.und hti
  have hd1 := tdOf_slice (htd'.trans hd)
  subst hd1
  have hcm : m.toNat <= maxLen := append_maxLen hby hb
  have hbytes : (info.bytes : Int) * m <= 281474976710656 := by
    have h1 : ((m.toNat * j.bytes : Nat) : Int) <= 140737488355328 := by simp only [maxBytes] at hb; omega
    rw [hi5, Int.mul_comm]
    rw [Int.natCast_mul, Int.toNat_of_nonneg (by omega)] at h1
    omega
  have h63 : m <= 9223372036854775807 := by simp only [maxLen] at hcm; omega
  refine OpOk.upon (fun E a hs => ?_)
  have hxv := rel_int (by have := hs.ev x; rw [hx] at this; exact this)
  have hyv := rel_int (by have := hs.ev y; rw [hy] at this; exact this)
  have hrun := run_make (P := P) E.w t e info z hu' hi1 hi6 k k' n m h0 hnm hbytes h63
  obtain ⟨g1, g2⟩ := cellsOf_get hz
  have hzl : j.zero.length = j.size := by rw [<- hi7]; simpa using hi8
  let cells := madeCells z.cells (m.toNat * j.size)
  have hs' := hs.new (id := lab) (c := cells) (ty := e) (siz := j.size) (cap := m.toNat) (ob := .arr j.size j.flat (List.replicate n.toNat us)) hu
    (.inr ⟨_, cells, e, Env.new_loc, rfl, hpos, by simp [Env.new], heap_new _ _, by simp [cells, size_madeCells], by simp; omega, hcm, hs.noWin, fun q r hq => ?_, fun q c r v hq hc => ?_⟩)
  · refine ⟨.slice (some ⟨E.w.heap.size, 0, none⟩) n.toNat m.toNat, E.new lab cells e j.size m.toNat, _, _, ?_, Env.new_fr (hs.notUsed hu) hs.wf _ _ _ _, hs', ?_, hk⟩
    · simp only [execOp, ho, hxv.1, hyv.1, Sem.run_bind, hrun, Result.andThen_ok, hi4]
      rfl
    · have := Rel.ref (E := E.new lab cells e j.size m.toNat) false lab 0 n.toNat _ m.toNat Env.new_loc (by omega) (by simp)
      simp only [Nat.zero_mul, Nat.add_zero] at this
      exact this
  · have : r = us := by
      have := List.mem_of_getElem? hq
      exact (List.mem_replicate.1 this).2
    subst this
    show r.length = j.size
    omega
  · have hr : r = us := (List.mem_replicate.1 (List.mem_of_getElem? hq)).2
    subst hr
    have hqn : q < n.toNat := by
      have := (List.getElem?_eq_some_iff.1 hq).1
      simpa using this
    have hcl : c < j.size := by
      have := (List.getElem?_eq_some_iff.1 hc).1
      omega
    obtain ⟨v0, hv0, hcell⟩ := g2 c v hc
    have hzc : ∃ zc, z.cells[c]? = some zc /\ v0 = ofConst zc := by
      rw [<- hi7] at hv0
      simp only [List.getElem?_map, Option.map_eq_some_iff] at hv0
      obtain ⟨zc, h1, h2⟩ := hv0
      exact ⟨zc, by simpa using h1, h2.symm⟩
    obtain ⟨zc, hzc, rfl⟩ := hzc
    refine ⟨zc, ?_, ?_, ?_⟩
    · have := madeCells_get (n := m.toNat) (i := q) (j := c) hi8 (by omega) hcl
      simp only [Nat.zero_add]
      rw [this]; exact hzc
    · have : zc ∈ z.cells := Array.mem_of_getElem? hzc
      exact Array.all_eq_true'.1 hi9 _ this
    · exact cell_rel (E := E.new lab cells e j.size m.toNat) (rel_const _ zc) hcell

theorem ok_buildNil {t e lab : Nat} {i j : TI} {parts : Array (Nat × Operand)} (h : TabOk P T) (hti : T t = some i) (hd : i.desc = .slice e) (hj : T e = some j) (hpos : 0 < j.size) (ho : o.op = .buildSlice t 0 parts) (hp : parts.toList = [])
    (hu : st.used.elem lab = false) (hk : K .emp { st with sto := (lab, .arr j.size j.flat []) :: st.sto, used := lab :: st.used }) : OpOk P o st K := by
  obtain ⟨info, d, z, hi1, hi2, hi3, hi4, hi5, hi6, hi7, hi8, hi9⟩ := h.info hj
  obtain ⟨d', hu', htd'⟩ := h.und hti
  have hd1 := tdOf_slice (htd'.trans hd)
  subst hd1
  refine OpOk.upon (fun E a hs => ?_)
  have hs' := hs.new (id := lab) (c := #[]) (ty := e) (siz := j.size) (cap := 0) (ob := .arr j.size j.flat []) hu
    (.inr ⟨_, #[], e, Env.new_loc, rfl, hpos, by simp [Env.new], heap_new _ _, by simp, by simp, by simp, hs.noWin, fun q r hq => by simp at hq, fun q c r v hq hc => by simp at hq⟩)
  refine ⟨.slice (some ⟨E.w.heap.size, 0, none⟩) 0 0, E.new lab #[] e j.size 0, _, _, ?_, Env.new_fr (hs.notUsed hu) hs.wf _ _ _ _, hs', .base _ _ (.emp _), hk⟩
  have hpe : parts = #[] := by rw [<- Array.toArray_toList (xs := parts), hp]
  subst hpe
  simp [execOp, ho, Instr.buildSlice, run_underlying hu', sizeOf, typeInfo, hi1, Instr.fill, newRow, Env.new, Array.range_zero']

def chunk (s : Nat) : Nat -> List AV -> List (List AV)
  | 0, _ => []
  | n + 1, l => l.take s :: chunk s n (l.drop s)

theorem chunk_length (s : Nat) : ∀ (n : Nat) (l : List AV), (chunk s n l).length = n
  | 0, _ => rfl
  | n + 1, l => by simp [chunk, chunk_length s n]

theorem chunk_get (s : Nat) : ∀ (n : Nat) (l : List AV) (i : Nat), i < n -> (chunk s n l)[i]? = some ((l.drop (i * s)).take s)
  | n + 1, l, 0, _ => by simp [chunk]
  | n + 1, l, i + 1, h => by
    have := chunk_get s n (l.drop s) i (by omega)
    rw [List.drop_drop] at this
    simp only [chunk, List.getElem?_cons_succ, this]
    rw [show s + i * s = (i + 1) * s by rw [Nat.add_mul]; omega]

def cellsOfL (fl : Bool) : List (List AV) -> Option (List (List AV))
  | [] => some []
  | r :: rs => match cellsOf fl r, cellsOfL fl rs with
    | some u, some us => some (u :: us)
    | _, _ => none

theorem cellsOfL_get {fl : Bool} : ∀ {vs us : List (List AV)}, cellsOfL fl vs = some us -> us.length = vs.length /\ ∀ (i : Nat) (u : List AV), us[i]? = some u -> ∃ v, vs[i]? = some v /\ cellsOf fl v = some u
  | [], us, h => by simp [cellsOfL] at h; subst h; exact ⟨rfl, fun i u hi => by simp at hi⟩
  | v :: r, us, h => by
    unfold cellsOfL at h
    split at h
    · rename_i u us' h1 h2
      obtain rfl := Option.some.inj h
      obtain ⟨g1, g2⟩ := cellsOfL_get h2
      refine ⟨by simp [g1], fun i w hi => ?_⟩
      cases i with
      | zero => simp at hi; subst hi; exact ⟨v, rfl, h1⟩
      | succ i => exact g2 i w (by simpa using hi)
    · cases h

def repl (zero : List AV) : Nat -> List AV
  | 0 => []
  | n + 1 => zero ++ repl zero n

theorem repl_length (zero : List AV) : ∀ n, (repl zero n).length = n * zero.length
  | 0 => by simp [repl]
  | n + 1 => by simp [repl, repl_length zero n, Nat.add_mul]; omega

theorem repl_get (zero : List AV) : ∀ (n k : Nat), k < n * zero.length -> (repl zero n)[k]? = zero[k % zero.length]?
  | 0, k, h => by simp at h
  | n + 1, k, h => by
    unfold repl
    rw [List.getElem?_append]
    by_cases hk : k < zero.length
    · rw [if_pos hk, Nat.mod_eq_of_lt hk]
    · rw [if_neg hk, repl_get zero n _ (by rw [Nat.add_mul, Nat.one_mul] at h; omega), <- Nat.mod_eq_sub_mod (by omega)]

theorem fillA_length (place : Nat -> Option (Nat × Nat)) (ev : Operand -> AV) : ∀ (parts : List (Nat × Operand)) (cells cells' : List AV), fillA place ev cells parts = some cells' -> cells'.length = cells.length
  | [], cells, cells', h => by simp [fillA] at h; rw [h]
  | (i, x) :: rest, cells, cells', h => by
    unfold fillA at h
    split at h
    · rename_i off size cs _ _
      cases hc : (nbeq cs.length size && nble (off + cs.length) cells.length) with
      | false => simp [hc] at h
      | true =>
        simp only [hc, cond_true] at h
        rw [Bool.and_eq_true] at hc
        rw [fillA_length place ev rest _ _ h, setMany_length _ _ _ (nble_le hc.2)]
    · cases h

theorem ok_buildSlice {t e lab n : Nat} {i j : TI} {parts : Array (Nat × Operand)} {cells : List AV} {rows : List (List AV)} (h : TabOk P T) (hti : T t = some i) (hd : i.desc = .slice e) (hj : T e = some j) (hpos : 0 < j.size) (ho : o.op = .buildSlice t n parts)
    (hn : 0 < n) (hsm : n * j.size <= 10000) (hf : fillA (fun i => some (i * j.size, j.size)) st.ev (repl j.zero n) parts.toList = some cells) (hrows : cellsOfL j.flat (chunk j.size n cells) = some rows)
    (hu : st.used.elem lab = false) (hk : K (.ref true lab 0 n) { st with sto := (lab, .arr j.size j.flat rows) :: st.sto, used := lab :: st.used }) : OpOk P o st K := by
  obtain ⟨info, d, z, hi1, hi2, hi3, hi4, hi5, hi6, hi7, hi8, hi9⟩ := h.info hj
  obtain ⟨d', hu', htd'⟩ := h.und hti
  have hd1 := tdOf_slice (htd'.trans hd)
  subst hd1
  have hzl : j.zero.length = j.size := (h e j hj).2.1
  refine OpOk.upon (fun E a hs => ?_)
  have hz : CellsRel E (repl j.zero n) ((Array.range (n * info.size)).map (z.cells[· % z.cells.size]!)) := by
    have hmod : ∀ k, k % j.size < z.cells.size := fun k => by rw [hi8]; exact Nat.mod_lt _ hpos
    have hcell : ∀ k, k < n * j.size -> ((Array.range (n * info.size)).map (z.cells[· % z.cells.size]!))[k]? = some (z.cells[k % j.size]'(hmod k)) := fun k hk => by
      have := hmod k
      simp only [Array.getElem?_map, hi4, Array.getElem?_range, hk, if_true, Option.map_some, hi8]
      simp [this]
    have hsz : ((Array.range (n * info.size)).map (z.cells[· % z.cells.size]!)).size = n * j.size := by simp [hi4]
    refine ⟨by rw [hsz, repl_length, hzl], fun k y hy => ?_, fun k v y hv hy => ?_⟩
    · have hlt : k < n * j.size := by rw [<- hsz]; exact (Array.getElem?_eq_some_iff.1 hy).1
      rw [hcell k hlt] at hy
      obtain rfl := Option.some.inj hy
      exact (Array.all_eq_true_iff_forall_mem.1 hi9) _ (Array.getElem_mem _)
    · have hlt : k < n * j.size := by rw [<- hsz]; exact (Array.getElem?_eq_some_iff.1 hy).1
      rw [hcell k hlt] at hy
      obtain rfl := Option.some.inj hy
      rw [repl_get _ _ _ (by rw [hzl]; exact hlt), hzl, <- hi7] at hv
      simp only [List.getElem?_map, Option.map_eq_some_iff] at hv
      obtain ⟨u, hu, rfl⟩ := hv
      have : z.cells[k % j.size]'(hmod k) = u := by
        have := hmod k
        simpa [this] using hu
      rw [this]
      exact rel_const E u
  obtain ⟨xs, hx, hr1, hr2, hr3⟩ := fillA_rel hs _ _ _ _ _ hz hf
  have hrun := run_buildSlice (P := P) E.w t e n (parts.map fun (i, x) => (i, a.eval x)) xs info z hu' hi1 hi6 (by rw [hi4]; omega) (by
    rw [hi4]
    have := Nat.mul_le_mul hn hpos
    omega) (by
    rw [<- hx, hi4]
    congr 1
    simp)
  have hcl : cells.length = n * j.size := by rw [fillA_length _ _ _ _ _ hf, repl_length, hzl]
  obtain ⟨g1, g2⟩ := cellsOfL_get hrows
  rw [chunk_length] at g1
  have hrow : ∀ (q : Nat) (r : List AV), rows[q]? = some r -> q < n /\ r.length = j.size /\ ∀ (c : Nat) (u : AV), r[c]? = some u -> c < j.size /\ ∃ v, cells[q * j.size + c]? = some v /\ v.cell j.flat = some u := fun q r hq => by
    have hqn : q < n := by rw [<- g1]; exact (List.getElem?_eq_some_iff.1 hq).1
    obtain ⟨v, hv, hc⟩ := g2 q r hq
    rw [chunk_get _ _ _ _ hqn] at hv
    obtain rfl := Option.some.inj hv
    obtain ⟨k1, k2⟩ := cellsOf_get hc
    have hmul : q * j.size + j.size <= n * j.size := by rw [<- Nat.succ_mul]; exact Nat.mul_le_mul_right _ hqn
    have hlen : ((cells.drop (q * j.size)).take j.size).length = j.size := by simp; omega
    refine ⟨hqn, by rw [k1, hlen], fun c u hcu => ?_⟩
    have hcl' : c < j.size := by rw [<- hlen, <- k1]; exact (List.getElem?_eq_some_iff.1 hcu).1
    obtain ⟨v, hv, hvc⟩ := k2 c u hcu
    rw [List.getElem?_take_of_lt hcl', List.getElem?_drop] at hv
    exact ⟨hcl', v, hv, hvc⟩
  have hs' := hs.new (id := lab) (c := xs) (ty := e) (siz := j.size) (cap := n) (ob := .arr j.size j.flat rows) hu
    (.inr ⟨_, xs, e, Env.new_loc, rfl, hpos, by simp [Env.new], heap_new _ _, by simp [hr1, hcl], by simp [g1], (show n <= maxLen by
      have : n <= n * j.size := Nat.le_mul_of_pos_right _ hpos
      simp only [maxLen]; omega), hs.noWin, fun q r hq => (hrow q r hq).2.1, fun q c r v hq hc => ?_⟩)
  · refine ⟨.slice (some ⟨E.w.heap.size, 0, none⟩) n n, E.new lab xs e j.size n, _, _, ?_, Env.new_fr (hs.notUsed hu) hs.wf _ _ _ _, hs', ?_, hk⟩
    · simp only [execOp, ho, Sem.run_bind, hrun, Result.andThen_ok, Sem.run_pure]
      rfl
    · have := Rel.ref (E := E.new lab xs e j.size n) true lab 0 n _ n Env.new_loc (Nat.le_refl _) (by simp)
      simpa using this
  · obtain ⟨hqn, _, hrc⟩ := hrow q r hq
    obtain ⟨hcj, u, hu1, hu2⟩ := hrc c v hc
    have hmul : q * j.size + j.size <= n * j.size := by rw [<- Nat.succ_mul]; exact Nat.mul_le_mul_right _ hqn
    have hlt : q * j.size + c < xs.size := by rw [hr1, hcl]; omega
    have hg := Array.getElem?_eq_getElem hlt
    refine ⟨xs[q * j.size + c], by simp [hlt], hr2 _ _ hg, cell_rel (hs.relNew hu _ _ _ _ (hr3 _ u _ hu1 hg)) hu2⟩

def plain1 (d : TD) (u v : AV) : Bool :=
  match d, u, v with
  | .int _, .int K _, .int K' _ => decide (K = K')
  | .bool, .bool _, .bool _ => true
  | _, _, _ => false

def plainEq (T : Nat -> Option TI) : Nat -> List (Nat × Nat) -> List AV -> List AV -> Bool
  | _, [], [], [] => true
  | k, (o, t) :: r, u :: us, v :: vs => nbeq o k && (match T t with | some i => plain1 i.desc u v | none => false) && plainEq T (k + 1) r us vs
  | _, _, _, _ => false

def eqFit (P : Program) (t : Nat) : Bool := !(P.stoodInHeld t) && !(P.eqGuardType P.depth t) && (P.fieldsOf t).toList.all (fun f => f.name != "_")

theorem run_eqFields (h : TabOk P T) (w : World) (E : Env) : ∀ (fs : List Field) (k : Nat) (us vs : List AV) (X Y : Array Value), plainEq T k (fs.map fun f => (f.offset, f.type)) us vs = true -> fs.all (fun f => f.name != "_") = true ->
    (∀ (j : Nat) (u : AV) (x : Value), us[j]? = some u -> X[k + j]? = some x -> Rel E u x) -> (∀ (j : Nat) (u : AV) (x : Value), vs[j]? = some u -> Y[k + j]? = some x -> Rel E u x) -> k + us.length <= X.size -> k + vs.length <= Y.size ->
    ∃ b : Bool, (b = true ↔ us = vs) /\ (Op.eqFields 9999 X Y fs).run P w = .ok b w
  | [], k, us, vs, X, Y, hp, _, _, _, _, _ => by
    cases us <;> cases vs <;> simp [plainEq] at hp
    exact ⟨true, by simp, by simp [Op.eqFields]⟩
  | f :: fs, k, us, vs, X, Y, hp, hn, hx, hy, h1, h2 => by
    cases us with
    | nil => cases vs <;> simp [plainEq] at hp
    | cons u us =>
      cases vs with
      | nil => simp [plainEq] at hp
      | cons v vs =>
        simp only [List.length_cons] at h1 h2
        simp only [List.map_cons, plainEq, Bool.and_eq_true] at hp
        simp only [List.all_cons, Bool.and_eq_true] at hn
        obtain ⟨⟨ho, ht⟩, hp⟩ := hp
        have ho := nbeq_eq ho
        have gx := Array.getElem?_eq_getElem (show k < X.size by omega)
        have gy := Array.getElem?_eq_getElem (show k < Y.size by omega)
        have rx := hx 0 u _ rfl gx
        have ry := hy 0 v _ rfl gy
        cases hq : T f.type with
        | none => rw [hq] at ht; cases ht
        | some i =>
          rw [hq] at ht
          simp only at ht
          obtain ⟨d, hu, htd⟩ := h.und hq
          have hkn : i.desc.known = true /\ i.desc.isAgg = false := by
            cases hd : i.desc <;> rw [hd] at ht <;> first | exact ⟨rfl, rfl⟩ | simp [plain1] at ht
          have hag := fun w => h.agg (P := P) hq hkn.1 w
          rw [hkn.2] at hag
          have px : (part f.type X f.offset).run P w = .ok X[k] w := by simp [part, hag, ho, gx]
          have py : (part f.type Y f.offset).run P w = .ok Y[k] w := by simp [part, hag, ho, gy]
          obtain ⟨b', hb', hr'⟩ := run_eqFields h w E fs (k + 1) us vs X Y hp hn.2 (fun j u x hu' hx' => hx (j + 1) u x (by simpa using hu') (by rw [<- hx']; congr 1; omega)) (fun j u x hu' hx' => hy (j + 1) u x (by simpa using hu') (by rw [<- hx']; congr 1; omega)) (by omega) (by omega)
          have step : (∃ b : Bool, (b = true ↔ u = v) /\ (Op.equalIn 9999 f.type X[k] Y[k]).run P w = .ok b w) -> ∃ b : Bool, (b = true ↔ (u :: us = v :: vs)) /\ (Op.eqFields 9999 X Y (f :: fs)).run P w = .ok b w := by
            rintro ⟨b, hb, hr⟩
            have hne : f.name ≠ "_" := by simpa using hn.1
            cases b with
            | false => exact ⟨false, by simp only [List.cons.injEq, <- hb]; simp, by simp only [Op.eqFields, if_pos hne, Sem.run_bind, px, py, hr, Result.andThen_ok, Bool.not_false, if_true, Sem.run_pure]⟩
            | true => exact ⟨b', by simp only [List.cons.injEq, <- hb, <- hb']; simp, by simp only [Op.eqFields, if_pos hne, Sem.run_bind, px, py, hr, Result.andThen_ok, Bool.not_true, Bool.false_eq_true, if_false, hr']⟩
          refine step ?_
          clear step
          generalize X[k] = xk at rx px
          generalize Y[k] = yk at ry py
          cases hd : i.desc with
          | int k' =>
            rw [hd] at ht
            have hdd := tdOf_int (htd.trans hd)
            subst hdd
            cases u <;> simp [plain1] at ht
            cases v <;> simp at ht
            subst ht
            rw [(rel_int rx).1, (rel_int ry).1]
            exact ⟨_, by simp, run_equalIn_int w 9998 f.type _ k' _ _ hu⟩
          | bool =>
            rw [hd] at ht
            have hdd := tdOf_bool (htd.trans hd)
            subst hdd
            cases u <;> simp [plain1] at ht
            cases v <;> simp at ht
            rw [rel_bool rx, rel_bool ry]
            exact ⟨_, by simp, run_equalIn_bool w 9998 f.type _ _ hu⟩
          | _ => rw [hd] at ht; simp [plain1] at ht

theorem ok_structEq {op : BinOp} {t u : Nat} {x y : Operand} {us vs : List AV} {i : TI} {fs : List (Nat × Nat)} (h : TabOk P T) (hi : T t = some i) (hd : i.desc = .strct fs) (hfit : eqFit P t = true) (ho : o.op = .binOp op t x y u) (hx : st.ev x = .agg us) (hy : st.ev y = .agg vs)
    (hp : plainEq T 0 fs us vs = true) {b : Bool} (hb : b = true ↔ us = vs) (hk : (op = .eql /\ K (.bool b) st) ∨ (op = .neq /\ K (.bool (!b)) st)) : OpOk P o st K := by
  obtain ⟨d, hu, htd⟩ := h.und hi
  obtain ⟨F, rfl, hF⟩ := tdOf_strct (htd.trans hd)
  unfold eqFit at hfit
  simp only [Bool.and_eq_true, Bool.not_eq_true'] at hfit
  have hfo : P.fieldsOf t = F := by simp [Program.fieldsOf, hu]
  have key : ∀ E a, Sim E st a -> ∃ X Y, a.eval x = .agg X /\ a.eval y = .agg Y /\ (Op.equalIn 10000 t (.agg X) (.agg Y)).run P E.w = .ok b E.w := by
    intro E a hs
    have hrx := hs.ev x
    have hry := hs.ev y
    rw [hx] at hrx
    rw [hy] at hry
    obtain ⟨X, hX, x1, x2, x3⟩ := rel_agg hrx
    obtain ⟨Y, hY, y1, y2, y3⟩ := rel_agg hry
    refine ⟨X, Y, hX, hY, ?_⟩
    obtain ⟨b', hb', hr⟩ := run_eqFields (P := P) h E.w E F.toList 0 us vs X Y (by rw [hF]; exact hp) (by rw [<- hfo]; exact hfit.2) (fun j u x hu hx => x3 j u x hu (by simpa using hx)) (fun j u x hu hx => y3 j u x hu (by simpa using hx)) (by omega) (by omega)
    rw [run_equalIn_agg E.w 9999 t X Y (by rw [hfo]; exact hu) hfit.1.1, hfo, hr]
    have : b' = b := by rw [Bool.eq_iff_iff, hb', hb]
    rw [this]
  rcases hk with ⟨rfl, hk⟩ | ⟨rfl, hk⟩
  · refine OpOk.pure _ (fun E a hs => ?_) hk
    obtain ⟨X, Y, hX, hY, hr⟩ := key E a hs
    refine ⟨.bool b, ?_, .base _ _ (.bool _)⟩
    simp only [execOp, ho, Sem.run_bind, hX, hY, run_eqGuard_agg E.w .eql t x y X Y hfit.1.2, Result.andThen_ok, run_eql_struct, hr, Sem.run_pure]
  · refine OpOk.pure _ (fun E a hs => ?_) hk
    obtain ⟨X, Y, hX, hY, hr⟩ := key E a hs
    refine ⟨.bool (!b), ?_, .base _ _ (.bool _)⟩
    simp only [execOp, ho, Sem.run_bind, hX, hY, run_eqGuard_agg E.w .neq t x y X Y hfit.1.2, Result.andThen_ok, run_neq_struct, hr, Sem.run_pure]

def AV.sure : AV -> Bool
  | .ptr _ _ _ => true
  | .rptr _ => true
  | .fn _ _ _ => true
  | _ => false

theorem ok_nilCheck {x : Operand} (ho : o.op = .nilCheck x) (hx : (st.ev x).sure = true) (hk : K (st.ev x) st) : OpOk P o st K :=
  OpOk.pure _ (fun E a hs => by
    have hr := hs.ev x
    refine ⟨a.eval x, ?_, hr⟩
    generalize hq : a.eval x = xv at hr
    simp only [execOp, ho, hq]
    cases hv : st.ev x <;> rw [hv] at hx hr <;> simp [AV.sure] at hx
    · cases hr with
      | base _ _ h => cases h
      | ptr => rfl
    · cases hr with
      | base _ _ h => cases h
      | rptr => rfl
    · cases hr with
      | base _ _ h => cases h
      | fn => rfl) hk

theorem ok_capNil {x : Operand} {t ty e : Nat} {i : TI} (h : TabOk P T) (hi : T t = some i) (hd : i.desc = .slice e) (ho : o.op = .call { callee := .builtin .cap, args := #[x], argTypes := #[t] }) (hx : st.ev x = .nilS) (hk : K (.int .i64 0) st) : OpOk P o st K := by
  obtain ⟨d, hu, htd⟩ := h.und hi
  have h1 := tdOf_slice (htd.trans hd)
  subst h1
  refine OpOk.pure _ (fun E a hs => ?_) hk
  have hr := hs.ev x
  rw [hx] at hr
  exact ⟨.int .i64 0, by simp [execOp, ho, resolve, invoke, builtin, Builtin.cap_, rel_nilS hr, run_underlying hu, goInt], .base _ _ (.int _ _ (by decide))⟩

theorem ok_xor {t u : Nat} {x y : Operand} {k : IntKind} {m n : Int} (ho : o.op = .binOp .xor t x y u) (hx : st.ev x = .int k m) (hy : st.ev y = .int k n)
    (hk : K (.int k (k.wrap (BitVec.ofInt k.bits m ^^^ BitVec.ofInt k.bits n).toNat)) st) : OpOk P o st K :=
  OpOk.pure _ (fun E a hs => by
    have hrx := hs.ev x
    have hry := hs.ev y
    rw [hx] at hrx
    rw [hy] at hry
    exact ⟨.int k (k.wrap (BitVec.ofInt k.bits m ^^^ BitVec.ofInt k.bits n).toNat), by simp [execOp, ho, (rel_int hrx).1, (rel_int hry).1, eqGuard_int, binOp, Op.intBits], .base _ _ (.int _ _ (wf_wrap _ _))⟩) hk

theorem ok_shl {t u : Nat} {x y : Operand} {k k' : IntKind} {m n : Int} (ho : o.op = .binOp .shl t x y u) (hx : st.ev x = .int k m) (hy : st.ev y = .int k' n) (h0 : 0 <= n)
    (hk : K (.int k (k.wrap (m * 2 ^ (min n.toNat k.bits)))) st) : OpOk P o st K :=
  OpOk.pure _ (fun E a hs => by
    have hrx := hs.ev x
    have hry := hs.ev y
    rw [hx] at hrx
    rw [hy] at hry
    exact ⟨.int k (k.wrap (m * 2 ^ (min n.toNat k.bits))), by simp [execOp, ho, (rel_int hrx).1, (rel_int hry).1, eqGuard_int, binOp, Op.shift, Int.not_lt.2 h0], .base _ _ (.int _ _ (wf_wrap _ _))⟩) hk

theorem ok_shr {t u : Nat} {x y : Operand} {k k' : IntKind} {m n : Int} (ho : o.op = .binOp .shr t x y u) (hx : st.ev x = .int k m) (hy : st.ev y = .int k' n) (h0 : 0 <= n)
    (hk : K (.int k (k.wrap (m.fdiv (2 ^ (min n.toNat k.bits))))) st) : OpOk P o st K :=
  OpOk.pure _ (fun E a hs => by
    have hrx := hs.ev x
    have hry := hs.ev y
    rw [hx] at hrx
    rw [hy] at hry
    refine ⟨.int k (m.fdiv (2 ^ (min n.toNat k.bits))), by simp [execOp, ho, (rel_int hrx).1, (rel_int hry).1, eqGuard_int, binOp, Op.shift, Int.not_lt.2 h0], ?_⟩
    rw [wf_fdiv _ _ _ (rel_int hrx).2]
    exact .base _ _ (.int _ _ (by rw [<- wf_fdiv _ _ _ (rel_int hrx).2]; exact wf_wrap _ _))) hk

theorem ok_clear {t e id off len : Nat} {p : Bool} {i j : TI} {x : Operand} {rows : List (List AV)} {us : List AV} (h : TabOk P T) (hti : T t = some i) (hd : i.desc = .slice e) (hj : T e = some j) (hpos : 0 < j.size)
    (ho : o.op = .call { callee := .builtin .clear, args := #[x], argTypes := #[t] }) (hx : st.ev x = .ref p id off len) (hq : lk st.sto id = some (.arr j.size j.flat rows)) (hle : off + len <= rows.length) (hz : cellsOf j.flat j.zero = some us)
    (hk : K (.tup []) { st with sto := (id, .arr j.size j.flat (setMany rows off (List.replicate len us))) :: st.sto }) : OpOk P o st K := by
  obtain ⟨info, d, z, hi1, hi2, hi3, hi4, hi5, hi6, hi7, hi8, hi9⟩ := h.info hj
  obtain ⟨d', hu', htd'⟩ := h.und hti
  have hd1 := tdOf_slice (htd'.trans hd)
  subst hd1
  obtain ⟨g1', g2'⟩ := cellsOf_get hz
  have hzl : j.zero.length = j.size := (h e j hj).2.1
  refine OpOk.upon (fun E a hs => ?_)
  have hrx := hs.ev x
  rw [hx] at hrx
  have hid : len = 0 -> setMany rows off (List.replicate len us) = rows := fun e => by subst e; simp [setMany]
  generalize hxv : a.eval x = xv at hrx
  have triv : ∀ (ad : Option Addr) (cap : Nat), xv = .slice ad 0 cap -> len = 0 -> ∃ x E' v st', (execOp a.eval o).run P E.w = .ok (.value x) E'.w /\ Fr E E' /\ Sim E' st' a /\ Rel E' v x /\ K v st' := fun ad cap e h0 => by
    subst e
    refine ⟨.tuple #[], E, .tup [], { st with sto := (id, .arr j.size j.flat rows) :: st.sto }, ?_, Fr.refl E, ⟨hs.wf, hs.defers, hs.size, hs.tmps, fun k ob hk => ?_, hs.used, fun k ob hk => ?_⟩, .tup _ _ rfl (fun j v x hj => by simp at hj), by rw [<- hid h0]; exact hk⟩
    · cases ad <;> simp [execOp, ho, hxv, resolve, invoke, builtin, Builtin.clear_, run_underlying hu']
    · rw [lk_cons] at hk
      by_cases e : id = k
      · subst e; rw [if_pos rfl] at hk; obtain rfl := Option.some.inj hk; exact hs.sto _ _ hq
      · rw [if_neg e] at hk; exact hs.sto _ _ hk
    · rw [lk_cons] at hk
      by_cases e : id = k
      · subst e; exact hs.keys _ _ hq
      · rw [if_neg e] at hk; exact hs.keys _ _ hk
  cases hrx with
  | base _ _ h => cases h
  | ref0 => exact triv _ _ rfl rfl
  | ref _ _ _ _ L cap hL hcap1 hcap2 =>
    by_cases h0 : len = 0
    · exact triv _ _ (by rw [h0]) h0
    rcases hs.sto id _ hq with ⟨g1, g2⟩ | ⟨L', c0, ty, g1, gsz, g2, g3, g4, g5, g6, g7, gwa, g8, g9⟩
    · rw [g1] at hL; cases hL
    rw [g1] at hL
    obtain rfl := Option.some.inj hL
    have hle2 : L'.base + off * j.size + cap * j.size <= c0.size := by rw [<- gsz, Nat.add_assoc, <- Nat.add_mul, hcap2]; exact g5
    have hmul : len * j.size <= cap * j.size := Nat.mul_le_mul_right _ hcap1
    obtain ⟨zs, hzs⟩ : ∃ zs, zs = (Builtin.zeroCells z.cells len) := ⟨_, rfl⟩
    have hzsz : zs.size = len * j.size := by rw [hzs, size_zeroCells, hi8]
    have hzget : ∀ q c, q < len -> c < j.size -> ∃ y : Value, zs[q * j.size + c]? = some y /\ z.cells[c]? = some y := fun q c hq hc => by
      have hlt : q * j.size + c < len * j.size := by
        have : q * j.size + j.size <= len * j.size := by rw [<- Nat.succ_mul]; exact Nat.mul_le_mul_right _ hq
        omega
      have hcz : c < z.cells.size := by omega
      refine ⟨z.cells[c], ?_, Array.getElem?_eq_getElem hcz⟩
      have hmod : (q * j.size + c) % z.cells.size = c := by rw [hi8, Nat.mul_comm, Nat.mul_add_mod, Nat.mod_eq_of_lt hc]
      rw [hzs]
      simp only [Builtin.zeroCells, Array.getElem?_map, Array.getElem?_range, hi8, hlt, if_true, Option.map_some]
      rw [hi8] at hmod
      rw [hmod]
      simp [hcz]
    have hone : ∀ (y : Value), y ∈ zs.toList -> y.oneCell' = true := fun y hy => by
      obtain ⟨k, hk⟩ := List.getElem?_of_mem hy
      have hlt : k < len * j.size := by rw [<- hzsz]; have := (List.getElem?_eq_some_iff.1 hk).1; simpa using this
      obtain ⟨q1, q2, q3⟩ := flat_div hlt
      obtain ⟨y', y1, y2⟩ := hzget _ _ q1 q2
      rw [<- q3] at y1
      have : y' = y := by simpa [y1] using hk
      subst this
      exact (Array.all_eq_true_iff_forall_mem.1 hi9) _ (Array.mem_of_getElem? y2)
    have hst := run_storeCells_cells (P := P) L'.blk (L'.base + off * L'.siz) zs.toList 0 E.w
      (fun k hk => by
        rw [cell_of_row E.w L'.blk _ c0 ty (0, 0) g4]
        have : L'.base + off * L'.siz + 0 + k < c0.size := by rw [gsz]; simp [hzsz] at hk; omega
        simpa using this)
      (fun k hk => by simp [World.frozen?, g4]) hone
    simp only [Nat.add_zero] at hst
    obtain ⟨c', hc1, hc2, hc3⟩ := heap_setCells L'.blk ty zs.toList (L'.base + off * L'.siz) E.w c0 g4
    obtain ⟨r1, r2, r3, r4, r5⟩ := setCells_rest L'.blk zs.toList (L'.base + off * L'.siz) E.w
    have hsame := still_write hs (vs := zs.toList) (of := L'.base + off * L'.siz) g3
    have hrl : (List.replicate len us).length = len := by simp
    have hsl := setMany_length rows off (List.replicate len us) (by rw [hrl]; exact hle)
    have hor : ORel { E with w := E.w.setCells L'.blk (L'.base + off * L'.siz) zs.toList } id (.arr j.size j.flat (setMany rows off (List.replicate len us))) := by
      refine .inr ⟨L', c', ty, g1, gsz, g2, g3, hc1, by rw [hc2]; exact g5, by rw [hsl]; exact g6, g7, gwa, fun i r hir => ?_, fun i jj r v hir hjv => ?_⟩
      · rw [setMany_get _ _ _ (by rw [hrl]; exact hle)] at hir
        split at hir
        · rw [(List.mem_replicate.1 (List.mem_of_getElem? hir)).2, gsz]; omega
        · exact g8 i r hir
      · rw [setMany_get _ _ _ (by rw [hrl]; exact hle), hrl] at hir
        have hmul2 : ∀ a b : Nat, (a + b) * j.size = a * j.size + b * j.size := fun a b => Nat.add_mul ..
        rw [hc3]
        simp only [Array.length_toList, hzsz]
        have eo : off * L'.siz = off * j.size := by rw [gsz]
        have ei : i * L'.siz = i * j.size := by rw [gsz]
        by_cases hii : off <= i /\ i < off + len
        · rw [if_pos hii] at hir
          obtain rfl := (List.mem_replicate.1 (List.mem_of_getElem? hir)).2
          have hjl : jj < j.size := by have := (List.getElem?_eq_some_iff.1 hjv).1; omega
          obtain ⟨y, y1, y2⟩ := hzget (i - off) jj (by omega) hjl
          have e2 : i * j.size = off * j.size + (i - off) * j.size := by rw [<- hmul2]; congr 1; omega
          have hlt : (i - off) * j.size + jj < len * j.size := by rw [<- hzsz]; exact (Array.getElem?_eq_some_iff.1 y1).1
          obtain ⟨u, hu1, hu2⟩ := g2' jj v hjv
          rw [<- hi7] at hu1
          simp only [List.getElem?_map, Option.map_eq_some_iff] at hu1
          obtain ⟨zc, hzc, rfl⟩ := hu1
          have : zc = y := by simpa [y2] using hzc.symm
          subst this
          refine ⟨zc, ?_, (Array.all_eq_true_iff_forall_mem.1 hi9) _ (Array.mem_of_getElem? y2), cell_rel (E := { E with w := E.w.setCells L'.blk (L'.base + off * L'.siz) zs.toList }) (rel_const _ zc) hu2⟩
          rw [if_pos (by omega)]
          rw [show L'.base + i * L'.siz + jj - (L'.base + off * L'.siz) = (i - off) * j.size + jj by omega]
          simpa using y1
        · rw [if_neg hii] at hir
          obtain ⟨u, h1, h2, h3⟩ := g9 i jj r v hir hjv
          have hjl : jj < j.size := by rw [<- gsz, <- g8 i r hir]; exact (List.getElem?_eq_some_iff.1 hjv).1
          refine ⟨u, ?_, h2, h3.to hsame (fun _ _ _ h => h) fun b hb => ⟨hb, r5 b (fun e => by rw [e, g3] at hb; cases hb)⟩⟩
          rw [if_neg, h1]
          rcases Nat.lt_or_ge i off with hlt | hge
          · have : i * j.size + j.size <= off * j.size := by rw [<- Nat.succ_mul]; exact Nat.mul_le_mul_right _ hlt
            omega
          · have : off * j.size + len * j.size <= i * j.size := by rw [<- Nat.add_mul]; exact Nat.mul_le_mul_right _ (by omega)
            omega
    obtain ⟨q1, q2⟩ := hs.write (id := id) (ob := .arr j.size j.flat (setMany rows off (List.replicate len us))) (w' := E.w.setCells L'.blk (L'.base + off * L'.siz) zs.toList) hq r1 r2 r3 r4 (fun k hk => r5 k (fun e => hk (e ▸ g3))) (fun k lo hi hw cc T hcc => ⟨cc, by rw [r5 k (fun e => by rw [e, gwa] at hw; cases hw)]; exact hcc, rfl, fun _ _ => rfl⟩) hor
    refine ⟨.tuple #[], _, .tup [], _, ?_, q2, q1, .tup _ _ rfl (fun j v x hj => by simp at hj), hk⟩
    cases len with
    | zero => exact absurd rfl h0
    | succ n =>
      simp only [execOp, ho, hxv, resolve, invoke, builtin, Builtin.clear_, run_underlying hu', Sem.run_bind, Sem.run_pure, Result.andThen_ok, List.map_toArray, List.map_cons, List.map_nil, zeroValue, typeInfo, hi1, hi6]
      simp [run_underlying hu', hi1, hi6, <- hzs, hst]

end Go.Proofs.YtihfpbhalnedcaaGreat.AM

namespace Go.Proofs.YtihfpbhalnedcaaGreat.AM
open Go Go.RowKit

variable {P : Program} {T : Nat -> Option TI} {E : Env} {st : St} {a : Act} {K : AV -> St -> Prop} {o : Oper}

def St.ret1 (T : Nat -> Option TI) (st : St) : ResultVar -> Option AV
  | .tmp t => some (st.get t)
  | .cell p t => match T t, st.at (st.get p) with
    | some i, some cells => bif i.desc.known then loadA i cells else none
    | _, _ => none

def St.rets (T : Nat -> Option TI) (st : St) : List ResultVar -> Option (List AV)
  | [] => some []
  | r :: rs => match st.ret1 T r, st.rets T rs with
    | some v, some vs => some (v :: vs)
    | _, _ => none

def St.ret (T : Nat -> Option TI) (st : St) (rs : List ResultVar) : Option AV :=
  match st.rets T rs with
  | some [v] => some v
  | some vs => some (.tup vs)
  | none => none

def retOp (tmps : Array Value) (r : ResultVar) : Sem Value :=
  match r with
  | .tmp t => pure (tmps.getD t undef)
  | .cell p t => do loadVar t (<- asAddr (tmps.getD p undef))

theorem results_eq (fn : Func) (tmps : Array Value) : results fn tmps = (do
    let vs <- fn.results.mapM (retOp tmps)
    pure (if h : vs.size = 1 then vs[0] else .tuple vs)) := by
  unfold results
  congr 1

theorem rets_rel (h : TabOk P T) (hs : Sim E st a) : ∀ (rs : List ResultVar) (vs : List AV), st.rets T rs = some vs ->
    ∃ xs : List Value, (rs.mapM (retOp a.tmps)).run P E.w = .ok xs E.w /\ xs.length = vs.length /\ ∀ (j : Nat) (v : AV) (x : Value), vs[j]? = some v -> xs[j]? = some x -> Rel E v x
  | [], vs, hv => by simp [St.rets] at hv; subst hv; exact ⟨[], by simp, rfl, fun j v x hj => by simp at hj⟩
  | r :: rs, vs, hv => by
    unfold St.rets at hv
    split at hv
    · rename_i v vs' h1 h2
      obtain rfl := Option.some.inj hv
      obtain ⟨xs, g1, g2, g3⟩ := rets_rel h hs rs vs' h2
      have hr : ∃ x, (retOp a.tmps r).run P E.w = .ok x E.w /\ Rel E v x := by
        cases r with
        | tmp t =>
          simp [St.ret1] at h1
          subst h1
          exact ⟨_, by simp [retOp], hs.get t⟩
        | cell p t =>
          simp only [St.ret1] at h1
          split at h1
          · rename_i i cells hi hc
            cases hk : i.desc.known with
            | false => simp [hk] at h1
            | true =>
              simp only [hk, cond_true] at h1
              obtain ⟨ad, y, q1, q2, q3⟩ := load_rel h hi hk hs (hs.get p) hc h1
              exact ⟨y, by simp [retOp, q1, asAddr, q2], q3⟩
          · cases h1
      obtain ⟨x, hx, hrx⟩ := hr
      refine ⟨x :: xs, ?_, by simp [g2], fun j v' x' hj hj' => ?_⟩
      · simp only [List.mapM_cons, Sem.run_bind, hx, Result.andThen_ok, g1, Sem.run_pure]
      · cases j with
        | zero => simp at hj hj'; subst hj hj'; exact hrx
        | succ j => exact g3 j v' x' (by simpa using hj) (by simpa using hj')
    · cases hv

theorem ret_rel (h : TabOk P T) (hs : Sim E st a) {fn : Func} {v : AV} (hv : st.ret T fn.results.toList = some v) : ∃ x, (results fn a.tmps).run P E.w = .ok x E.w /\ Rel E v x := by
  unfold St.ret at hv
  cases hq : st.rets T fn.results.toList with
  | none => simp [hq] at hv
  | some vs =>
    obtain ⟨xs, h1, h2, h3⟩ := rets_rel h hs _ vs hq
    have hrun : ∀ x, (if h : xs.toArray.size = 1 then xs.toArray[0] else Value.tuple xs.toArray) = x -> (results fn a.tmps).run P E.w = .ok x E.w := fun x hx => by
      rw [results_eq, Array.mapM_eq_mapM_toList, <- hx]
      simp [h1]
    refine ⟨_, hrun _ rfl, ?_⟩
    match vs, hq, h2, h3 with
    | [u], hq, h2, h3 =>
      simp [hq] at hv
      subst hv
      obtain ⟨x, rfl⟩ := List.length_eq_one_iff.1 h2
      have := h3 0 u x rfl rfl
      simpa using this
    | [], hq, h2, h3 =>
      simp [hq] at hv
      subst hv
      have : xs = [] := List.eq_nil_of_length_eq_zero h2
      subst this
      simp
      exact .tup _ _ rfl (fun j v x hj => by simp at hj)
    | u :: u' :: us, hq, h2, h3 =>
      simp [hq] at hv
      subst hv
      have hl : ¬ xs.toArray.size = 1 := by simp at h2 ⊢; omega
      rw [dif_neg hl]
      exact .tup _ _ (by simpa using h2) (fun j v x hj hx => h3 j v x hj (by simpa using hx))

section
variable (ln : List (List AV) -> Nat)

def adopt1 (base : Nat) : List AV -> List AV
  | [] => []
  | .own _ _ rows :: r => .ref false base 0 (ln rows) :: adopt1 (base + 1) r
  | v :: r => v :: adopt1 (base + 1) r

def adoptV (base : Nat) : AV -> AV
  | .agg cells => .agg (adopt1 ln base cells)
  | .own _ _ rows => .ref false base 0 (ln rows)
  | .ownp _ => .ptr base 0 0
  | v => v

def adoptT (base : Nat) : List AV -> List AV
  | [] => []
  | v :: r => adoptV ln base v :: adoptT (base + 100) r

def adopt (base : Nat) : AV -> AV
  | .tup vs => .tup (adoptT ln base vs)
  | v => adoptV ln base v

def objs1 (base : Nat) : List AV -> List (Nat × Obj)
  | [] => []
  | .own s fl rows :: r => (base, .arr s fl rows) :: objs1 (base + 1) r
  | _ :: r => objs1 (base + 1) r

def objsV (base : Nat) : AV -> List (Nat × Obj)
  | .agg cells => objs1 base cells
  | .own s fl rows => [(base, .arr s fl rows)]
  | .ownp cells => (base, .box (adopt1 ln (base + 1) cells)) :: objs1 (base + 1) cells
  | _ => []

def objsT (base : Nat) : List AV -> List (Nat × Obj)
  | [] => []
  | v :: r => objsV ln base v ++ objsT (base + 100) r

def objsOf (base : Nat) : AV -> List (Nat × Obj)
  | .tup vs => objsT ln base vs
  | v => objsV ln base v

def gl (k : Nat) : Nat := 1000 * (k + 1)

def flat1 (base : Nat) : Obj -> List (Nat × Obj)
  | .box cells => (base, .box (adopt1 ln (base + 1) cells)) :: objs1 (base + 1) cells
  | .arr s fl rows => [(base, .arr s fl rows)]

def flats (k : Nat) : List Obj -> List (Nat × Obj)
  | [] => []
  | o :: r => flat1 ln (gl k) o ++ flats (k + 1) r

def flatsO (k : Nat) : List (Option Obj) -> List (Nat × Obj)
  | [] => []
  | some o :: r => flat1 ln (gl k) o ++ flatsO (k + 1) r
  | none :: r => flatsO (k + 1) r
end

def small1 : AV -> Bool
  | .agg cells => nble cells.length 90
  | .ownp cells => nble cells.length 90
  | _ => true

def AV.small : AV -> Bool
  | .tup vs => vs.all small1 && nble vs.length 40
  | v => small1 v

def Obj.small : Obj -> Bool
  | .box cells => nble cells.length 90
  | .arr _ _ _ => true

def kept (os : List (Option Obj)) (id : Nat) : Bool := (List.range os.length).any fun k => nbeq id (gl k) && (match os[k]? with | some (some _) => true | _ => false)

def Env.only (E : Env) (q : Nat -> Bool) : Env := { E with loc := fun id => if q id then E.loc id else none }

def Env.cut (E' : Env) (al : Bool) (E : Env) : Env := { E' with S := fun b => E'.S b /\ ((al = true /\ E.S b) ∨ E.w.heap.size <= b) }

def AV.free (al : Bool) : AV -> Prop
  | .int _ _ => True
  | .bool _ => True
  | .nilS => True
  | .emp => True
  | .own _ true _ => True
  | .ro rows => al = true ∨ rows = []
  | _ => False

def FreeRows (al : Bool) (rows : List (List AV)) : Prop := ∀ r ∈ rows, ∀ v ∈ r, v.free al

def rl : Nat := 500000

def SoundM (P : Program) (f : FuncId) (al : Bool) (args : List AV) (objs : List Obj) (R : AV -> List (Option Obj) -> Prop) : Prop :=
  (∃ fn, P.funcs[f]? = some fn /\ (fn.name == "runtime.NumGoroutine") = false /\ fn.body.isNone = false) /\
  ∀ (E : Env) (xs : Array Value), E.Wf -> (∀ id L, E.loc id = some L -> ((flats List.length 0 objs).map (·.1)).elem id = true) -> xs.size = args.length ->
    (∀ (j : Nat) (v : AV) (x : Value), args[j]? = some v -> xs[j]? = some x -> Rel E v x) -> (∀ id o, lk (flats List.length 0 objs) id = some o -> ORel E id o) ->
    Calls P f xs E.w fun e w' => ∃ x v os E', e = .returned x /\ E'.w = w' /\ R v os /\ v.small = true /\ os.length = objs.length /\ Fr (E.only (kept os)) E' /\ E'.Wf /\ Rel (E'.cut al E) (adopt List.length rl v) x /\
      (∀ id o, (id, o) ∈ flatsO List.length 0 os ++ objsOf List.length rl v -> ORel (E'.cut al E) id o /\ (∀ s rows, o = .arr s false rows -> FreeRows al rows))

theorem SoundM.mono {f : FuncId} {al : Bool} {args : List AV} {objs : List Obj} {R R' : AV -> List (Option Obj) -> Prop} (h : SoundM P f al args objs R) (hr : ∀ v os, R v os -> R' v os) : SoundM P f al args objs R' :=
  ⟨h.1, fun E xs h1 h2 h3 h4 h5 => (h.2 E xs h1 h2 h3 h4 h5).mono fun e w' ⟨x, v, os, E', g1, g2, g3, g4⟩ => ⟨x, v, os, E', g1, g2, hr v os g3, g4⟩⟩

theorem FreeRows.noRefs {al : Bool} {rows : List (List AV)} (h : FreeRows al rows) : noRefs rows := fun r hr v hv => by
  have := h r hr v hv
  cases v <;> first | rfl | exact this.elim

def resCell (al : Bool) (st : St) (v r : AV) : Prop :=
  match v, r with
  | .int k n, r => r = .int k n
  | .bool b, r => r = .bool b
  | .nilS, .own _ _ rows => rows = []
  | .emp, .own _ _ rows => rows = []
  | .nilS, .ro rows => rows = []
  | .emp, .ro rows => rows = []
  | .nilS, .nilS => True
  | .emp, .emp => True
  | _, .undef => True
  | .ro rows, .ro rows' => rows' = rows /\ (al = true ∨ rows = [])
  | .ref _ id off len, .own s fl rows' => match lk st.sto id with
    | some (.arr s' fl' rows) => (s' = s /\ fl' = fl) /\ (off + len <= rows.length /\ rows' = (rows.drop off).take len) /\ (match fl with | true => True | false => FreeRows al rows')
    | _ => False
  | _, _ => False

def resCells (al : Bool) (st : St) : List AV -> List AV -> Prop
  | [], [] => True
  | v :: vs, r :: rs => resCell al st v r /\ resCells al st vs rs
  | _, _ => False

def res1 (al : Bool) (st : St) (v r : AV) : Prop :=
  match v with
  | .agg vs => match r with
    | .agg rs => resCells al st vs rs
    | _ => False
  | .ptr id 0 0 => match r with
    | .ownp rs => match lk st.sto id with
      | some (.box vs) => resCells al st vs rs
      | _ => False
    | _ => False
  | v => resCell al st v r

def res1s (al : Bool) (st : St) : List AV -> List AV -> Prop
  | [], [] => True
  | v :: vs, r :: rs => res1 al st v r /\ res1s al st vs rs
  | _, _ => False

def resOk (al : Bool) (st : St) (v r : AV) : Prop :=
  match v with
  | .tup vs => match r with
    | .tup rs => res1s al st vs rs
    | _ => False
  | v => res1 al st v r

def backOk (al : Bool) (st : St) (k : Nat) : List (Option Obj) -> Prop
  | [] => True
  | none :: r => backOk al st (k + 1) r
  | some (.box cells) :: r => (match lk st.sto (gl k) with
    | some (.box vs) => resCells al st vs cells
    | _ => False) /\ backOk al st (k + 1) r
  | some (.arr s fl rows) :: r => (match lk st.sto (gl k) with
    | some (.arr s' fl' rows') => (s' = s /\ fl' = fl) /\ rows = rows' /\ (match fl with | true => True | false => FreeRows al rows)
    | _ => False) /\ backOk al st (k + 1) r

def rho1 (base : Nat) : List AV -> Ren
  | [] => []
  | .ref _ id off _ :: r => (base, (id, off)) :: rho1 (base + 1) r
  | _ :: r => rho1 (base + 1) r

def rhoV (st : St) (base : Nat) : AV -> Ren
  | .agg cells => rho1 base cells
  | .ref _ id off _ => [(base, (id, off))]
  | .ptr id 0 0 => match lk st.sto id with
    | some (.box cells) => (base, (id, 0)) :: rho1 (base + 1) cells
    | _ => []
  | _ => []

def rhoT (st : St) (base : Nat) : List AV -> Ren
  | [] => []
  | v :: r => rhoV st base v ++ rhoT st (base + 100) r

def rhoR (st : St) (base : Nat) : AV -> Ren
  | .tup vs => rhoT st base vs
  | v => rhoV st base v

def rhoSeg (st : St) (k : Nat) : Ren :=
  match lk st.sto (gl k) with
  | some (.box cells) => (gl k, (gl k, 0)) :: rho1 (gl k + 1) cells
  | _ => [(gl k, (gl k, 0))]

def rhoO (st : St) (k : Nat) : List (Option Obj) -> Ren
  | [] => []
  | none :: r => rhoO st (k + 1) r
  | some _ :: r => rhoSeg st k ++ rhoO st (k + 1) r

end Go.Proofs.YtihfpbhalnedcaaGreat.AM
