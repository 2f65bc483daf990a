/- The abstract machine, part 1: abstract values, their relation to a world, states. -/
import Derived.Below
import Derived.Tactics
import Derived.Deep.MidRow
import Derived.Laws.AppendOwn
import Derived.RowKit3
import Derived.WalkKit
namespace Go.Proofs.Ytmpbmfhlkhonkaa.AM
open Go Go.RowKit

set_option linter.unusedVariables false

/-- Tests of numbers. -/
def nbeq (a b : Nat) : Bool := a == b
def nblt (a b : Nat) : Bool := decide (a < b)
def nble (a b : Nat) : Bool := decide (a ≤ b)
theorem nbeq_refl (a : Nat) : nbeq a a = true := by simp [nbeq]
theorem nbeq_eq {a b : Nat} (h : nbeq a b = true) : a = b := by simpa [nbeq] using h
theorem nblt_eq {a b : Nat} : (nblt a b = true) = (a < b) := by simp [nblt]
theorem nble_le {a b : Nat} (h : nble a b = true) : a ≤ b := by simpa [nble] using h

/-- Abstract values: a slice that is not ours by its content; one of our own by the name of its array. -/
inductive AV where
  | int (k : IntKind) (n : Int)
  | bool (b : Bool)
  | nilS
  | emp
  | ro (rows : List (List AV))
  | own (s : Nat) (fl : Bool) (rows : List (List AV))
  | ref (p : Bool) (id off len : Nat)
  | ptr (id row fld : Nat)
  | rptr (cells : List AV)
  | fn (f : FuncId) (first caps : List AV)
  | agg (cells : List AV)
  | tup (vs : List AV)
  | undef
  deriving Inhabited

structure Loc where
  blk : Nat
  base : Nat
  siz : Nat
  cap : Nat

inductive Tag where
  | root (id : Nat)
  | cell (id i j : Nat)

/-- A world, the blocks that stand still, the blocks that are ours, where our objects lie. -/
structure Env where
  w : World
  S : Nat → Prop
  tag : Nat → Option Tag
  loc : Nat → Option Loc

/-- Values that lead to still memory alone. -/
inductive RRel (w : World) (S : Nat → Prop) : AV → Value → Prop
  | int (k : IntKind) (n : Int) : (Lit.int k n).wf = true → RRel w S (.int k n) (.int k n)
  | bool (b : Bool) : RRel w S (.bool b) (.bool b)
  | nilS : RRel w S .nilS (.slice none 0 0)
  | emp (a : Addr) : RRel w S .emp (.slice (some a) 0 0)
  | ro0 (a : Option Addr) (cap : Nat) : cap ≤ maxLen → (a = none → cap = 0) → RRel w S (.ro []) (.slice a 0 cap)
  | ro (rows : List (List AV)) (b o cap s : Nat) (f : Nat → Nat → Value) : rows ≠ [] → rows.length ≤ cap → cap ≤ maxLen → S b →
      (∀ (i : Nat) (r : List AV), rows[i]? = some r → r.length = s) →
      (∀ (i j : Nat) (r : List AV) (v : AV), rows[i]? = some r → r[j]? = some v → w.cell? ⟨b, o + i * s + j, none⟩ = some (f i j)) →
      (∀ (i j : Nat) (r : List AV) (v : AV), rows[i]? = some r → r[j]? = some v → RRel w S v (f i j)) →
      RRel w S (.ro rows) (.slice (some ⟨b, o, none⟩) rows.length cap)

/-- An own array at a place: the part common to results and cells. -/
def OwnAt (w : World) (tag : Nat → Option Tag) (τ : Tag) (sub : Nat → Nat → AV → Value → Prop) (s : Nat) (rows : List (List AV)) (x : Value) : Prop :=
  (rows = [] ∧ ((∃ a, x = .slice (some a) 0 0) ∨ x = .slice none 0 0)) ∨
  ∃ b o cap c T, x = .slice (some ⟨b, o, none⟩) rows.length cap ∧ tag b = some τ ∧ w.heap[b]? = some (.cells c T (0, 0)) ∧ o + cap * s ≤ c.size ∧ rows.length ≤ cap ∧ cap ≤ maxLen ∧
    0 < s ∧ (∀ (i : Nat) (r : List AV), rows[i]? = some r → r.length = s) ∧
    ∀ (i j : Nat) (r : List AV) (v : AV), rows[i]? = some r → r[j]? = some v → ∃ y : Value, c[o + i * s + j]? = some y ∧ y.oneCell' = true ∧ sub i j v y

def Cell1 (fl : Bool) (w : World) (S : Nat → Prop) (tag : Nat → Option Tag) (τ : Tag) (v : AV) (x : Value) : Prop :=
  RRel w S v x ∨ (fl = false ∧ ∃ s rows, v = .own s true rows ∧ OwnAt w tag τ (fun _ _ => RRel w S) s rows x)

def Cell2 (w : World) (S : Nat → Prop) (tag : Nat → Option Tag) (id : Nat) (v : AV) (x : Value) : Prop :=
  RRel w S v x ∨ ∃ s fl rows, v = .own s fl rows ∧ OwnAt w tag (.root id) (fun i j => Cell1 fl w S tag (.cell id i j)) s rows x

/-- What a slot holds. -/
inductive Rel (E : Env) : AV → Value → Prop
  | base (v : AV) (x : Value) : RRel E.w E.S v x → Rel E v x
  | ref0 (id off cap : Nat) (a : Option Addr) : cap = 0 → Rel E (.ref false id off 0) (.slice a 0 cap)
  | ref (p : Bool) (id off len : Nat) (L : Loc) (cap : Nat) : E.loc id = some L → len ≤ cap → off + cap = L.cap → Rel E (.ref p id off len) (.slice (some ⟨L.blk, L.base + off * L.siz, none⟩) len cap)
  | ptr (id row fld : Nat) (L : Loc) : E.loc id = some L → Rel E (.ptr id row fld) (.pointer (some ⟨L.blk, L.base + row * L.siz + fld, none⟩))
  | rptr (cells : List AV) (b o : Nat) (f : Nat → Value) : E.S b → (∀ (j : Nat) (v : AV), cells[j]? = some v → E.w.cell? ⟨b, o + j, none⟩ = some (f j)) → (∀ (j : Nat) (v : AV), cells[j]? = some v → RRel E.w E.S v (f j)) →
      Rel E (.rptr cells) (.pointer (some ⟨b, o, none⟩))
  | fn (f : FuncId) (first caps : List AV) (xs ys : Array Value) : xs.size = first.length → ys.size = caps.length →
      (∀ (j : Nat) (v : AV) (x : Value), first[j]? = some v → xs[j]? = some x → Rel E v x) → (∀ (j : Nat) (v : AV) (x : Value), caps[j]? = some v → ys[j]? = some x → Rel E v x) → Rel E (.fn f first caps) (.func (.func f) xs ys)
  | agg (cells : List AV) (xs : Array Value) : xs.size = cells.length → (∀ (j : Nat) (x : Value), xs[j]? = some x → x.oneCell' = true) →
      (∀ (j : Nat) (v : AV) (x : Value), cells[j]? = some v → xs[j]? = some x → Rel E v x) → Rel E (.agg cells) (.agg xs)
  | tup (vs : List AV) (xs : Array Value) : xs.size = vs.length → (∀ (j : Nat) (v : AV) (x : Value), vs[j]? = some v → xs[j]? = some x → Rel E v x) → Rel E (.tup vs) (.tuple xs)
  | undef (x : Value) : Rel E .undef x

/-- Our objects: a variable; an array. -/
inductive Obj where
  | box (cells : List AV)
  | arr (s : Nat) (fl : Bool) (rows : List (List AV))
  deriving Inhabited

def ORel (E : Env) (id : Nat) : Obj → Prop
  | .box cells => ∃ L c T, E.loc id = some L ∧ L.base = 0 ∧ E.tag L.blk = some (.root id) ∧ E.w.heap[L.blk]? = some (.cells c T (0, 0)) ∧ c.size = cells.length ∧
      ∀ (j : Nat) (v : AV), cells[j]? = some v → ∃ y : Value, c[j]? = some y ∧ y.oneCell' = true ∧ Rel E v y
  | .arr s fl rows => (E.loc id = none ∧ rows = []) ∨
      ∃ L c T, E.loc id = some L ∧ L.siz = s ∧ 0 < L.siz ∧ E.tag L.blk = some (.root id) ∧ E.w.heap[L.blk]? = some (.cells c T (0, 0)) ∧ L.base + L.cap * L.siz ≤ c.size ∧ rows.length ≤ L.cap ∧ L.cap ≤ maxLen ∧
        (∀ (i : Nat) (r : List AV), rows[i]? = some r → r.length = L.siz) ∧
        ∀ (i j : Nat) (r : List AV) (v : AV), rows[i]? = some r → r[j]? = some v → ∃ y : Value, c[L.base + i * L.siz + j]? = some y ∧ y.oneCell' = true ∧ Cell1 fl E.w E.S E.tag (.cell id i j) v y

def lk {α : Type} : List (Nat × α) → Nat → Option α
  | [], _ => none
  | (k, v) :: r, n => bif nbeq k n then some v else lk r n

/-- A state: how many slots, what is known of them, what is known of our objects. -/
structure St where
  nt : Nat
  tmps : List (Nat × AV)
  sto : List (Nat × Obj)
  used : List Nat

structure Env.Wf (E : Env) : Prop where
  still : ∀ b, E.S b → E.tag b = none ∧ b < E.w.heap.size
  owned : ∀ b, E.tag b ≠ none → b < E.w.heap.size

structure Sim (E : Env) (st : St) (a : Act) : Prop where
  wf : E.Wf
  defers : a.defers = []
  size : a.tmps.size = st.nt
  tmps : ∀ t v, lk st.tmps t = some v → ∃ x, a.tmps[t]? = some x ∧ Rel E v x
  sto : ∀ id o, lk st.sto id = some o → ORel E id o
  used : ∀ id L, E.loc id = some L → st.used.elem id = true
  keys : ∀ id o, lk st.sto id = some o → st.used.elem id = true

/-- From one world to a later one: nothing changes but what is ours; what is ours later was ours or is new. -/
structure Fr (E E' : Env) : Prop where
  os : E'.w.os = E.w.os
  tape : E'.w.tape = E.w.tape
  output : E'.w.output = E.w.output
  size : E.w.heap.size ≤ E'.w.heap.size
  block : ∀ b, b < E.w.heap.size → E.tag b = none → E'.w.heap[b]? = E.w.heap[b]?
  tag : ∀ b, E'.tag b ≠ none → E.tag b ≠ none ∨ E.w.heap.size ≤ b
  S : ∀ b, E.S b → E'.S b
  still : ∀ b, E'.S b → E.S b ∨ E.w.heap.size ≤ b

theorem Fr.refl (E : Env) : Fr E E := ⟨rfl, rfl, rfl, Nat.le_refl _, fun _ _ _ => rfl, fun _ h => .inl h, fun _ h => h, fun _ h => .inl h⟩
theorem Fr.trans {E F G : Env} (h : Fr E F) (k : Fr F G) : Fr E G :=
  ⟨k.os.trans h.os, k.tape.trans h.tape, k.output.trans h.output, Nat.le_trans h.size k.size,
   fun b hb ht => by
    have hf : F.tag b = none := by
      cases hq : F.tag b with
      | none => rfl
      | some t => exact absurd ht (by rcases h.tag b (by simp [hq]) with h1 | h1; exact h1; omega)
    rw [k.block b (Nat.lt_of_lt_of_le hb h.size) hf, h.block b hb ht],
   fun b hb => by
    rcases k.tag b hb with h1 | h1
    · exact h.tag b h1
    · exact .inr (Nat.le_trans h.size h1),
   fun b hb => k.S b (h.S b hb),
   fun b hb => by
    rcases k.still b hb with h1 | h1
    · exact h.still b h1
    · exact .inr (Nat.le_trans h.size h1)⟩

/-- Still values stay what they are where still blocks do. -/
theorem RRel.mono {w w' : World} {S S' : Nat → Prop} (hS : ∀ b, S b → S' b) (hw : ∀ b, S b → w'.heap[b]? = w.heap[b]?) {v : AV} {x : Value} (h : RRel w S v x) : RRel w' S' v x := by
  induction h with
  | int k n h => exact .int k n h
  | bool b => exact .bool b
  | nilS => exact .nilS
  | emp a => exact .emp a
  | ro0 a cap h1 h2 => exact .ro0 a cap h1 h2
  | ro rows b o cap s f h1 h2 h3 h4 h5 h6 h7 ih =>
    exact .ro rows b o cap s f h1 h2 h3 (hS _ h4) h5 (fun i j r v hi hj => by rw [World.cell?_of_block (w := w) (hw b h4)]; exact h6 i j r v hi hj) (fun i j r v hi hj => ih i j r v hi hj)

theorem OwnAt.mono {w w' : World} {tag tag' : Nat → Option Tag} {τ τ' : Tag} {sub sub' : Nat → Nat → AV → Value → Prop} {s : Nat} {rows : List (List AV)} {x : Value}
    (h : OwnAt w tag τ sub s rows x) (ht : ∀ b, tag b = some τ → tag' b = some τ' ∧ w'.heap[b]? = w.heap[b]?)
    (hs : ∀ i j v y, sub i j v y → sub' i j v y) : OwnAt w' tag' τ' sub' s rows x := by
  rcases h with h | ⟨b, o, cap, c, T, h1, h2, h3, h4, h5, h6, h7, h8, h9⟩
  · exact .inl h
  · refine .inr ⟨b, o, cap, c, T, h1, (ht b h2).1, by rw [(ht b h2).2]; exact h3, h4, h5, h6, h7, h8, ?_⟩
    intro i j r v hi hj
    obtain ⟨y, a1, a2, a3⟩ := h9 i j r v hi hj
    exact ⟨y, a1, a2, hs _ _ _ _ a3⟩

mutual
/-- The names in a value. -/
def AV.ids : AV → List Nat
  | .ref _ id _ _ => [id]
  | .ptr id _ _ => [id]
  | .fn _ first caps => idsL first ++ idsL caps
  | .agg cells => idsL cells
  | .tup vs => idsL vs
  | _ => []
def idsL : List AV → List Nat
  | [] => []
  | v :: r => v.ids ++ idsL r
end

theorem idsL_mem {l : List AV} {j : Nat} {v : AV} (h : l[j]? = some v) {id : Nat} (hi : id ∈ v.ids) : id ∈ idsL l := by
  induction l generalizing j with
  | nil => simp at h
  | cons u r ih =>
    unfold idsL
    cases j with
    | zero => simp at h; subst h; exact List.mem_append_left _ hi
    | succ j => exact List.mem_append_right _ (ih (by simpa using h))

/-- What a slot holds stays what it is where still blocks stay and its names lie where they lay. -/
theorem Rel.to {E E' : Env} {v : AV} {x : Value} (h : Rel E v x) (hS : ∀ b, E.S b → E'.S b ∧ E'.w.heap[b]? = E.w.heap[b]?) (hl : ∀ id L, id ∈ v.ids → E.loc id = some L → E'.loc id = some L) : Rel E' v x := by
  induction h with
  | base v x h => exact .base _ _ (h.mono (fun b hb => (hS b hb).1) (fun b hb => (hS b hb).2))
  | ref0 id off cap a h => exact .ref0 id off cap a h
  | ref p id off len L cap h1 h2 h3 => exact .ref p id off len L cap (hl id L (by simp [AV.ids]) h1) h2 h3
  | ptr id row fld L h1 => exact .ptr id row fld L (hl id L (by simp [AV.ids]) h1)
  | rptr cells b o f h1 h2 h3 =>
    exact .rptr cells b o f (hS b h1).1 (fun j v hj => by rw [World.cell?_of_block (w := E.w) (hS b h1).2]; exact h2 j v hj) (fun j v hj => (h3 j v hj).mono (fun b hb => (hS b hb).1) (fun b hb => (hS b hb).2))
  | fn f first caps xs ys h1 h2 h3 h4 ih1 ih2 =>
    refine .fn f first caps xs ys h1 h2 (fun j v x hv hx => ih1 j v x hv hx fun id L hid => hl id L ?_) (fun j v x hv hx => ih2 j v x hv hx fun id L hid => hl id L ?_)
    · unfold AV.ids; exact List.mem_append_left _ (idsL_mem hv hid)
    · unfold AV.ids; exact List.mem_append_right _ (idsL_mem hv hid)
  | agg cells xs h1 h2 h3 ih =>
    refine .agg cells xs h1 h2 (fun j v x hv hx => ih j v x hv hx fun id L hid => hl id L ?_)
    unfold AV.ids; exact idsL_mem hv hid
  | tup vs xs h1 h3 ih =>
    refine .tup vs xs h1 (fun j v x hv hx => ih j v x hv hx fun id L hid => hl id L ?_)
    unfold AV.ids; exact idsL_mem hv hid
  | undef x => exact .undef x

theorem Cell1.to {fl : Bool} {w w' : World} {S S' : Nat → Prop} {tag tag' : Nat → Option Tag} {τ τ' : Tag} {v : AV} {x : Value} (h : Cell1 fl w S tag τ v x) (hS : ∀ b, S b → S' b ∧ w'.heap[b]? = w.heap[b]?)
    (ht : ∀ b, tag b = some τ → tag' b = some τ' ∧ w'.heap[b]? = w.heap[b]?) : Cell1 fl w' S' tag' τ' v x := by
  rcases h with h | ⟨hfl, s, rows, hv, h⟩
  · exact .inl (h.mono (fun b hb => (hS b hb).1) (fun b hb => (hS b hb).2))
  · exact .inr ⟨hfl, s, rows, hv, h.mono ht (fun i j v y hy => hy.mono (fun b hb => (hS b hb).1) (fun b hb => (hS b hb).2))⟩

def Obj.ids : Obj → List Nat
  | .box cells => idsL cells
  | .arr _ _ _ => []

/-- An object stays what it is where its blocks and its place do. -/
theorem ORel.to {E E' : Env} {id : Nat} {o : Obj} (h : ORel E id o) (hS : ∀ b, E.S b → E'.S b ∧ E'.w.heap[b]? = E.w.heap[b]?)
    (hid : E'.loc id = E.loc id) (hl : ∀ i L, i ∈ o.ids → E.loc i = some L → E'.loc i = some L)
    (ht : ∀ b, (E.tag b = some (.root id) ∨ ∃ i j, E.tag b = some (.cell id i j)) → E'.tag b = E.tag b ∧ E'.w.heap[b]? = E.w.heap[b]?) : ORel E' id o := by
  cases o with
  | box cells =>
    obtain ⟨L, c, T, h1, h2, h3, h4, h5, h6⟩ := h
    obtain ⟨t1, t2⟩ := ht L.blk (.inl h3)
    refine ⟨L, c, T, hid.trans h1, h2, t1.trans h3, t2.trans h4, h5, ?_⟩
    intro j v hj
    obtain ⟨y, hy1, hy2, hy3⟩ := h6 j v hj
    exact ⟨y, hy1, hy2, hy3.to hS fun i L hi => hl i L (by unfold Obj.ids; exact idsL_mem hj hi)⟩
  | arr s fl rows =>
    rcases h with ⟨h1, h2⟩ | ⟨L, c, T, h1, hsz, h2, h3, h4, h5, h6, h7, h8, h9⟩
    · exact .inl ⟨hid.trans h1, h2⟩
    · obtain ⟨t1, t2⟩ := ht L.blk (.inl h3)
      refine .inr ⟨L, c, T, hid.trans h1, hsz, h2, t1.trans h3, t2.trans h4, h5, h6, h7, h8, ?_⟩
      intro i j r v hi hj
      obtain ⟨y, hy1, hy2, hy3⟩ := h9 i j r v hi hj
      exact ⟨y, hy1, hy2, hy3.to hS fun b hb => by
        obtain ⟨u1, u2⟩ := ht b (.inr ⟨i, j, hb⟩)
        exact ⟨u1.trans hb, u2⟩⟩

theorem lk_cons_eq {α : Type} (k : Nat) (v : α) (r : List (Nat × α)) : lk ((k, v) :: r) k = some v := by simp [lk, nbeq_refl]
theorem lk_cons_ne {α : Type} {k n : Nat} (v : α) (r : List (Nat × α)) (h : k ≠ n) : lk ((k, v) :: r) n = lk r n := by
  have : nbeq k n = false := by
    cases hb : nbeq k n with
    | false => rfl
    | true => exact absurd (nbeq_eq hb) h
  simp [lk, this]
theorem lk_cons {α : Type} (k n : Nat) (v : α) (r : List (Nat × α)) : lk ((k, v) :: r) n = if k = n then some v else lk r n := by
  by_cases h : k = n
  · subst h; simp [lk_cons_eq]
  · rw [lk_cons_ne v r h, if_neg h]

end Go.Proofs.Ytmpbmfhlkhonkaa.AM
