/- The abstract machine, part 5: operations on memory. -/
import Derived.Test.YtmbckmfihcojoaaB4
namespace Go.Proofs.Ytmbckmfihcojoaa.AM
open Go Go.RowKit

set_option linter.unusedVariables false
set_option linter.unusedSimpArgs false

/-! ### Worlds -/

def Env.new (E : Env) (id : Nat) (c : Array Value) (T : TypeId) (siz cap : Nat) : Env :=
  { w := E.w.alloc (.cells c T), S := E.S, tag := fun b => if b = E.w.heap.size then some (.root id) else E.tag b, loc := fun i => if i = id then some ⟨E.w.heap.size, 0, siz, cap⟩ else E.loc i, win := E.win }

theorem heap_new (w : World) (o : Go.Obj) : (w.alloc o).heap[w.heap.size]? = some o := heap_alloc_new w o

theorem Env.new_fr {E : Env} {id : Nat} (hn : E.loc id = none) (hwf : E.Wf) (c : Array Value) (T : TypeId) (siz cap : Nat) : Fr E (E.new id c T siz cap) := by
  refine ⟨rfl, rfl, rfl, by simp [Env.new], fun b hb _ => Below.heap_alloc _ _ _ hb, fun b hb => ?_, fun b h => h, fun b h => .inl h, fun i L _ hL => ?_, fun b lo hi hw c' T' hc => ⟨c', ?_, rfl, fun _ _ => rfl⟩, rfl⟩
  · by_cases h : b = E.w.heap.size
    · exact .inr (by omega)
    · simp only [Env.new, if_neg h] at hb
      exact .inl hb
  · have : i ≠ id := fun e => by rw [e, hn] at hL; cases hL
    simp only [Env.new, if_neg this]; exact hL
  · have := (hwf.windows b (by rw [hw]; simp)).1
    show (E.w.alloc _).heap[b]? = _
    rw [Below.heap_alloc _ _ _ this]; exact hc

theorem Env.new_wf {E : Env} {id : Nat} (hn : E.loc id = none) (h : E.Wf) (c : Array Value) (T : TypeId) (siz cap : Nat) : (E.new id c T siz cap).Wf := by
  refine ⟨fun b hb => ?_, fun b hb => ?_, fun b hb => ?_⟩
  · obtain ⟨h1, h2⟩ := h.still b hb
    refine ⟨?_, by simp [Env.new]; omega⟩
    simp only [Env.new, if_neg (show b ≠ E.w.heap.size by omega)]
    exact h1
  · by_cases hq : b = E.w.heap.size
    · simp [Env.new, hq]
    · simp only [Env.new, if_neg hq] at hb
      have := h.owned b hb
      simp [Env.new]; omega
  · obtain ⟨h1, k, L, h2, h3, hb', h4⟩ := h.windows b hb
    refine ⟨by simp [Env.new]; omega, k, L, h2, ?_, hb', ?_⟩
    · have : k ≠ id := fun e => by rw [e, hn] at h3; cases h3
      simp only [Env.new, if_neg this]; exact h3
    · simp only [Env.new, if_neg (show b ≠ E.w.heap.size by omega)]; exact h4

variable {P : Program} {T : Nat → Option TI} {E : Env} {st : St} {a : Act} {K : AV → St → Prop} {o : Oper}

theorem Sim.relNew (h : Sim E st a) {id : Nat} (hu : st.used.elem id = false) (c : Array Value) (ty : TypeId) (siz cap : Nat) {v : AV} {x : Value} (hr : Rel E v x) : Rel (E.new id c ty siz cap) v x :=
  hr.to (fun b hb => ⟨hb, Below.heap_alloc _ _ _ (h.wf.still b hb).2⟩) fun i L _ hL => by
    have : i ≠ id := fun e => by rw [e, h.notUsed hu] at hL; cases hL
    simp only [Env.new, if_neg this]
    exact hL

/-- A new block of ours. -/
theorem Sim.new (h : Sim E st a) {id : Nat} (hu : st.used.elem id = false) {c : Array Value} {ty : TypeId} {siz cap : Nat} {ob : Obj} (ho : ORel (E.new id c ty siz cap) id ob) :
    Sim (E.new id c ty siz cap) { st with sto := (id, ob) :: st.sto, used := id :: st.used } a := by
  have hn := h.notUsed hu
  refine ⟨Env.new_wf hn h.wf _ _ _ _, h.defers, h.size, fun t v hv => ?_, fun i ob' hi => ?_, fun i L hL => ?_, fun i ob' hi => ?_⟩
  · obtain ⟨x, hx, hr⟩ := h.tmps t v hv
    exact ⟨x, hx, h.relNew hu _ _ _ _ hr⟩
  · simp only [lk_cons] at hi
    by_cases he : id = i
    · subst he
      rw [if_pos rfl] at hi
      obtain rfl := Option.some.inj hi
      exact ho
    · rw [if_neg he] at hi
      refine (h.sto i ob' hi).to (fun b hb => ⟨hb, Below.heap_alloc _ _ _ (h.wf.still b hb).2⟩) (by simp only [Env.new, if_neg (Ne.symm he)]) rfl (fun k L hk hL => ?_) (fun b hb => ?_)
      · have : k ≠ id := fun e => by rw [e, hn] at hL; cases hL
        simp only [Env.new, if_neg this]
        exact hL
      · have hlt : b < E.w.heap.size := h.wf.owned b (by rcases hb with hb | ⟨_, _, hb⟩ <;> simp [hb])
        exact ⟨by simp only [Env.new, if_neg (show b ≠ E.w.heap.size by omega)], Below.heap_alloc _ _ _ hlt⟩
  · by_cases he : i = id
    · subst he; simp
    · simp only [Env.new, if_neg he] at hL
      have := h.used i L hL
      simp only [List.elem_cons, this]
      split <;> rfl
  · simp only [lk_cons] at hi
    by_cases he : id = i
    · subst he; simp
    · rw [if_neg he] at hi
      have := h.keys i ob' hi
      simp only [List.elem_cons, this]
      split <;> rfl

/-- A write to an object of ours. -/
theorem Sim.write (h : Sim E st a) {id : Nat} {ob ob0 : Obj} {w' : World} (hob0 : lk st.sto id = some ob0) (hos : w'.os = E.w.os) (htp : w'.tape = E.w.tape) (hout : w'.output = E.w.output) (hsz : w'.heap.size = E.w.heap.size)
    (hb : ∀ b, E.tag b ≠ some (.root id) → w'.heap[b]? = E.w.heap[b]?) (hwn : ∀ b lo hi, E.win b = some (lo, hi) → ∀ c T, E.w.heap[b]? = some (.cells c T (0, 0)) → ∃ c', w'.heap[b]? = some (.cells c' T (0, 0)) ∧ c'.size = c.size ∧ ∀ j, j < lo ∨ hi ≤ j → c'[j]? = c[j]?)
    (ho : ORel { E with w := w' } id ob) :
    Sim { E with w := w' } { st with sto := (id, ob) :: st.sto } a ∧ Fr E { E with w := w' } := by
  have hS : ∀ b, E.S b → E.S b ∧ w'.heap[b]? = E.w.heap[b]? := fun b hs => ⟨hs, hb b (by rw [(h.wf.still b hs).1]; simp)⟩
  refine ⟨⟨⟨fun b hs => ⟨(h.wf.still b hs).1, by simp only [hsz]; exact (h.wf.still b hs).2⟩, fun b ht => by simp only [hsz]; exact h.wf.owned b ht, fun b ht => by simp only [hsz]; exact h.wf.windows b ht⟩, h.defers, h.size, fun t v hv => ?_, fun i ob' hi => ?_, h.used, fun i ob' hi => ?_⟩,
    ⟨hos, htp, hout, by simp [hsz], fun b _ ht => hb b (by rw [ht]; simp), fun b ht => .inl ht, fun b h => h, fun b h => .inl h, fun _ _ _ h => h, hwn, rfl⟩⟩
  · obtain ⟨x, hx, hr⟩ := h.tmps t v hv
    exact ⟨x, hx, hr.to hS fun _ _ _ hL => hL⟩
  · simp only [lk_cons] at hi
    by_cases he : id = i
    · subst he
      rw [if_pos rfl] at hi
      obtain rfl := Option.some.inj hi
      exact ho
    · rw [if_neg he] at hi
      refine (h.sto i ob' hi).to hS rfl rfl (fun _ _ _ hL => hL) (fun b hq => ⟨rfl, hb b ?_⟩)
      rcases hq with hq | ⟨_, _, hq⟩ <;> rw [hq] <;> simp
      exact fun e => he e.symm
  · simp only [lk_cons] at hi
    by_cases he : id = i
    · subst he; exact h.keys id ob0 hob0
    · rw [if_neg he] at hi
      exact h.keys i ob' hi

theorem heap_setCells (b : Nat) (ty : TypeId) : ∀ (vs : List Value) (o : Nat) (w : World) (c : Array Value), w.heap[b]? = some (.cells c ty (0, 0)) →
    ∃ c', (w.setCells b o vs).heap[b]? = some (.cells c' ty (0, 0)) ∧ c'.size = c.size ∧ ∀ j, c'[j]? = if o ≤ j ∧ j < o + vs.length ∧ j < c.size then vs[j - o]? else c[j]?
  | [], o, w, c, h => ⟨c, h, rfl, fun j => by rw [if_neg (by simp; omega)]⟩
  | v :: r, o, w, c, h => by
    have h1 : (w.setCell ⟨b, o, none⟩ v).heap[b]? = some (.cells (c.setIfInBounds o v) ty (0, 0)) := by
      simp [World.setCell, Array.getElem?_modify, h]
    obtain ⟨c', h2, h3, h4⟩ := heap_setCells b ty r (o + 1) _ _ h1
    refine ⟨c', h2, by simpa using h3, fun j => ?_⟩
    rw [h4]
    simp only [Array.size_setIfInBounds, List.length_cons]
    by_cases hj : o + 1 ≤ j ∧ j < o + 1 + r.length ∧ j < c.size
    · rw [if_pos hj, if_pos (by omega)]
      have : j - o = (j - (o + 1)) + 1 := by omega
      rw [this, List.getElem?_cons_succ]
    · rw [if_neg hj]
      by_cases hoj : j = o
      · subst hoj
        by_cases hlt : j < c.size
        · rw [if_pos (by omega)]
          simp [Array.getElem?_setIfInBounds, hlt]
        · rw [if_neg (by omega)]
          simp [Array.getElem?_setIfInBounds, hlt]
      · rw [if_neg (by omega)]
        simp [Array.getElem?_setIfInBounds, Ne.symm hoj]

theorem setCells_rest (b : Nat) : ∀ (vs : List Value) (o : Nat) (w : World), (w.setCells b o vs).os = w.os ∧ (w.setCells b o vs).tape = w.tape ∧ (w.setCells b o vs).output = w.output ∧
    (w.setCells b o vs).heap.size = w.heap.size ∧ ∀ k, k ≠ b → (w.setCells b o vs).heap[k]? = w.heap[k]?
  | [], _, _ => ⟨rfl, rfl, rfl, rfl, fun _ _ => rfl⟩
  | v :: r, o, w => by
    obtain ⟨h1, h2, h3, h4, h5⟩ := setCells_rest b r (o + 1) (w.setCell ⟨b, o, none⟩ v)
    exact ⟨h1, h2, h3, by rw [World.setCells, h4]; simp, fun k hk => by rw [World.setCells, h5 k hk]; exact Below.heap_setCell _ _ _ _ hk⟩

/-! ### Values as cells -/

/-- One cell. -/
def AV.one : AV → Bool
  | .agg _ | .tup _ | .undef | .own _ _ _ | .ownp _ => false
  | _ => true

theorem rel_one {v : AV} {x : Value} (h : Rel E v x) (hv : v.one = true) : x.oneCell' = true := by
  cases h with
  | base _ _ h => cases h <;> rfl
  | agg => simp [AV.one] at hv
  | tup => simp [AV.one] at hv
  | undef => simp [AV.one] at hv
  | _ => rfl

theorem rrel_one {w : World} {S : Nat → Prop} {v : AV} {x : Value} (h : RRel w S v x) : x.oneCell' = true := by cases h <;> rfl

/-- The cells of a value. -/
def AV.flat : AV → Option (List AV)
  | .agg cs => some cs
  | .tup _ | .undef | .own _ _ _ | .ownp _ => none
  | v => some [v]

theorem rel_flat {v : AV} {x : Value} {cs : List AV} (h : Rel E v x) (hf : v.flat = some cs) : x.cells.size = cs.length ∧ (∀ (j : Nat) (y : Value), x.cells[j]? = some y → y.oneCell' = true) ∧
    (∀ (j : Nat) (u : AV) (y : Value), cs[j]? = some u → x.cells[j]? = some y → Rel E u y) := by
  by_cases hv : v.one = true
  · have h1 := rel_one h hv
    have h2 : cs = [v] := by cases v <;> simp_all [AV.one, AV.flat]
    subst h2
    have h3 : x.cells = #[x] := by cases x <;> simp_all [Value.oneCell', Value.cells]
    rw [h3]
    refine ⟨rfl, fun j y hy => ?_, fun j u y hu hy => ?_⟩
    · cases j <;> simp at hy
      subst hy; exact h1
    · cases j <;> simp at hu hy
      subst hu hy; exact h
  · cases v with
    | agg cs' =>
      simp [AV.flat] at hf
      subst hf
      obtain ⟨xs, rfl, h2, h3, h4⟩ := rel_agg h
      exact ⟨h2, h3, h4⟩
    | tup => simp [AV.flat] at hf
    | undef => simp [AV.flat] at hf
    | own => simp [AV.flat] at hf
    | ownp => simp [AV.flat] at hf
    | _ => simp [AV.one] at hv

/-- An own array inside a cell is not looked at. -/
def AV.view : AV → AV
  | .own _ _ _ => .undef
  | v => v

theorem rel_view {fl : Bool} {v : AV} {x : Value} {τ : Tag} (h : Cell E fl τ v x) : Rel E v.view x := by
  cases fl with
  | true => cases h with
    | int k n h => exact .base _ _ (.int k n h)
    | bool b => exact .base _ _ (.bool b)
  | false =>
    rcases h with h | ⟨_, rows, rfl, h⟩
    · cases v <;> first | exact h | exact .undef _
    · exact .undef _

/-! ### Reading through a pointer -/

/-- The cells from a pointer on. -/
def St.at (st : St) : AV → Option (List AV)
  | .ptr id row fld =>
    match lk st.sto id with
    | some (.box cells) => bif nbeq row 0 then some (cells.drop fld) else none
    | some (.arr _ _ rows) => (rows[row]?).map fun r => r.drop fld
    | none => none
  | .rptr cells => some cells
  | _ => none

theorem at_rel (hs : Sim E st a) {p : AV} {x : Value} (hp : Rel E p x) {cells : List AV} (hc : st.at p = some cells) :
    ∃ b o, x = .pointer (some ⟨b, o, none⟩) ∧ ∀ j v, cells[j]? = some v → ∃ y, E.w.cell? ⟨b, o + j, none⟩ = some y ∧ y.oneCell' = true ∧ Rel E v.view y := by
  cases p with
  | ptr id row fld =>
    cases hp with
    | base _ _ h => cases h
    | ptr _ _ _ L hL =>
      refine ⟨_, _, rfl, fun j v hj => ?_⟩
      simp only [St.at] at hc
      split at hc
      · rename_i cs hq
        cases hrow : nbeq row 0 with
        | false => simp [hrow] at hc
        | true =>
          obtain rfl := nbeq_eq hrow
          simp [hrow] at hc
          subst hc
          obtain ⟨L', c, ty, h1, h2, h3, h4, h5, hwb, h6⟩ := hs.sto id _ hq
          rw [h1] at hL
          obtain rfl := Option.some.inj hL
          rw [List.getElem?_drop] at hj
          obtain ⟨y, hy1, hy2, hy3⟩ := h6 _ v hj
          refine ⟨y, ?_, hy2, ?_⟩
          · rw [cell_of_row E.w L'.blk _ c ty (0, 0) h4, ← hy1]; congr 1
            omega
          · cases v <;> first | exact hy3 | exact .undef _
      · rename_i sz fl rows hq
        cases hr : rows[row]? with
        | none => simp [hr] at hc
        | some r =>
          simp [hr] at hc
          subst hc
          rw [List.getElem?_drop] at hj
          rcases hs.sto id _ hq with ⟨h1, h2⟩ | ⟨L', c, ty, h1, hsz', h2, h3, h4, h5, h6, h7, hwa, h8, h9⟩
          · rw [h2] at hr; simp at hr
          · rw [h1] at hL
            obtain rfl := Option.some.inj hL
            obtain ⟨y, hy1, hy2, hy3⟩ := h9 row _ r v hr hj
            refine ⟨y, ?_, hy2, rel_view hy3⟩
            rw [cell_of_row E.w L'.blk _ c ty (0, 0) h4]
            rw [← hy1]; congr 1; omega
      · cases hc
  | rptr cs =>
    simp [St.at] at hc
    subst hc
    cases hp with
    | base _ _ h => cases h
    | rptr _ b o f h1 h2 h3 =>
      refine ⟨b, o, rfl, fun j v hj => ⟨f j, h2 j v hj, rrel_one (h3 j v hj), ?_⟩⟩
      have := h3 j v hj
      cases v <;> first | exact .base _ _ this | exact .undef _
  | _ => simp [St.at] at hc

theorem view_one (v : AV) (h : v.one = true) : v.view = v := by cases v <;> first | rfl | simp [AV.one] at h

/-- What a load gives. -/
def loadA (i : TI) (cells : List AV) : Option AV :=
  bif i.desc.isAgg then bif nble i.size cells.length then some (.agg ((cells.take i.size).map AV.view)) else none
  else match cells with
    | v :: _ => some v.view
    | [] => none

theorem load_rel {t : Nat} {i : TI} {cells : List AV} {v : AV} {x : Value} {p : AV} (h : TabOk P T) (hi : T t = some i) (hkn : i.desc.known = true) (hs : Sim E st a) (hp : Rel E p x) (hc : st.at p = some cells) (hl : loadA i cells = some v) :
    ∃ ad y, x = .pointer (some ad) ∧ (loadVar t ad).run P E.w = .ok y E.w ∧ Rel E v y := by
  have hsz := fun w => h.size (P := P) hi w
  have hag := fun w => h.agg (P := P) hi hkn w
  obtain ⟨b, of, hx, hcell⟩ := at_rel hs hp hc
  cases hq : i.desc.isAgg with
  | true =>
    rw [hq] at hag
    simp only [loadA, hq, cond_true] at hl
    cases hle : nble i.size cells.length with
    | false => simp [hle] at hl
    | true =>
      simp only [hle, cond_true] at hl
      obtain rfl := Option.some.inj hl
      have hle' := nble_le hle
      let f : Nat → Value := fun j => (E.w.cell? ⟨b, of + j, none⟩).getD undef
      have hf : ∀ j v, cells[j]? = some v → E.w.cell? ⟨b, of + j, none⟩ = some (f j) ∧ (f j).oneCell' = true ∧ Rel E v.view (f j) := fun j v hj => by
        obtain ⟨y, h1, h2, h3⟩ := hcell j v hj
        have : f j = y := by simp [f, h1]
        rw [this]; exact ⟨h1, h2, h3⟩
      have hcs : (loadCells ⟨b, of, none⟩ i.size).run P E.w = .ok ((List.range i.size).map f).toArray E.w :=
        run_loadCells_list (P := P) E.w ⟨b, of, none⟩ ((List.range i.size).map f) (fun j v hj => by
          simp only [List.getElem?_map, Option.map_eq_some_iff] at hj
          obtain ⟨k, hk1, rfl⟩ := hj
          obtain ⟨hlt, hk2⟩ := List.getElem?_eq_some_iff.1 hk1
          have hjs : j < i.size := by simpa using hlt
          have : k = j := by simpa using hk2.symm
          subst this
          rw [Addr.add_mid]
          exact (hf k _ (List.getElem?_eq_getElem (by omega))).1) |> (by simpa using ·)
      refine ⟨_, .agg ((List.range i.size).map f).toArray, hx, by simp [loadVar, hag, hsz, hcs], .agg _ _ (by simp; omega) (fun j x hx' => ?_) (fun j v x hv hx' => ?_)⟩
      · simp only [List.getElem?_toArray, List.getElem?_map, Option.map_eq_some_iff] at hx'
        obtain ⟨k, hk1, rfl⟩ := hx'
        obtain ⟨hlt, hk2⟩ := List.getElem?_eq_some_iff.1 hk1
        have hkl : k < i.size := by
          have : k = j := by simpa using hk2.symm
          subst this
          simpa using hlt
        exact (hf k _ (List.getElem?_eq_getElem (by omega))).2.1
      · simp only [List.getElem?_toArray, List.getElem?_map, Option.map_eq_some_iff] at hx' hv
        obtain ⟨k, hk1, rfl⟩ := hx'
        obtain ⟨u, hu, rfl⟩ := hv
        obtain ⟨hlt, hk2⟩ := List.getElem?_eq_some_iff.1 hk1
        have : k = j := by simpa using hk2.symm
        subst this
        rw [List.getElem?_take] at hu
        split at hu
        · exact (hf k u hu).2.2
        · cases hu
  | false =>
    rw [hq] at hag
    simp only [loadA, hq, cond_false] at hl
    split at hl
    · rename_i v' r
      obtain rfl := Option.some.inj hl
      obtain ⟨y, h1, h2, h3⟩ := hcell 0 v' rfl
      refine ⟨_, y, hx, ?_, h3⟩
      have hld : (load ⟨b, of, none⟩).run P E.w = .ok y E.w := by
        simp at h1
        simp [load, Sem.run, h1]
      simp only [loadVar, hag, hld, Sem.run_bind, Sem.run_pure, Result.andThen_ok, Bool.false_eq_true, if_false]
    · cases hl

theorem ok_load {t : Nat} {i : TI} {p : Operand} {cells : List AV} {v : AV} (h : TabOk P T) (hi : T t = some i) (hkn : i.desc.known = true) (ho : o.op = .load t p) (hc : st.at (st.ev p) = some cells)
    (hl : loadA i cells = some v) (hk : K v st) : OpOk P o st K :=
  OpOk.pure _ (fun E a hs => by
    obtain ⟨ad, y, h1, h2, h3⟩ := load_rel h hi hkn hs (hs.ev p) hc hl
    exact ⟨y, by simp [execOp, ho, h1, Instr.loadAt, Instr.sureAddr, h2], h3⟩) hk

/-! ### Addresses -/

def AV.shift (off : Nat) : AV → Option AV
  | .ptr id row fld => some (.ptr id row (fld + off))
  | .rptr cells => some (.rptr (cells.drop off))
  | _ => none

theorem ok_fieldAddr {s f : Nat} {i j : TI} {fs : List (Nat × Nat)} {off ft : Nat} {p : Operand} {v : AV} (h : TabOk P T) (hi : T s = some i) (hd : i.desc = .strct fs) (hf : fs[f]? = some (off, ft)) (hj : T ft = some j) (hpos : 0 < j.size)
    (ho : o.op = .fieldAddr s p f) (hv : (st.ev p).shift off = some v) (hk : K v st) : OpOk P o st K := by
  obtain ⟨d, hu, htd⟩ := h.und hi
  obtain ⟨F, rfl, hF⟩ := tdOf_strct (htd.trans hd)
  have hfl : ∃ fld, F[f]? = some fld ∧ fld.offset = off ∧ fld.type = ft := by
    rw [← hF] at hf
    simp only [List.getElem?_map, Option.map_eq_some_iff] at hf
    obtain ⟨fld, h1, h2⟩ := hf
    exact ⟨fld, by simpa using h1, by simpa using congrArg Prod.fst h2, by simpa using congrArg Prod.snd h2⟩
  obtain ⟨fld, hfl, hoff, hty⟩ := hfl
  have hsz := fun w => h.size (P := P) hj w
  refine OpOk.pure _ (fun E a hs => ?_) hk
  have hr := hs.ev p
  have key : ∀ b oo, a.eval p = .pointer (some ⟨b, oo, none⟩) → (execOp a.eval o).run P E.w = .ok (.value (.pointer (some ⟨b, oo + off, none⟩))) E.w := by
    intro b oo hx
    simp [execOp, ho, hx, Instr.fieldAt, run_underlying hu, hfl, Instr.sureAddr, fieldPlace, hty, hsz, show ¬ j.size = 0 by omega, hoff, Addr.add_mid]
  cases hp : st.ev p with
  | ptr id row fl =>
    rw [hp] at hr hv
    simp [AV.shift] at hv
    subst hv
    generalize a.eval p = x at hr key
    cases hr with
    | base _ _ h => cases h
    | ptr _ _ _ L hL =>
      refine ⟨_, key _ _ rfl, ?_⟩
      rw [Nat.add_assoc]
      exact .ptr _ _ _ L hL
  | rptr cells =>
    rw [hp] at hr hv
    simp [AV.shift] at hv
    subst hv
    generalize a.eval p = x at hr key
    cases hr with
    | base _ _ h => cases h
    | rptr _ b oo f h1 h2 h3 =>
      refine ⟨_, key _ _ rfl, .rptr _ b (oo + off) (fun j => f (off + j)) h1 (fun j v hj => ?_) (fun j v hj => ?_)⟩
      · rw [List.getElem?_drop] at hj
        rw [← h2 _ v hj, Nat.add_assoc]
      · rw [List.getElem?_drop] at hj
        exact h3 _ v hj
  | _ => rw [hp] at hv; simp [AV.shift] at hv

/-- The element's pointer. -/
def St.elem (st : St) (size : Nat) (x : AV) (n : Int) (K : AV → Prop) : Prop :=
  match x with
  | .ref _ id off len => (0 ≤ n ∧ n < len) ∧ match lk st.sto id with
    | some (.arr s _ rows) => s = size ∧ off + n.toNat < rows.length ∧ K (.ptr id (off + n.toNat) 0)
    | _ => False
  | .ro rows => 0 ≤ n ∧ ∃ r, rows[n.toNat]? = some r ∧ r.length = size ∧ K (.rptr r)
  | _ => False

theorem ok_indexAddr {t e : Nat} {i j : TI} {x y : Operand} {n : Int} {k : IntKind} (h : TabOk P T) (hi : T t = some i) (hd : i.desc = .slice e) (hj : T e = some j)
    (ho : o.op = .indexAddr t x y) (hy : st.ev y = .int k n) (hk : st.elem j.size (st.ev x) n fun v => K v st) : OpOk P o st K := by
  obtain ⟨d, hu, htd⟩ := h.und hi
  have h1 := tdOf_slice (htd.trans hd)
  subst h1
  have hsz := fun w => h.size (P := P) hj w
  have key : ∀ (E : Env) (a : Act), Sim E st a → ∀ (ad : Addr) (len cap : Nat), a.eval x = .slice (some ad) len cap → 0 ≤ n → n < len → (execOp a.eval o).run P E.w = .ok (.value (.pointer (some (ad.add (n.toNat * j.size))))) E.w := by
    intro E a hs ad len cap hx h0 hn
    have hry := hs.ev y
    rw [hy] at hry
    simp [execOp, ho, hx, (rel_int hry).1, Instr.indexAt, asIntOf, run_underlying hu, h0, hn, hsz]
  unfold St.elem at hk
  split at hk
  · rename_i pf id off len hp
    obtain ⟨⟨h0, hn⟩, hk⟩ := hk
    split at hk
    · rename_i sz fl rows hq
      obtain ⟨hsz', hlt, hk⟩ := hk
      refine OpOk.pure _ (fun E a hs => ?_) hk
      have hrx := hs.ev x
      rw [hp] at hrx
      rcases hs.sto id _ hq with ⟨h1, h2⟩ | ⟨L, c, ty, h1, hsz2, h2, h3, h4, h5, h6, h7, hwa, h8, h9⟩
      · rw [h2] at hlt; simp at hlt
      · have hk' := key E a hs
        generalize a.eval x = xv at hrx hk'
        cases hrx with
        | base _ _ h => cases h
        | ref0 => simp at hn; omega
        | ref _ _ _ _ L' cap hL hle hcap =>
          rw [h1] at hL
          obtain rfl := Option.some.inj hL
          refine ⟨_, hk' _ _ _ rfl h0 hn, ?_⟩
          have hs' : L.siz = j.size := hsz2.trans hsz'
          rw [Addr.add_mid, ← hs']
          have : L.base + off * L.siz + n.toNat * L.siz = L.base + (off + n.toNat) * L.siz + 0 := by rw [Nat.add_mul]; omega
          rw [this]
          exact .ptr _ _ _ L h1
    · exact hk.elim
  · rename_i rows hp
    obtain ⟨h0, r, hr, hrl, hk⟩ := hk
    refine OpOk.pure _ (fun E a hs => ?_) hk
    have hrx := hs.ev x
    rw [hp] at hrx
    have hk' := key E a hs
    generalize a.eval x = xv at hrx hk'
    have hlt := (List.getElem?_eq_some_iff.1 hr).1
    cases hrx with
    | base _ _ h =>
      cases h with
      | ro0 => simp at hr
      | ro _ b oo cap s f g1 g2 g3 g4 g5 g6 g7 =>
        refine ⟨_, hk' _ _ _ rfl h0 (by omega), ?_⟩
        have hs' : s = j.size := by rw [← hrl]; exact (g5 _ _ hr).symm
        rw [Addr.add_mid, ← hs']
        exact .rptr _ b _ (fun q => f n.toNat q) g4 (fun q v hq => g6 _ _ _ _ hr hq) (fun q v hq => g7 _ _ _ _ hr hq)
  · exact hk.elim

end Go.Proofs.Ytmbckmfihcojoaa.AM
