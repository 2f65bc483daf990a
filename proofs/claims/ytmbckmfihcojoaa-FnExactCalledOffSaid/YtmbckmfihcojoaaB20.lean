/- The abstract machine, part 20: a region that draws its order, by one walk. -/
import Derived.Test.YtmbckmfihcojoaaB19
import Derived.Orders
namespace Go.Proofs.Ytmbckmfihcojoaa.AM
open Go Go.RowKit

set_option linter.unusedVariables false
set_option linter.unusedSimpArgs false

/-! ### The last who wrote -/

def Last {γ : Type} (w : Nat → Option γ) (L : Nat → Prop) (base cur : γ) : Prop :=
  (∃ k c, L k ∧ w k = some c ∧ (∀ k', L k' → w k' ≠ none → k' ≤ k) ∧ cur = c) ∨ ((∀ k, L k → w k = none) ∧ cur = base)

theorem Last.congr {γ : Type} {w : Nat → Option γ} {L L' : Nat → Prop} {b c : γ} (h : Last w L b c) (hl : ∀ k, w k ≠ none → (L k ↔ L' k)) : Last w L' b c := by
  rcases h with ⟨k, x, h1, h2, h3, h4⟩ | ⟨h1, h2⟩
  · exact .inl ⟨k, x, (hl k (by simp [h2])).1 h1, h2, fun k' hk' hw => h3 k' ((hl k' hw).2 hk') hw, h4⟩
  · refine .inr ⟨fun k hk => ?_, h2⟩
    cases hw : w k with
    | none => rfl
    | some x => exact absurd (h1 k ((hl k (by simp [hw])).2 hk)) (by simp [hw])

theorem Last.uniq {γ : Type} {w : Nat → Option γ} {L : Nat → Prop} {b c c' : γ} (h : Last w L b c) (h' : Last w L b c') : c = c' := by
  rcases h with ⟨k, x, h1, h2, h3, h4⟩ | ⟨h1, h2⟩ <;> rcases h' with ⟨k', x', h1', h2', h3', h4'⟩ | ⟨h1', h2'⟩
  · have e : k = k' := Nat.le_antisymm (h3' k h1 (by simp [h2])) (h3 k' h1' (by simp [h2']))
    subst e
    rw [h2] at h2'
    rw [h4, h4']; exact Option.some.inj h2'
  · exact absurd (h1' k h1) (by simp [h2])
  · exact absurd (h1 k' h1') (by simp [h2'])
  · rw [h2, h2']

theorem Last.add {γ : Type} {w : Nat → Option γ} {L L' : Nat → Prop} {b c c' : γ} {j : Nat} (h : Last w L b c) (hL : ∀ k, L' k ↔ (L k ∨ k = j)) (hj : ∀ k, L k → w k ≠ none → w j ≠ none → k < j) (hc : c' = (w j).getD c) : Last w L' b c' := by
  cases hw : w j with
  | some x =>
    rw [hw] at hc
    refine .inl ⟨j, x, (hL j).2 (.inr rfl), hw, fun k' hk' hw' => ?_, hc⟩
    rcases (hL k').1 hk' with h1 | h1
    · exact Nat.le_of_lt (hj k' h1 hw' (by simp [hw]))
    · exact Nat.le_of_eq h1
  | none =>
    rw [hw] at hc
    rcases h with ⟨k, x, h1, h2, h3, h4⟩ | ⟨h1, h2⟩
    · refine .inl ⟨k, x, (hL k).2 (.inl h1), h2, fun k' hk' hw' => ?_, by rw [hc]; exact h4⟩
      rcases (hL k').1 hk' with g | g
      · exact h3 k' g hw'
      · subst g; exact absurd hw hw'
    · refine .inr ⟨fun k hk => ?_, by rw [hc]; exact h2⟩
      rcases (hL k).1 hk with g | g
      · exact h1 k g
      · subst g; exact hw

theorem Last.zero {γ : Type} {w : Nat → Option γ} {L : Nat → Prop} {b : γ} (h : ∀ k, ¬ L k) : Last w L b b := .inr ⟨fun k hk => absurd hk (h k), rfl⟩

/-! ### Records -/

structure Rec where
  o : Oper
  v : AV
  d : Dl
  rd : List Nat

def St.app (st : St) (r : Rec) : St := (st.upd r.d).put r.o.dst r.v

def tmpOf : Operand → List Tmp
  | .tmp t => [t]
  | _ => []

def looks (ops : Array Oper) (o : Oper) : List Tmp :=
  (seen o.op).flatMap tmpOf ++ (match o.guard with
    | some (j, _) => (dstOf ops j).toList
    | none => [])

def waits (o : Oper) (i : Nat) : Bool := o.after.toList.any fun e => Region.binds .any e && nbeq e.on i

/-- It waits for it, or for one that does. -/
def waitsT (ops : Array Oper) : Nat → Oper → Nat → Bool
  | 0, o, i => waits o i
  | n + 1, o, i => waits o i || o.after.toList.any fun e => Region.binds .any e && (match ops[e.on]? with
    | some x => waitsT ops n x i
    | none => false)

/-- Two operations' slots are apart. -/
def apartS (ops : Array Oper) (x y : Oper) : Bool :=
  (match x.dst with
   | some d => !(looks ops y).elem d && !(y.dst == some d)
   | none => true) &&
  (match y.dst with
   | some d => !(looks ops x).elem d
   | none => true)

/-- Each operation waits for earlier ones alone; two of which the later does not wait for the earlier are apart. -/
def statB (ops : Array Oper) : Bool :=
  (List.range ops.size).all fun j => match ops[j]? with
    | some o => (o.after.toList.all fun e => !Region.binds .any e || nblt e.on j) && (List.range j).all fun i => match ops[i]? with
      | some x => waits o i || apartS ops x o
      | none => true
    | none => true

def keysOf (d : Dl) : List Nat := d.sto.map (·.1)

def disj (l m : List Nat) : Bool := l.all fun u => !m.elem u

def okPair (ops : Array Oper) (o : Oper) (rd keys : List Nat) (i : Nat) (rdi keysi : List Nat) : Bool :=
  bif disj keysi rd && disj keys (rdi ++ keysi) then true else waitsT ops 3 o i

structure Facts (P : Program) (T : Nat → Option TI) (ops : Array Oper) (lb : Nat) (st0 : St) (recs : List Rec) : Prop where
  op : ∀ (k : Nat) (r : Rec), recs[k]? = some r → ops[k]? = some r.o
  run : ∀ (k : Nat) (r : Rec), recs[k]? = some r → ((r.o.guard = none ∨ ∃ (j : Nat) (want : Bool) (t : Tmp), r.o.guard = some (j, want) ∧ dstOf ops j = some t ∧ ((recs.take k).foldl St.app st0).get t = .bool want) ∧ Fun sy P T (lb + 10000 * k) r.o ((recs.take k).foldl St.app st0) r.v r.d ∧ r.rd = rdOf ((recs.take k).foldl St.app st0) r.o.op r.d) ∨
    (∃ (j : Nat) (want : Bool) (t : Tmp), r.o.guard = some (j, want) ∧ dstOf ops j = some t ∧ (((recs.take k).foldl St.app st0).get t = .bool (!want) ∨ ((recs.take k).foldl St.app st0).get t = .tup []) ∧ r.v = .tup [] ∧ r.d = .no)
  names : ∀ (k : Nat) (r : Rec), recs[k]? = some r → ∀ u ∈ r.d.used, lb + 10000 * k ≤ u ∧ u < lb + 10000 * k + 10000
  pair : ∀ (i j : Nat) (ri rj : Rec), i < j → recs[i]? = some ri → recs[j]? = some rj → okPair ops rj.o rj.rd (keysOf rj.d) i ri.rd (keysOf ri.d) = true

theorem waits_spec {o : Oper} {i : Nat} (h : waits o i = true) : ∃ e ∈ o.after, Region.binds .any e = true ∧ e.on = i := by
  unfold waits at h
  obtain ⟨e, he, hb⟩ := List.any_eq_true.1 h
  simp only [Bool.and_eq_true] at hb
  exact ⟨e, by simpa using he, hb.1, nbeq_eq hb.2⟩

theorem lk_key {α : Type} {l : List (Nat × α)} {k : Nat} (h : lk l k ≠ none) : k ∈ l.map (·.1) := by
  cases hq : lk l k with
  | none => exact absurd hq h
  | some v => exact List.mem_map.2 ⟨(k, v), lk_mem hq, rfl⟩

theorem app_nt (st : St) (r : Rec) : (st.app r).nt = st.nt := by
  unfold St.app St.put
  cases r.o.dst with
  | none => rfl
  | some d =>
    show St.nt (bif nblt d (st.upd r.d).nt then _ else _) = _
    cases nblt d (st.upd r.d).nt <;> rfl
theorem app_sto (st : St) (r : Rec) (id : Nat) : lk (st.app r).sto id = (lk r.d.sto id).getD (lk st.sto id) := by
  rw [← lk_updSto]
  unfold St.app St.put
  cases r.o.dst with
  | none => rfl
  | some d =>
    show lk (St.sto (bif nblt d (st.upd r.d).nt then _ else _)) id = _
    cases nblt d (st.upd r.d).nt <;> rfl
theorem app_used (st : St) (r : Rec) : (st.app r).used = r.d.used ++ st.used := by
  unfold St.app St.put
  cases r.o.dst with
  | none => rfl
  | some d =>
    show St.used (bif nblt d (st.upd r.d).nt then _ else _) = _
    cases nblt d (st.upd r.d).nt <;> rfl
theorem app_tmps (st : St) (r : Rec) (t : Nat) : lk (st.app r).tmps t = (if r.o.dst = some t ∧ t < st.nt then some (some r.v) else none).getD (lk st.tmps t) := by
  unfold St.app St.put
  cases hd : r.o.dst with
  | none => simp [St.upd]
  | some d =>
    show lk (St.tmps (bif nblt d st.nt then _ else _)) t = _
    cases hb : nblt d st.nt with
    | true =>
      have hlt : d < st.nt := by rw [nblt_eq] at hb; exact hb
      simp only [cond_true, lk_cons, Option.some.injEq]
      by_cases h : d = t
      · subst h; simp [hlt]
      · simp [h, St.upd]
    | false =>
      have hlt : ¬ d < st.nt := fun h => by rw [← nblt_eq, hb] at h; cases h
      simp only [cond_false, Option.some.injEq]
      by_cases h : d = t
      · subst h; simp [hlt, St.upd]
      · simp [h, St.upd]

section
variable {P : Program} {T : Nat → Option TI} {ops : Array Oper} {lb : Nat} {st0 : St} {recs : List Rec}

def wT (recs : List Rec) (nt t k : Nat) : Option (Option AV) :=
  match recs[k]? with
  | some r => if r.o.dst = some t ∧ t < nt then some (some r.v) else none
  | none => none

def wO (recs : List Rec) (id k : Nat) : Option (Option Obj) :=
  match recs[k]? with
  | some r => lk r.d.sto id
  | none => none

/-- The state in which just these have come up. -/
structure Is (st0 : St) (recs : List Rec) (L : Nat → Prop) (s : St) : Prop where
  nt : s.nt = st0.nt
  tmps : ∀ t, Last (wT recs st0.nt t) L (lk st0.tmps t) (lk s.tmps t)
  sto : ∀ id, Last (wO recs id) L (lk st0.sto id) (lk s.sto id)
  used : ∀ u, u ∈ s.used ↔ (u ∈ st0.used ∨ ∃ k r, L k ∧ recs[k]? = some r ∧ u ∈ r.d.used)

theorem Is.zero {L : Nat → Prop} (h : ∀ k, ¬ L k) : Is st0 recs L st0 :=
  ⟨rfl, fun t => Last.zero h, fun t => Last.zero h, fun u => ⟨.inl, fun h' => h'.elim id fun ⟨k, _, hk, _⟩ => absurd hk (h k)⟩⟩

theorem Is.step {L L' : Nat → Prop} {s : St} {j : Nat} {r : Rec} (h : Is st0 recs L s) (hr : recs[j]? = some r) (hL : ∀ k, L' k ↔ (L k ∨ k = j))
    (ht : ∀ t k, L k → wT recs st0.nt t k ≠ none → wT recs st0.nt t j ≠ none → k < j) (ho : ∀ id k, L k → wO recs id k ≠ none → wO recs id j ≠ none → k < j) : Is st0 recs L' (s.app r) := by
  refine ⟨(app_nt s r).trans h.nt, fun t => (h.tmps t).add hL (ht t) ?_, fun id => (h.sto id).add hL (ho id) ?_, fun u => ?_⟩
  · rw [app_tmps, h.nt]; simp only [wT, hr]
  · rw [app_sto]; simp only [wO, hr]
  · rw [app_used, List.mem_append, h.used]
    constructor
    · rintro (h1 | h1 | ⟨k, r', h1, h2, h3⟩)
      · exact .inr ⟨j, r, (hL j).2 (.inr rfl), hr, h1⟩
      · exact .inl h1
      · exact .inr ⟨k, r', (hL k).2 (.inl h1), h2, h3⟩
    · rintro (h1 | ⟨k, r', h1, h2, h3⟩)
      · exact .inr (.inl h1)
      · rcases (hL k).1 h1 with g | g
        · exact .inr (.inr ⟨k, r', g, h2, h3⟩)
        · subst g
          rw [hr] at h2
          obtain rfl := Option.some.inj h2
          exact .inl h3

theorem Is.lex : ∀ k, k ≤ recs.length → Is st0 recs (· < k) ((recs.take k).foldl St.app st0)
  | 0, _ => Is.zero (fun k => Nat.not_lt_zero k)
  | k + 1, h => by
    have hr : recs[k]? = some recs[k] := List.getElem?_eq_getElem h
    rw [List.take_add_one, hr, List.foldl_append]
    exact (Is.lex k (Nat.le_of_succ_le h)).step hr (fun i => by omega) (fun t i hi _ _ => hi) (fun id i hi _ _ => hi)

theorem Is.sim {L : Nat → Prop} {s s' : St} {E : Env} {a : Act} (h : Is st0 recs L s) (h' : Is st0 recs L s') (hs : Sim E s a) : Sim E s' a := by
  have ht : ∀ t, lk s'.tmps t = lk s.tmps t := fun t => (h'.tmps t).uniq (h.tmps t)
  have ho : ∀ t, lk s'.sto t = lk s.sto t := fun t => (h'.sto t).uniq (h.sto t)
  have hu : ∀ u, s.used.elem u = true → s'.used.elem u = true := fun u hu => by
    rw [List.elem_iff] at hu ⊢
    rw [h'.used, ← h.used]; exact hu
  exact ⟨hs.wf, hs.defers, by rw [h'.nt, ← h.nt]; exact hs.size, fun t v hv => hs.tmps t v (by rw [← ht]; exact hv), fun id o hv => hs.sto id o (by rw [← ho]; exact hv), fun id L hL => hu _ (hs.used id L hL), fun id o hv => hu _ (hs.keys id o (by rw [← ho]; exact hv))⟩

theorem statB_spec (h : statB ops = true) {j : Nat} {o : Oper} (ho : ops[j]? = some o) : (∀ e ∈ o.after, Region.binds .any e = true → e.on < j) ∧ ∀ i x, i < j → ops[i]? = some x → waits o i = true ∨ apartS ops x o = true := by
  unfold statB at h
  have hj : j < ops.size := (Array.getElem?_eq_some_iff.1 ho).1
  have := List.all_eq_true.1 h j (List.mem_range.2 hj)
  simp only [ho, Bool.and_eq_true] at this
  refine ⟨fun e he hb => ?_, fun i x hi hx => ?_⟩
  · have := List.all_eq_true.1 this.1 e (by simpa using he)
    simp only [hb, Bool.not_true, Bool.false_or, nblt_eq] at this
    exact this
  · have := List.all_eq_true.1 this.2 i (List.mem_range.2 hi)
    simpa [hx, Bool.or_eq_true] using this

theorem apartS_spec {x y : Oper} (h : apartS ops x y = true) {t : Nat} : (x.dst = some t → t ∉ looks ops y ∧ y.dst ≠ some t) ∧ (y.dst = some t → t ∉ looks ops x) := by
  unfold apartS at h
  simp only [Bool.and_eq_true] at h
  refine ⟨fun hx => ?_, fun hy => ?_⟩
  · have := h.1
    simp only [hx, Bool.and_eq_true, Bool.not_eq_true'] at this
    exact ⟨fun hm => (by have h1 := this.1; rw [List.elem_eq_true_of_mem hm] at h1; exact absurd h1 (by simp)), fun e => by simp [e] at this⟩
  · have := h.2
    simp only [hy, Bool.not_eq_true'] at this
    exact fun hm => by rw [List.elem_eq_true_of_mem hm] at this; cases this

theorem disj_spec {l m : List Nat} (h : disj l m = true) {u : Nat} (hu : u ∈ l) : u ∉ m := fun hm => by
  have := List.all_eq_true.1 h u hu
  rw [List.elem_eq_true_of_mem hm] at this
  cases this

theorem okPair_spec {o : Oper} {rd keys rdi keysi : List Nat} {i : Nat} (h : okPair ops o rd keys i rdi keysi = true) : waitsT ops 3 o i = true ∨ (∀ u ∈ keysi, u ∉ rd ∧ u ∉ keys) ∧ (∀ u ∈ keys, u ∉ rdi) := by
  unfold okPair at h
  cases hb : disj keysi rd && disj keys (rdi ++ keysi) with
  | false => rw [hb] at h; exact .inl h
  | true =>
    simp only [Bool.and_eq_true] at hb
    exact .inr ⟨fun u hu => ⟨disj_spec hb.1 hu, fun hk => disj_spec hb.2 hk (List.mem_append_right _ hu)⟩, fun u hu hr => disj_spec hb.2 hu (List.mem_append_left _ hr)⟩

/-- What has come up is closed: what it waits for has come up. -/
def Closed (ops : Array Oper) (L : Nat → Prop) : Prop := ∀ j o, L j → ops[j]? = some o → ∀ e ∈ o.after, Region.binds .any e = true → L e.on

theorem waitsT_in {L : Nat → Prop} (hc : Closed ops L) : ∀ (n : Nat) {o : Oper} {i : Nat}, waitsT ops n o i = true → (∀ e ∈ o.after, Region.binds .any e = true → L e.on) → L i
  | 0, o, i, h, hw => by
    obtain ⟨e, he, hb, rfl⟩ := waits_spec h
    exact hw e he hb
  | n + 1, o, i, h, hw => by
    simp only [waitsT, Bool.or_eq_true] at h
    rcases h with h | h
    · obtain ⟨e, he, hb, rfl⟩ := waits_spec h
      exact hw e he hb
    · obtain ⟨e, he, hb⟩ := List.any_eq_true.1 h
      simp only [Bool.and_eq_true] at hb
      have hL := hw e (by simpa using he) hb.1
      cases hx : ops[e.on]? with
      | none => simp [hx] at hb
      | some x =>
        simp only [hx] at hb
        exact waitsT_in hc n hb.2 fun e' he' hb' => hc e.on x hL hx e' he' hb'

theorem same_slot (F : Facts P T ops lb st0 recs) (hst : statB ops = true) {L : Nat → Prop} (hc : Closed ops L) {j : Nat} {r : Rec} (hr : recs[j]? = some r) (hj : ¬ L j) (hw : ∀ e ∈ r.o.after, Region.binds .any e = true → L e.on) {t : Nat} (ht : t ∈ looks ops r.o ∨ r.o.dst = some t) {k : Nat} (hk : wT recs st0.nt t k ≠ none) (hkj : k ≠ j) : L k ↔ k < j := by
  unfold wT at hk
  cases hrk : recs[k]? with
  | none => simp [hrk] at hk
  | some rk =>
    simp only [hrk] at hk
    have hd : rk.o.dst = some t := by
      by_cases h : rk.o.dst = some t ∧ t < st0.nt
      · exact h.1
      · simp [h] at hk
    have ok := F.op k rk hrk
    have oj := F.op j r hr
    constructor
    · intro hL
      rcases Nat.lt_or_ge k j with h | h
      · exact h
      · have hlt : j < k := by omega
        rcases (statB_spec hst ok).2 j r.o hlt oj with h1 | h1
        · obtain ⟨e, he, hb, rfl⟩ := waits_spec h1
          exact absurd (hc k rk.o hL ok e he hb) hj
        · rcases ht with h2 | h2
          · exact absurd h2 ((apartS_spec h1).2 hd)
          · exact absurd hd ((apartS_spec h1).1 h2).2
    · intro hlt
      rcases (statB_spec hst oj).2 k rk.o hlt ok with h1 | h1
      · obtain ⟨e, he, hb, rfl⟩ := waits_spec h1
        exact hw e he hb
      · rcases ht with h2 | h2
        · exact absurd h2 ((apartS_spec h1).1 hd).1
        · exact absurd h2 ((apartS_spec h1).1 hd).2

theorem same_obj (F : Facts P T ops lb st0 recs) {L : Nat → Prop} (hc : Closed ops L) {j : Nat} {r : Rec} (hr : recs[j]? = some r) (hj : ¬ L j) (hw : ∀ e ∈ r.o.after, Region.binds .any e = true → L e.on) {id : Nat} (ht : id ∈ r.rd ∨ id ∈ keysOf r.d) {k : Nat} (hk : wO recs id k ≠ none) (hkj : k ≠ j) : L k ↔ k < j := by
  unfold wO at hk
  cases hrk : recs[k]? with
  | none => simp [hrk] at hk
  | some rk =>
    simp only [hrk] at hk
    have hd : id ∈ keysOf rk.d := lk_key hk
    have ok := F.op k rk hrk
    have oj := F.op j r hr
    constructor
    · intro hL
      rcases Nat.lt_or_ge k j with h | h
      · exact h
      · have hlt : j < k := by omega
        rcases okPair_spec (F.pair j k r rk hlt hr hrk) with h1 | ⟨h1, h1'⟩
        · exact absurd (waitsT_in hc 3 h1 fun e he hb => hc k rk.o hL ok e he hb) hj
        · rcases ht with h2 | h2
          · exact absurd h2 (h1' id hd)
          · exact absurd hd (h1 id h2).2
    · intro hlt
      rcases okPair_spec (F.pair k j rk r hlt hrk hr) with h1 | ⟨h1, h1'⟩
      · exact waitsT_in hc 3 h1 hw
      · rcases ht with h2 | h2
        · exact absurd h2 (h1 id hd).1
        · exact absurd h2 (h1 id hd).2

theorem Is.agree (F : Facts P T ops lb st0 recs) (hst : statB ops = true) {L : Nat → Prop} (hc : Closed ops L) {s : St} (hs : Is st0 recs L s) {j : Nat} {r : Rec} (hr : recs[j]? = some r) (hj : ¬ L j) (hw : ∀ e ∈ r.o.after, Region.binds .any e = true → L e.on)
    {rd : List Nat} (hrd : ∀ id ∈ rd, id ∈ r.rd) : Agree (seen r.o.op) rd (lb + 10000 * j) ((recs.take j).foldl St.app st0) s := by
  have hlen : j ≤ recs.length := Nat.le_of_lt (List.getElem?_eq_some_iff.1 hr).1
  have hx := Is.lex (st0 := st0) (recs := recs) j hlen
  have slot : ∀ t, t ∈ looks ops r.o → lk s.tmps t = lk ((recs.take j).foldl St.app st0).tmps t := fun t ht =>
    ((hs.tmps t).congr fun k hk => by
      by_cases hkj : k = j
      · subst hkj; exact ⟨fun h => absurd h hj, fun h => absurd h (Nat.lt_irrefl _)⟩
      · exact same_slot F hst hc hr hj hw (.inl ht) hk hkj).uniq (hx.tmps t)
  have names : ∀ u, u ∈ s.used → lb + 10000 * j ≤ u → u < lb + 10000 * j + 10000 → u ∈ ((recs.take j).foldl St.app st0).used := fun u hu h1 h2 => by
    rw [hs.used] at hu
    rw [hx.used]
    rcases hu with h | ⟨k, r', hk, hrk, hur⟩
    · exact .inl h
    · have := F.names k r' hrk u hur
      have : k = j := by omega
      subst this
      exact absurd hk hj
  refine ⟨fun x hx' => ?_, fun id hid => ?_, fun hn => ?_, fun hn => ?_⟩
  · cases x with
    | tmp t =>
      show (lk s.tmps t).getD .undef = (lk _ t).getD .undef
      rw [slot t (List.mem_append_left _ (List.mem_flatMap.2 ⟨_, hx', by simp [tmpOf]⟩))]
    | _ => rfl
  · exact ((hs.sto id).congr fun k hk => by
      by_cases hkj : k = j
      · subst hkj; exact ⟨fun h => absurd h hj, fun h => absurd h (Nat.lt_irrefl _)⟩
      · exact same_obj F hc hr hj hw (.inl (hrd id hid)) hk hkj).uniq (hx.sto id)
  · cases hb : s.used.elem (lb + 10000 * j) with
    | false => rfl
    | true =>
      have := names _ (List.elem_iff.1 hb) (Nat.le_refl _) (by omega)
      rw [List.elem_eq_true_of_mem this] at hn
      cases hn
  · unfold freshL at hn ⊢
    rw [Bool.and_eq_true] at hn ⊢
    refine ⟨?_, hn.2⟩
    have hn := hn.1
    rw [List.all_eq_true] at hn ⊢
    intro u hu
    by_cases h1 : u < lb + 10000 * j
    · rw [Bool.or_eq_true]; exact .inl (by rw [nblt_eq]; exact h1)
    · by_cases h2 : u < lb + 10000 * j + 10000
      · exact hn u (names u hu (by omega) h2)
      · rw [Bool.or_eq_true]; exact .inr (by simp [nble]; omega)

theorem Is.next (F : Facts P T ops lb st0 recs) (hst : statB ops = true) {L L' : Nat → Prop} (hc : Closed ops L) {s : St} (hs : Is st0 recs L s) {j : Nat} {r : Rec} (hr : recs[j]? = some r) (hj : ¬ L j) (hw : ∀ e ∈ r.o.after, Region.binds .any e = true → L e.on)
    (hL : ∀ k, L' k ↔ (L k ∨ k = j)) : Is st0 recs L' (s.app r) := by
  refine hs.step hr hL (fun t k hk hwk hwj => ?_) (fun id k hk hwk hwj => ?_)
  · have hkj : k ≠ j := fun e => hj (e ▸ hk)
    refine (same_slot F hst hc hr hj hw (.inr ?_) hwk hkj).1 hk
    unfold wT at hwj
    simp only [hr] at hwj
    by_cases h : r.o.dst = some t ∧ t < st0.nt
    · exact h.1
    · simp [h] at hwj
  · have hkj : k ≠ j := fun e => hj (e ▸ hk)
    refine (same_obj F hc hr hj hw (.inr ?_) hwk hkj).1 hk
    unfold wO at hwj
    simp only [hr] at hwj
    exact lk_key hwj

theorem all_of_ready (hst : statB ops = true) {listed : Array Bool} (hsz : listed.size = ops.size) (h : Region.ready .any ops listed = []) : ∀ k, k < ops.size → listed.getD k false = true := by
  intro k
  induction k using Nat.strongRecOn with
  | _ k ih =>
    intro hk
    cases hb : listed.getD k false with
    | true => rfl
    | false =>
      have ho : ops[k]? = some ops[k] := Array.getElem?_eq_getElem hk
      have hb' : listed.getD k true = false := by
        have : k < listed.size := by omega
        simp [this] at hb ⊢; exact hb
      have : k ∈ Region.ready .any ops listed := mem_ready.2 ⟨hb', ops[k], ho, fun e he hbi => by
        have := (statB_spec hst ho).1 e he hbi
        exact ih e.on this (by omega)⟩
      rw [h] at this
      cases this

theorem drawn_any (htab : TabOk P T) (F : Facts P T ops lb st0 recs) (hlen : recs.length = ops.size) (hst : statB ops = true) {E₀ : Env} {Q : Exit → St → Prop} (hQ : Q .normal (recs.foldl St.app st0)) :
    ∀ (fuel : Nat) (listed : Array Bool) (s : St) (E : Env) (a : Act), Fr E₀ E → Sim E s a → listed.size = ops.size → Closed ops (fun k => listed.getD k false = true) → listed.toList.count false = fuel →
      Is st0 recs (fun k => listed.getD k false = true) s → wpAny P .any ops (lift E₀ Q) fuel listed a E.w := by
  have fin : ∀ (listed : Array Bool) (s : St) (E : Env) (a : Act), Fr E₀ E → Sim E s a → (∀ k, k < ops.size → listed.getD k false = true) → Is st0 recs (fun k => listed.getD k false = true) s → lift E₀ Q .normal a E.w := by
    intro listed s E a hf hs hall hI
    have hx := Is.lex (st0 := st0) (recs := recs) recs.length (Nat.le_refl _)
    rw [List.take_length] at hx
    have hI' : Is st0 recs (· < recs.length) s := ⟨hI.nt, fun t => (hI.tmps t).congr fun k hk => ?_, fun t => (hI.sto t).congr fun k hk => ?_, fun u => ?_⟩
    · exact ⟨trivial, E, _, rfl, hf, hI'.sim hx hs, hQ⟩
    · have : k < recs.length := by
        rcases Nat.lt_or_ge k recs.length with h | h
        · exact h
        · simp [wT, List.getElem?_eq_none h] at hk
      exact ⟨fun _ => this, fun _ => hall k (by omega)⟩
    · have : k < recs.length := by
        rcases Nat.lt_or_ge k recs.length with h | h
        · exact h
        · simp [wO, List.getElem?_eq_none h] at hk
      exact ⟨fun _ => this, fun _ => hall k (by omega)⟩
    · rw [hI.used]
      refine or_congr Iff.rfl ⟨fun ⟨k, r, h1, h2, h3⟩ => ⟨k, r, (List.getElem?_eq_some_iff.1 h2).1, h2, h3⟩, fun ⟨k, r, h1, h2, h3⟩ => ⟨k, r, hall k (by omega), h2, h3⟩⟩
  intro fuel
  induction fuel with
  | zero =>
    intro listed s E a hf hs hsz hc hcnt hI
    have hall : ∀ k, k < ops.size → listed.getD k false = true := fun k hk => by
      cases hb : listed.getD k false with
      | true => rfl
      | false =>
        have hk' : k < listed.size := by omega
        have : listed[k] = false := by simpa [hk'] using hb
        have : false ∈ listed.toList := by rw [← this]; simp
        exact absurd this (List.count_eq_zero.1 hcnt)
    refine ⟨?_, fin listed s E a hf hs hall hI⟩
    cases hr : Region.ready .any ops listed with
    | nil => rfl
    | cons i l =>
      have hi : i ∈ Region.ready .any ops listed := by rw [hr]; simp
      obtain ⟨h1, o, ho, _⟩ := mem_ready.1 hi
      have hi' : i < ops.size := (Array.getElem?_eq_some_iff.1 ho).1
      have := hall i hi'
      have hk' : i < listed.size := by omega
      simp [hk'] at h1 this
      rw [this] at h1
      cases h1
  | succ fuel ih =>
    intro listed s E a hf hs hsz hc hcnt hI
    refine ⟨fun hr => fin listed s E a hf hs (all_of_ready hst hsz hr) hI, fun i hi => ?_⟩
    obtain ⟨h1, o, ho, hall⟩ := mem_ready.1 hi
    have hi' : i < ops.size := (Array.getElem?_eq_some_iff.1 ho).1
    have hil : i < listed.size := by omega
    have hnot : ¬ listed.getD i false = true := by
      simp [hil] at h1 ⊢; exact h1
    have hr : recs[i]? = some recs[i] := List.getElem?_eq_getElem (by omega)
    generalize hrg : recs[i]'(by omega) = r at hr
    have hro : r.o = o := Option.some.inj ((F.op i r hr).symm.trans ho)
    subst hro
    have hL : ∀ k, (listed.setIfInBounds i true).getD k false = true ↔ (listed.getD k false = true ∨ k = i) := fun k => by
      by_cases hk : i = k
      · subst hk; simp [hil]
      · rw [getD_set_ne false hk]
        exact ⟨.inl, fun h => h.elim id fun e => absurd e.symm hk⟩
    have hc' : Closed ops (fun k => (listed.setIfInBounds i true).getD k false = true) := fun j oj hj hoj e he hb => by
      refine (hL _).2 (.inl ?_)
      rcases (hL j).1 hj with h | h
      · exact hc j oj h hoj e he hb
      · subst h
        rw [ho] at hoj
        obtain rfl := Option.some.inj hoj
        exact hall e he hb
    have hcnt' : (listed.setIfInBounds i true).toList.count false = fuel := by
      rw [Array.toList_setIfInBounds, List.count_set (by simpa using hil), hcnt]
      have : listed[i] = false := by simpa [hil] using h1
      simp [this]
    have hsz' : (listed.setIfInBounds i true).size = ops.size := by simp [hsz]
    have hI' := hI.next F hst hc hr hnot hall hL
    have ag := fun {rd : List Nat} (hrd : ∀ id ∈ rd, id ∈ r.rd) => hI.agree F hst hc hr hnot hall hrd
    have gslot : ∀ j want t, r.o.guard = some (j, want) → dstOf ops j = some t → s.get t = ((recs.take i).foldl St.app st0).get t := fun j want t hg hd => by
      have hx := Is.lex (st0 := st0) (recs := recs) i (by omega)
      unfold St.get
      rw [((hI.tmps t).congr fun k hk => by
        by_cases hkj : k = i
        · subst hkj; exact ⟨fun h => absurd h hnot, fun h => absurd h (Nat.lt_irrefl _)⟩
        · exact same_slot F hst hc hr hnot hall (.inl (by unfold looks; rw [hg]; exact List.mem_append_right _ (by simp [hd]))) hk hkj).uniq (hx.tmps t)]
    unfold wpOp
    simp only [ho]
    rcases F.run i r hr with ⟨hg, hfun, hrd⟩ | ⟨j, want, t, hg, hd, hb, hv, hdn⟩
    · have hw : Region.wanted r.o (yielded ops a.tmps) = true := by
        rcases hg with hg | ⟨j, want, t, hg, hd, hb⟩
        · simp [Region.wanted, hg]
        · rw [← gslot j want t hg hd] at hb
          simp [Region.wanted, hg, yielded_of hs hd hb]
      rw [if_pos hw]
      have hop : OpOk P r.o s (fun v s' => v = r.v ∧ s' = s.upd r.d) := opVC_sound htab (dr := true) (lab := lb + 10000 * i) (hfun s _ (ag (by rw [hrd]; exact fun id h => h)) ⟨rfl, rfl⟩)
      refine .inl (hop E a _ _ hs fun E' v x st' hf' hs' hr' ⟨hv, hst'⟩ => ?_)
      subst hv
      subst hst'
      exact ih _ _ E' _ (hf.trans hf') (hs'.put r.o.dst hr') hsz' hc' hcnt' hI'
    · have hw : Region.wanted r.o (yielded ops a.tmps) = false := by
        rw [← gslot j want t hg hd] at hb
        rcases hb with hb | hb
        · simp [Region.wanted, hg, yielded_of hs hd hb]
        · simp [Region.wanted, hg, yielded_skip hs hd hb]
      rw [if_neg (by simp [hw])]
      have : s.app r = s.put r.o.dst (.tup []) := by unfold St.app; rw [hdn, hv]; rfl
      rw [this] at hI'
      exact ih _ _ E _ hf (hs.put r.o.dst (rel_skip E)) hsz' hc' hcnt' hI'

theorem awp_drawn (htab : TabOk P T) (hm : P.follows .mixedOrders = true) (F : Facts P T ops lb st0 recs) (hlen : recs.length = ops.size) (hst : statB ops = true) {Q : Exit → St → Prop} (hQ : Q .normal (recs.foldl St.app st0)) {id : Nat} :
    awp P (.region id ops true) Q st0 := by
  intro E a hs
  refine wp_region_any hm ?_
  let E' : Env := { E with w := { E.w with drawn := E.w.drawn + 1 } }
  have hf : Fr E E' := Fr.ghost rfl rfl rfl rfl (fun _ h => h) rfl (fun _ _ _ h => h) rfl
  have hs' : Sim E' st0 a := by
    refine ⟨⟨hs.wf.still, hs.wf.owned, hs.wf.windows⟩, hs.defers, hs.size, fun t v hv => ?_, fun id ob hid => ?_, hs.used, hs.keys⟩
    · obtain ⟨x, hx, hr⟩ := hs.tmps t v hv
      exact ⟨x, hx, hr.to (fun b hb => ⟨hb, rfl⟩) fun _ _ _ h => h⟩
    · exact (hs.sto id ob hid).to (fun b hb => ⟨hb, rfl⟩) rfl rfl (fun _ _ _ h => h) (fun b hb => ⟨rfl, rfl⟩)
  refine drawn_any htab F hlen hst hQ ops.size _ st0 E' a hf hs' (by simp) (fun j o hj => ?_) (by simp) (Is.zero fun k hk => ?_)
  · exfalso
    by_cases h : j < ops.size <;> simp [h] at hj
  · by_cases h : k < ops.size <;> simp [h] at hk

end
end Go.Proofs.Ytmbckmfihcojoaa.AM
