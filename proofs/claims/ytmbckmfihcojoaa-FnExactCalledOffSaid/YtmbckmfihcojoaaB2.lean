/- The abstract machine, part 2: states and slots, code. -/
import Derived.Test.YtmbckmfihcojoaaB1
namespace Go.Proofs.Ytmbckmfihcojoaa.AM
open Go Go.RowKit

set_option linter.unusedVariables false

def ofConst : Value → AV
  | .int k n => if (Lit.int k n).wf then .int k n else .undef
  | .bool b => .bool b
  | .slice none 0 0 => .nilS
  | _ => .undef

def St.get (st : St) (t : Nat) : AV := (lk st.tmps t).getD .undef

def St.ev (st : St) : Operand → AV
  | .tmp t => st.get t
  | .const v => ofConst v
  | .func f => .fn f [] []
  | .global _ => .undef

def St.put (st : St) (d : Option Tmp) (v : AV) : St :=
  match d with
  | some d => bif nblt d st.nt then { st with tmps := (d, v) :: st.tmps } else st
  | none => st

theorem rel_const (E : Env) (v : Value) : Rel E (ofConst v) v := by
  unfold ofConst
  split
  · split
    · exact .base _ _ (.int _ _ ‹_›)
    · exact .undef _
  · exact .base _ _ (.bool _)
  · exact .base _ _ .nilS
  · exact .undef _

theorem Sim.get {E : Env} {st : St} {a : Act} (h : Sim E st a) (t : Nat) : Rel E (st.get t) (a.tmps.getD t undef) := by
  unfold St.get
  cases hq : lk st.tmps t with
  | none => exact .undef _
  | some v =>
    obtain ⟨x, hx, hr⟩ := h.tmps t v hq
    have : a.tmps.getD t undef = x := by simp [Array.getD_eq_getD_getElem?, hx]
    rw [this]; exact hr

theorem Sim.ev {E : Env} {st : St} {a : Act} (h : Sim E st a) (x : Operand) : Rel E (st.ev x) (a.eval x) := by
  cases x with
  | tmp t => exact h.get t
  | const v => exact rel_const E v
  | global g => exact .undef _
  | func f => exact .fn f [] [] #[] #[] rfl rfl (fun j v x hj => by simp at hj) (fun j v x hj => by simp at hj)

theorem Sim.put {E : Env} {st : St} {a : Act} (h : Sim E st a) (d : Option Tmp) {v : AV} {x : Value} (hr : Rel E v x) : Sim E (st.put d v) (a.put d x) := by
  cases d with
  | none => exact h
  | some d =>
    unfold St.put
    by_cases hd : d < st.nt
    · have hb : nblt d st.nt = true := by simpa [nblt_eq] using hd
      simp only [hb, cond_true]
      refine ⟨h.wf, h.defers, by simp [Act.put, h.size], ?_, h.sto, h.used, h.keys⟩
      intro t u hu
      simp only [lk_cons] at hu
      by_cases ht : d = t
      · subst ht
        rw [if_pos rfl] at hu
        obtain rfl := Option.some.inj hu
        refine ⟨x, ?_, hr⟩
        simp [Act.put, Array.getElem?_setIfInBounds, h.size, hd]
      · rw [if_neg ht] at hu
        obtain ⟨y, hy, hry⟩ := h.tmps t u hu
        refine ⟨y, ?_, hry⟩
        simp [Act.put, Array.getElem?_setIfInBounds, ht, hy]
    · have hb : nblt d st.nt = false := by
        cases hq : nblt d st.nt with
        | false => rfl
        | true => exact absurd (by simpa [nblt_eq] using hq) hd
      simp only [hb, cond_false]
      have : a.put (some d) x = a := by
        have : ¬ d < a.tmps.size := by rw [h.size]; exact hd
        simp [Act.put, Array.setIfInBounds, this]
      rw [this]
      exact h

/-- A post over states, as one over worlds: nothing has changed but what is ours. -/
def lift (E₀ : Env) (Q : Exit → St → Prop) : Exit → Act → World → Prop := fun e a w =>
  (match e with | .normal | .exit _ | .ret => True | _ => False) ∧ ∃ E st, E.w = w ∧ Fr E₀ E ∧ Sim E st a ∧ Q e st

theorem lift_mono {E₀ E₁ : Env} {Q Q' : Exit → St → Prop} (hf : Fr E₀ E₁) (hq : ∀ e st, Q e st → Q' e st) : ∀ e a w, lift E₁ Q e a w → lift E₀ Q' e a w := by
  rintro e a w ⟨h1, E, st, hw, hfr, hs, hQ⟩
  exact ⟨h1, E, st, hw, hf.trans hfr, hs, hq _ _ hQ⟩

def awp (P : Program) (c : Code) (Q : Exit → St → Prop) (st : St) : Prop :=
  ∀ E a, Sim E st a → c.wp P (lift E Q) a E.w

def thenQ (n : St → Prop) (Q : Exit → St → Prop) : Exit → St → Prop
  | .normal, st => n st
  | e, st => Q e st

def blockQ (id : Nat) (Q : Exit → St → Prop) : Exit → St → Prop
  | .exit id', st => bif nbeq id' id then Q .normal st else Q (.exit id') st
  | e, st => Q e st

section
variable {P : Program} {Q : Exit → St → Prop} {st : St}

theorem awp_mono {c : Code} {Q' : Exit → St → Prop} (h : awp P c Q st) (hq : ∀ e st, Q e st → Q' e st) : awp P c Q' st :=
  fun E a hs => wp_mono (h E a hs) (lift_mono (Fr.refl E) hq)

theorem awp_skip (h : Q .normal st) : awp P .skip Q st := fun E a hs => wp_skip ⟨trivial, E, st, rfl, Fr.refl E, hs, h⟩
theorem awp_label {l : Nat} (h : Q .normal st) : awp P (.label l) Q st := fun E a hs => wp_label ⟨trivial, E, st, rfl, Fr.refl E, hs, h⟩
theorem awp_exit {id : Nat} (h : Q (.exit id) st) : awp P (.exit id) Q st := fun E a hs => wp_exit ⟨trivial, E, st, rfl, Fr.refl E, hs, h⟩
theorem awp_ret (h : Q .ret st) : awp P .ret Q st := fun E a hs => wp_ret ⟨trivial, E, st, rfl, Fr.refl E, hs, h⟩

theorem awp_seq {x y : Code} (h : awp P x (thenQ (awp P y Q) Q) st) : awp P (.seq x y) Q st := by
  intro E a hs
  refine wp_seq (wp_mono (h E a hs) ?_)
  rintro e a' w' ⟨h1, E', st', rfl, hf, hs', hq⟩
  cases e with
  | normal => exact wp_mono (hq E' a' hs') (lift_mono hf (fun _ _ h => h))
  | exit id => exact ⟨h1, E', st', rfl, hf, hs', hq⟩
  | ret => exact ⟨h1, E', st', rfl, hf, hs', hq⟩
  | _ => exact h1.elim

theorem awp_block {id : Nat} {c : Code} (h : awp P c (blockQ id Q) st) : awp P (.block id c) Q st := by
  intro E a hs
  refine wp_block (wp_mono (h E a hs) ?_)
  rintro e a' w' ⟨h1, E', st', rfl, hf, hs', hq⟩
  cases e with
  | normal => exact ⟨h1, E', st', rfl, hf, hs', hq⟩
  | exit id' =>
    simp only [Exit.inBlock]
    by_cases hid : id' = id
    · subst hid
      simp only [blockQ, nbeq_refl, cond_true] at hq
      rw [if_pos rfl]; exact ⟨trivial, E', st', rfl, hf, hs', hq⟩
    · have : nbeq id' id = false := by
        cases hb : nbeq id' id with
        | false => rfl
        | true => exact absurd (nbeq_eq hb) hid
      simp only [blockQ, this, cond_false] at hq
      rw [if_neg hid]; exact ⟨trivial, E', st', rfl, hf, hs', hq⟩
  | ret => exact ⟨h1, E', st', rfl, hf, hs', hq⟩
  | _ => exact h1.elim

theorem rel_bool {E : Env} {b : Bool} {x : Value} (h : Rel E (.bool b) x) : x = .bool b := by
  cases h with
  | base _ _ h => cases h; rfl

theorem awp_cond {c : Operand} {x y : Code} {b : Bool} (hc : st.ev c = .bool b) (ht : b = true → awp P x Q st) (hf : b = false → awp P y Q st) : awp P (.cond c x y) Q st := by
  intro E a hs
  have hr := hs.ev c
  rw [hc] at hr
  exact wp_cond_split (rel_bool hr) (fun h => ht h E a hs) (fun h => hf h E a hs)

/-- A loop with an index that falls. -/
theorem wp_loop_n {P : Program} {Q : Exit → Act → World → Prop} {a : Act} {w : World} {c : Code} (I : Nat → Act → World → Prop) (n₀ : Nat) (h₀ : I n₀ a w)
    (round : ∀ n a w, I n a w → c.wp P (Exit.then (fun a' w' => ∃ m, m < n ∧ I m a' w') Q) a w) : (Code.loop c).wp P Q a w := by
  intro b k cs
  have key : ∀ n a w, I n a w →
      ∃ e a' w', Q e a' w' ∧ Arrives P (lone (b.at a (.code c :: .inLoop c :: k)) cs w) b k cs e a' w' := by
    intro n
    induction n using Nat.strongRecOn with
    | _ n ih =>
      intro a w hI
      obtain ⟨e, a₁, w₁, hq, harr⟩ := round n a w hI b (.inLoop c :: k) cs
      cases e with
      | normal =>
        obtain ⟨m, hlt, hI₁⟩ := hq
        obtain ⟨e₂, a₂, w₂, hq₂, harr₂⟩ := ih m hlt a₁ w₁ hI₁
        exact ⟨e₂, a₂, w₂, hq₂, .of_steps (Steps.trans harr (.one step_inLoop)) harr₂⟩
      | exit id => exact ⟨_, a₁, w₁, hq, .pass (x := .inLoop c) rfl (fun _ _ => .inl (by simp)) harr⟩
      | goto l => exact ⟨_, a₁, w₁, hq, .pass (x := .inLoop c) rfl (fun _ _ => .inl (by simp)) harr⟩
      | ret => exact ⟨_, a₁, w₁, hq, .pass (x := .inLoop c) rfl (fun _ _ => .inl (by simp)) harr⟩
      | panic ch => exact ⟨_, a₁, w₁, hq, .pass (x := .inLoop c) rfl (fun _ _ => .inl (by simp)) harr⟩
      | outgrown => exact ⟨_, a₁, w₁, hq, .pass (x := .inLoop c) rfl (fun _ _ => .inl (by simp)) harr⟩
  obtain ⟨e, a', w', hq, harr⟩ := key _ a w h₀
  exact ⟨e, a', w', hq, .of_steps (.one step_loop) harr⟩

/-- A state says no more than another. -/
def Weak (st st' : St) : Prop := ∀ E a, Sim E st a → ∃ E', E'.w = E.w ∧ Fr E E' ∧ Sim E' st' a

/-- A loop: what holds at its head is a family of states, with a number that falls. -/
theorem awp_loop {c : Code} (F : Nat → St → Prop) (n₀ : Nat) (st₀ : St) (hst : Weak st st₀) (h₀ : F n₀ st₀)
    (round : ∀ n s, F n s → awp P c (thenQ (fun s' => ∃ m s'', m < n ∧ F m s'' ∧ Weak s' s'') Q) s) : awp P (.loop c) Q st := by
  intro E a hs
  obtain ⟨E0, hw0, hf0, hs0⟩ := hst E a hs
  refine wp_loop_n (fun n a' w' => ∃ E' s, E'.w = w' ∧ Fr E E' ∧ F n s ∧ Sim E' s a') n₀ ⟨E0, st₀, hw0, hf0, h₀, hs0⟩ ?_
  rintro n a' w' ⟨E', s, rfl, hf, hF, hs'⟩
  refine wp_mono (round n s hF E' a' hs') ?_
  rintro e a'' w'' ⟨h1, E'', st', rfl, hf', hs'', hq⟩
  cases e with
  | normal =>
    obtain ⟨m, s'', hm, hF', hwk⟩ := hq
    obtain ⟨E3, hw3, hf3, hs3⟩ := hwk E'' a'' hs''
    exact ⟨m, hm, E3, s'', hw3, hf.trans (hf'.trans hf3), hF', hs3⟩
  | exit id => exact ⟨h1, E'', st', rfl, hf.trans hf', hs'', hq⟩
  | ret => exact ⟨h1, E'', st', rfl, hf.trans hf', hs'', hq⟩
  | _ => exact h1.elim

theorem awp_weak {c : Code} {st' : St} (h : Weak st st') (k : awp P c Q st') : awp P c Q st := by
  intro E a hs
  obtain ⟨E', hw, hf, hs'⟩ := h E a hs
  have := k E' a hs'
  rw [hw] at this
  exact wp_mono this (lift_mono hf (fun _ _ h => h))

def lkAll {α : Type} (l : List (Nat × α)) (p : Nat → α → Prop) : Prop :=
  match l with
  | [] => True
  | (k, v) :: r => p k v ∧ lkAll r p

theorem lkAll_spec {α : Type} {p : Nat → α → Prop} : ∀ (l : List (Nat × α)), lkAll l p → ∀ t v, lk l t = some v → p t v
  | [], _, t, v, h => by simp [lk] at h
  | (k, u) :: r, ⟨h1, h2⟩, t, v, h => by
    rw [lk_cons] at h
    by_cases hk : k = t
    · subst hk; rw [if_pos rfl] at h; obtain rfl := Option.some.inj h; exact h1
    · rw [if_neg hk] at h; exact lkAll_spec r h2 t v h

theorem Weak.refl (st : St) : Weak st st := fun E a hs => ⟨E, rfl, Fr.refl E, hs⟩
theorem Weak.trans {s t u : St} (h : Weak s t) (k : Weak t u) : Weak s u := fun E a hs => by
  obtain ⟨E', hw, hf, hs'⟩ := h E a hs
  obtain ⟨E'', hw', hf', hs''⟩ := k E' a hs'
  exact ⟨E'', hw'.trans hw, hf.trans hf', hs''⟩

/-! ### Operations -/

/-- One operation: whatever it yields and makes of the state meets K. -/
def OpOk (P : Program) (o : Oper) (st : St) (K : AV → St → Prop) : Prop :=
  ∀ (E : Env) (a : Act) (KW : Act → World → Prop) (QW : Exit → Act → World → Prop), Sim E st a →
    (∀ E' v x st', Fr E E' → Sim E' st' a → Rel E' v x → K v st' → KW (a.put o.dst x) E'.w) → o.wp P a E.w KW QW

theorem OpOk.mono {o : Oper} {K K' : AV → St → Prop} (h : OpOk P o st K) (hk : ∀ v s, K v s → K' v s) : OpOk P o st K' :=
  fun E a KW QW hs hK => h E a KW QW hs (fun E' v x st' h1 h2 h3 h4 => hK E' v x st' h1 h2 h3 (hk _ _ h4))

def awpL (P : Program) (ops : Array Oper) (Q : Exit → St → Prop) (l : List Oper) (st : St) : Prop :=
  ∀ E₀ E a, Fr E₀ E → Sim E st a → wpList P ops (lift E₀ Q) l a E.w

theorem awpL_nil {ops : Array Oper} (h : Q .normal st) : awpL P ops Q [] st := fun E₀ E a hf hs => ⟨trivial, E, st, rfl, hf, hs, h⟩

theorem awpL_cons {ops : Array Oper} {o : Oper} {rest : List Oper} (hg : o.guard = none) (h : OpOk P o st fun v s => awpL P ops Q rest (s.put o.dst v)) : awpL P ops Q (o :: rest) st :=
  fun E₀ E a hf hs => wpList_plain hg fun KW hK => h E a KW _ hs fun E' v x st' hf' hs' hr hk => hK _ _ (hk E₀ E' _ (hf.trans hf') (hs'.put o.dst hr))

def dstOf (ops : Array Oper) (j : Nat) : Option Tmp := (ops[j]?).bind (·.dst)

theorem rel_skip (E : Env) : Rel E (.tup []) undef := .tup [] #[] rfl (fun j v x h => by simp at h)

theorem yielded_skip {E : Env} {a : Act} (hs : Sim E st a) {ops : Array Oper} {j t : Nat} (hd : dstOf ops j = some t) (hb : st.get t = .tup []) : yielded ops a.tmps j = none := by
  unfold St.get at hb
  cases hq : lk st.tmps t with
  | none => simp [hq] at hb
  | some v =>
    simp [hq] at hb
    subst hb
    obtain ⟨x, hx, hr⟩ := hs.tmps t _ hq
    have hxe : ∃ xs : Array Value, x = .tuple xs := by
      cases hr with
      | base _ _ h => cases h
      | tup _ xs _ _ => exact ⟨xs, rfl⟩
    obtain ⟨xs, rfl⟩ := hxe
    unfold dstOf at hd
    simp [yielded, hd, hx]

theorem yielded_of {E : Env} {a : Act} (hs : Sim E st a) {ops : Array Oper} {j t : Nat} {b : Bool} (hd : dstOf ops j = some t) (hb : st.get t = .bool b) : yielded ops a.tmps j = some b := by
  unfold St.get at hb
  cases hq : lk st.tmps t with
  | none => simp [hq] at hb
  | some v =>
    simp [hq] at hb
    subst hb
    obtain ⟨x, hx, hr⟩ := hs.tmps t _ hq
    obtain rfl := rel_bool hr
    unfold dstOf at hd
    simp [yielded, hd, hx]

theorem awpL_guard {ops : Array Oper} {o : Oper} {rest : List Oper} {j t : Nat} {want b : Bool} (hg : o.guard = some (j, want)) (hd : dstOf ops j = some t) (hb : st.get t = .bool b)
    (h1 : b = want → OpOk P o st fun v s => awpL P ops Q rest (s.put o.dst v)) (h2 : b = !want → awpL P ops Q rest (st.put o.dst (.tup []))) : awpL P ops Q (o :: rest) st := by
  intro E₀ E a hf hs
  refine wpList_step fun KW hK => ?_
  have hy := yielded_of hs hd hb
  by_cases hbw : b = want
  · rw [if_pos (by simp [Region.wanted, hg, hy, hbw])]
    exact h1 hbw E a KW _ hs fun E' v x st' hf' hs' hr hk => hK _ _ (hk E₀ E' _ (hf.trans hf') (hs'.put o.dst hr))
  · rw [if_neg (by simp [Region.wanted, hg, hy, hbw])]
    refine hK _ _ (h2 (by cases b <;> cases want <;> simp_all) E₀ E _ hf (hs.put o.dst (rel_skip E)))

theorem awpL_skip {ops : Array Oper} {o : Oper} {rest : List Oper} {j t : Nat} {want : Bool} (hg : o.guard = some (j, want)) (hd : dstOf ops j = some t) (hb : st.get t = .tup [])
    (h : awpL P ops Q rest (st.put o.dst (.tup []))) : awpL P ops Q (o :: rest) st := by
  intro E₀ E a hf hs
  refine wpList_step fun KW hK => ?_
  have hy := yielded_skip hs hd hb
  rw [if_neg (by simp [Region.wanted, hg, hy])]
  exact hK _ _ (h E₀ E _ hf (hs.put o.dst (rel_skip E)))

theorem awp_region {id : Nat} {ops : Array Oper} (h : awpL P ops Q ops.toList st) : awp P (.region id ops false) Q st :=
  fun E a hs => wp_region_list (h E E a (Fr.refl E) hs)

/-- An operation that only computes. -/
theorem OpOk.pure {o : Oper} {K : AV → St → Prop} (v : AV) (h : ∀ E a, Sim E st a → ∃ x, (execOp a.eval o).run P E.w = .ok (.value x) E.w ∧ Rel E v x) (hk : K v st) : OpOk P o st K := by
  intro E a KW QW hs hK
  obtain ⟨x, hx, hr⟩ := h E a hs
  unfold Oper.wp
  rw [hx]
  exact hK E v x st (Fr.refl E) hs hr hk

end
end Go.Proofs.Ytmbckmfihcojoaa.AM
