/- The abstract machine, part 11: a body, proved: a contract. -/
import Derived.Test.YtmbckmfihcojoaaB10
namespace Go.Proofs.Ytmbckmfihcojoaa.AM
open Go Go.RowKit

set_option linter.unusedVariables false
set_option linter.unusedSimpArgs false

variable {P : Program} {T : Nat → Option TI} {E E0 : Env} {st : St} {a : Act} {K : AV → St → Prop} {o : Oper}

/-! ### Places -/

theorem lk_append {α : Type} (l m : List (Nat × α)) (k : Nat) : lk (l ++ m) k = (lk l k).or (lk m k) := by
  induction l with
  | nil => simp [lk]
  | cons p r ih =>
    obtain ⟨k', v⟩ := p
    rw [List.cons_append, lk_cons, lk_cons, ih]
    by_cases h : k' = k
    · rw [if_pos h, if_pos h]; rfl
    · rw [if_neg h, if_neg h]

/-- Where a slot's slice lies. -/
def AV.src : AV → Option (Nat × Nat)
  | .ref _ id off _ => some (id, off)
  | _ => none

theorem rho1_lk : ∀ (l : List AV) (base t : Nat), lk (rho1 base l) t = if base ≤ t then (l[t - base]?).bind AV.src else none
  | [], base, t => by simp [rho1, lk]
  | v :: r, base, t => by
    have ih := rho1_lk r (base + 1) t
    by_cases ht : base ≤ t
    · rw [if_pos ht]
      by_cases he : base = t
      · subst he
        rw [Nat.sub_self]
        have : lk (rho1 (base + 1) r) base = none := by rw [ih, if_neg (by omega)]
        cases v <;> simp [rho1, AV.src, this, lk_cons]
      · have h1 : (v :: r)[t - base]? = r[t - (base + 1)]? := by rw [show t - base = (t - (base + 1)) + 1 by omega]; rfl
        rw [h1]
        rw [if_pos (by omega)] at ih
        cases v <;> simp [rho1, ih, lk_cons, he]
    · rw [if_neg ht]
      rw [if_neg (by omega)] at ih
      cases v <;> simp [rho1, ih, lk_cons, show ¬ base = t by omega]

theorem rho1_out {l : List AV} {base t : Nat} (h : t < base ∨ base + l.length ≤ t) : lk (rho1 base l) t = none := by
  rw [rho1_lk]
  by_cases hb : base ≤ t
  · rw [if_pos hb, List.getElem?_eq_none (by omega)]; rfl
  · rw [if_neg hb]

/-- The names that a value's parts may take. -/
def AV.width (st : St) : AV → Nat
  | .agg cells => cells.length
  | .ptr id 0 0 => match lk st.sto id with
    | some (.box cells) => cells.length + 1
    | _ => 0
  | _ => 1

theorem rhoV_out {v : AV} {base t : Nat} (h : t < base ∨ base + v.width st ≤ t) : lk (rhoV st base v) t = none := by
  cases v with
  | agg cells => exact rho1_out h
  | ref p id off len =>
    simp only [AV.width] at h
    simp [rhoV, lk_cons, lk, show ¬ base = t by omega]
  | ptr id row fld =>
    unfold rhoV
    split
    · rename_i e; cases e
    · rename_i e; cases e
    · rename_i e
      cases e
      simp only [AV.width] at h
      split
      · rename_i cells hq
        rw [hq] at h
        simp only at h
        rw [lk_cons, if_neg (by omega), rho1_out (by omega)]
      · rfl
    · rfl
  | _ => rfl

theorem rhoT_lk : ∀ (vs : List AV) (base t : Nat), (∀ v ∈ vs, v.width st ≤ 100) → lk (rhoT st base vs) t = if base ≤ t then (match vs[(t - base) / 100]? with | some v => lk (rhoV st (base + (t - base) / 100 * 100) v) t | none => none) else none
  | [], base, t, _ => by simp [rhoT, lk]
  | v :: r, base, t, hw => by
    have ih := rhoT_lk r (base + 100) t (fun u hu => hw u (List.mem_cons_of_mem _ hu))
    have hv := hw v (List.mem_cons_self ..)
    unfold rhoT
    rw [lk_append, ih]
    by_cases h1 : base ≤ t
    · rw [if_pos h1]
      by_cases h2 : base + 100 ≤ t
      · rw [if_pos h2, rhoV_out (by omega)]
        have e1 : (t - base) / 100 = (t - (base + 100)) / 100 + 1 := by omega
        rw [e1, List.getElem?_cons_succ, show base + 100 + (t - (base + 100)) / 100 * 100 = base + ((t - (base + 100)) / 100 + 1) * 100 by omega]
        simp
      · rw [if_neg h2, show (t - base) / 100 = 0 by omega]
        simp
    · rw [if_neg h1, if_neg (by omega), rhoV_out (by omega)]; rfl

/-! ### Cells -/

def adoptC (ln : List (List AV) → Nat) (t : Nat) : AV → AV
  | .own _ _ rows => .ref false t 0 (ln rows)
  | v => v

theorem adopt1_get {ln : List (List AV) → Nat} : ∀ (l : List AV) (base j : Nat), (adopt1 ln base l)[j]? = (l[j]?).map (adoptC ln (base + j))
  | [], base, j => by simp [adopt1]
  | v :: r, base, j => by
    cases j with
    | zero => cases v <;> simp [adopt1, adoptC]
    | succ j =>
      have := adopt1_get (ln := ln) r (base + 1) j
      rw [show base + 1 + j = base + (j + 1) by omega] at this
      cases v <;> simpa [adopt1] using this

theorem adopt1_length {ln : List (List AV) → Nat} : ∀ (l : List AV) (base : Nat), (adopt1 ln base l).length = l.length
  | [], _ => rfl
  | v :: r, base => by cases v <;> simp [adopt1, adopt1_length r]

theorem objs1_lk : ∀ (l : List AV) (base k : Nat) (ob : Obj), lk (objs1 base l) k = some ob → ∃ j s fl rows, k = base + j ∧ l[j]? = some (.own s fl rows) ∧ ob = .arr s fl rows
  | [], _, _, _, h => by simp [objs1, lk] at h
  | v :: r, base, k, ob, h => by
    have hrec : lk (objs1 (base + 1) r) k = some ob → ∃ j s fl rows, k = base + j ∧ (v :: r)[j]? = some (.own s fl rows) ∧ ob = .arr s fl rows := fun h => by
      obtain ⟨j, s, fl, rows, h1, h2, h3⟩ := objs1_lk r (base + 1) k ob h
      exact ⟨j + 1, s, fl, rows, by omega, by simpa using h2, h3⟩
    cases v with
    | own s fl rows =>
      simp only [objs1, lk_cons] at h
      by_cases he : base = k
      · rw [if_pos he] at h
        exact ⟨0, s, fl, rows, by omega, rfl, (Option.some.inj h).symm⟩
      · rw [if_neg he] at h
        exact hrec h
    | _ => exact hrec h

theorem objs1_mem : ∀ {l : List AV} {base k : Nat} {ob : Obj}, (k, ob) ∈ objs1 base l → ∃ j s fl rows, k = base + j ∧ l[j]? = some (.own s fl rows) ∧ ob = .arr s fl rows
  | [], _, _, _, h => by simp [objs1] at h
  | v :: r, base, k, ob, h => by
    have hrec : (k, ob) ∈ objs1 (base + 1) r → ∃ j s fl rows, k = base + j ∧ (v :: r)[j]? = some (.own s fl rows) ∧ ob = .arr s fl rows := fun h => by
      obtain ⟨j, s, fl, rows, h1, h2, h3⟩ := objs1_mem h
      exact ⟨j + 1, s, fl, rows, by omega, by simpa using h2, h3⟩
    cases v with
    | own s fl rows =>
      simp only [objs1] at h
      rcases List.mem_cons.1 h with h | h
      · cases h; exact ⟨0, s, fl, rows, by omega, rfl, rfl⟩
      · exact hrec h
    | _ => exact hrec h

theorem objs1_get {s : Nat} {fl : Bool} {rows : List (List AV)} : ∀ (l : List AV) (base j : Nat), l[j]? = some (.own s fl rows) → lk (objs1 base l) (base + j) = some (.arr s fl rows)
  | [], _, _, h => by simp at h
  | v :: r, base, j, h => by
    cases j with
    | zero =>
      simp at h; subst h
      simp [objs1, lk_cons]
    | succ j =>
      have := objs1_get r (base + 1) j (by simpa using h)
      rw [show base + 1 + j = base + (j + 1) by omega] at this
      cases v <;> simp only [objs1] <;> first | exact this | (rw [lk_cons, if_neg (by omega)]; exact this)

theorem resCells_get {al : Bool} : ∀ {vs rs : List AV}, resCells al st vs rs → vs.length = rs.length ∧ ∀ (j : Nat) (v r : AV), vs[j]? = some v → rs[j]? = some r → resCell al st v r
  | [], [], _ => ⟨rfl, fun j v r h => by simp at h⟩
  | v :: vs, r :: rs, ⟨h1, h2⟩ => by
    obtain ⟨g1, g2⟩ := resCells_get h2
    refine ⟨by simp [g1], fun j v' r' hv hj => ?_⟩
    cases j with
    | zero => simp at hj hv; subst hj hv; exact h1
    | succ j => exact g2 j v' r' (by simpa using hv) (by simpa using hj)
  | [], _ :: _, h => h.elim
  | _ :: _, [], h => h.elim

theorem res1s_get {al : Bool} : ∀ {vs rs : List AV}, res1s al st vs rs → vs.length = rs.length ∧ ∀ (j : Nat) (v r : AV), vs[j]? = some v → rs[j]? = some r → res1 al st v r
  | [], [], _ => ⟨rfl, fun j v r h => by simp at h⟩
  | v :: vs, r :: rs, ⟨h1, h2⟩ => by
    obtain ⟨g1, g2⟩ := res1s_get h2
    refine ⟨by simp [g1], fun j v' r' hv hj => ?_⟩
    cases j with
    | zero => simp at hj hv; subst hj hv; exact h1
    | succ j => exact g2 j v' r' (by simpa using hv) (by simpa using hj)
  | [], _ :: _, h => h.elim
  | _ :: _, [], h => h.elim

theorem Rel.noPeek {p q : Bool} {id off len : Nat} {x : Value} (h : Rel E (.ref p id off len) x) : Rel E (.ref false id off len) x := by
  cases h with
  | base _ _ h => cases h
  | ref0 _ _ cap ad h => exact .ref0 _ _ _ _ h
  | ref _ _ _ _ L cap h1 h2 h3 => exact .ref _ _ _ _ L cap h1 h2 h3

/-- The still blocks that may be seen. -/
theorem free_cut {X : Env} {al : Bool} {v : AV} {x : Value} (hf : v.free al) (hS : ∀ b, X.S b → E0.S b ∨ E0.w.heap.size ≤ b) (h : Rel X v x) : Rel (X.cut al E0) v x := by
  cases v with
  | int k n => rw [(rel_int h).1]; exact .base _ _ (.int _ _ (rel_int h).2)
  | bool b => rw [rel_bool h]; exact .base _ _ (.bool _)
  | nilS => rw [rel_nilS h]; exact .base _ _ .nilS
  | emp =>
    cases h with
    | base _ _ h => cases h; exact .base _ _ (.emp _)
  | own s fl rows =>
    cases h with
    | base _ _ h => cases h
  | ro rows =>
    cases h with
    | base _ _ h =>
      rcases hf with hal | hnil
      · subst hal
        exact .base _ _ (h.mono (fun b hb => ⟨hb, (hS b hb).imp (fun h => ⟨rfl, h⟩) id⟩) (fun _ _ => rfl))
      · subst hnil
        cases h with
        | ro0 a cap h1 h2 => exact .base _ _ (.ro0 a cap h1 h2)
        | ro _ _ _ _ _ _ h1 => exact absurd rfl h1
  | _ => exact hf.elim

theorem arr_cut {X : Env} {al : Bool} {t s : Nat} {fl : Bool} {rows : List (List AV)} (hf : fl = false → FreeRows al rows) (hS : ∀ b, X.S b → E0.S b ∨ E0.w.heap.size ≤ b) (h : ORel X t (.arr s fl rows)) : ORel (X.cut al E0) t (.arr s fl rows) := by
  rcases h with h | ⟨L, c, ty, h1, h2, h3, h4, h5, h6, h7, h8, hw, h9, h10⟩
  · exact .inl h
  · refine .inr ⟨L, c, ty, h1, h2, h3, h4, h5, h6, h7, h8, hw, h9, fun i j r v hi hj => ?_⟩
    obtain ⟨y, y1, y2, y3⟩ := h10 i j r v hi hj
    refine ⟨y, y1, y2, ?_⟩
    cases fl with
    | true => exact y3
    | false =>
      have hv := hf rfl r (List.mem_of_getElem? hi) v (List.mem_of_getElem? hj)
      rcases y3 with y3 | y3
      · exact .inl (free_cut hv hS y3)
      · exact .inr y3

/-- A cell and its tree. -/
theorem cell_back {ρ : Ren} (hs : Sim E st a) (hρ : ρ.ok = true) {al : Bool} (hS : ∀ b, E.S b → E0.S b ∨ E0.w.heap.size ≤ b) {t : Nat} {v r : AV} {y : Value} (hr : Rel E v y) (hc : resCell al st v r) (hl : lk ρ t = v.src) :
    Rel ((E.ren ρ E.S E.win).cut al E0) (adoptC List.length t r) y ∧ ∀ s fl rows, r = .own s fl rows → ORel ((E.ren ρ E.S E.win).cut al E0) t (.arr s fl rows) ∧ (fl = false → FreeRows al rows) := by
  have hloc : v.src = none → ((E.ren ρ E.S E.win).cut al E0).loc t = none := fun h => by
    show (lk ρ t).bind _ = none
    rw [hl, h]; rfl
  by_cases hru : r = .undef
  · subst hru
    exact ⟨.undef _, fun _ _ _ e => by cases e⟩
  cases v with
  | int k n =>
    simp only [resCell] at hc; subst hc
    rw [(rel_int hr).1]
    exact ⟨.base _ _ (.int _ _ (rel_int hr).2), fun _ _ _ e => by cases e⟩
  | bool b =>
    simp only [resCell] at hc; subst hc
    rw [rel_bool hr]
    exact ⟨.base _ _ (.bool _), fun _ _ _ e => by cases e⟩
  | nilS =>
    rw [rel_nilS hr]
    cases r <;> simp only [resCell] at hc <;> try exact hc.elim
    · exact ⟨.base _ _ .nilS, fun _ _ _ e => by cases e⟩
    · subst hc; exact ⟨.base _ _ (.ro0 none 0 (Nat.zero_le _) (fun _ => rfl)), fun _ _ _ e => by cases e⟩
    · subst hc; exact ⟨.ref0 _ _ _ _ rfl, fun _ _ _ e => by cases e; exact ⟨.inl ⟨hloc rfl, rfl⟩, fun _ r hr => by cases hr⟩⟩
    · exact absurd rfl hru
  | emp =>
    have hy : ∃ ad, y = .slice (some ad) 0 0 := by
      cases hr with
      | base _ _ h => cases h; exact ⟨_, rfl⟩
    obtain ⟨ad, rfl⟩ := hy
    cases r <;> simp only [resCell] at hc <;> try exact hc.elim
    · exact ⟨.base _ _ (.emp _), fun _ _ _ e => by cases e⟩
    · subst hc; exact ⟨.base _ _ (.ro0 _ 0 (Nat.zero_le _) (fun h => by cases h)), fun _ _ _ e => by cases e⟩
    · subst hc; exact ⟨.ref0 _ _ _ _ rfl, fun _ _ _ e => by cases e; exact ⟨.inl ⟨hloc rfl, rfl⟩, fun _ r hr => by cases hr⟩⟩
    · exact absurd rfl hru
  | ro rows =>
    cases r <;> simp only [resCell] at hc <;> try exact hc.elim
    · obtain ⟨rfl, hc⟩ := hc
      refine ⟨free_cut (X := E.ren ρ E.S E.win) hc hS ?_, fun _ _ _ e => by cases e⟩
      cases hr with
      | base _ _ h => exact .base _ _ h
    · exact absurd rfl hru
  | ref p id off len =>
    cases r <;> simp only [resCell] at hc <;> try exact hc.elim
    · rename_i s fl rows'
      split at hc
      · rename_i s' fl' rows hq
        obtain ⟨⟨rfl, rfl⟩, ⟨hle, hrows⟩, hfree⟩ := hc
        have hfr : fl' = false → FreeRows al rows' := fun e => by subst e; exact hfree
        have hlen : rows'.length = len := by rw [hrows]; simp; omega
        have h1 := (hr.noPeek (q := false)).ren (ρ := ρ) (S' := E.S) (win' := E.win) (fun _ h => h) (.ref false t 0 len) (by simp [AV.back, hl, AV.src]) (by simp [AV.fits, hl, AV.src])
        have h2 := ren_arr (ρ := ρ) (S' := E.S) (win' := E.win) hρ (fun _ h => h) (t := t) (o := off) (n := len) hl (hs.sto id _ hq) (by omega) hrows (fun e => (hfr e).noRefs) (fun b _ h => h)
        refine ⟨?_, fun s fl rows e => ?_⟩
        · show Rel _ (.ref false t 0 rows'.length) y
          rw [hlen]
          cases h1 with
          | base _ _ h => cases h
          | ref0 _ _ cap ad h => exact .ref0 _ _ _ _ h
          | ref _ _ _ _ L cap h1 h2 h3 => exact .ref _ _ _ _ L cap h1 h2 h3
        · cases e
          exact ⟨arr_cut hfr hS h2, hfr⟩
      · exact hc.elim
    · exact absurd rfl hru
  | _ => cases r <;> simp only [resCell] at hc <;> first | exact hc.elim | exact absurd rfl hru

/-- A variable and its trees. -/
theorem box_back {ρ : Ren} (hs : Sim E st a) (hρ : ρ.ok = true) {al : Bool} (hS : ∀ b, E.S b → E0.S b ∨ E0.w.heap.size ≤ b) {s t : Nat} {vs rs : List AV} (hq : lk st.sto s = some (.box vs)) (hc : resCells al st vs rs) (hl : lk ρ t = some (s, 0))
    (hj : ∀ j, j < vs.length → lk ρ (t + 1 + j) = (vs[j]?).bind AV.src) : ORel ((E.ren ρ E.S E.win).cut al E0) t (.box (adopt1 List.length (t + 1) rs)) ∧ ∀ id o, (id, o) ∈ objs1 (t + 1) rs → ORel ((E.ren ρ E.S E.win).cut al E0) id o ∧ (∀ s rows, o = .arr s false rows → FreeRows al rows) := by
  obtain ⟨L, c, ty, h1, h2, h3, h4, h5, hw, h6⟩ := hs.sto s _ hq
  obtain ⟨g1, g2⟩ := resCells_get hc
  have hcell : ∀ j r, rs[j]? = some r → ∃ y, c[L.base + j]? = some y ∧ y.oneCell' = true ∧ Rel ((E.ren ρ E.S E.win).cut al E0) (adoptC List.length (t + 1 + j) r) y ∧ ∀ s fl rows, r = .own s fl rows → ORel ((E.ren ρ E.S E.win).cut al E0) (t + 1 + j) (.arr s fl rows) ∧ (fl = false → FreeRows al rows) := fun j r hr => by
    have hlt : j < vs.length := by rw [g1]; exact (List.getElem?_eq_some_iff.1 hr).1
    have hv := List.getElem?_eq_getElem hlt
    obtain ⟨y, y1, y2, y3⟩ := h6 j _ hv
    obtain ⟨k1, k2⟩ := cell_back (E0 := E0) hs hρ hS y3 (g2 j _ r hv hr) (t := t + 1 + j) (by rw [hj j hlt, hv]; rfl)
    exact ⟨y, y1, y2, k1, k2⟩
  refine ⟨⟨L.shift 0, c, ty, by show (lk ρ t).bind _ = _; simp [hl, h1], h2, ren_tag_root hρ hl h3, h4, ?_, ?_, fun j v hv => ?_⟩, fun id o ho => ?_⟩
  · rw [adopt1_length, ← g1]; simpa [Loc.shift] using h5
  · rw [adopt1_length, ← g1]; exact fun lo hi hq => by simpa [Loc.shift] using hw lo hi hq
  · rw [adopt1_get] at hv
    simp only [Option.map_eq_some_iff] at hv
    obtain ⟨r, hr, rfl⟩ := hv
    obtain ⟨y, y1, y2, y3, _⟩ := hcell j r hr
    exact ⟨y, by simpa [Loc.shift] using y1, y2, y3⟩
  · obtain ⟨j, s', fl, rows, rfl, hr, rfl⟩ := objs1_mem ho
    obtain ⟨y, y1, y2, _, y4⟩ := hcell j _ hr
    obtain ⟨z1, z2⟩ := y4 _ _ _ rfl
    exact ⟨z1, fun s rows e => by cases e; exact z2 rfl⟩

/-- A result and its tree. -/
theorem val_back {ρ : Ren} (hs : Sim E st a) (hρ : ρ.ok = true) {al : Bool} (hS : ∀ b, E.S b → E0.S b ∨ E0.w.heap.size ≤ b) {base : Nat} {v r : AV} {y : Value} (hr : Rel E v y) (hc : res1 al st v r) (hsm : small1 r = true) (hl : ∀ t, base ≤ t → t < base + 100 → lk ρ t = lk (rhoV st base v) t) :
    (v.width st ≤ 100 ∧ Rel ((E.ren ρ E.S E.win).cut al E0) (adoptV List.length base r) y) ∧ ∀ id o, (id, o) ∈ objsV List.length base r → ORel ((E.ren ρ E.S E.win).cut al E0) id o ∧ (∀ s rows, o = .arr s false rows → FreeRows al rows) := by
  have single : (∀ cs, v ≠ .agg cs) → (∀ id, v ≠ .ptr id 0 0) → res1 al st v r → (v.width st ≤ 100 ∧ Rel ((E.ren ρ E.S E.win).cut al E0) (adoptV List.length base r) y) ∧ ∀ id o, (id, o) ∈ objsV List.length base r → ORel ((E.ren ρ E.S E.win).cut al E0) id o ∧ (∀ s rows, o = .arr s false rows → FreeRows al rows) := by
    intro n1 n2 hc
    have hc' : resCell al st v r := by
      unfold res1 at hc
      split at hc
      · exact absurd rfl (n1 _)
      · exact absurd rfl (n2 _)
      · exact hc
    have hlb : lk ρ base = v.src := by
      rw [hl base (Nat.le_refl _) (by omega)]
      cases v with
      | agg cs => exact absurd rfl (n1 cs)
      | ptr id row fld =>
        cases row <;> cases fl' : fld <;> simp [rhoV, AV.src, lk]
        subst fl'; exact absurd rfl (n2 _)
      | ref p id off len => simp [rhoV, lk_cons, AV.src]
      | _ => rfl
    obtain ⟨k1, k2⟩ := cell_back (E0 := E0) hs hρ hS hr hc' hlb
    refine ⟨⟨?_, ?_⟩, fun id o ho => ?_⟩
    · cases v with
      | ptr id row fld =>
        unfold AV.width
        split
        · rename_i e; cases e
        · rename_i e; cases e; exact absurd rfl (n2 _)
        · omega
      | agg cs => exact absurd rfl (n1 cs)
      | _ => simp [AV.width]
    · cases r with
      | agg cs => cases v <;> simp [resCell] at hc'
      | ownp cs => cases v <;> simp [resCell] at hc'
      | _ => exact k1
    · cases r with
      | own s fl rows =>
        simp only [objsV, List.mem_singleton] at ho
        cases ho
        obtain ⟨z1, z2⟩ := k2 _ _ _ rfl
        exact ⟨z1, fun s rows e => by cases e; exact z2 rfl⟩
      | agg cs => cases v <;> simp [resCell] at hc'
      | ownp cs => cases v <;> simp [resCell] at hc'
      | _ => simp [objsV] at ho
  cases v with
  | agg vs =>
    simp only [res1] at hc
    split at hc
    · rename_i rs
      obtain ⟨xs, rfl, x1, x2, x3⟩ := rel_agg hr
      obtain ⟨g1, g2⟩ := resCells_get hc
      have hlen : rs.length ≤ 90 := nble_le hsm
      have hcell : ∀ j r, rs[j]? = some r → ∃ y, xs[j]? = some y ∧ Rel ((E.ren ρ E.S E.win).cut al E0) (adoptC List.length (base + j) r) y ∧ ∀ s fl rows, r = .own s fl rows → ORel ((E.ren ρ E.S E.win).cut al E0) (base + j) (.arr s fl rows) ∧ (fl = false → FreeRows al rows) := fun j r hr => by
        have hlt : j < vs.length := by rw [g1]; exact (List.getElem?_eq_some_iff.1 hr).1
        have hv := List.getElem?_eq_getElem hlt
        have hx := Array.getElem?_eq_getElem (show j < xs.size by omega)
        obtain ⟨k1, k2⟩ := cell_back (E0 := E0) hs hρ hS (x3 j _ _ hv hx) (g2 j _ r hv hr) (t := base + j) (by rw [hl _ (by omega) (by omega)]; simp [rhoV, rho1_lk, hv])
        exact ⟨_, hx, k1, k2⟩
      refine ⟨⟨by simp only [AV.width]; omega, .agg _ xs (by rw [adopt1_length, x1, g1]) x2 fun j u y hu hy => ?_⟩, fun id o ho => ?_⟩
      · rw [adopt1_get] at hu
        simp only [Option.map_eq_some_iff] at hu
        obtain ⟨r, hr, rfl⟩ := hu
        obtain ⟨y', hy', k1, _⟩ := hcell j r hr
        rw [hy] at hy'
        obtain rfl := Option.some.inj hy'
        exact k1
      · obtain ⟨j, s', fl, rows, rfl, hr, rfl⟩ := objs1_mem ho
        obtain ⟨y, _, _, y4⟩ := hcell j _ hr
        obtain ⟨z1, z2⟩ := y4 _ _ _ rfl
        exact ⟨z1, fun s rows e => by cases e; exact z2 rfl⟩
    · exact hc.elim
  | ptr id row fld =>
    by_cases h0 : row = 0 ∧ fld = 0
    · obtain ⟨rfl, rfl⟩ := h0
      simp only [res1] at hc
      split at hc
      · rename_i rs
        split at hc
        · rename_i vs hq
          obtain ⟨g1, g2⟩ := resCells_get hc
          have hlen : rs.length ≤ 90 := nble_le hsm
          have hlb : lk ρ base = some (id, 0) := by
            rw [hl base (Nat.le_refl _) (by omega)]
            simp [rhoV, hq, lk_cons]
          obtain ⟨k1, k2⟩ := box_back (E0 := E0) hs hρ hS hq hc hlb (fun j hj => by
            rw [hl _ (by omega) (by omega)]
            simp only [rhoV, hq, lk_cons]
            rw [if_neg (by omega), rho1_lk, if_pos (by omega), show base + 1 + j - (base + 1) = j by omega])
          refine ⟨⟨by simp only [AV.width, hq]; omega, ?_⟩, fun i o ho => ?_⟩
          · have h1 := hr.ren (ρ := ρ) (S' := E.S) (win' := E.win) (fun _ h => h) (.ptr base 0 0) (by simp [AV.back, hlb]) (by simp [AV.fits, hlb, nbeq_refl])
            cases h1 with
            | base _ _ h => cases h
            | ptr _ _ _ L hL => exact .ptr _ _ _ L hL
          · simp only [objsV] at ho
            rcases List.mem_cons.1 ho with ho | ho
            · cases ho; exact ⟨k1, fun _ _ e => by cases e⟩
            · exact k2 i o ho
        · exact hc.elim
      · exact hc.elim
    · exact single (fun _ e => by cases e) (fun _ e => by cases e; exact h0 ⟨rfl, rfl⟩) hc
  | _ => exact single (fun _ e => by cases e) (fun _ e => by cases e) hc

/-! ### What is given back -/

theorem rhoSeg_out {k t : Nat} (hb : ∀ cells, lk st.sto (gl k) = some (.box cells) → cells.length ≤ 90) (h : t < gl k ∨ gl k + 1000 ≤ t) : lk (rhoSeg st k) t = none := by
  unfold rhoSeg
  split
  · rename_i cells hq
    have := hb cells hq
    rw [lk_cons, if_neg (by omega), rho1_out (by omega)]
  · rw [lk_cons, if_neg (by omega)]; rfl

theorem rhoO_lk : ∀ (os : List (Option Obj)) (k0 t : Nat), (∀ i o, os[i]? = some (some o) → ∀ cells, lk st.sto (gl (k0 + i)) = some (.box cells) → cells.length ≤ 90) →
    lk (rhoO st k0 os) t = if gl k0 ≤ t then (match os[(t - gl k0) / 1000]? with | some (some _) => lk (rhoSeg st (k0 + (t - gl k0) / 1000)) t | _ => none) else none
  | [], k0, t, _ => by simp [rhoO, lk]
  | x :: r, k0, t, hb => by
    have ih := rhoO_lk r (k0 + 1) t (fun i o hi cells hc => hb (i + 1) o (by simpa using hi) cells (by rw [← hc]; congr 2; omega))
    have hg : gl (k0 + 1) = gl k0 + 1000 := by simp [gl]; omega
    have hstep : lk (rhoO st (k0 + 1) r) t = if gl k0 ≤ t then (if gl k0 + 1000 ≤ t then (match (x :: r)[(t - gl k0) / 1000]? with | some (some _) => lk (rhoSeg st (k0 + (t - gl k0) / 1000)) t | _ => none) else none) else none := by
      rw [ih, hg]
      by_cases h2 : gl k0 + 1000 ≤ t
      · rw [if_pos h2, if_pos (by omega), if_pos h2]
        have e1 : (t - gl k0) / 1000 = (t - (gl k0 + 1000)) / 1000 + 1 := by omega
        rw [e1, List.getElem?_cons_succ, show k0 + 1 + (t - (gl k0 + 1000)) / 1000 = k0 + ((t - (gl k0 + 1000)) / 1000 + 1) by omega]
      · rw [if_neg h2]
        by_cases h1 : gl k0 ≤ t
        · rw [if_pos h1, if_neg h2]
        · rw [if_neg h1]
    cases x with
    | none =>
      unfold rhoO
      rw [hstep]
      by_cases h1 : gl k0 ≤ t
      · rw [if_pos h1, if_pos h1]
        by_cases h2 : gl k0 + 1000 ≤ t
        · rw [if_pos h2]
        · rw [if_neg h2, show (t - gl k0) / 1000 = 0 by omega]; rfl
      · rw [if_neg h1, if_neg h1]
    | some o =>
      have hseg : rhoO st k0 (some o :: r) = rhoSeg st k0 ++ rhoO st (k0 + 1) r := rfl
      rw [hseg, lk_append, hstep]
      have hb0 : ∀ cells, lk st.sto (gl k0) = some (.box cells) → cells.length ≤ 90 := hb 0 o rfl
      by_cases h1 : gl k0 ≤ t
      · rw [if_pos h1, if_pos h1]
        by_cases h2 : gl k0 + 1000 ≤ t
        · rw [if_pos h2, rhoSeg_out hb0 (by omega)]; rfl
        · rw [if_neg h2, show (t - gl k0) / 1000 = 0 by omega]; simp
      · rw [if_neg h1, if_neg h1, rhoSeg_out hb0 (by omega)]; rfl

theorem backOk_get {al : Bool} : ∀ {os : List (Option Obj)} {k0 : Nat}, backOk al st k0 os → ∀ (i : Nat) (o : Obj), os[i]? = some (some o) → match o with
    | .box cells => ∃ vs, lk st.sto (gl (k0 + i)) = some (.box vs) ∧ resCells al st vs cells
    | .arr s fl rows => lk st.sto (gl (k0 + i)) = some (.arr s fl rows) ∧ (fl = false → FreeRows al rows)
  | [], _, _, i, o, h => by simp at h
  | x :: r, k0, hb, i, o, h => by
    cases i with
    | succ i =>
      have hb' : backOk al st (k0 + 1) r := by
        cases x with
        | none => exact hb
        | some o' => cases o' <;> exact hb.2
      have := backOk_get hb' i o (by simpa using h)
      rw [show k0 + 1 + i = k0 + (i + 1) by omega] at this
      exact this
    | zero =>
      simp at h; subst h
      cases o with
      | box cells =>
        have := hb.1
        split at this
        · exact ⟨_, ‹_›, this⟩
        · exact this.elim
      | arr s fl rows =>
        have := hb.1
        split at this
        · obtain ⟨⟨rfl, rfl⟩, rfl, hf⟩ := this
          exact ⟨‹_›, fun e => by subst e; exact hf⟩
        · exact this.elim

theorem flat1_lk {ln : List (List AV) → Nat} {base id : Nat} {o ob : Obj} (h : lk (flat1 ln base o) id = some ob) :
    (id = base ∧ (match o with | .box cells => ob = .box (adopt1 ln (base + 1) cells) | .arr s fl rows => ob = .arr s fl rows)) ∨ (∃ cells j s fl rows, o = .box cells ∧ id = base + 1 + j ∧ cells[j]? = some (.own s fl rows) ∧ ob = .arr s fl rows) := by
  cases o with
  | box cells =>
    simp only [flat1, lk_cons] at h
    by_cases he : base = id
    · subst he; rw [if_pos rfl] at h; exact .inl ⟨rfl, (Option.some.inj h).symm⟩
    · rw [if_neg he] at h
      obtain ⟨j, s, fl, rows, h1, h2, h3⟩ := objs1_lk _ _ _ _ h
      exact .inr ⟨cells, j, s, fl, rows, rfl, h1, h2, h3⟩
  | arr s fl rows =>
    simp only [flat1, lk_cons, lk] at h
    by_cases he : base = id
    · subst he; rw [if_pos rfl] at h; exact .inl ⟨rfl, (Option.some.inj h).symm⟩
    · rw [if_neg he] at h; cases h

theorem flats_lk {ln : List (List AV) → Nat} : ∀ {objs : List Obj} {k0 id : Nat} {ob : Obj}, lk (flats ln k0 objs) id = some ob → ∃ i o, objs[i]? = some o ∧ lk (flat1 ln (gl (k0 + i)) o) id = some ob
  | [], _, _, _, h => by simp [flats, lk] at h
  | o :: r, k0, id, ob, h => by
    unfold flats at h
    rw [lk_append] at h
    cases hq : lk (flat1 ln (gl k0) o) id with
    | some ob' => rw [hq] at h; simp at h; subst h; exact ⟨0, o, rfl, hq⟩
    | none =>
      rw [hq] at h
      simp at h
      obtain ⟨i, o', h1, h2⟩ := flats_lk h
      exact ⟨i + 1, o', by simpa using h1, by rw [show k0 + (i + 1) = k0 + 1 + i by omega]; exact h2⟩

theorem flatsO_lk {ln : List (List AV) → Nat} : ∀ {os : List (Option Obj)} {k0 id : Nat} {ob : Obj}, lk (flatsO ln k0 os) id = some ob → ∃ i o, os[i]? = some (some o) ∧ lk (flat1 ln (gl (k0 + i)) o) id = some ob
  | [], _, _, _, h => by simp [flatsO, lk] at h
  | none :: r, k0, id, ob, h => by
    obtain ⟨i, o', h1, h2⟩ := flatsO_lk (k0 := k0 + 1) h
    exact ⟨i + 1, o', by simpa using h1, by rw [show k0 + (i + 1) = k0 + 1 + i by omega]; exact h2⟩
  | some o :: r, k0, id, ob, h => by
    unfold flatsO at h
    rw [lk_append] at h
    cases hq : lk (flat1 ln (gl k0) o) id with
    | some ob' => rw [hq] at h; simp at h; subst h; exact ⟨0, o, rfl, hq⟩
    | none =>
      rw [hq] at h
      simp at h
      obtain ⟨i, o', h1, h2⟩ := flatsO_lk h
      exact ⟨i + 1, o', by simpa using h1, by rw [show k0 + (i + 1) = k0 + 1 + i by omega]; exact h2⟩

theorem flatsO_mem {ln : List (List AV) → Nat} : ∀ {os : List (Option Obj)} {k0 id : Nat} {ob : Obj}, (id, ob) ∈ flatsO ln k0 os → ∃ i o, os[i]? = some (some o) ∧ (id, ob) ∈ flat1 ln (gl (k0 + i)) o
  | [], _, _, _, h => by simp [flatsO] at h
  | none :: r, k0, id, ob, h => by
    obtain ⟨i, o', h1, h2⟩ := flatsO_mem (os := r) (k0 := k0 + 1) h
    exact ⟨i + 1, o', by simpa using h1, by rw [show k0 + (i + 1) = k0 + 1 + i by omega]; exact h2⟩
  | some o :: r, k0, id, ob, h => by
    unfold flatsO at h
    rcases List.mem_append.1 h with h | h
    · exact ⟨0, o, rfl, h⟩
    · obtain ⟨i, o', h1, h2⟩ := flatsO_mem h
      exact ⟨i + 1, o', by simpa using h1, by rw [show k0 + (i + 1) = k0 + 1 + i by omega]; exact h2⟩

theorem lk_elem {α : Type} {l : List (Nat × α)} {k : Nat} (h : (l.map (·.1)).elem k = true) : ∃ v, lk l k = some v := by
  rw [List.elem_iff] at h
  induction l with
  | nil => simp at h
  | cons p r ih =>
    obtain ⟨k', v⟩ := p
    rw [lk_cons]
    by_cases he : k' = k
    · exact ⟨v, if_pos he⟩
    · rw [if_neg he]
      simp at h
      rcases h with h | h
      · exact absurd h.symm he
      · exact ih (by simpa using h)

/-- The variables that were given are given back. -/
def boxesKept : List Obj → List (Option Obj) → Bool
  | [], [] => true
  | .box _ :: r, some (.box cs) :: r' => nble cs.length 90 && boxesKept r r'
  | .arr _ _ _ :: r, some (.arr _ _ _) :: r' => boxesKept r r'
  | .arr _ _ _ :: r, none :: r' => boxesKept r r'
  | _, _ => false

theorem boxesKept_len : ∀ {objs : List Obj} {os : List (Option Obj)}, boxesKept objs os = true → os.length = objs.length
  | [], [], _ => rfl
  | .box _ :: r, some (.box cs) :: r', h => by simp only [boxesKept, Bool.and_eq_true] at h; simp [boxesKept_len h.2]
  | .arr _ _ _ :: r, some (.arr _ _ _) :: r', h => by simp [boxesKept_len (objs := r) (os := r') h]
  | .arr _ _ _ :: r, none :: r', h => by simp [boxesKept_len (objs := r) (os := r') h]
  | [], _ :: _, h => by simp [boxesKept] at h
  | .box _ :: _, [], h => by simp [boxesKept] at h
  | .box _ :: _, none :: _, h => by simp [boxesKept] at h
  | .box _ :: _, some (.arr _ _ _) :: _, h => by simp [boxesKept] at h
  | .arr _ _ _ :: _, [], h => by simp [boxesKept] at h
  | .arr _ _ _ :: _, some (.box _) :: _, h => by simp [boxesKept] at h

theorem boxesKept_get : ∀ {objs : List Obj} {os : List (Option Obj)}, boxesKept objs os = true → ∀ i : Nat, (∀ cells, objs[i]? = some (Obj.box cells) → ∃ cs, os[i]? = some (some (Obj.box cs))) ∧ (∀ cs, os[i]? = some (some (Obj.box cs)) → cs.length ≤ 90 ∧ ∃ cells, objs[i]? = some (Obj.box cells)) ∧
    (∀ s fl rows, os[i]? = some (some (Obj.arr s fl rows)) → ∃ s fl rows, objs[i]? = some (Obj.arr s fl rows))
  | [], [], _, i => by simp
  | .box c0 :: r, some (.box cs0) :: r', h, i => by
    simp only [boxesKept, Bool.and_eq_true] at h
    cases i with
    | zero => simp; exact nble_le h.1
    | succ i => simpa using boxesKept_get h.2 i
  | .arr _ _ _ :: r, some (.arr _ _ _) :: r', h, i => by
    cases i with
    | zero => simp
    | succ i => simpa using boxesKept_get (objs := r) (os := r') h i
  | .arr _ _ _ :: r, none :: r', h, i => by
    cases i with
    | zero => simp
    | succ i => simpa using boxesKept_get (objs := r) (os := r') h i
  | [], _ :: _, h, _ => by simp [boxesKept] at h
  | .box _ :: _, [], h, _ => by simp [boxesKept] at h
  | .box _ :: _, none :: _, h, _ => by simp [boxesKept] at h
  | .box _ :: _, some (.arr _ _ _) :: _, h, _ => by simp [boxesKept] at h
  | .arr _ _ _ :: _, [], h, _ => by simp [boxesKept] at h
  | .arr _ _ _ :: _, some (.box _) :: _, h, _ => by simp [boxesKept] at h

theorem kept_iff {os : List (Option Obj)} {id : Nat} (h : kept os id = true) : ∃ k o, id = gl k ∧ os[k]? = some (some o) := by
  unfold kept at h
  obtain ⟨k, hk, hb⟩ := List.any_eq_true.1 h
  rw [Bool.and_eq_true] at hb
  refine ⟨k, ?_⟩
  have := hb.2
  split at this
  · exact ⟨_, nbeq_eq hb.1, ‹_›⟩
  · cases this

/-! ### The end of a body -/

def Fits (st : St) (v : AV) (os : List (Option Obj)) : Bool := Ren.ok (rhoO st 0 os ++ rhoR st rl v) && nble os.length 400

theorem exit_back (hs : Sim E st a) (hf : Fr E0 E) (hwf0 : E0.Wf) {objs : List Obj} (hloc0 : ∀ id L, E0.loc id = some L → ((flats List.length 0 objs).map (·.1)).elem id = true) (hobj0 : ∀ id o, lk (flats List.length 0 objs) id = some o → ORel E0 id o)
    {al : Bool} {v r : AV} {x : Value} {os : List (Option Obj)} (hr : Rel E v x) (hc : resOk al st v r) (hb : backOk al st 0 os) (hkp : boxesKept objs os = true) (hsm : r.small = true) (hfit : Fits st v os = true) :
    ∃ E', E'.w = E.w ∧ Fr (E0.only (kept os)) E' ∧ E'.Wf ∧ Rel (E'.cut al E0) (adopt List.length rl r) x ∧ ∀ id o, (id, o) ∈ flatsO List.length 0 os ++ objsOf List.length rl r → ORel (E'.cut al E0) id o ∧ (∀ s rows, o = .arr s false rows → FreeRows al rows) := by
  unfold Fits at hfit
  rw [Bool.and_eq_true] at hfit
  obtain ⟨hρ, hlen⟩ := hfit
  have hlen := nble_le hlen
  generalize hρe : rhoO st 0 os ++ rhoR st rl v = ρ at hρ
  have hbk := backOk_get hb
  have hkg := boxesKept_get hkp
  -- the sizes of what is given back
  have hw : ∀ i o, os[i]? = some (some o) → ∀ cells, lk st.sto (gl (0 + i)) = some (.box cells) → cells.length ≤ 90 := fun i o hi cells hc => by
    have := hbk i o hi
    cases o with
    | box cs =>
      obtain ⟨vs, h1, h2⟩ := this
      rw [hc] at h1
      cases h1
      have := ((hkg i).2.1 cs hi).1
      have := (resCells_get h2).1
      omega
    | arr s fl rows => rw [hc] at this; cases this.1
  have hO := fun t => rhoO_lk (st := st) os 0 t hw
  have hg0 : ∀ k, gl k = 1000 + 1000 * k := fun k => by simp [gl]; omega
  -- where the result's names stand
  have hR : ∀ t, t < rl → lk (rhoR st rl v) t = none := fun t ht => by
    have base : lk (rhoV st rl v) t = none := rhoV_out (by omega)
    cases v with
    | tup vs =>
      have : ∀ (l : List AV) (b : Nat), t < b → lk (rhoT st b l) t = none := by
        intro l
        induction l with
        | nil => intro b _; rfl
        | cons u r ih => intro b hb; unfold rhoT; rw [lk_append, rhoV_out (.inl hb), ih _ (by omega)]; rfl
      exact this vs rl ht
    | _ => exact base
  have hlow : ∀ t, t < rl → lk ρ t = lk (rhoO st 0 os) t := fun t ht => by
    rw [← hρe, lk_append, hR t ht]
    cases lk (rhoO st 0 os) t <;> rfl
  have hhigh : ∀ t, rl ≤ t → lk ρ t = lk (rhoR st rl v) t := fun t ht => by
    rw [← hρe, lk_append, hO t]
    rw [if_pos (by rw [hg0]; unfold rl at ht; omega), List.getElem?_eq_none (by rw [hg0]; unfold rl at ht; omega)]
    rfl
  have hseg : ∀ (i : Nat) (o : Obj), os[i]? = some (some o) → ∀ t, gl i ≤ t → t < gl i + 1000 → lk ρ t = lk (rhoSeg st i) t := fun i o hi t h1 h2 => by
    have hil := (List.getElem?_eq_some_iff.1 hi).1
    rw [hlow t (by rw [hg0] at h2; unfold rl; omega), hO t, if_pos (by rw [hg0] at *; omega), show (t - gl 0) / 1000 = i by rw [hg0] at *; omega, hi]
    simp
  have hroot : ∀ (i : Nat) (o : Obj), os[i]? = some (some o) → lk ρ (gl i) = some (gl i, 0) := fun i o hi => by
    rw [hseg i o hi _ (Nat.le_refl _) (by omega)]
    unfold rhoSeg
    split <;> rw [lk_cons_eq]
  have hS : ∀ b, E.S b → E0.S b ∨ E0.w.heap.size ≤ b := hf.still
  have hidS : ∀ b, E.S b → E.S b := fun _ h => h
  have hkloc : ∀ id L, kept os id = true → E0.loc id = some L → lk ρ id = some (id, 0) ∧ E.loc id = some L ∧ id < lab0 := fun id L hk hL => by
    obtain ⟨k, o, rfl, hk2⟩ := kept_iff hk
    have hil := (List.getElem?_eq_some_iff.1 hk2).1
    have hlt : gl k < lab0 := by rw [hg0]; unfold lab0; omega
    exact ⟨hroot k o hk2, hf.keep _ L hlt hL, hlt⟩
  have hval : Rel ((E.ren ρ E.S E.win).cut al E0) (adopt List.length rl r) x ∧ ∀ id o, (id, o) ∈ objsOf List.length rl r → ORel ((E.ren ρ E.S E.win).cut al E0) id o ∧ (∀ s rows, o = .arr s false rows → FreeRows al rows) := by
    by_cases hv : ∃ vs, v = .tup vs
    · obtain ⟨vs, rfl⟩ := hv
      unfold resOk at hc
      simp only at hc
      split at hc
      · rename_i rs
        obtain ⟨xs, rfl, x1, x2⟩ := rel_tup hr
        obtain ⟨r1, r2⟩ := res1s_get hc
        simp only [AV.small, Bool.and_eq_true] at hsm
        have hrl := nble_le hsm.2
        have hwd : ∀ u ∈ vs, u.width st ≤ 100 := fun u hu => by
          obtain ⟨j, hj⟩ := List.getElem?_of_mem hu
          have hjl := (List.getElem?_eq_some_iff.1 hj).1
          have hrj := List.getElem?_eq_getElem (show j < rs.length by omega)
          have hsj : small1 rs[j] = true := List.all_eq_true.1 hsm.1 _ (List.getElem_mem _)
          have h1 := r2 j _ _ hj hrj
          cases u with
          | agg cs =>
            simp only [AV.width]
            unfold res1 at h1
            simp only at h1
            split at h1
            · rename_i rs' e
              rw [e] at hsj
              have := nble_le hsj
              have := (resCells_get h1).1
              omega
            · exact h1.elim
          | ptr id row fld =>
            unfold AV.width
            split
            · rename_i e; cases e
            · rename_i e
              cases e
              split
              · rename_i cells hq
                simp only [res1] at h1
                split at h1
                · rename_i rs' e
                  rw [hq] at h1
                  rw [e] at hsj
                  have := nble_le hsj
                  have := (resCells_get h1).1
                  omega
                · exact h1.elim
              · omega
            · omega
          | _ => simp [AV.width]
        have hT : ∀ t, rl ≤ t → lk ρ t = (match vs[(t - rl) / 100]? with | some u => lk (rhoV st (rl + (t - rl) / 100 * 100) u) t | none => none) := fun t ht => by
          rw [hhigh t ht]
          show lk (rhoT st rl vs) t = _
          rw [rhoT_lk vs rl t hwd, if_pos ht]
        have hget : ∀ (l : List AV) (base j : Nat), (adoptT List.length base l)[j]? = (l[j]?).map (adoptV List.length (base + j * 100)) := by
          intro l
          induction l with
          | nil => intro base j; simp [adoptT]
          | cons w r ih =>
            intro base j
            cases j with
            | zero => simp [adoptT]
            | succ j =>
              have := ih (base + 100) j
              rw [show base + 100 + j * 100 = base + (j + 1) * 100 by omega] at this
              simpa [adoptT] using this
        have hgl : ∀ (l : List AV) (base : Nat), (adoptT List.length base l).length = l.length := by
          intro l
          induction l with
          | nil => intro _; rfl
          | cons w r ih => intro base; simp [adoptT, ih]
        have hone : ∀ (j : Nat) (r : AV), rs[j]? = some r → ∃ y, xs[j]? = some y ∧ Rel ((E.ren ρ E.S E.win).cut al E0) (adoptV List.length (rl + j * 100) r) y ∧ ∀ id o, (id, o) ∈ objsV List.length (rl + j * 100) r → ORel ((E.ren ρ E.S E.win).cut al E0) id o ∧ (∀ s rows, o = .arr s false rows → FreeRows al rows) := fun j r hrj => by
          have hjl := (List.getElem?_eq_some_iff.1 hrj).1
          have hvj := List.getElem?_eq_getElem (show j < vs.length by omega)
          have hy := Array.getElem?_eq_getElem (show j < xs.size by omega)
          have hsj : small1 r = true := List.all_eq_true.1 hsm.1 _ (List.mem_of_getElem? hrj)
          obtain ⟨k1, k2⟩ := val_back (E0 := E0) hs hρ hS (x2 j _ _ hvj hy) (r2 j _ r hvj hrj) hsj (base := rl + j * 100) (fun t h1 h2 => by
            rw [hT t (by omega), show (t - rl) / 100 = j by omega, hvj])
          exact ⟨_, hy, k1.2, k2⟩
        have hobjs : ∀ (l : List AV) (base id : Nat) (o : Obj), (id, o) ∈ objsT List.length base l → ∃ (j : Nat) (r : AV), l[j]? = some r ∧ (id, o) ∈ objsV List.length (base + j * 100) r := by
          intro l
          induction l with
          | nil => intro base id o h; simp [objsT] at h
          | cons w r ih =>
            intro base id o h
            unfold objsT at h
            rcases List.mem_append.1 h with h | h
            · exact ⟨0, w, rfl, by simpa using h⟩
            · obtain ⟨j, u, h1, h2⟩ := ih _ _ _ h
              exact ⟨j + 1, u, by simpa using h1, by rw [show base + (j + 1) * 100 = base + 100 + j * 100 by omega]; exact h2⟩
        refine ⟨.tup _ xs (by rw [hgl, x1, r1]) fun j w y hw' hy => ?_, fun id o ho => ?_⟩
        rotate_left
        · obtain ⟨j, r, h1, h2⟩ := hobjs rs rl id o ho
          obtain ⟨_, _, _, h3⟩ := hone j r h1
          exact h3 id o h2
        rw [hget] at hw'
        simp only [Option.map_eq_some_iff] at hw'
        obtain ⟨r, hrj, rfl⟩ := hw'
        obtain ⟨y', h1, h2, _⟩ := hone j r hrj
        rw [hy] at h1
        obtain rfl := Option.some.inj h1
        exact h2
      · exact hc.elim
    · have hc' : res1 al st v r := by cases v <;> first | exact hc | exact absurd ⟨_, rfl⟩ hv
      have hrV : rhoR st rl v = rhoV st rl v := by cases v <;> first | rfl | exact absurd ⟨_, rfl⟩ hv
      have hnt : ∀ rs, r ≠ .tup rs := fun rs e => by
        subst e
        cases v with
        | ptr id row fld =>
          unfold res1 at hc'
          split at hc'
          · rename_i e; cases e
          · exact hc'
          · simp only [resCell] at hc'
        | _ => simp [res1, resCell] at hc'
      have hsm' : small1 r = true := by cases r <;> first | exact hsm | exact absurd rfl (hnt _)
      obtain ⟨k1, k2⟩ := val_back (E0 := E0) hs hρ hS hr hc' hsm' (base := rl) (fun t h1 h2 => by rw [hhigh t h1, hrV])
      have had : adopt List.length rl r = adoptV List.length rl r := by cases r <;> first | rfl | exact absurd rfl (hnt _)
      have hob : objsOf List.length rl r = objsV List.length rl r := by cases r <;> first | rfl | exact absurd rfl (hnt _)
      rw [had, hob]; exact ⟨k1.2, k2⟩
  refine ⟨E.ren ρ E.S E.win, rfl, ⟨hf.os, hf.tape, hf.output, hf.size, hf.block, fun b hb' => hf.tag b (fun e => hb' (by simp [Env.ren, e])), hf.S, hf.still, fun id L hlt hL => ?_, hf.win, hf.wins⟩, ⟨fun b hb' => ?_, fun b hb' => hs.wf.owned b (fun e => hb' (by simp [Env.ren, e])), fun b hb' => ?_⟩, ?_, fun id o ho => ?_⟩
  · simp only [Env.only] at hL
    split at hL
    · rename_i hk
      obtain ⟨h1, h2, _⟩ := hkloc id L hk hL
      simp [Env.ren, h1, h2, Loc.shift]
    · cases hL
  · obtain ⟨h1, h2⟩ := hs.wf.still b hb'
    exact ⟨by simp [Env.ren, h1], h2⟩
  · -- the windows
    have hb0 : E0.win b ≠ none := by rw [← hf.wins]; exact hb'
    obtain ⟨_, k0, L0, g1, g2, g3, g4⟩ := hwf0.windows b hb0
    obtain ⟨ob, hob⟩ := lk_elem (hloc0 k0 L0 g2)
    have hor := hobj0 k0 ob hob
    obtain ⟨i, o, hi, ho⟩ := flats_lk hob
    rw [Nat.zero_add] at ho
    have notarr : ∀ s fl rows, ob ≠ .arr s fl rows := fun s fl rows e => by
      subst e
      rcases hor with ⟨h1, _⟩ | ⟨L, c, ty, h1, _, _, _, _, _, _, _, hw', _⟩
      · rw [h1] at g2; cases g2
      · rw [h1] at g2; cases g2; rw [g3] at hw'; exact hb0 hw'
    have hk0 : k0 = gl i ∧ ∃ cells, o = .box cells := by
      rcases flat1_lk ho with ⟨h1, h2⟩ | ⟨cells, j, s, fl, rows, _, _, _, h4⟩
      · cases o with
        | box cells => exact ⟨h1, cells, rfl⟩
        | arr s fl rows => exact absurd h2 (notarr _ _ _)
      · exact absurd h4 (notarr _ _ _)
    obtain ⟨rfl, cells, rfl⟩ := hk0
    obtain ⟨cs, hcs⟩ := (hkg i).1 cells hi
    obtain ⟨vs, hvs, _⟩ := hbk i _ hcs
    rw [Nat.zero_add] at hvs
    obtain ⟨L, c, ty, q1, q2, q3, q4, q5⟩ := hs.sto _ _ hvs
    have q1' := hf.keep _ L0 g1 g2
    rw [q1] at q1'
    obtain rfl := Option.some.inj q1'
    refine ⟨(hs.wf.windows b hb').1, gl i, L.shift 0, g1, by simp [Env.ren, hroot i _ hcs, q1], g3, ?_⟩
    rw [← g3]
    exact ren_tag_root hρ (hroot i _ hcs) q3
  · exact hval.1
  · rcases List.mem_append.1 ho with hq | hq
    rotate_left
    · exact hval.2 id o hq
    · obtain ⟨i, ob, hi, hfl⟩ := flatsO_mem hq
      rw [Nat.zero_add] at hfl
      have hb' := hbk i ob hi
      rw [Nat.zero_add] at hb'
      cases ob with
      | box cells =>
        obtain ⟨vs, hvs, hres⟩ := hb'
        have hcl := ((hkg i).2.1 cells hi).1
        have hvl := (resCells_get hres).1
        obtain ⟨k1, k2⟩ := box_back (E0 := E0) hs hρ hS hvs hres (hroot i _ hi) (fun j hj => by
          rw [hseg i _ hi _ (by omega) (by omega)]
          unfold rhoSeg
          rw [hvs]
          simp only
          rw [lk_cons, if_neg (by omega), rho1_lk, if_pos (by omega), show gl i + 1 + j - (gl i + 1) = j by omega])
        simp only [flat1] at hfl
        rcases List.mem_cons.1 hfl with hfl | hfl
        · cases hfl; exact ⟨k1, fun _ _ e => by cases e⟩
        · exact k2 id _ hfl
      | arr s fl rows =>
        obtain ⟨hq2, hfree⟩ := hb'
        simp only [flat1, List.mem_singleton] at hfl
        cases hfl
        exact ⟨arr_cut hfree hS (ren_arr (ρ := ρ) (S' := E.S) (win' := E.win) hρ (fun _ h => h) (n := rows.length) (hroot i _ hi) (hs.sto _ _ hq2) (Nat.zero_le _) (by simp) (fun e => (hfree e).noRefs) (fun b _ h => h)), fun s rows e => by cases e; exact hfree rfl⟩

/-- What must hold where a body ends. -/
def EndsM (T : Nat → Option TI) (rs : List ResultVar) (al : Bool) (objs : List Obj) (R : AV → List (Option Obj) → Prop) (e : Exit) (st : St) : Prop :=
  (match e with | .normal | .ret => True | _ => False) ∧ ∃ v r os, st.ret T rs = some v ∧ (Fits st v os = true ∧ r.small = true ∧ boxesKept objs os = true) ∧ resOk al st v r ∧ backOk al st 0 os ∧ R r os

def enum : Nat → List AV → List (Nat × AV)
  | _, [] => []
  | k, v :: r => (k, v) :: enum (k + 1) r

theorem enum_get : ∀ (l : List AV) (k t : Nat) (v : AV), lk (enum k l) t = some v → k ≤ t ∧ l[t - k]? = some v
  | [], _, _, _, h => by simp [enum, lk] at h
  | u :: r, k, t, v, h => by
    unfold enum at h
    rw [lk_cons] at h
    by_cases he : k = t
    · subst he; rw [if_pos rfl] at h; exact ⟨Nat.le_refl _, by simpa using h⟩
    · rw [if_neg he] at h
      obtain ⟨h1, h2⟩ := enum_get r (k + 1) t v h
      exact ⟨by omega, by rw [show t - k = (t - (k + 1)) + 1 by omega, List.getElem?_cons_succ]; exact h2⟩

def entryM (ln : List (List AV) → Nat) (n : Nat) (args : List AV) (objs : List Obj) : St := { nt := args.length + (n - args.length), tmps := enum 0 args, sto := flats ln 0 objs, used := (flats ln 0 objs).map (·.1) }

theorem sound_of_body {f : FuncId} {fn : Func} {c : Code} {al : Bool} {args : List AV} {objs : List Obj} {R : AV → List (Option Obj) → Prop} (htab : TabOk P T) (hf : P.funcs[f]? = some fn) (hb : fn.body = some c) (hname : (fn.name == "runtime.NumGoroutine") = false)
    (h : awp P c (EndsM T fn.results.toList al objs R) (entryM List.length fn.ntmps args objs)) : SoundM P f al args objs R := by
  refine ⟨⟨fn, hf, hname, by rw [hb]; rfl⟩, fun E0 xs hwf hloc hxs hargs hobjs => calls_of_wp hf hb ?_⟩
  have hs0 : Sim E0 (entryM List.length fn.ntmps args objs) { tmps := xs ++ Array.replicate (fn.ntmps - xs.size) undef, defers := [] } := by
    refine ⟨hwf, rfl, by simp [entryM, hxs], fun t v hv => ?_, hobjs, hloc, fun id ob h => ?_⟩
    · obtain ⟨_, hg⟩ := enum_get _ _ _ _ hv
      simp at hg
      have hlt : t < xs.size := by rw [hxs]; exact (List.getElem?_eq_some_iff.1 hg).1
      have hx := Array.getElem?_eq_getElem hlt
      exact ⟨xs[t], by simp [Array.getElem?_append, hlt], hargs t v _ hg hx⟩
    · have := List.mem_map_of_mem (f := (·.1)) (lk_mem h)
      simpa [entryM, List.elem_iff] using this
  refine wp_mono (h E0 _ hs0) ?_
  rintro e a' w' ⟨_, E, st, rfl, hfr, hs, he, v, r, os, hv, ⟨hfit, hsm, hkp⟩, hres, hbk, hR⟩
  obtain ⟨x, hx, hrx⟩ := ret_rel htab hs hv
  obtain ⟨E', hw, q1, q2, q3, q4⟩ := exit_back hs hfr hwf hloc hobjs hrx hres hbk hkp hsm hfit
  have key : ∃ x' v' os' E'', Ending.returned x = .returned x' ∧ E''.w = E.w ∧ R v' os' ∧ v'.small = true ∧ os'.length = objs.length ∧ Fr (E0.only (kept os')) E'' ∧ E''.Wf ∧ Rel (E''.cut al E0) (adopt List.length rl v') x' ∧
      (∀ id o, (id, o) ∈ flatsO List.length 0 os' ++ objsOf List.length rl v' → ORel (E''.cut al E0) id o ∧ (∀ s rows, o = .arr s false rows → FreeRows al rows)) := ⟨x, r, os, E', rfl, hw, hR, hsm, boxesKept_len hkp, q1, q2, q3, q4⟩
  cases e with
  | normal => exact ⟨hs.defers, x, hx, key⟩
  | ret => exact ⟨hs.defers, x, hx, key⟩
  | _ => exact he.elim

end Go.Proofs.Ytmbckmfihcojoaa.AM
