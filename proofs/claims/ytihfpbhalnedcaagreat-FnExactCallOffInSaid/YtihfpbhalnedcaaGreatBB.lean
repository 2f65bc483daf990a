import Derived.Test.YtihfpbhalnedcaaGreatBA
/- The abstract machine, part 11: a body, proved: a contract. -/
set_option linter.unusedVariables false
set_option linter.unusedSimpArgs false
namespace Go.Proofs.YtihfpbhalnedcaaGreat.AM
open Go Go.RowKit

variable {P : Program} {T : Nat -> Option TI} {E E0 : Env} {st : St} {a : Act} {K : AV -> St -> Prop} {o : Oper}

theorem lk_append {α : Type} (l m : List (Nat × α)) (k : Nat) : lk (l ++ m) k = (lk l k).or (lk m k) := by
  induction l with
  | nil => simp [lk]
  | cons p r ih =>
    obtain ⟨k', v⟩ := p
    rw [List.cons_append, lk_cons, lk_cons, ih]
    by_cases h : k' = k
    · rw [if_pos h, if_pos h]; rfl
    · rw [if_neg h, if_neg h]

def AV.src : AV -> Option (Nat × Nat)
  | .ref _ id off _ => some (id, off)
  | _ => none

theorem rho1_lk : ∀ (l : List AV) (base t : Nat), lk (rho1 base l) t = if base <= t then (l[t - base]?).bind AV.src else none
  | [], base, t => by simp [rho1, lk]
  | v :: r, base, t => by
    have ih := rho1_lk r (base + 1) t
    by_cases ht : base <= t
    · rw [if_pos ht]
      by_cases he : base = t
      · subst he
        rw [Nat.sub_self]
        have : lk (rho1 (base + 1) r) base = none := by rw [ih, if_neg (by omega)]
        cases v <;> simp [rho1, AV.src, this, lk_cons]
      · have h1 : (v :: r)[t - base]? = r[t - (base + 1)]? := by rw [show t - base = (t - (base + 1)) + 1 by omega]; rfl
        rw [h1]
        rw [if_pos (by omega)] at ih
        cases v <;> simp [rho1, ih, lk_cons, he]
    · rw [if_neg ht]
      rw [if_neg (by omega)] at ih
      cases v <;> simp [rho1, ih, lk_cons, show ¬ base = t by omega]

theorem rho1_out {l : List AV} {base t : Nat} (h : t < base ∨ base + l.length <= t) : lk (rho1 base l) t = none := by
  rw [rho1_lk]
  by_cases hb : base <= t
  · rw [if_pos hb, List.getElem?_eq_none (by omega)]; rfl
  · rw [if_neg hb]

def AV.width (st : St) : AV -> Nat
  | .agg cells => cells.length
  | .ptr id 0 0 => match lk st.sto id with
    | some (.box cells) => cells.length + 1
    | _ => 0
  | _ => 1

theorem rhoV_out {v : AV} {base t : Nat} (h : t < base ∨ base + v.width st <= t) : lk (rhoV st base v) t = none := by
  cases v with
  | agg cells => exact rho1_out h
  | ref p id off len =>
    simp only [AV.width] at h
    simp [rhoV, lk_cons, lk, show ¬ base = t by omega]
  | ptr id row fld =>
    unfold rhoV
    split
    · rename_i e; cases e
    · rename_i e; cases e
    · rename_i e
      cases e
      simp only [AV.width] at h
      split
      · rename_i cells hq
        rw [hq] at h
        simp only at h
        rw [lk_cons, if_neg (by omega), rho1_out (by omega)]
      · rfl
    · rfl
  | _ => rfl

theorem rhoT_lk : ∀ (vs : List AV) (base t : Nat), (∀ v ∈ vs, v.width st <= 100) -> lk (rhoT st base vs) t = if base <= t then (match vs[(t - base) / 100]? with | some v => lk (rhoV st (base + (t - base) / 100 * 100) v) t | none => none) else none
  | [], base, t, _ => by simp [rhoT, lk]
  | v :: r, base, t, hw => by
    have ih := rhoT_lk r (base + 100) t (fun u hu => hw u (List.mem_cons_of_mem _ hu))
    have hv := hw v (List.mem_cons_self ..)
    unfold rhoT
    rw [lk_append, ih]
    by_cases h1 : base <= t
    · rw [if_pos h1]
      by_cases h2 : base + 100 <= t
      · rw [if_pos h2, rhoV_out (by omega)]
        have e1 : (t - base) / 100 = (t - (base + 100)) / 100 + 1 := by omega
        rw [e1, List.getElem?_cons_succ, show base + 100 + (t - (base + 100)) / 100 * 100 = base + ((t - (base + 100)) / 100 + 1) * 100 by omega]
        simp
      · rw [if_neg h2, show (t - base) / 100 = 0 by omega]
        simp
    · rw [if_neg h1, if_neg (by omega), rhoV_out (by omega)]; rfl

def adoptC (ln : List (List AV) -> Nat) (t : Nat) : AV -> AV
  | .own _ _ rows => .ref false t 0 (ln rows)
  | v => v

theorem adopt1_get {ln : List (List AV) -> Nat} : ∀ (l : List AV) (base j : Nat), (adopt1 ln base l)[j]? = (l[j]?).map (adoptC ln (base + j))
  | [], base, j => by simp [adopt1]
  | v :: r, base, j => by
    cases j with
    | zero => cases v <;> simp [adopt1, adoptC]
    | succ j =>
      have := adopt1_get (ln := ln) r (base + 1) j
      rw [show base + 1 + j = base + (j + 1) by omega] at this
      cases v <;> simpa [adopt1] using this

theorem adopt1_length {ln : List (List AV) -> Nat} : ∀ (l : List AV) (base : Nat), (adopt1 ln base l).length = l.length
  | [], _ => rfl
  | v :: r, base => by cases v <;> simp [adopt1, adopt1_length r]

theorem objs1_lk : ∀ (l : List AV) (base k : Nat) (ob : Obj), lk (objs1 base l) k = some ob -> ∃ j s fl rows, k = base + j /\ l[j]? = some (.own s fl rows) /\ ob = .arr s fl rows
  | [], _, _, _, h => by simp [objs1, lk] at h
  | v :: r, base, k, ob, h => by
    have hrec : lk (objs1 (base + 1) r) k = some ob -> ∃ j s fl rows, k = base + j /\ (v :: r)[j]? = some (.own s fl rows) /\ ob = .arr s fl rows := fun h => by
      obtain ⟨j, s, fl, rows, h1, h2, h3⟩ := objs1_lk r (base + 1) k ob h
      exact ⟨j + 1, s, fl, rows, by omega, by simpa using h2, h3⟩
    cases v with
    | own s fl rows =>
      simp only [objs1, lk_cons] at h
      by_cases he : base = k
      · rw [if_pos he] at h
        exact ⟨0, s, fl, rows, by omega, rfl, (Option.some.inj h).symm⟩
      · rw [if_neg he] at h
        exact hrec h
    | _ => exact hrec h

theorem objs1_mem : ∀ {l : List AV} {base k : Nat} {ob : Obj}, (k, ob) ∈ objs1 base l -> ∃ j s fl rows, k = base + j /\ l[j]? = some (.own s fl rows) /\ ob = .arr s fl rows
  | [], _, _, _, h => by simp [objs1] at h
  | v :: r, base, k, ob, h => by
    have hrec : (k, ob) ∈ objs1 (base + 1) r -> ∃ j s fl rows, k = base + j /\ (v :: r)[j]? = some (.own s fl rows) /\ ob = .arr s fl rows := fun h => by
      obtain ⟨j, s, fl, rows, h1, h2, h3⟩ := objs1_mem h
      exact ⟨j + 1, s, fl, rows, by omega, by simpa using h2, h3⟩
    cases v with
    | own s fl rows =>
      simp only [objs1] at h
      rcases List.mem_cons.1 h with h | h
      · cases h; exact ⟨0, s, fl, rows, by omega, rfl, rfl⟩
      · exact hrec h
    | _ => exact hrec h

theorem objs1_get {s : Nat} {fl : Bool} {rows : List (List AV)} : ∀ (l : List AV) (base j : Nat), l[j]? = some (.own s fl rows) -> lk (objs1 base l) (base + j) = some (.arr s fl rows)
  | [], _, _, h => by simp at h
  | v :: r, base, j, h => by
    cases j with
    | zero =>
      simp at h; subst h
      simp [objs1, lk_cons]
    | succ j =>
      have := objs1_get r (base + 1) j (by simpa using h)
      rw [show base + 1 + j = base + (j + 1) by omega] at this
      cases v <;> simp only [objs1] <;> first | exact this | (rw [lk_cons, if_neg (by omega)]; exact this)

theorem resCells_get {al : Bool} : ∀ {vs rs : List AV}, resCells al st vs rs -> vs.length = rs.length /\ ∀ (j : Nat) (v r : AV), vs[j]? = some v -> rs[j]? = some r -> resCell al st v r
  | [], [], _ => ⟨rfl, fun j v r h => by simp at h⟩
  | v :: vs, r :: rs, ⟨h1, h2⟩ => by
    obtain ⟨g1, g2⟩ := resCells_get h2
    refine ⟨by simp [g1], fun j v' r' hv hj => ?_⟩
    cases j with
    | zero => simp at hj hv; subst hj hv; exact h1
    | succ j => exact g2 j v' r' (by simpa using hv) (by simpa using hj)
  | [], _ :: _, h => h.elim
  | _ :: _, [], h => h.elim

theorem res1s_get {al : Bool} : ∀ {vs rs : List AV}, res1s al st vs rs -> vs.length = rs.length /\ ∀ (j : Nat) (v r : AV), vs[j]? = some v -> rs[j]? = some r -> res1 al st v r
  | [], [], _ => ⟨rfl, fun j v r h => by simp at h⟩
  | v :: vs, r :: rs, ⟨h1, h2⟩ => by
    obtain ⟨g1, g2⟩ := res1s_get h2
    refine ⟨by simp [g1], fun j v' r' hv hj => ?_⟩
    cases j with
    | zero => simp at hj hv; subst hj hv; exact h1
    | succ j => exact g2 j v' r' (by simpa using hv) (by simpa using hj)
  | [], _ :: _, h => h.elim
  | _ :: _, [], h => h.elim

theorem Rel.noPeek {p q : Bool} {id off len : Nat} {x : Value} (h : Rel E (.ref p id off len) x) : Rel E (.ref false id off len) x := by
  cases h with
  | base _ _ h => cases h
  | ref0 _ _ cap ad h => exact .ref0 _ _ _ _ h
  | ref _ _ _ _ L cap h1 h2 h3 => exact .ref _ _ _ _ L cap h1 h2 h3

theorem free_cut {X : Env} {al : Bool} {v : AV} {x : Value} (hf : v.free al) (hS : ∀ b, X.S b -> E0.S b ∨ E0.w.heap.size <= b) (h : Rel X v x) : Rel (X.cut al E0) v x := by
  cases v with
  | int k n => rw [(rel_int h).1]; exact .base _ _ (.int _ _ (rel_int h).2)
  | bool b => rw [rel_bool h]; exact .base _ _ (.bool _)
  | nilS => rw [rel_nilS h]; exact .base _ _ .nilS
  | emp =>
    cases h with
    | base _ _ h => cases h; exact .base _ _ (.emp _)
  | own s fl rows =>
    cases h with
    | base _ _ h => cases h
  | ro rows =>
    cases h with
    | base _ _ h =>
      rcases hf with hal | hnil
      · subst hal
        exact .base _ _ (h.mono (fun b hb => ⟨hb, (hS b hb).imp (fun h => ⟨rfl, h⟩) id⟩) (fun _ _ => rfl))
      · subst hnil
        cases h with
        | ro0 a cap h1 h2 => exact .base _ _ (.ro0 a cap h1 h2)
        | ro _ _ _ _ _ _ h1 => exact absurd rfl h1
  | _ => exact hf.elim

theorem arr_cut {X : Env} {al : Bool} {t s : Nat} {fl : Bool} {rows : List (List AV)} (hf : fl = false -> FreeRows al rows) (hS : ∀ b, X.S b -> E0.S b ∨ E0.w.heap.size <= b) (h : ORel X t (.arr s fl rows)) : ORel (X.cut al E0) t (.arr s fl rows) := by
  rcases h with h | ⟨L, c, ty, h1, h2, h3, h4, h5, h6, h7, h8, hw, h9, h10⟩
  · exact .inl h
  · refine .inr ⟨L, c, ty, h1, h2, h3, h4, h5, h6, h7, h8, hw, h9, fun i j r v hi hj => ?_⟩
    obtain ⟨y, y1, y2, y3⟩ := h10 i j r v hi hj
    refine ⟨y, y1, y2, ?_⟩
    cases fl with
    | true => exact y3
    | false =>
      have hv := hf rfl r (List.mem_of_getElem? hi) v (List.mem_of_getElem? hj)
      rcases y3 with y3 | y3
      · exact .inl (free_cut hv hS y3)
      · exact .inr y3

theorem cell_back {ρ : Ren} (hs : Sim E st a) (hρ : ρ.ok = true) {al : Bool} (hS : ∀ b, E.S b -> E0.S b ∨ E0.w.heap.size <= b) {t : Nat} {v r : AV} {y : Value} (hr : Rel E v y) (hc : resCell al st v r) (hl : lk ρ t = v.src) :
    Rel ((E.ren ρ E.S E.win).cut al E0) (adoptC List.length t r) y /\ ∀ s fl rows, r = .own s fl rows -> ORel ((E.ren ρ E.S E.win).cut al E0) t (.arr s fl rows) /\ (fl = false -> FreeRows al rows) := by
  have hloc : v.src = none -> ((E.ren ρ E.S E.win).cut al E0).loc t = none := fun h => by
    show (lk ρ t).bind _ = none
    rw [hl, h]; rfl
  by_cases hru : r = .undef
  · subst hru
    exact ⟨.undef _, fun _ _ _ e => by cases e⟩
  cases v with
  | int k n =>
    simp only [resCell] at hc; subst hc
    rw [(rel_int hr).1]
    exact ⟨.base _ _ (.int _ _ (rel_int hr).2), fun _ _ _ e => by cases e⟩
  | bool b =>
    simp only [resCell] at hc; subst hc
    rw [rel_bool hr]
    exact ⟨.base _ _ (.bool _), fun _ _ _ e => by cases e⟩
  | nilS =>
    rw [rel_nilS hr]
    cases r <;> simp only [resCell] at hc <;> try exact hc.elim
    · exact ⟨.base _ _ .nilS, fun _ _ _ e => by cases e⟩
    · subst hc; exact ⟨.base _ _ (.ro0 none 0 (Nat.zero_le _) (fun _ => rfl)), fun _ _ _ e => by cases e⟩
    · subst hc; exact ⟨.ref0 _ _ _ _ rfl, fun _ _ _ e => by cases e; exact ⟨.inl ⟨hloc rfl, rfl⟩, fun _ r hr => by cases hr⟩⟩
    · exact absurd rfl hru
  | emp =>
    have hy : ∃ ad, y = .slice (some ad) 0 0 := by
      cases hr with
      | base _ _ h => cases h; exact ⟨_, rfl⟩
    obtain ⟨ad, rfl⟩ := hy
    cases r <;> simp only [resCell] at hc <;> try exact hc.elim
    · exact ⟨.base _ _ (.emp _), fun _ _ _ e => by cases e⟩
    · subst hc; exact ⟨.base _ _ (.ro0 _ 0 (Nat.zero_le _) (fun h => by cases h)), fun _ _ _ e => by cases e⟩
    · subst hc; exact ⟨.ref0 _ _ _ _ rfl, fun _ _ _ e => by cases e; exact ⟨.inl ⟨hloc rfl, rfl⟩, fun _ r hr => by cases hr⟩⟩
    · exact absurd rfl hru
  | ro rows =>
    cases r <;> simp only [resCell] at hc <;> try exact hc.elim
    · obtain ⟨rfl, hc⟩ := hc
      refine ⟨free_cut (X := E.ren ρ E.S E.win) hc hS ?_, fun _ _ _ e => by cases e⟩
      cases hr with
      | base _ _ h => exact .base _ _ h
    · exact absurd rfl hru
  | ref p id off len =>
    cases r <;> simp only [resCell] at hc <;> try exact hc.elim
    · rename_i s fl rows'
      split at hc
      · rename_i s' fl' rows hq
        obtain ⟨⟨rfl, rfl⟩, ⟨hle, hrows⟩, hfree⟩ := hc
        have hfr : fl' = false -> FreeRows al rows' := fun e => by subst e; exact hfree
        have hlen : rows'.length = len := by rw [hrows]; simp; omega
        have h1 := (hr.noPeek (q := false)).ren (ρ := ρ) (S' := E.S) (win' := E.win) (fun _ h => h) (.ref false t 0 len) (by simp [AV.back, hl, AV.src]) (by simp [AV.fits, hl, AV.src])
        have h2 := ren_arr (ρ := ρ) (S' := E.S) (win' := E.win) hρ (fun _ h => h) (t := t) (o := off) (n := len) hl (hs.sto id _ hq) (by omega) hrows (fun e => (hfr e).noRefs) (fun b _ h => h)
        refine ⟨?_, fun s fl rows e => ?_⟩
        · show Rel _ (.ref false t 0 rows'.length) y
          rw [hlen]
          cases h1 with
          | base _ _ h => cases h
          | ref0 _ _ cap ad h => exact .ref0 _ _ _ _ h
          | ref _ _ _ _ L cap h1 h2 h3 => exact .ref _ _ _ _ L cap h1 h2 h3
        · cases e
          exact ⟨arr_cut hfr hS h2, hfr⟩
      · exact hc.elim
    · exact absurd rfl hru
  | _ => cases r <;> simp only [resCell] at hc <;> first | exact hc.elim | exact absurd rfl hru

theorem box_back {ρ : Ren} (hs : Sim E st a) (hρ : ρ.ok = true) {al : Bool} (hS : ∀ b, E.S b -> E0.S b ∨ E0.w.heap.size <= b) {s t : Nat} {vs rs : List AV} (hq : lk st.sto s = some (.box vs)) (hc : resCells al st vs rs) (hl : lk ρ t = some (s, 0))
    (hj : ∀ j, j < vs.length -> lk ρ (t + 1 + j) = (vs[j]?).bind AV.src) : ORel ((E.ren ρ E.S E.win).cut al E0) t (.box (adopt1 List.length (t + 1) rs)) /\ ∀ id o, (id, o) ∈ objs1 (t + 1) rs -> ORel ((E.ren ρ E.S E.win).cut al E0) id o /\ (∀ s rows, o = .arr s false rows -> FreeRows al rows) := by
  obtain ⟨L, c, ty, h1, h2, h3, h4, h5, hw, h6⟩ := hs.sto s _ hq
  obtain ⟨g1, g2⟩ := resCells_get hc
  have hcell : ∀ j r, rs[j]? = some r -> ∃ y, c[L.base + j]? = some y /\ y.oneCell' = true /\ Rel ((E.ren ρ E.S E.win).cut al E0) (adoptC List.length (t + 1 + j) r) y /\ ∀ s fl rows, r = .own s fl rows -> ORel ((E.ren ρ E.S E.win).cut al E0) (t + 1 + j) (.arr s fl rows) /\ (fl = false -> FreeRows al rows) := fun j r hr => by
    have hlt : j < vs.length := by rw [g1]; exact (List.getElem?_eq_some_iff.1 hr).1
    have hv := List.getElem?_eq_getElem hlt
    obtain ⟨y, y1, y2, y3⟩ := h6 j _ hv
    obtain ⟨k1, k2⟩ := cell_back (E0 := E0) hs hρ hS y3 (g2 j _ r hv hr) (t := t + 1 + j) (by rw [hj j hlt, hv]; rfl)
    exact ⟨y, y1, y2, k1, k2⟩
  refine ⟨⟨L.shift 0, c, ty, by show (lk ρ t).bind _ = _; simp [hl, h1], h2, ren_tag_root hρ hl h3, h4, ?_, ?_, fun j v hv => ?_⟩, fun id o ho => ?_⟩
  · rw [adopt1_length, <- g1]; simpa [Loc.shift] using h5
  · rw [adopt1_length, <- g1]; exact fun lo hi hq => by simpa [Loc.shift] using hw lo hi hq
  · rw [adopt1_get] at hv
    simp only [Option.map_eq_some_iff] at hv
    obtain ⟨r, hr, rfl⟩ := hv
    obtain ⟨y, y1, y2, y3, _⟩ := hcell j r hr
    exact ⟨y, by simpa [Loc.shift] using y1, y2, y3⟩
  · obtain ⟨j, s', fl, rows, rfl, hr, rfl⟩ := objs1_mem ho
    obtain ⟨y, y1, y2, _, y4⟩ := hcell j _ hr
    obtain ⟨z1, z2⟩ := y4 _ _ _ rfl
    exact ⟨z1, fun s rows e => by cases e; exact z2 rfl⟩

theorem val_back {ρ : Ren} (hs : Sim E st a) (hρ : ρ.ok = true) {al : Bool} (hS : ∀ b, E.S b -> E0.S b ∨ E0.w.heap.size <= b) {base : Nat} {v r : AV} {y : Value} (hr : Rel E v y) (hc : res1 al st v r) (hsm : small1 r = true) (hl : ∀ t, base <= t -> t < base + 100 -> lk ρ t = lk (rhoV st base v) t) :
    (v.width st <= 100 /\ Rel ((E.ren ρ E.S E.win).cut al E0) (adoptV List.length base r) y) /\ ∀ id o, (id, o) ∈ objsV List.length base r -> ORel ((E.ren ρ E.S E.win).cut al E0) id o /\ (∀ s rows, o = .arr s false rows -> FreeRows al rows) := by
  have single : (∀ cs, v ≠ .agg cs) -> (∀ id, v ≠ .ptr id 0 0) -> res1 al st v r -> (v.width st <= 100 /\ Rel ((E.ren ρ E.S E.win).cut al E0) (adoptV List.length base r) y) /\ ∀ id o, (id, o) ∈ objsV List.length base r -> ORel ((E.ren ρ E.S E.win).cut al E0) id o /\ (∀ s rows, o = .arr s false rows -> FreeRows al rows) := by
    intro n1 n2 hc
    have hc' : resCell al st v r := by
      unfold res1 at hc
      split at hc
      · exact absurd rfl (n1 _)
      · exact absurd rfl (n2 _)
      · exact hc
    have hlb : lk ρ base = v.src := by
      rw [hl base (Nat.le_refl _) (by omega)]
      cases v with
      | agg cs => exact absurd rfl (n1 cs)
      | ptr id row fld =>
        cases row <;> cases fl' : fld <;> simp [rhoV, AV.src, lk]
        subst fl'; exact absurd rfl (n2 _)
      | ref p id off len => simp [rhoV, lk_cons, AV.src]
      | _ => rfl
    obtain ⟨k1, k2⟩ := cell_back (E0 := E0) hs hρ hS hr hc' hlb
    refine ⟨⟨?_, ?_⟩, fun id o ho => ?_⟩
    · cases v with
      | ptr id row fld =>
        unfold AV.width
        split
        · rename_i e; cases e
        · rename_i e; cases e; exact absurd rfl (n2 _)
        · omega
      | agg cs => exact absurd rfl (n1 cs)
      | _ => simp [AV.width]
    · cases r with
      | agg cs => cases v <;> simp [resCell] at hc'
      | ownp cs => cases v <;> simp [resCell] at hc'
      | _ => exact k1
    · cases r with
      | own s fl rows =>
        simp only [objsV, List.mem_singleton] at ho
        cases ho
        obtain ⟨z1, z2⟩ := k2 _ _ _ rfl
        exact ⟨z1, fun s rows e => by cases e; exact z2 rfl⟩
      | agg cs => cases v <;> simp [resCell] at hc'
      | ownp cs => cases v <;> simp [resCell] at hc'
      | _ => simp [objsV] at ho
  cases v with
  | agg vs =>
    simp only [res1] at hc
    split at hc
    · rename_i rs
      obtain ⟨xs, rfl, x1, x2, x3⟩ := rel_agg hr
      obtain ⟨g1, g2⟩ := resCells_get hc
      have hlen : rs.length <= 90 := nble_le hsm
      have hcell : ∀ j r, rs[j]? = some r -> ∃ y, xs[j]? = some y /\ Rel ((E.ren ρ E.S E.win).cut al E0) (adoptC List.length (base + j) r) y /\ ∀ s fl rows, r = .own s fl rows -> ORel ((E.ren ρ E.S E.win).cut al E0) (base + j) (.arr s fl rows) /\ (fl = false -> FreeRows al rows) := fun j r hr => by
        have hlt : j < vs.length := by rw [g1]; exact (List.getElem?_eq_some_iff.1 hr).1
        have hv := List.getElem?_eq_getElem hlt
        have hx := Array.getElem?_eq_getElem (show j < xs.size by omega)
        obtain ⟨k1, k2⟩ := cell_back (E0 := E0) hs hρ hS (x3 j _ _ hv hx) (g2 j _ r hv hr) (t := base + j) (by rw [hl _ (by omega) (by omega)]; simp [rhoV, rho1_lk, hv])
        exact ⟨_, hx, k1, k2⟩
      refine ⟨⟨by simp only [AV.width]; omega, .agg _ xs (by rw [adopt1_length, x1, g1]) x2 fun j u y hu hy => ?_⟩, fun id o ho => ?_⟩
      · rw [adopt1_get] at hu
        simp only [Option.map_eq_some_iff] at hu
        obtain ⟨r, hr, rfl⟩ := hu
        obtain ⟨y', hy', k1, _⟩ := hcell j r hr
        rw [hy] at hy'
        obtain rfl := Option.some.inj hy'
        exact k1
      · obtain ⟨j, s', fl, rows, rfl, hr, rfl⟩ := objs1_mem ho
        obtain ⟨y, _, _, y4⟩ := hcell j _ hr
        obtain ⟨z1, z2⟩ := y4 _ _ _ rfl
        exact ⟨z1, fun s rows e => by cases e; exact z2 rfl⟩
    · exact hc.elim
  | ptr id row fld =>
    by_cases h0 : row = 0 /\ fld = 0
    · obtain ⟨rfl, rfl⟩ := h0
      simp only [res1] at hc
      split at hc
      · rename_i rs
        split at hc
        · rename_i vs hq
          obtain ⟨g1, g2⟩ := resCells_get hc
          have hlen : rs.length <= 90 := nble_le hsm
          have hlb : lk ρ base = some (id, 0) := by
            rw [hl base (Nat.le_refl _) (by omega)]
            simp [rhoV, hq, lk_cons]
          obtain ⟨k1, k2⟩ := box_back (E0 := E0) hs hρ hS hq hc hlb (fun j hj => by
            rw [hl _ (by omega) (by omega)]
            simp only [rhoV, hq, lk_cons]
            rw [if_neg (by omega), rho1_lk, if_pos (by omega), show base + 1 + j - (base + 1) = j by omega])
          refine ⟨⟨by simp only [AV.width, hq]; omega, ?_⟩, fun i o ho => ?_⟩
          · have h1 := hr.ren (ρ := ρ) (S' := E.S) (win' := E.win) (fun _ h => h) (.ptr base 0 0) (by simp [AV.back, hlb]) (by simp [AV.fits, hlb, nbeq_refl])
            cases h1 with
            | base _ _ h => cases h
            | ptr _ _ _ L hL => exact .ptr _ _ _ L hL
          · simp only [objsV] at ho
            rcases List.mem_cons.1 ho with ho | ho
            · cases ho; exact ⟨k1, fun _ _ e => by cases e⟩
            · exact k2 i o ho
        · exact hc.elim
      · exact hc.elim
    · exact single (fun _ e => by cases e) (fun _ e => by cases e; exact h0 ⟨rfl, rfl⟩) hc
  | _ => exact single (fun _ e => by cases e) (fun _ e => by cases e) hc

theorem rhoSeg_out {k t : Nat} (hb : ∀ cells, lk st.sto (gl k) = some (.box cells) -> cells.length <= 90) (h : t < gl k ∨ gl k + 1000 <= t) : lk (rhoSeg st k) t = none := by
  unfold rhoSeg
  split
  · rename_i cells hq
    have := hb cells hq
    rw [lk_cons, if_neg (by omega), rho1_out (by omega)]
  · rw [lk_cons, if_neg (by omega)]; rfl

theorem rhoO_lk : ∀ (os : List (Option Obj)) (k0 t : Nat), (∀ i o, os[i]? = some (some o) -> ∀ cells, lk st.sto (gl (k0 + i)) = some (.box cells) -> cells.length <= 90) ->
    lk (rhoO st k0 os) t = if gl k0 <= t then (match os[(t - gl k0) / 1000]? with | some (some _) => lk (rhoSeg st (k0 + (t - gl k0) / 1000)) t | _ => none) else none
  | [], k0, t, _ => by simp [rhoO, lk]
  | x :: r, k0, t, hb => by
    have ih := rhoO_lk r (k0 + 1) t (fun i o hi cells hc => hb (i + 1) o (by simpa using hi) cells (by rw [<- hc]; congr 2; omega))
    have hg : gl (k0 + 1) = gl k0 + 1000 := by simp [gl]; omega
    have hstep : lk (rhoO st (k0 + 1) r) t = if gl k0 <= t then (if gl k0 + 1000 <= t then (match (x :: r)[(t - gl k0) / 1000]? with | some (some _) => lk (rhoSeg st (k0 + (t - gl k0) / 1000)) t | _ => none) else none) else none := by
      rw [ih, hg]
      by_cases h2 : gl k0 + 1000 <= t
      · rw [if_pos h2, if_pos (by omega), if_pos h2]
        have e1 : (t - gl k0) / 1000 = (t - (gl k0 + 1000)) / 1000 + 1 := by omega
        rw [e1, List.getElem?_cons_succ, show k0 + 1 + (t - (gl k0 + 1000)) / 1000 = k0 + ((t - (gl k0 + 1000)) / 1000 + 1) by omega]
      · rw [if_neg h2]
        by_cases h1 : gl k0 <= t
        · rw [if_pos h1, if_neg h2]
        · rw [if_neg h1]
    cases x with
    | none =>
      unfold rhoO
      rw [hstep]
      by_cases h1 : gl k0 <= t
      · rw [if_pos h1, if_pos h1]
        by_cases h2 : gl k0 + 1000 <= t
        · rw [if_pos h2]
        · rw [if_neg h2, show (t - gl k0) / 1000 = 0 by omega]; rfl
      · rw [if_neg h1, if_neg h1]
    | some o =>
      have hseg : rhoO st k0 (some o :: r) = rhoSeg st k0 ++ rhoO st (k0 + 1) r := rfl
      rw [hseg, lk_append, hstep]
      have hb0 : ∀ cells, lk st.sto (gl k0) = some (.box cells) -> cells.length <= 90 := hb 0 o rfl
      by_cases h1 : gl k0 <= t
      · rw [if_pos h1, if_pos h1]
        by_cases h2 : gl k0 + 1000 <= t
        · rw [if_pos h2, rhoSeg_out hb0 (by omega)]; rfl
        · rw [if_neg h2, show (t - gl k0) / 1000 = 0 by omega]; simp
      · rw [if_neg h1, if_neg h1, rhoSeg_out hb0 (by omega)]; rfl

theorem backOk_get {al : Bool} : ∀ {os : List (Option Obj)} {k0 : Nat}, backOk al st k0 os -> ∀ (i : Nat) (o : Obj), os[i]? = some (some o) -> match o with
    | .box cells => ∃ vs, lk st.sto (gl (k0 + i)) = some (.box vs) /\ resCells al st vs cells
    | .arr s fl rows => lk st.sto (gl (k0 + i)) = some (.arr s fl rows) /\ (fl = false -> FreeRows al rows)
  | [], _, _, i, o, h => by simp at h
  | x :: r, k0, hb, i, o, h => by
    cases i with
    | succ i =>
      have hb' : backOk al st (k0 + 1) r := by
        cases x with
        | none => exact hb
        | some o' => cases o' <;> exact hb.2
      have := backOk_get hb' i o (by simpa using h)
      rw [show k0 + 1 + i = k0 + (i + 1) by omega] at this
      exact this
    | zero =>
      simp at h; subst h
      cases o with
      | box cells =>
        have := hb.1
        split at this
        · exact ⟨_, ‹_›, this⟩
        · exact this.elim
      | arr s fl rows =>
        have := hb.1
        split at this
        · obtain ⟨⟨rfl, rfl⟩, rfl, hf⟩ := this
          exact ⟨‹_›, fun e => by subst e; exact hf⟩
        · exact this.elim

theorem flat1_lk {ln : List (List AV) -> Nat} {base id : Nat} {o ob : Obj} (h : lk (flat1 ln base o) id = some ob) :
    (id = base /\ (match o with | .box cells => ob = .box (adopt1 ln (base + 1) cells) | .arr s fl rows => ob = .arr s fl rows)) ∨ (∃ cells j s fl rows, o = .box cells /\ id = base + 1 + j /\ cells[j]? = some (.own s fl rows) /\ ob = .arr s fl rows) := by
  cases o with
  | box cells =>
    simp only [flat1, lk_cons] at h
    by_cases he : base = id
    · subst he; rw [if_pos rfl] at h; exact .inl ⟨rfl, (Option.some.inj h).symm⟩
    · rw [if_neg he] at h
      obtain ⟨j, s, fl, rows, h1, h2, h3⟩ := objs1_lk _ _ _ _ h
      exact .inr ⟨cells, j, s, fl, rows, rfl, h1, h2, h3⟩
  | arr s fl rows =>
    simp only [flat1, lk_cons, lk] at h
    by_cases he : base = id
    · subst he; rw [if_pos rfl] at h; exact .inl ⟨rfl, (Option.some.inj h).symm⟩
    · rw [if_neg he] at h; cases h

theorem flats_lk {ln : List (List AV) -> Nat} : ∀ {objs : List Obj} {k0 id : Nat} {ob : Obj}, lk (flats ln k0 objs) id = some ob -> ∃ i o, objs[i]? = some o /\ lk (flat1 ln (gl (k0 + i)) o) id = some ob
  | [], _, _, _, h => by simp [flats, lk] at h
  | o :: r, k0, id, ob, h => by
    unfold flats at h
    rw [lk_append] at h
    cases hq : lk (flat1 ln (gl k0) o) id with
    | some ob' => rw [hq] at h; simp at h; subst h; exact ⟨0, o, rfl, hq⟩
    | none =>
      rw [hq] at h
      simp at h
      obtain ⟨i, o', h1, h2⟩ := flats_lk h
      exact ⟨i + 1, o', by simpa using h1, by rw [show k0 + (i + 1) = k0 + 1 + i by omega]; exact h2⟩

theorem flatsO_mem {ln : List (List AV) -> Nat} : ∀ {os : List (Option Obj)} {k0 id : Nat} {ob : Obj}, (id, ob) ∈ flatsO ln k0 os -> ∃ i o, os[i]? = some (some o) /\ (id, ob) ∈ flat1 ln (gl (k0 + i)) o
  | [], _, _, _, h => by simp [flatsO] at h
  | none :: r, k0, id, ob, h => by
    obtain ⟨i, o', h1, h2⟩ := flatsO_mem (os := r) (k0 := k0 + 1) h
    exact ⟨i + 1, o', by simpa using h1, by rw [show k0 + (i + 1) = k0 + 1 + i by omega]; exact h2⟩
  | some o :: r, k0, id, ob, h => by
    unfold flatsO at h
    rcases List.mem_append.1 h with h | h
    · exact ⟨0, o, rfl, h⟩
    · obtain ⟨i, o', h1, h2⟩ := flatsO_mem h
      exact ⟨i + 1, o', by simpa using h1, by rw [show k0 + (i + 1) = k0 + 1 + i by omega]; exact h2⟩

theorem lk_elem {α : Type} {l : List (Nat × α)} {k : Nat} (h : (l.map (·.1)).elem k = true) : ∃ v, lk l k = some v := by
  rw [List.elem_iff] at h
  induction l with
  | nil => simp at h
  | cons p r ih =>
    obtain ⟨k', v⟩ := p
    rw [lk_cons]
    by_cases he : k' = k
    · exact ⟨v, if_pos he⟩
    · rw [if_neg he]
      simp at h
      rcases h with h | h
      · exact absurd h.symm he
      · exact ih (by simpa using h)

def boxesKept : List Obj -> List (Option Obj) -> Bool
  | [], [] => true
  | .box _ :: r, some (.box cs) :: r' => nble cs.length 90 && boxesKept r r'
  | .arr _ _ _ :: r, some (.arr _ _ _) :: r' => boxesKept r r'
  | .arr _ _ _ :: r, none :: r' => boxesKept r r'
  | _, _ => false

theorem boxesKept_len : ∀ {objs : List Obj} {os : List (Option Obj)}, boxesKept objs os = true -> os.length = objs.length
  | [], [], _ => rfl
  | .box _ :: r, some (.box cs) :: r', h => by simp only [boxesKept, Bool.and_eq_true] at h; simp [boxesKept_len h.2]
  | .arr _ _ _ :: r, some (.arr _ _ _) :: r', h => by simp [boxesKept_len (objs := r) (os := r') h]
  | .arr _ _ _ :: r, none :: r', h => by simp [boxesKept_len (objs := r) (os := r') h]
  | [], _ :: _, h => by simp [boxesKept] at h
  | .box _ :: _, [], h => by simp [boxesKept] at h
  | .box _ :: _, none :: _, h => by simp [boxesKept] at h
  | .box _ :: _, some (.arr _ _ _) :: _, h => by simp [boxesKept] at h
  | .arr _ _ _ :: _, [], h => by simp [boxesKept] at h
  | .arr _ _ _ :: _, some (.box _) :: _, h => by simp [boxesKept] at h

theorem boxesKept_get : ∀ {objs : List Obj} {os : List (Option Obj)}, boxesKept objs os = true -> ∀ i : Nat, (∀ cells, objs[i]? = some (Obj.box cells) -> ∃ cs, os[i]? = some (some (Obj.box cs))) /\ (∀ cs, os[i]? = some (some (Obj.box cs)) -> cs.length <= 90 /\ ∃ cells, objs[i]? = some (Obj.box cells)) /\
    (∀ s fl rows, os[i]? = some (some (Obj.arr s fl rows)) -> ∃ s fl rows, objs[i]? = some (Obj.arr s fl rows))
  | [], [], _, i => by simp
  | .box c0 :: r, some (.box cs0) :: r', h, i => by
    simp only [boxesKept, Bool.and_eq_true] at h
    cases i with
    | zero => simp; exact nble_le h.1
    | succ i => simpa using boxesKept_get h.2 i
  | .arr _ _ _ :: r, some (.arr _ _ _) :: r', h, i => by
    cases i with
    | zero => simp
    | succ i => simpa using boxesKept_get (objs := r) (os := r') h i
  | .arr _ _ _ :: r, none :: r', h, i => by
    cases i with
    | zero => simp
    | succ i => simpa using boxesKept_get (objs := r) (os := r') h i
  | [], _ :: _, h, _ => by simp [boxesKept] at h
  | .box _ :: _, [], h, _ => by simp [boxesKept] at h
  | .box _ :: _, none :: _, h, _ => by simp [boxesKept] at h
  | .box _ :: _, some (.arr _ _ _) :: _, h, _ => by simp [boxesKept] at h
  | .arr _ _ _ :: _, [], h, _ => by simp [boxesKept] at h
  | .arr _ _ _ :: _, some (.box _) :: _, h, _ => by simp [boxesKept] at h

theorem kept_iff {os : List (Option Obj)} {id : Nat} (h : kept os id = true) : ∃ k o, id = gl k /\ os[k]? = some (some o) := by
  unfold kept at h
  obtain ⟨k, hk, hb⟩ := List.any_eq_true.1 h
  rw [Bool.and_eq_true] at hb
  refine ⟨k, ?_⟩
  have := hb.2
  split at this
  · exact ⟨_, nbeq_eq hb.1, ‹_›⟩
  · cases this

def Fits (st : St) (v : AV) (os : List (Option Obj)) : Bool := Ren.ok (rhoO st 0 os ++ rhoR st rl v) && nble os.length 400

theorem exit_back (hs : Sim E st a) (hf : Fr E0 E) (hwf0 : E0.Wf) {objs : List Obj} (hloc0 : ∀ id L, E0.loc id = some L -> ((flats List.length 0 objs).map (·.1)).elem id = true) (hobj0 : ∀ id o, lk (flats List.length 0 objs) id = some o -> ORel E0 id o)
    {al : Bool} {v r : AV} {x : Value} {os : List (Option Obj)} (hr : Rel E v x) (hc : resOk al st v r) (hb : backOk al st 0 os) (hkp : boxesKept objs os = true) (hsm : r.small = true) (hfit : Fits st v os = true) :
    ∃ E', E'.w = E.w /\ Fr (E0.only (kept os)) E' /\ E'.Wf /\ Rel (E'.cut al E0) (adopt List.length rl r) x /\ ∀ id o, (id, o) ∈ flatsO List.length 0 os ++ objsOf List.length rl r -> ORel (E'.cut al E0) id o /\ (∀ s rows, o = .arr s false rows -> FreeRows al rows) := by
  unfold Fits at hfit
  rw [Bool.and_eq_true] at hfit
  obtain ⟨hρ, hlen⟩ := hfit
  have hlen := nble_le hlen
  generalize hρe : rhoO st 0 os ++ rhoR st rl v = ρ at hρ
  have hbk := backOk_get hb
  have hkg := boxesKept_get hkp
  -- the sizes of what is given back
  have hw : ∀ i o, os[i]? = some (some o) -> ∀ cells, lk st.sto (gl (0 + i)) = some (.box cells) -> cells.length <= 90 := fun i o hi cells hc => by
    have := hbk i o hi
    cases o with
    | box cs =>
      obtain ⟨vs, h1, h2⟩ := this
      rw [hc] at h1
      cases h1
      have := ((hkg i).2.1 cs hi).1
      have := (resCells_get h2).1
      omega
    | arr s fl rows => rw [hc] at this; cases this.1
  have hO := fun t => rhoO_lk (st := st) os 0 t hw
  have hg0 : ∀ k, gl k = 1000 + 1000 * k := fun k => by simp [gl]; omega
  -- where the result's names stand
  have hR : ∀ t, t < rl -> lk (rhoR st rl v) t = none := fun t ht => by
    have base : lk (rhoV st rl v) t = none := rhoV_out (by omega)
    cases v with
    | tup vs =>
      have : ∀ (l : List AV) (b : Nat), t < b -> lk (rhoT st b l) t = none := by
        intro l
        induction l with
        | nil => intro b _; rfl
        | cons u r ih => intro b hb; unfold rhoT; rw [lk_append, rhoV_out (.inl hb), ih _ (by omega)]; rfl
      exact this vs rl ht
    | _ => exact base
  have hlow : ∀ t, t < rl -> lk ρ t = lk (rhoO st 0 os) t := fun t ht => by
    rw [<- hρe, lk_append, hR t ht]
    cases lk (rhoO st 0 os) t <;> rfl
  have hhigh : ∀ t, rl <= t -> lk ρ t = lk (rhoR st rl v) t := fun t ht => by
    rw [<- hρe, lk_append, hO t]
    rw [if_pos (by rw [hg0]; unfold rl at ht; omega), List.getElem?_eq_none (by rw [hg0]; unfold rl at ht; omega)]
    rfl
  have hseg : ∀ (i : Nat) (o : Obj), os[i]? = some (some o) -> ∀ t, gl i <= t -> t < gl i + 1000 -> lk ρ t = lk (rhoSeg st i) t := fun i o hi t h1 h2 => by
    have hil := (List.getElem?_eq_some_iff.1 hi).1
    rw [hlow t (by rw [hg0] at h2; unfold rl; omega), hO t, if_pos (by rw [hg0] at *; omega), show (t - gl 0) / 1000 = i by rw [hg0] at *; omega, hi]
    simp
  have hroot : ∀ (i : Nat) (o : Obj), os[i]? = some (some o) -> lk ρ (gl i) = some (gl i, 0) := fun i o hi => by
    rw [hseg i o hi _ (Nat.le_refl _) (by omega)]
    unfold rhoSeg
    split <;> rw [lk_cons_eq]
  have hS : ∀ b, E.S b -> E0.S b ∨ E0.w.heap.size <= b := hf.still
  have hidS : ∀ b, E.S b -> E.S b := fun _ h => h
  have hkloc : ∀ id L, kept os id = true -> E0.loc id = some L -> lk ρ id = some (id, 0) /\ E.loc id = some L /\ id < lab0 := fun id L hk hL => by
    obtain ⟨k, o, rfl, hk2⟩ := kept_iff hk
    have hil := (List.getElem?_eq_some_iff.1 hk2).1
    have hlt : gl k < lab0 := by rw [hg0]; unfold lab0; omega
    exact ⟨hroot k o hk2, hf.keep _ L hlt hL, hlt⟩
  have hval : Rel ((E.ren ρ E.S E.win).cut al E0) (adopt List.length rl r) x /\ ∀ id o, (id, o) ∈ objsOf List.length rl r -> ORel ((E.ren ρ E.S E.win).cut al E0) id o /\ (∀ s rows, o = .arr s false rows -> FreeRows al rows) := by
    by_cases hv : ∃ vs, v = .tup vs
    · obtain ⟨vs, rfl⟩ := hv
      unfold resOk at hc
      simp only at hc
      split at hc
      · rename_i rs
        obtain ⟨xs, rfl, x1, x2⟩ := rel_tup hr
        obtain ⟨r1, r2⟩ := res1s_get hc
        simp only [AV.small, Bool.and_eq_true] at hsm
        have hrl := nble_le hsm.2
        have hwd : ∀ u ∈ vs, u.width st <= 100 := fun u hu => by
          obtain ⟨j, hj⟩ := List.getElem?_of_mem hu
          have hjl := (List.getElem?_eq_some_iff.1 hj).1
          have hrj := List.getElem?_eq_getElem (show j < rs.length by omega)
          have hsj : small1 rs[j] = true := List.all_eq_true.1 hsm.1 _ (List.getElem_mem _)
          have h1 := r2 j _ _ hj hrj
          cases u with
          | agg cs =>
            simp only [AV.width]
            unfold res1 at h1
            simp only at h1
            split at h1
            · rename_i rs' e
              rw [e] at hsj
              have := nble_le hsj
              have := (resCells_get h1).1
              omega
            · exact h1.elim
          | ptr id row fld =>
            unfold AV.width
            split
            · rename_i e; cases e
            · rename_i e
              cases e
              split
              · rename_i cells hq
                simp only [res1] at h1
                split at h1
                · rename_i rs' e
                  rw [hq] at h1
                  rw [e] at hsj
                  have := nble_le hsj
                  have := (resCells_get h1).1
                  omega
                · exact h1.elim
              · omega
            · omega
          | _ => simp [AV.width]
        have hT : ∀ t, rl <= t -> lk ρ t = (match vs[(t - rl) / 100]? with | some u => lk (rhoV st (rl + (t - rl) / 100 * 100) u) t | none => none) := fun t ht => by
          rw [hhigh t ht]
          show lk (rhoT st rl vs) t = _
          rw [rhoT_lk vs rl t hwd, if_pos ht]
        have hget : ∀ (l : List AV) (base j : Nat), (adoptT List.length base l)[j]? = (l[j]?).map (adoptV List.length (base + j * 100)) := by
          intro l
          induction l with
          | nil => intro base j; simp [adoptT]
          | cons w r ih =>
            intro base j
            cases j with
            | zero => simp [adoptT]
            | succ j =>
              have := ih (base + 100) j
              rw [show base + 100 + j * 100 = base + (j + 1) * 100 by omega] at this
              simpa [adoptT] using this
        have hgl : ∀ (l : List AV) (base : Nat), (adoptT List.length base l).length = l.length := by
          intro l
          induction l with
          | nil => intro _; rfl
          | cons w r ih => intro base; simp [adoptT, ih]
        have hone : ∀ (j : Nat) (r : AV), rs[j]? = some r -> ∃ y, xs[j]? = some y /\ Rel ((E.ren ρ E.S E.win).cut al E0) (adoptV List.length (rl + j * 100) r) y /\ ∀ id o, (id, o) ∈ objsV List.length (rl + j * 100) r -> ORel ((E.ren ρ E.S E.win).cut al E0) id o /\ (∀ s rows, o = .arr s false rows -> FreeRows al rows) := fun j r hrj => by
          have hjl := (List.getElem?_eq_some_iff.1 hrj).1
          have hvj := List.getElem?_eq_getElem (show j < vs.length by omega)
          have hy := Array.getElem?_eq_getElem (show j < xs.size by omega)
          have hsj : small1 r = true := List.all_eq_true.1 hsm.1 _ (List.mem_of_getElem? hrj)
          obtain ⟨k1, k2⟩ := val_back (E0 := E0) hs hρ hS (x2 j _ _ hvj hy) (r2 j _ r hvj hrj) hsj (base := rl + j * 100) (fun t h1 h2 => by
            rw [hT t (by omega), show (t - rl) / 100 = j by omega, hvj])
          exact ⟨_, hy, k1.2, k2⟩
        have hobjs : ∀ (l : List AV) (base id : Nat) (o : Obj), (id, o) ∈ objsT List.length base l -> ∃ (j : Nat) (r : AV), l[j]? = some r /\ (id, o) ∈ objsV List.length (base + j * 100) r := by
          intro l
          induction l with
          | nil => intro base id o h; simp [objsT] at h
          | cons w r ih =>
            intro base id o h
            unfold objsT at h
            rcases List.mem_append.1 h with h | h
            · exact ⟨0, w, rfl, by simpa using h⟩
            · obtain ⟨j, u, h1, h2⟩ := ih _ _ _ h
              exact ⟨j + 1, u, by simpa using h1, by rw [show base + (j + 1) * 100 = base + 100 + j * 100 by omega]; exact h2⟩
        refine ⟨.tup _ xs (by rw [hgl, x1, r1]) fun j w y hw' hy => ?_, fun id o ho => ?_⟩
        rotate_left
        · obtain ⟨j, r, h1, h2⟩ := hobjs rs rl id o ho
          obtain ⟨_, _, _, h3⟩ := hone j r h1
          exact h3 id o h2
        rw [hget] at hw'
        simp only [Option.map_eq_some_iff] at hw'
        obtain ⟨r, hrj, rfl⟩ := hw'
        obtain ⟨y', h1, h2, _⟩ := hone j r hrj
        rw [hy] at h1
        obtain rfl := Option.some.inj h1
        exact h2
      · exact hc.elim
    · have hc' : res1 al st v r := by cases v <;> first | exact hc | exact absurd ⟨_, rfl⟩ hv
      have hrV : rhoR st rl v = rhoV st rl v := by cases v <;> first | rfl | exact absurd ⟨_, rfl⟩ hv
      have hnt : ∀ rs, r ≠ .tup rs := fun rs e => by
        subst e
        cases v with
        | ptr id row fld =>
          unfold res1 at hc'
          split at hc'
          · rename_i e; cases e
          · exact hc'
          · simp only [resCell] at hc'
        | _ => simp [res1, resCell] at hc'
      have hsm' : small1 r = true := by cases r <;> first | exact hsm | exact absurd rfl (hnt _)
      obtain ⟨k1, k2⟩ := val_back (E0 := E0) hs hρ hS hr hc' hsm' (base := rl) (fun t h1 h2 => by rw [hhigh t h1, hrV])
      have had : adopt List.length rl r = adoptV List.length rl r := by cases r <;> first | rfl | exact absurd rfl (hnt _)
      have hob : objsOf List.length rl r = objsV List.length rl r := by cases r <;> first | rfl | exact absurd rfl (hnt _)
      rw [had, hob]; exact ⟨k1.2, k2⟩
  refine ⟨E.ren ρ E.S E.win, rfl, ⟨hf.os, hf.tape, hf.output, hf.size, hf.block, fun b hb' => hf.tag b (fun e => hb' (by simp [Env.ren, e])), hf.S, hf.still, fun id L hlt hL => ?_, hf.win, hf.wins⟩, ⟨fun b hb' => ?_, fun b hb' => hs.wf.owned b (fun e => hb' (by simp [Env.ren, e])), fun b hb' => ?_⟩, ?_, fun id o ho => ?_⟩
  · simp only [Env.only] at hL
    split at hL
    · rename_i hk
      obtain ⟨h1, h2, _⟩ := hkloc id L hk hL
      simp [Env.ren, h1, h2, Loc.shift]
    · cases hL
  · obtain ⟨h1, h2⟩ := hs.wf.still b hb'
    exact ⟨by simp [Env.ren, h1], h2⟩
  · -- the windows
    have hb0 : E0.win b ≠ none := by rw [<- hf.wins]; exact hb'
    obtain ⟨_, k0, L0, g1, g2, g3, g4⟩ := hwf0.windows b hb0
    obtain ⟨ob, hob⟩ := lk_elem (hloc0 k0 L0 g2)
    have hor := hobj0 k0 ob hob
    obtain ⟨i, o, hi, ho⟩ := flats_lk hob
    rw [Nat.zero_add] at ho
    have notarr : ∀ s fl rows, ob ≠ .arr s fl rows := fun s fl rows e => by
      subst e
      rcases hor with ⟨h1, _⟩ | ⟨L, c, ty, h1, _, _, _, _, _, _, _, hw', _⟩
      · rw [h1] at g2; cases g2
      · rw [h1] at g2; cases g2; rw [g3] at hw'; exact hb0 hw'
    have hk0 : k0 = gl i /\ ∃ cells, o = .box cells := by
      rcases flat1_lk ho with ⟨h1, h2⟩ | ⟨cells, j, s, fl, rows, _, _, _, h4⟩
      · cases o with
        | box cells => exact ⟨h1, cells, rfl⟩
        | arr s fl rows => exact absurd h2 (notarr _ _ _)
      · exact absurd h4 (notarr _ _ _)
    obtain ⟨rfl, cells, rfl⟩ := hk0
    obtain ⟨cs, hcs⟩ := (hkg i).1 cells hi
    obtain ⟨vs, hvs, _⟩ := hbk i _ hcs
    rw [Nat.zero_add] at hvs
    obtain ⟨L, c, ty, q1, q2, q3, q4, q5⟩ := hs.sto _ _ hvs
    have q1' := hf.keep _ L0 g1 g2
    rw [q1] at q1'
    obtain rfl := Option.some.inj q1'
    refine ⟨(hs.wf.windows b hb').1, gl i, L.shift 0, g1, by simp [Env.ren, hroot i _ hcs, q1], g3, ?_⟩
    rw [<- g3]
    exact ren_tag_root hρ (hroot i _ hcs) q3
  · exact hval.1
  · rcases List.mem_append.1 ho with hq | hq
    rotate_left
    · exact hval.2 id o hq
    · obtain ⟨i, ob, hi, hfl⟩ := flatsO_mem hq
      rw [Nat.zero_add] at hfl
      have hb' := hbk i ob hi
      rw [Nat.zero_add] at hb'
      cases ob with
      | box cells =>
        obtain ⟨vs, hvs, hres⟩ := hb'
        have hcl := ((hkg i).2.1 cells hi).1
        have hvl := (resCells_get hres).1
        obtain ⟨k1, k2⟩ := box_back (E0 := E0) hs hρ hS hvs hres (hroot i _ hi) (fun j hj => by
          rw [hseg i _ hi _ (by omega) (by omega)]
          unfold rhoSeg
          rw [hvs]
          simp only
          rw [lk_cons, if_neg (by omega), rho1_lk, if_pos (by omega), show gl i + 1 + j - (gl i + 1) = j by omega])
        simp only [flat1] at hfl
        rcases List.mem_cons.1 hfl with hfl | hfl
        · cases hfl; exact ⟨k1, fun _ _ e => by cases e⟩
        · exact k2 id _ hfl
      | arr s fl rows =>
        obtain ⟨hq2, hfree⟩ := hb'
        simp only [flat1, List.mem_singleton] at hfl
        cases hfl
        exact ⟨arr_cut hfree hS (ren_arr (ρ := ρ) (S' := E.S) (win' := E.win) hρ (fun _ h => h) (n := rows.length) (hroot i _ hi) (hs.sto _ _ hq2) (Nat.zero_le _) (by simp) (fun e => (hfree e).noRefs) (fun b _ h => h)), fun s rows e => by cases e; exact hfree rfl⟩

def EndsM (T : Nat -> Option TI) (rs : List ResultVar) (al : Bool) (objs : List Obj) (R : AV -> List (Option Obj) -> Prop) (e : Exit) (st : St) : Prop :=
  (match e with | .normal | .ret => True | _ => False) /\ ∃ v r os, st.ret T rs = some v /\ (Fits st v os = true /\ r.small = true /\ boxesKept objs os = true) /\ resOk al st v r /\ backOk al st 0 os /\ R r os

def enum : Nat -> List AV -> List (Nat × AV)
  | _, [] => []
  | k, v :: r => (k, v) :: enum (k + 1) r

theorem enum_get : ∀ (l : List AV) (k t : Nat) (v : AV), lk (enum k l) t = some v -> k <= t /\ l[t - k]? = some v
  | [], _, _, _, h => by simp [enum, lk] at h
  | u :: r, k, t, v, h => by
    unfold enum at h
    rw [lk_cons] at h
    by_cases he : k = t
    · subst he; rw [if_pos rfl] at h; exact ⟨Nat.le_refl _, by simpa using h⟩
    · rw [if_neg he] at h
      obtain ⟨h1, h2⟩ := enum_get r (k + 1) t v h
      exact ⟨by omega, by rw [show t - k = (t - (k + 1)) + 1 by omega, List.getElem?_cons_succ]; exact h2⟩

def entryM (ln : List (List AV) -> Nat) (n : Nat) (args : List AV) (objs : List Obj) : St := { nt := args.length + (n - args.length), tmps := enum 0 args, sto := flats ln 0 objs, used := (flats ln 0 objs).map (·.1) }

theorem sound_of_body {f : FuncId} {fn : Func} {c : Code} {al : Bool} {args : List AV} {objs : List Obj} {R : AV -> List (Option Obj) -> Prop} (htab : TabOk P T) (hf : P.funcs[f]? = some fn) (hb : fn.body = some c) (hname : (fn.name == "runtime.NumGoroutine") = false)
    (h : awp P c (EndsM T fn.results.toList al objs R) (entryM List.length fn.ntmps args objs)) : SoundM P f al args objs R := by
  refine ⟨⟨fn, hf, hname, by rw [hb]; rfl⟩, fun E0 xs hwf hloc hxs hargs hobjs => calls_of_wp hf hb ?_⟩
  have hs0 : Sim E0 (entryM List.length fn.ntmps args objs) { tmps := xs ++ Array.replicate (fn.ntmps - xs.size) undef, defers := [] } := by
    refine ⟨hwf, rfl, by simp [entryM, hxs], fun t v hv => ?_, hobjs, hloc, fun id ob h => ?_⟩
    · obtain ⟨_, hg⟩ := enum_get _ _ _ _ hv
      simp at hg
      have hlt : t < xs.size := by rw [hxs]; exact (List.getElem?_eq_some_iff.1 hg).1
      have hx := Array.getElem?_eq_getElem hlt
      exact ⟨xs[t], by simp [Array.getElem?_append, hlt], hargs t v _ hg hx⟩
    · have := List.mem_map_of_mem (f := (·.1)) (lk_mem h)
      simpa [entryM, List.elem_iff] using this
  refine wp_mono (h E0 _ hs0) ?_
  rintro e a' w' ⟨_, E, st, rfl, hfr, hs, he, v, r, os, hv, ⟨hfit, hsm, hkp⟩, hres, hbk, hR⟩
  obtain ⟨x, hx, hrx⟩ := ret_rel htab hs hv
  obtain ⟨E', hw, q1, q2, q3, q4⟩ := exit_back hs hfr hwf hloc hobjs hrx hres hbk hkp hsm hfit
  have key : ∃ x' v' os' E'', Ending.returned x = .returned x' /\ E''.w = E.w /\ R v' os' /\ v'.small = true /\ os'.length = objs.length /\ Fr (E0.only (kept os')) E'' /\ E''.Wf /\ Rel (E''.cut al E0) (adopt List.length rl v') x' /\
      (∀ id o, (id, o) ∈ flatsO List.length 0 os' ++ objsOf List.length rl v' -> ORel (E''.cut al E0) id o /\ (∀ s rows, o = .arr s false rows -> FreeRows al rows)) := ⟨x, r, os, E', rfl, hw, hR, hsm, boxesKept_len hkp, q1, q2, q3, q4⟩
  cases e with
  | normal => exact ⟨hs.defers, x, hx, key⟩
  | ret => exact ⟨hs.defers, x, hx, key⟩
  | _ => exact he.elim

end Go.Proofs.YtihfpbhalnedcaaGreat.AM

namespace Go.Proofs.YtihfpbhalnedcaaGreat.AM
open Go Go.RowKit

variable {P : Program} {T : Nat -> Option TI} {E E0 : Env} {st : St} {a : Act} {K : AV -> St -> Prop} {o : Oper}

def AV.still : AV -> AV
  | .own _ _ rows => .ro rows
  | v => v

def stillRows (fl : Bool) (rows : List (List AV)) : List (List AV) :=
  bif fl then rows else rows.map fun r => r.map AV.still

def deepCell (st : St) (no : Nat -> Bool) (v b : AV) : Prop :=
  match v with
  | .int k n => b = .int k n
  | .bool c => b = .bool c
  | .nilS => b = .nilS ∨ b = .ro []
  | .emp => b = .emp ∨ b = .ro []
  | .ro rows => b = .ro rows
  | .own _ true rows => b = .ro rows
  | .ref _ id off len => match b with
    | .ro rows' => no id = false /\ match lk st.sto id with
      | some (.arr _ true rows) => off + len <= rows.length /\ rows' = (rows.drop off).take len
      | _ => False
    | _ => False
  | _ => False

def deepCells (st : St) (no : Nat -> Bool) : List AV -> List AV -> Prop
  | [], [] => True
  | v :: vs, b :: bs => deepCell st no v b /\ deepCells st no vs bs
  | _, _ => False

def deepRows (st : St) (no : Nat -> Bool) : List (List AV) -> List (List AV) -> Prop
  | [], [] => True
  | v :: vs, b :: bs => deepCells st no v b /\ deepRows st no vs bs
  | _, _ => False

def lendRows (st : St) (no : Nat -> Bool) (fl : Bool) (part rows' : List (List AV)) : Prop :=
  match fl with
  | true => rows' = part
  | false => (FreeRows true part /\ rows' = stillRows false part) ∨ (no 0 = false /\ deepRows st no part rows')

def lendCell (st : St) (no : Nat -> Bool) (v b : AV) : Prop :=
  match v, b with
  | _, .undef => True
  | .int k n, b => b = .int k n
  | .bool c, b => b = .bool c
  | .nilS, .ro rows => rows = []
  | .emp, .ro rows => rows = []
  | .nilS, .nilS => True
  | .emp, .emp => True
  | .ro rows, b => b = .ro rows
  | .ref _ id off len, .ro rows' => no id = false /\ match lk st.sto id with
    | some (.arr _ fl rows) => off + len <= rows.length /\ lendRows st no fl ((rows.drop off).take len) rows'
    | _ => False
  | _, _ => False

structure Lent (E : Env) (st : St) (no : Nat -> Bool) (S' : Nat -> Prop) : Prop where
  still : ∀ b, E.S b -> S' b
  root : ∀ b id, no id = false -> E.tag b = some (.root id) -> S' b
  cell : ∀ b id i j, no id = false -> E.tag b = some (.cell id i j) -> S' b

theorem rel_part (hs : Sim E st a) {no : Nat -> Bool} {S' : Nat -> Prop} (hL : Lent E st no S') {p : Bool} {id off len s : Nat} {fl : Bool} {rows : List (List AV)} {x : Value} (hr : Rel E (.ref p id off len) x) (hn : no id = false) (hq : lk st.sto id = some (.arr s fl rows)) (hle : off + len <= rows.length)
    {rows' : List (List AV)} (hl : rows'.length = len) (hrow : ∀ (i : Nat) (r' : List AV), rows'[i]? = some r' -> ∃ r, rows[off + i]? = some r /\ r'.length = r.length /\ ∀ (j : Nat) (u : AV) (y : Value), r'[j]? = some u -> ∀ v, r[j]? = some v -> Cell E fl (.cell id (off + i) j) v y -> RRel E.w S' u y) : RRel E.w S' (.ro rows') x := by
  cases hr with
  | base _ _ h => cases h
  | ref0 _ _ cap ad hc =>
    subst hc
    rw [List.eq_nil_of_length_eq_zero hl]
    cases ad with
    | none => exact .ro0 none 0 (Nat.zero_le _) (fun _ => rfl)
    | some ad => exact .ro0 _ 0 (Nat.zero_le _) (fun h => by cases h)
  | ref _ _ _ _ L cap hLo h1 h2 =>
    rcases hs.sto id _ hq with ⟨g1, g2⟩ | ⟨L', c, ty, g1, gsz, g2, g3, g4, g5, g6, g7, gwa, g8, g9⟩
    · rw [g1] at hLo; cases hLo
    rw [g1] at hLo
    obtain rfl := Option.some.inj hLo
    by_cases hz : len = 0
    · subst hz
      rw [List.eq_nil_of_length_eq_zero hl]
      exact .ro0 _ _ (by omega) (fun h => by cases h)
    · have hne : rows' ≠ [] := fun e => by rw [e] at hl; simp at hl; omega
      have hcell : ∀ (i j : Nat) (r' : List AV) (u : AV), rows'[i]? = some r' -> r'[j]? = some u -> ∃ y, c[L'.base + (off + i) * L'.siz + j]? = some y /\ RRel E.w S' u y := fun i j r' u hi hj => by
        obtain ⟨r, hr, hlr, hc⟩ := hrow i r' hi
        have hjl := (List.getElem?_eq_some_iff.1 hj).1
        have hv := List.getElem?_eq_getElem (show j < r.length by omega)
        obtain ⟨y, y1, y2, y3⟩ := g9 _ j r _ hr hv
        exact ⟨y, y1, hc j u y hj _ hv y3⟩
      have := RRel.ro (w := E.w) (S := S') rows' L'.blk (L'.base + off * L'.siz) cap L'.siz (fun i j => (c[L'.base + (off + i) * L'.siz + j]?).getD undef) hne (by omega) (by omega)
        (hL.root _ id hn g3) (fun i r' hi => by
          obtain ⟨r, hr, hlr, _⟩ := hrow i r' hi
          rw [hlr]; exact g8 _ _ hr) (fun i j r v hi hj => by
          obtain ⟨y, y1, y2⟩ := hcell i j r v hi hj
          rw [cell_of_row E.w L'.blk _ c ty (0, 0) g4, y1]
          simp only [Option.getD_some]
          rw [<- y1]; congr 1
          rw [Nat.add_mul]; omega) (fun i j r v hi hj => by
          obtain ⟨y, y1, y2⟩ := hcell i j r v hi hj
          rw [y1]; exact y2)
      rw [hl] at this
      exact this

theorem part_get {rows : List (List AV)} {off len i : Nat} {r : List AV} (h : ((rows.drop off).take len)[i]? = some r) : rows[off + i]? = some r := by
  rw [List.getElem?_take] at h
  split at h
  · rw [List.getElem?_drop] at h; exact h
  · cases h

theorem own_still {no : Nat -> Bool} {S' : Nat -> Prop} (hL : Lent E st no S') {id i j s : Nat} (hn : no id = false) {rows : List (List AV)} {x : Value} (h : OwnAt E.w E.tag (.cell id i j) s rows x) : RRel E.w S' (.ro rows) x := by
  rcases h with ⟨h1, h2⟩ | ⟨b, o, cap, c, ty, h1, h2, h3, h4, h5, h5', h6, h7, h8, h9⟩
  · subst h1
    rcases h2 with ⟨ad, rfl⟩ | rfl
    · exact .ro0 _ _ (Nat.zero_le _) (fun h => by cases h)
    · exact .ro0 _ _ (Nat.zero_le _) (fun _ => rfl)
  · subst h1
    by_cases he : rows = []
    · subst he; exact .ro0 _ _ h6 (fun h => by cases h)
    · refine .ro rows b o cap s (fun i j => (c[o + i * s + j]?).getD undef) he h5 h6 (hL.cell b id i j hn h2) h8 (fun i j r v hi hj => ?_) (fun i j r v hi hj => ?_)
      · obtain ⟨y, y1, y2, y3⟩ := h9 i j r v hi hj
        rw [cell_of_row E.w b _ c ty (0, 0) h3, y1]; rfl
      · obtain ⟨y, y1, y2, y3⟩ := h9 i j r v hi hj
        rw [y1]; exact y3.rrel

theorem deepCell_rel (hs : Sim E st a) {no : Nat -> Bool} {S' : Nat -> Prop} (hL : Lent E st no S') {id i j : Nat} (hn : no id = false) {v b : AV} {y : Value} (hc : Cell E false (.cell id i j) v y) (hd : deepCell st no v b) : RRel E.w S' b y := by
  have base : ∀ {u : AV}, Rel E u y -> (∀ s fl rows, u ≠ .own s fl rows) -> RRel E.w E.S u y -> RRel E.w S' u y := fun _ _ h => h.mono hL.still (fun _ _ => rfl)
  have hrel : (∀ s rows, v ≠ .own s true rows) -> Rel E v y := fun hne => by
    rcases hc with hc | ⟨s, rows, e, _⟩
    · exact hc
    · exact absurd e (hne s rows)
  cases v with
  | int k n => simp only [deepCell] at hd; subst hd; have h := hrel (fun _ _ e => by cases e); rw [(rel_int h).1]; exact .int _ _ (rel_int h).2
  | bool c => simp only [deepCell] at hd; subst hd; have h := hrel (fun _ _ e => by cases e); rw [rel_bool h]; exact .bool _
  | nilS =>
    have h := hrel (fun _ _ e => by cases e)
    rw [rel_nilS h]
    rcases hd with rfl | rfl
    · exact .nilS
    · exact .ro0 none 0 (Nat.zero_le _) (fun _ => rfl)
  | emp =>
    have h := hrel (fun _ _ e => by cases e)
    cases h with
    | base _ _ h =>
      cases h
      rcases hd with rfl | rfl
      · exact .emp _
      · exact .ro0 _ 0 (Nat.zero_le _) (fun h => by cases h)
  | ro rows =>
    simp only [deepCell] at hd; subst hd
    have h := hrel (fun _ _ e => by cases e)
    cases h with
    | base _ _ h => exact h.mono hL.still (fun _ _ => rfl)
  | own s fl rows =>
    cases fl with
    | false => simp only [deepCell] at hd
    | true =>
      simp only [deepCell] at hd; subst hd
      rcases hc with hc | ⟨s', rows', e, hc⟩
      · cases hc with
        | base _ _ h => cases h
      · cases e
        exact own_still hL hn hc
  | ref p id' off len =>
    have h := hrel (fun _ _ e => by cases e)
    cases b <;> simp only [deepCell] at hd
    rename_i rows'
    obtain ⟨hn', hd⟩ := hd
    split at hd
    · rename_i s rows hq
      obtain ⟨hle, rfl⟩ := hd
      refine rel_part hs hL h hn' hq hle (by simp; omega) fun i r' hi => ⟨r', part_get hi, rfl, fun j u y hu v hv hcell => ?_⟩
      rw [hu] at hv
      obtain rfl := Option.some.inj hv
      exact SRel.rrel hcell
    · exact hd.elim
  | _ => simp only [deepCell] at hd

theorem deepCells_get {no : Nat -> Bool} : ∀ {vs bs : List AV}, deepCells st no vs bs -> vs.length = bs.length /\ ∀ (j : Nat) (v b : AV), vs[j]? = some v -> bs[j]? = some b -> deepCell st no v b
  | [], [], _ => ⟨rfl, fun j v r h => by simp at h⟩
  | v :: vs, r :: rs, ⟨h1, h2⟩ => by
    obtain ⟨g1, g2⟩ := deepCells_get h2
    refine ⟨by simp [g1], fun j v' r' hv hj => ?_⟩
    cases j with
    | zero => simp at hj hv; subst hj hv; exact h1
    | succ j => exact g2 j v' r' (by simpa using hv) (by simpa using hj)
  | [], _ :: _, h => h.elim
  | _ :: _, [], h => h.elim

theorem deepRows_get {no : Nat -> Bool} : ∀ {vs bs : List (List AV)}, deepRows st no vs bs -> vs.length = bs.length /\ ∀ (j : Nat) (v b : List AV), vs[j]? = some v -> bs[j]? = some b -> deepCells st no v b
  | [], [], _ => ⟨rfl, fun j v r h => by simp at h⟩
  | v :: vs, r :: rs, ⟨h1, h2⟩ => by
    obtain ⟨g1, g2⟩ := deepRows_get h2
    refine ⟨by simp [g1], fun j v' r' hv hj => ?_⟩
    cases j with
    | zero => simp at hj hv; subst hj hv; exact h1
    | succ j => exact g2 j v' r' (by simpa using hv) (by simpa using hj)
  | [], _ :: _, h => h.elim
  | _ :: _, [], h => h.elim

theorem still_deep {v : AV} {no : Nat -> Bool} (hf : v.free true) : deepCell st no v v.still := by
  cases v with
  | int => rfl
  | bool => rfl
  | nilS => exact .inl rfl
  | emp => exact .inl rfl
  | ro => rfl
  | own s fl rows => cases fl <;> first | exact hf.elim | rfl
  | _ => exact hf.elim

theorem lendCell_rrel (hs : Sim E st a) {no : Nat -> Bool} {S' : Nat -> Prop} (hL : Lent E st no S') {v b : AV} {x : Value} (hr : Rel E v x) (hl : lendCell st no v b) (hbu : b ≠ .undef) : RRel E.w S' b x := by
  have fin : RRel E.w S' b x -> RRel E.w S' b x := id
  cases v with
  | int k n =>
    cases b <;> simp only [lendCell] at hl <;> first | exact absurd rfl hbu | cases hl
    refine fin ?_; rw [(rel_int hr).1]; exact .int _ _ (rel_int hr).2
  | bool c =>
    cases b <;> simp only [lendCell] at hl <;> first | exact absurd rfl hbu | cases hl
    refine fin ?_; rw [rel_bool hr]; exact .bool _
  | nilS =>
    rw [rel_nilS hr] at fin ⊢
    cases b <;> simp only [lendCell] at hl <;> first | exact absurd rfl hbu | skip
    · exact fin .nilS
    · subst hl; exact fin (.ro0 none 0 (Nat.zero_le _) (fun _ => rfl))
  | emp =>
    cases hr with
    | base _ _ h =>
      cases h
      cases b <;> simp only [lendCell] at hl <;> first | exact absurd rfl hbu | skip
      · exact fin (.emp _)
      · subst hl; exact fin (.ro0 _ 0 (Nat.zero_le _) (fun h => by cases h))
  | ro rows =>
    cases b <;> simp only [lendCell] at hl <;> first | exact absurd rfl hbu | cases hl
    cases hr with
    | base _ _ h => exact fin (h.mono hL.still (fun _ _ => rfl))
  | ref p id off len =>
    cases b <;> simp only [lendCell] at hl <;> first | exact absurd rfl hbu | skip
    rename_i rows'
    obtain ⟨hn, hl⟩ := hl
    split at hl
    · rename_i s fl rows hq
      obtain ⟨hle, hlr⟩ := hl
      have hpl : ((rows.drop off).take len).length = len := by simp; omega
      refine fin ?_
      cases fl with
      | true =>
        simp only [lendRows] at hlr
        subst hlr
        refine rel_part hs hL hr hn hq hle hpl fun i r' hi => ⟨r', part_get hi, rfl, fun j u y hu v hv hcell => ?_⟩
        rw [hu] at hv
        obtain rfl := Option.some.inj hv
        exact SRel.rrel hcell
      | false =>
        have deep : deepRows st no ((rows.drop off).take len) rows' -> RRel E.w S' (.ro rows') x := fun hd => by
          obtain ⟨d1, d2⟩ := deepRows_get hd
          refine rel_part hs hL hr hn hq hle (by rw [<- d1, hpl]) fun i r' hi => ?_
          have hil := (List.getElem?_eq_some_iff.1 hi).1
          have hg := List.getElem?_eq_getElem (show i < ((rows.drop off).take len).length by omega)
          obtain ⟨c1, c2⟩ := deepCells_get (d2 i _ _ hg hi)
          exact ⟨_, part_get hg, c1.symm, fun j u y hu v hv hcell => deepCell_rel hs hL hn hcell (c2 j v u hv hu)⟩
        rcases hlr with ⟨hfr, rfl⟩ | ⟨_, hd⟩
        · refine deep ?_
          have : ∀ l : List (List AV), FreeRows true l -> deepRows st no l (stillRows false l) := by
            intro l
            induction l with
            | nil => intro _; trivial
            | cons r rs ih =>
              intro hf
              refine ⟨?_, ih (fun q hq => hf q (List.mem_cons_of_mem _ hq))⟩
              have hr := hf r (List.mem_cons_self ..)
              clear ih hf
              induction r with
              | nil => trivial
              | cons v vs ih => exact ⟨still_deep (hr v (List.mem_cons_self ..)), ih (fun q hq => hr q (List.mem_cons_of_mem _ hq))⟩
          exact this _ hfr
        · exact deep hd
    · exact hl.elim
  | _ => cases b <;> simp only [lendCell] at hl <;> first | exact absurd rfl hbu | exact hl.elim

theorem lendCell_rel (hs : Sim E st a) {no : Nat -> Bool} {S' : Nat -> Prop} (hL : Lent E st no S') {E' : Env} (hw : E'.w = E.w) (hS' : E'.S = S') {v b : AV} {x : Value} (hr : Rel E v x) (hl : lendCell st no v b) : Rel E' b x := by
  by_cases hbu : b = .undef
  · subst hbu; exact .undef _
  · exact .base _ _ (by rw [hw, hS']; exact lendCell_rrel hs hL hr hl hbu)

end Go.Proofs.YtihfpbhalnedcaaGreat.AM

namespace Go.Proofs.YtihfpbhalnedcaaGreat.AM
open Go Go.RowKit

variable {P : Program} {T : Nat -> Option TI} {E E0 : Env} {st : St} {a : Act} {K : AV -> St -> Prop} {o : Oper}

def match0 (v b : AV) : Ren :=
  match b with
  | .ref _ t _ _ => match v with
    | .ref _ L off _ => [(t, (L, off))]
    | _ => []
  | .ptr t _ _ => match v with
    | .ptr L _ fld => [(t, (L, fld))]
    | _ => []
  | _ => []

def matchL : List AV -> List AV -> Ren
  | v :: vs, b :: bs => match0 v b ++ matchL vs bs
  | _, _ => []

def match1 (v b : AV) : Ren :=
  match v, b with
  | .agg vs, .agg bs => matchL vs bs
  | v, b => match0 v b

def match1L : List AV -> List AV -> Ren
  | v :: vs, b :: bs => match1 v b ++ match1L vs bs
  | _, _ => []

def match2 (v b : AV) : Ren :=
  match v, b with
  | .fn _ x y, .fn _ x' y' => match1L x x' ++ match1L y y'
  | v, b => match1 v b

def match2L : List AV -> List AV -> Ren
  | v :: vs, b :: bs => match2 v b ++ match2L vs bs
  | _, _ => []

def matchB (base : Nat) : List AV -> List AV -> Ren
  | v :: vs, b :: bs => (match b with
    | .own _ _ _ => (match v with
      | .ref _ L off _ => [(base, (L, off))]
      | _ => [])
    | _ => []) ++ matchB (base + 1) vs bs
  | _, _ => []

def matchO (st : St) (ρ : Ren) (k : Nat) : List Obj -> Ren
  | [] => []
  | .box cells :: r => (match lk ρ (gl k) with
    | some (id, fld) => match lk st.sto id with
      | some (.box cs) => matchB (gl k + 1) (cs.drop fld) cells
      | _ => []
    | none => []) ++ matchO st ρ (k + 1) r
  | .arr _ _ _ :: r => matchO st ρ (k + 1) r

def rhoA (avs bs : List AV) : Ren := match2L avs bs
def rhoB (st : St) (avs bs : List AV) (objs : List Obj) : Ren := matchO st (rhoA avs bs) 0 objs
def rhoG (st : St) (avs bs : List AV) (objs : List Obj) : Ren := rhoA avs bs ++ rhoB st avs bs objs

def isBox (st : St) (id : Nat) : Bool :=
  match lk st.sto id with
  | some (.box _) => true
  | _ => false

def AV.isUndef : AV -> Bool
  | .undef => true
  | _ => false

def lendCellF (st : St) (no : Nat -> Bool) (v b : AV) : Prop :=
  match b with
  | .fn f x y => v = .fn f x y /\ (AV.fn f x y).ids = []
  | b => lendCell st no v b

def lendCells (st : St) (no : Nat -> Bool) : List AV -> List AV -> Prop
  | _, [] => True
  | v :: vs, b :: bs => (lendCellF st no v b /\ b.isUndef = false) /\ lendCells st no vs bs
  | _, _ => False

theorem lendCells_get {no : Nat -> Bool} : ∀ {vs bs : List AV}, lendCells st no vs bs -> bs.length <= vs.length /\ ∀ (j : Nat) (v b : AV), vs[j]? = some v -> bs[j]? = some b -> lendCellF st no v b /\ b.isUndef = false
  | vs, [], _ => ⟨Nat.zero_le _, fun j v r _ h => by simp at h⟩
  | v :: vs, r :: rs, ⟨h1, h2⟩ => by
    obtain ⟨g1, g2⟩ := lendCells_get h2
    refine ⟨by simp; exact g1, fun j v' r' hv hj => ?_⟩
    cases j with
    | zero => simp at hj hv; subst hj hv; exact h1
    | succ j => exact g2 j v' r' (by simpa using hv) (by simpa using hj)
  | [], _ :: _, h => h.elim

def argP (st : St) (no : Nat -> Bool) (al : Bool) (v b : AV) : Prop :=
  match al with
  | true => v = b
  | false => lendCell st no v b

def arg0 (st : St) (no : Nat -> Bool) (al : Bool) (v b : AV) : Prop :=
  match b with
  | .ref q _ off len' => (q = false /\ off = 0) /\ match v with
    | .ref _ _ _ len => len' = len
    | .nilS => len' = 0
    | .emp => len' = 0
    | _ => False
  | .ptr _ row' fld' => (row' = 0 /\ fld' = 0) /\ match v with
    | .ptr id row _ => row = 0 /\ isBox st id = true
    | _ => False
  | .rptr bs => match v with
    | .ptr id row fld => al = false /\ no id = false /\ match st.at (.ptr id row fld) with
      | some cells => lendCells st no cells bs
      | none => False
    | .rptr cells => bs = cells
    | _ => False
  | .agg _ => False
  | .tup _ => False
  | .fn _ _ _ => False
  | b => argP st no al v b

def argL (st : St) (no : Nat -> Bool) (al : Bool) : List AV -> List AV -> Prop
  | [], [] => True
  | v :: vs, b :: bs => arg0 st no al v b /\ argL st no al vs bs
  | _, _ => False

def arg1 (st : St) (no : Nat -> Bool) (al : Bool) (v b : AV) : Prop :=
  match b with
  | .agg bs => match v with
    | .agg vs => argL st no al vs bs
    | _ => False
  | b => arg0 st no al v b

def arg1L (st : St) (no : Nat -> Bool) (al : Bool) : List AV -> List AV -> Prop
  | [], [] => True
  | v :: vs, b :: bs => arg1 st no al v b /\ arg1L st no al vs bs
  | _, _ => False

def arg2 (st : St) (no : Nat -> Bool) (al : Bool) (v b : AV) : Prop :=
  match b with
  | .fn g x' y' => match v with
    | .fn f x y => f = g /\ arg1L st no al x x' /\ arg1L st no al y y'
    | _ => False
  | b => arg1 st no al v b

def args (st : St) (no : Nat -> Bool) (al : Bool) : List AV -> List AV -> Prop
  | [], [] => True
  | v :: vs, b :: bs => arg2 st no al v b /\ args st no al vs bs
  | _, _ => False

def giveCell (st : St) (al : Bool) (v b : AV) : Prop :=
  match b with
  | .undef => True
  | .own s fl rows => match v with
    | .nilS => rows = []
    | .emp => rows = []
    | .ref _ L off len => match lk st.sto L with
      | some (.arr s' fl' rows0) => (s' = s /\ fl' = fl) /\ (off + len <= rows0.length /\ rows = (rows0.drop off).take len) /\ (match fl with | true => True | false => FreeRows al rows)
      | _ => False
    | _ => False
  | .ro rows => v = .ro rows /\ (al = true ∨ rows = [])
  | b => v = b /\ b.scal = true

def giveCells (st : St) (al : Bool) : List AV -> List AV -> Prop
  | _, [] => True
  | v :: vs, b :: bs => giveCell st al v b /\ giveCells st al vs bs
  | _, _ => False

def giveObjs (st : St) (al : Bool) (ρ : Ren) (k : Nat) : List Obj -> Prop
  | [] => True
  | .box cells :: r => (match lk ρ (gl k) with
    | some (id, fld) => match lk st.sto id with
      | some (.box cs) => (nble (fld + cells.length) cs.length && nble cells.length 90) = true /\ giveCells st al (cs.drop fld) cells
      | _ => False
    | none => False) /\ giveObjs st al ρ (k + 1) r
  | .arr s fl rows :: r => (match lk ρ (gl k) with
    | some (L, off) => match lk st.sto L with
      | some (.arr s' fl' rows0) => (off = 0 /\ s' = s /\ fl' = fl) /\ (rows.length <= rows0.length /\ rows = rows0.take rows.length) /\ (match fl with | true => True | false => FreeRows al rows)
      | _ => False
    | none => rows = []) /\ giveObjs st al ρ (k + 1) r

def given (dp : Bool) (ρ : Ren) (id : Nat) : Bool := (Ren.inv ρ id).isSome || (nbeq id 0 && !dp)

def tgtOk (ρ : Ren) (objs : List Obj) : Bool := ρ.all fun p => ((flats (fun _ => 0) 0 objs).map (·.1)).elem p.1

structure Gives (st : St) (al dp : Bool) (avs bs : List AV) (objs : List Obj) : Prop where
  ok : (Ren.ok (rhoG st avs bs objs) && tgtOk (rhoG st avs bs objs) objs && (rhoA avs bs).all (fun p => nbeq (p.1 % 1000) 0 && nble 1000 p.1) && nble objs.length 40) = true
  args : args st (given dp (rhoG st avs bs objs)) al avs bs
  objs : giveObjs st al (rhoA avs bs) 0 objs

theorem flat1_keys (ln ln' : List (List AV) -> Nat) (base : Nat) (o : Obj) : (flat1 ln base o).map (·.1) = (flat1 ln' base o).map (·.1) := by
  cases o <;> simp [flat1]

theorem flats_keys (ln ln' : List (List AV) -> Nat) : ∀ (objs : List Obj) (k : Nat), (flats ln k objs).map (·.1) = (flats ln' k objs).map (·.1)
  | [], _ => rfl
  | o :: r, k => by
    simp only [flats, List.map_append]
    rw [flat1_keys ln ln', flats_keys ln ln' r]

def winG (E : Env) (ρ : Ren) (objs : List Obj) (b : Nat) : Option (Nat × Nat) :=
  match E.tag b with
  | some (.root s) => match ρ.inv s, E.loc s with
    | some (t, fld), some L => match objs[t / 1000 - 1]? with
      | some (.box cells) => if t % 1000 = 0 /\ 1000 <= t /\ L.blk = b then some (L.base + fld, L.base + fld + cells.length) else none
      | _ => none
    | _, _ => none
  | _ => none

def seenS (E : Env) (al : Bool) (ρ : Ren) (b : Nat) : Prop :=
  match al with
  | true => E.S b
  | false => b < E.w.heap.size /\ (E.tag b).bind (renTag ρ) = none

def Env.given (E : Env) (al : Bool) (ρ : Ren) (objs : List Obj) : Env := E.ren ρ (seenS E al ρ) (winG E ρ objs)

theorem seen_still (hs : Sim E st a) {al : Bool} {ρ : Ren} : ∀ b, E.S b -> seenS E al ρ b := fun b hb => by
  cases al with
  | true => exact hb
  | false =>
    obtain ⟨h1, h2⟩ := hs.wf.still b hb
    exact ⟨h2, by rw [h1]; rfl⟩

theorem lent_of (hs : Sim E st a) {dp : Bool} {ρ : Ren} : Lent E st (given dp ρ) (seenS E false ρ) := by
  refine ⟨seen_still hs, fun b id hn ht => ⟨hs.wf.owned b (by rw [ht]; simp), ?_⟩, fun b id i j hn ht => ⟨hs.wf.owned b (by rw [ht]; simp), ?_⟩⟩
  · rw [ht]
    simp only [Option.bind_some, renTag]
    unfold AM.given at hn
    rw [Bool.or_eq_false_iff] at hn
    replace hn := hn.1
    cases hq : ρ.inv id with
    | none => rfl
    | some p => rw [hq] at hn; cases hn
  · rw [ht]
    simp only [Option.bind_some, renTag]
    unfold AM.given at hn
    rw [Bool.or_eq_false_iff] at hn
    replace hn := hn.1
    cases hq : ρ.inv id with
    | none => rfl
    | some p => rw [hq] at hn; cases hn

theorem fl_key {objs : List Obj} {ln : List (List AV) -> Nat} {t : Nat} (h : ((flats ln 0 objs).map (·.1)).elem t = true) : ∃ ob, lk (flats List.length 0 objs) t = some ob := by
  rw [flats_keys ln List.length] at h
  exact lk_elem h

theorem gl_div (i j : Nat) (h : j < 1000) : (gl i + j) / 1000 - 1 = i /\ 1000 <= gl i + j /\ (gl i + j) % 1000 = j := by
  unfold gl
  omega

theorem boxAt {al : Bool} {ρ : Ren} : ∀ {objs : List Obj} {k i : Nat} {cells : List AV}, giveObjs st al ρ k objs -> objs[i]? = some (.box cells) -> ∃ id fld cs, lk ρ (gl (k + i)) = some (id, fld) /\ lk st.sto id = some (.box cs) /\ fld + cells.length <= cs.length /\ cells.length <= 90 /\ giveCells st al (cs.drop fld) cells
  | [], _, _, _, _, h => by simp at h
  | o :: r, k, i, cells, hg, h => by
    cases i with
    | zero =>
      simp at h; subst h
      have := hg.1
      split at this
      · rename_i id fld hq
        split at this
        · rename_i cs hq2
          simp only [Bool.and_eq_true] at this
          exact ⟨id, fld, cs, hq, hq2, nble_le this.1.1, nble_le this.1.2, this.2⟩
        · exact this.elim
      · exact this.elim
    | succ i =>
      have h2 : giveObjs st al ρ (k + 1) r := by cases o <;> exact hg.2
      have := boxAt (i := i) h2 (by simpa using h)
      rw [show k + 1 + i = k + (i + 1) by omega] at this
      exact this

theorem arrAt {al : Bool} {ρ : Ren} : ∀ {objs : List Obj} {k i s : Nat} {fl : Bool} {rows : List (List AV)}, giveObjs st al ρ k objs -> objs[i]? = some (.arr s fl rows) ->
    (lk ρ (gl (k + i)) = none /\ rows = []) ∨ ∃ L rows0, lk ρ (gl (k + i)) = some (L, 0) /\ lk st.sto L = some (.arr s fl rows0) /\ rows.length <= rows0.length /\ rows = rows0.take rows.length /\ (fl = false -> FreeRows al rows)
  | [], _, _, _, _, _, _, h => by simp at h
  | o :: r, k, i, s, fl, rows, hg, h => by
    cases i with
    | zero =>
      simp at h; subst h
      have := hg.1
      split at this
      · rename_i L off hq
        split at this
        · rename_i s' fl' rows0 hq2
          obtain ⟨⟨rfl, rfl, rfl⟩, ⟨h1, h2⟩, h3⟩ := this
          exact .inr ⟨L, rows0, hq, hq2, h1, h2, fun e => by subst e; exact h3⟩
        · exact this.elim
      · exact .inl ⟨‹_›, this⟩
    | succ i =>
      have h2 : giveObjs st al ρ (k + 1) r := by cases o <;> exact hg.2
      have := arrAt (i := i) h2 (by simpa using h)
      rw [show k + 1 + i = k + (i + 1) by omega] at this
      exact this

theorem giveCells_get {al : Bool} : ∀ {vs bs : List AV}, giveCells st al vs bs -> bs.length <= vs.length /\ ∀ (j : Nat) (v b : AV), vs[j]? = some v -> bs[j]? = some b -> giveCell st al v b
  | vs, [], _ => ⟨Nat.zero_le _, fun j v r _ h => by simp at h⟩
  | v :: vs, r :: rs, ⟨h1, h2⟩ => by
    obtain ⟨g1, g2⟩ := giveCells_get h2
    refine ⟨by simp; exact g1, fun j v' r' hv hj => ?_⟩
    cases j with
    | zero => simp at hj hv; subst hj hv; exact h1
    | succ j => exact g2 j v' r' (by simpa using hv) (by simpa using hj)
  | [], _ :: _, h => h.elim

def cellSrc (v b : AV) : Option (Nat × Nat) :=
  match b with
  | .own _ _ _ => v.src
  | _ => none

theorem mem_matchB : ∀ {vs bs : List AV} {base t : Nat} {p : Nat × Nat}, (t, p) ∈ matchB base vs bs ↔ ∃ j v b, t = base + j /\ vs[j]? = some v /\ bs[j]? = some b /\ cellSrc v b = some p
  | [], bs, base, t, p => by simp [matchB]
  | v :: vs, [], base, t, p => by simp [matchB]
  | v :: vs, b :: bs, base, t, p => by
    have ih := mem_matchB (vs := vs) (bs := bs) (base := base + 1) (t := t) (p := p)
    unfold matchB
    rw [List.mem_append, ih]
    have h0 : (t, p) ∈ (match b with
      | .own _ _ _ => (match v with
        | .ref _ L off _ => [(base, (L, off))]
        | _ => [])
      | _ => []) ↔ t = base /\ cellSrc v b = some p := by
      cases b <;> cases v <;> simp [cellSrc, AV.src, eq_comm]
    rw [h0]
    constructor
    · rintro (⟨rfl, h⟩ | ⟨j, v', b', rfl, h1, h2, h3⟩)
      · exact ⟨0, v, b, rfl, rfl, rfl, h⟩
      · exact ⟨j + 1, v', b', by omega, by simpa using h1, by simpa using h2, h3⟩
    · rintro ⟨j, v', b', rfl, h1, h2, h3⟩
      cases j with
      | zero => simp at h1 h2; subst h1 h2; exact .inl ⟨rfl, h3⟩
      | succ j => exact .inr ⟨j, v', b', by omega, by simpa using h1, by simpa using h2, h3⟩

theorem mem_matchO {ρ : Ren} : ∀ {objs : List Obj} {k t : Nat} {p : Nat × Nat}, (t, p) ∈ matchO st ρ k objs ↔ ∃ i cells id fld cs, objs[i]? = some (.box cells) /\ lk ρ (gl (k + i)) = some (id, fld) /\ lk st.sto id = some (.box cs) /\ (t, p) ∈ matchB (gl (k + i) + 1) (cs.drop fld) cells
  | [], k, t, p => by simp [matchO]
  | o :: r, k, t, p => by
    have ih := mem_matchO (ρ := ρ) (objs := r) (k := k + 1) (t := t) (p := p)
    have shift : (∃ i cells id fld cs, r[i]? = some (Obj.box cells) /\ lk ρ (gl (k + 1 + i)) = some (id, fld) /\ lk st.sto id = some (.box cs) /\ (t, p) ∈ matchB (gl (k + 1 + i) + 1) (cs.drop fld) cells) ↔
        ∃ i cells id fld cs, (o :: r)[i + 1]? = some (Obj.box cells) /\ lk ρ (gl (k + (i + 1))) = some (id, fld) /\ lk st.sto id = some (.box cs) /\ (t, p) ∈ matchB (gl (k + (i + 1)) + 1) (cs.drop fld) cells := by
      constructor
      · rintro ⟨i, cells, id, fld, cs, h⟩
        exact ⟨i, cells, id, fld, cs, by rw [show k + (i + 1) = k + 1 + i by omega]; simpa using h⟩
      · rintro ⟨i, cells, id, fld, cs, h⟩
        exact ⟨i, cells, id, fld, cs, by rw [show k + (i + 1) = k + 1 + i by omega] at h; simpa using h⟩
    cases o with
    | arr s fl rows =>
      simp only [matchO]
      rw [ih, shift]
      constructor
      · rintro ⟨i, h⟩; exact ⟨i + 1, h⟩
      · rintro ⟨i, cells, id, fld, cs, h1, h⟩
        cases i with
        | zero => simp at h1
        | succ i => exact ⟨i, cells, id, fld, cs, h1, h⟩
    | box cells0 =>
      simp only [matchO, List.mem_append]
      rw [ih, shift]
      constructor
      · rintro (h | ⟨i, h⟩)
        · split at h
          · rename_i id fld hq
            split at h
            · rename_i cs hq2
              exact ⟨0, cells0, id, fld, cs, rfl, hq, hq2, h⟩
            · cases h
          · cases h
        · exact ⟨i + 1, h⟩
      · rintro ⟨i, cells, id, fld, cs, h1, h2, h3, h4⟩
        cases i with
        | zero =>
          simp at h1; subst h1
          rw [Nat.add_zero] at h2 h4
          exact .inl (by rw [h2]; simp only [h3]; exact h4)
        | succ i => exact .inr ⟨i, cells, id, fld, cs, h1, h2, h3, h4⟩

section
variable {al dp : Bool} {avs bs : List AV} {objs : List Obj}

theorem Gives.rok (h : Gives st al dp avs bs objs) : Ren.ok (rhoG st avs bs objs) = true := by
  have := h.ok
  simp only [Bool.and_eq_true] at this
  exact this.1.1.1

theorem Gives.few (h : Gives st al dp avs bs objs) : objs.length <= 40 := by
  have := h.ok
  simp only [Bool.and_eq_true] at this
  exact nble_le this.2

theorem Gives.tgt (h : Gives st al dp avs bs objs) {t : Nat} {p : Nat × Nat} (hm : lk (rhoG st avs bs objs) t = some p) : ∃ ob, lk (flats List.length 0 objs) t = some ob := by
  have := h.ok
  simp only [Bool.and_eq_true] at this
  exact fl_key (List.all_eq_true.1 this.1.1.2 _ (lk_mem hm))

theorem Gives.head (h : Gives st al dp avs bs objs) {i : Nat} {p : Nat × Nat} : lk (rhoG st avs bs objs) (gl i) = some p ↔ lk (rhoA avs bs) (gl i) = some p := by
  have hrok := h.rok
  constructor
  · intro hm
    have hm := lk_mem hm
    unfold rhoG at hm
    rcases List.mem_append.1 hm with hm | hm
    · cases hq : lk (rhoA avs bs) (gl i) with
      | none =>
        exfalso
        have : ∀ l : Ren, (gl i, p) ∈ l -> lk l (gl i) ≠ none := by
          intro l
          induction l with
          | nil => intro h; cases h
          | cons q r ih =>
            intro h
            obtain ⟨t', q'⟩ := q
            rw [lk_cons]
            split
            · simp
            · rcases List.mem_cons.1 h with h | h
              · cases h; exact absurd rfl ‹_›
              · exact ih h
        exact this _ hm hq
      | some q =>
        have h1 : lk (rhoG st avs bs objs) (gl i) = some q := by unfold rhoG; rw [lk_append, hq]; rfl
        have h2 := (Ren.of_mem hrok (show (gl i, (p.1, p.2)) ∈ rhoG st avs bs objs from List.mem_append_left _ hm)).1
        rw [h1] at h2
        rw [h2]
    · exfalso
      obtain ⟨i', cells, id, fld, cs, g1, g2, g3, g4⟩ := mem_matchO.1 hm
      obtain ⟨j, v, b, g5, g6, g7, _⟩ := mem_matchB.1 g4
      obtain ⟨id', fld', cs', q1, q2, q3, q4, _⟩ := boxAt h.objs g1
      have := (List.getElem?_eq_some_iff.1 g7).1
      unfold gl at g5
      omega
  · intro hm
    unfold rhoG
    rw [lk_append, hm]; rfl

theorem Gives.cell (h : Gives st al dp avs bs objs) {i j id fld : Nat} {cells cs : List AV} {v b : AV} (h1 : objs[i]? = some (.box cells)) (h2 : lk (rhoA avs bs) (gl i) = some (id, fld)) (h3 : lk st.sto id = some (.box cs)) (h4 : cs[fld + j]? = some v) (h5 : cells[j]? = some b) :
    lk (rhoG st avs bs objs) (gl i + 1 + j) = cellSrc v b := by
  have hrok := h.rok
  obtain ⟨_, _, _, q1, q2, q3, q4, _⟩ := boxAt h.objs h1
  have hj := (List.getElem?_eq_some_iff.1 h5).1
  cases hq : cellSrc v b with
  | some p =>
    refine (Ren.of_mem hrok (s := p.1) (o := p.2) (List.mem_append_right _ (mem_matchO.2 ⟨i, cells, id, fld, cs, h1, by rw [Nat.zero_add]; exact h2, h3, mem_matchB.2 ⟨j, v, b, by rw [Nat.zero_add], by rw [List.getElem?_drop]; exact h4, h5, hq⟩⟩))).1
  | none =>
    cases hl : lk (rhoG st avs bs objs) (gl i + 1 + j) with
    | none => rfl
    | some p =>
      exfalso
      have hm := lk_mem hl
      unfold rhoG at hm
      rcases List.mem_append.1 hm with hm | hm
      · have := h.ok
        simp only [Bool.and_eq_true] at this
        have := List.all_eq_true.1 this.1.2 _ hm
        simp only [Bool.and_eq_true] at this
        have := nbeq_eq this.1
        unfold gl at this
        omega
      · obtain ⟨i', cells', id', fld', cs', g1, g2, g3, g4⟩ := mem_matchO.1 hm
        obtain ⟨j', v', b', g5, g6, g7, g8⟩ := mem_matchB.1 g4
        obtain ⟨_, _, _, p1, p2, p3, p4, _⟩ := boxAt h.objs g1
        have hj' := (List.getElem?_eq_some_iff.1 g7).1
        have : i' = i /\ j' = j := by unfold gl at g5; omega
        obtain ⟨rfl, rfl⟩ := this
        rw [Nat.zero_add] at g2
        rw [h1] at g1; cases g1
        rw [h2] at g2; cases g2
        rw [h3] at g3; cases g3
        rw [List.getElem?_drop, h4] at g6; cases g6
        rw [h5] at g7; cases g7
        rw [hq] at g8; cases g8

theorem Gives.noWin (hs : Sim E st a) (h : Gives st al dp avs bs objs) {b : Nat} {s t : Nat} {o : Nat} (ht : E.tag b = some (.root s)) (hl : lk (rhoG st avs bs objs) t = some (s, o)) (hn : ∀ i cells, t = gl i -> objs[i]? ≠ some (.box cells)) : winG E (rhoG st avs bs objs) objs b = none := by
  unfold winG
  rw [ht]
  simp only [Ren.inv_of h.rok hl]
  cases E.loc s with
  | none => rfl
  | some L =>
    simp only
    cases hc : objs[t / 1000 - 1]? with
    | none => rfl
    | some o =>
      cases o with
      | arr _ _ _ => rfl
      | box cells =>
        simp only
        rw [if_neg]
        rintro ⟨h1, h2, _⟩
        exact hn (t / 1000 - 1) cells (by unfold gl; omega) hc

theorem Gives.sim (hs : Sim E st a) (h : Gives st al dp avs bs objs) : (E.given al (rhoG st avs bs objs) objs).Wf /\ (∀ id L, (E.given al (rhoG st avs bs objs) objs).loc id = some L -> ((flats List.length 0 objs).map (·.1)).elem id = true) /\
    ∀ id o, lk (flats List.length 0 objs) id = some o -> ORel (E.given al (rhoG st avs bs objs) objs) id o := by
  have hrok := h.rok
  have hSs := seen_still hs (al := al) (ρ := rhoG st avs bs objs)
  generalize hρ : rhoG st avs bs objs = ρ at *
  have hgl0 : ∀ i, gl i % 1000 = 0 /\ gl i / 1000 - 1 = i /\ 1000 <= gl i := fun i => by unfold gl; omega
  refine ⟨⟨fun b hb => ?_, fun b hb => hs.wf.owned b (fun e => hb (by simp [Env.given, Env.ren, e])), fun b hb => ?_⟩, fun id L hL => ?_, fun id o ho => ?_⟩
  · cases al with
    | true =>
      obtain ⟨h1, h2⟩ := hs.wf.still b hb
      exact ⟨by simp [Env.given, Env.ren, h1], h2⟩
    | false => exact ⟨hb.2, hb.1⟩
  · change winG E ρ objs b ≠ none at hb
    unfold winG at hb
    split at hb
    · rename_i s ht
      split at hb
      · rename_i t fld L hi hL
        split at hb
        · rename_i cells hc
          split at hb
          · rename_i hcond
            have hlk := Ren.lk_of hrok hi
            have hlt := (List.getElem?_eq_some_iff.1 hc).1
            have hfew := h.few
            exact ⟨hs.wf.owned b (by rw [ht]; simp), t, L.shift fld, by unfold lab0; omega, by simp [Env.given, Env.ren, hlk, hL], hcond.2.2, ren_tag_root hrok hlk ht⟩
          · exact absurd rfl hb
        · exact absurd rfl hb
      · exact absurd rfl hb
    · exact absurd rfl hb
  · simp only [Env.given, Env.ren] at hL
    cases hq : lk ρ id with
    | none => simp [hq] at hL
    | some p =>
      obtain ⟨ob, hob⟩ := Gives.tgt h (by rw [hρ]; exact hq)
      rw [List.elem_iff]
      exact List.mem_map.2 ⟨(id, ob), lk_mem hob, rfl⟩
  · obtain ⟨i, ob, hi, hfl⟩ := flats_lk ho
    rw [Nat.zero_add] at hfl
    cases ob with
    | arr s fl rows =>
      have hcase := arrAt h.objs hi
      rw [Nat.zero_add] at hcase
      have he : id = gl i /\ o = .arr s fl rows := by
        rcases flat1_lk hfl with ⟨e1, e2⟩ | ⟨_, _, _, _, _, e, _⟩
        · exact ⟨e1, e2⟩
        · cases e
      obtain ⟨e1, e2⟩ := he
      subst e1 e2
      rcases hcase with ⟨h1, rfl⟩ | ⟨L, rows0, h1, h2, h3, h4, h5⟩
      · refine .inl ⟨?_, rfl⟩
        have : lk ρ (gl i) = none := by
          cases hq : lk ρ (gl i) with
          | none => rfl
          | some p => rw [<- hρ] at hq; rw [h.head.1 hq] at h1; cases h1
        simp [Env.given, Env.ren, this]
      · have hl : lk ρ (gl i) = some (L, 0) := by rw [<- hρ]; exact h.head.2 h1
        refine ren_arr hrok hSs hl (hs.sto L _ h2) (Nat.zero_le _) (n := rows.length) (by simpa using h4) (fun e => (h5 e).noRefs) (fun b hb _ => ?_)
        have := Gives.noWin hs h (b := b) hb (by rw [hρ]; exact hl) (fun i' cells e hc => by
          have : i' = i := by unfold gl at e; omega
          subst this
          rw [hi] at hc; cases hc)
        rw [hρ] at this
        exact this
    | box cells =>
      obtain ⟨id', fld, cs, h1, h2, h3, h4, h5⟩ := boxAt h.objs hi
      rw [Nat.zero_add] at h1
      have hl : lk ρ (gl i) = some (id', fld) := by rw [<- hρ]; exact h.head.2 h1
      obtain ⟨gc1, gc2⟩ := giveCells_get h5
      have hcell : ∀ j v b, cs[fld + j]? = some v -> cells[j]? = some b -> giveCell st al v b /\ lk ρ (gl i + 1 + j) = cellSrc v b := fun j v b hv hb =>
        ⟨gc2 j v b (by rw [List.getElem?_drop]; exact hv) hb, by rw [<- hρ]; exact h.cell hi h1 h2 hv hb⟩
      -- a cell's value
      have hrel : ∀ j v b y, cs[fld + j]? = some v -> cells[j]? = some b -> Rel E v y -> Rel (E.given al ρ objs) (adoptC List.length (gl i + 1 + j) b) y := fun j v b y hv hb hr => by
        obtain ⟨g1, g2⟩ := hcell j v b hv hb
        have same : v = b -> b.scal = true ∨ (∃ rows, b = .ro rows) -> Rel (E.given al ρ objs) b y := fun e hb' => by
          subst e
          cases hr with
          | base _ _ h => exact .base _ _ (h.mono hSs (fun _ _ => rfl))
          | _ => rcases hb' with h | ⟨_, h⟩ <;> cases h
        cases b with
        | own s fl rows =>
          simp only [giveCell] at g1
          simp only [cellSrc] at g2
          simp only [adoptC]
          cases v <;> simp only at g1
          · subst g1; rw [rel_nilS hr]; exact .ref0 _ _ _ _ rfl
          · subst g1
            cases hr with
            | base _ _ h => cases h; exact .ref0 _ _ _ _ rfl
          · rename_i p L off len
            split at g1
            · rename_i s' fl' rows0 hq
              obtain ⟨_, ⟨q1, q2⟩, _⟩ := g1
              have hlen : rows.length = len := by rw [q2]; simp; omega
              rw [hlen]
              exact (hr.noPeek (q := false)).ren hSs (.ref false (gl i + 1 + j) 0 len) (by simp [AV.back, g2, AV.src]) (by simp [AV.fits, g2, AV.src])
            · exact g1.elim
        | undef => exact .undef _
        | ro rows => simp only [giveCell] at g1; exact same g1.1 (.inr ⟨_, rfl⟩)
        | int k n => simp only [giveCell] at g1; exact same g1.1 (.inl rfl)
        | bool c => simp only [giveCell] at g1; exact same g1.1 (.inl rfl)
        | _ => simp only [giveCell, AV.scal] at g1; cases g1.2
      have hcases : (id = gl i /\ o = .box (adopt1 List.length (gl i + 1) cells)) ∨ ∃ j s fl rows, id = gl i + 1 + j /\ cells[j]? = some (.own s fl rows) /\ o = .arr s fl rows := by
        rcases flat1_lk hfl with ⟨e1, e2⟩ | ⟨cells', j, s, fl', rows, e, e1, hj, e2⟩
        · exact .inl ⟨e1, e2⟩
        · cases e; exact .inr ⟨j, s, fl', rows, e1, hj, e2⟩
      rcases hcases with ⟨e1, e2⟩ | ⟨j, s, fl', rows, e1, hj, e2⟩
      · -- the variable
        subst e1 e2
        obtain ⟨L, c, ty, k1, k2, k3, k4, k5, kw, k6⟩ := hs.sto id' _ h2
        have hbase : (L.shift fld).base = L.base + fld := by simp [Loc.shift, k2]
        refine ⟨L.shift fld, c, ty, by simp [Env.given, Env.ren, hl, k1], k2, ren_tag_root hrok hl k3, k4, by rw [hbase, adopt1_length]; omega, fun lo hi' hw => ?_, fun j u hu => ?_⟩
        · change winG E ρ objs L.blk = some (lo, hi') at hw
          unfold winG at hw
          rw [k3] at hw
          obtain ⟨d1, d2, d3⟩ := gl_div i 0 (by omega)
          simp only [Nat.add_zero] at d1 d2 d3
          simp only [Ren.inv_of hrok hl, k1, d1, hi] at hw
          rw [if_pos ⟨d3, d2, trivial⟩] at hw
          simp only [Option.some.injEq, Prod.mk.injEq] at hw
          rw [hbase, adopt1_length]
          omega
        · rw [adopt1_get] at hu
          simp only [Option.map_eq_some_iff] at hu
          obtain ⟨b, hb, rfl⟩ := hu
          have hjl := (List.getElem?_eq_some_iff.1 hb).1
          have hv := List.getElem?_eq_getElem (show fld + j < cs.length by omega)
          obtain ⟨y, y1, y2, y3⟩ := k6 _ _ hv
          exact ⟨y, by rw [hbase, Nat.add_assoc]; exact y1, y2, hrel j _ b y hv hb y3⟩
      · subst e1 e2
        have hjl := (List.getElem?_eq_some_iff.1 hj).1
        have hv := List.getElem?_eq_getElem (show fld + j < cs.length by omega)
        obtain ⟨g1, g2⟩ := hcell j _ _ hv hj
        simp only [giveCell] at g1
        simp only [cellSrc] at g2
        generalize cs[fld + j] = v at g1 g2 hv
        cases v <;> simp only at g1
        · subst g1; exact .inl ⟨by simp [Env.given, Env.ren, g2, AV.src], rfl⟩
        · subst g1; exact .inl ⟨by simp [Env.given, Env.ren, g2, AV.src], rfl⟩
        · rename_i p L off len
          split at g1
          · rename_i s' fl'' rows0 hq
            obtain ⟨⟨q1, q2⟩, ⟨q3, q4⟩, q5⟩ := g1
            subst q1 q2
            refine ren_arr hrok hSs g2 (hs.sto L _ hq) (by omega) q4 (fun e => by subst e; exact FreeRows.noRefs q5) (fun b hb _ => ?_)
            have := Gives.noWin hs h (b := b) hb (by rw [hρ]; exact g2) (fun i' cells e hc => by unfold gl at e; omega)
            rw [hρ] at this
            exact this
          · exact g1.elim

end
end Go.Proofs.YtihfpbhalnedcaaGreat.AM

namespace Go.Proofs.YtihfpbhalnedcaaGreat.AM
open Go Go.RowKit

variable {P : Program} {T : Nat -> Option TI} {E E0 : Env} {st : St} {a : Act} {K : AV -> St -> Prop} {o : Oper}

theorem mem_matchL : ∀ {vs bs : List AV} {j : Nat} {v b : AV} {q : Nat × Nat × Nat}, vs[j]? = some v -> bs[j]? = some b -> q ∈ match0 v b -> q ∈ matchL vs bs
  | v :: vs, b :: bs, 0, v', b', q, h1, h2, h => by simp at h1 h2; subst h1 h2; exact List.mem_append_left _ h
  | v :: vs, b :: bs, j + 1, v', b', q, h1, h2, h => List.mem_append_right _ (mem_matchL (by simpa using h1) (by simpa using h2) h)
  | [], _, _, _, _, _, h1, _, _ => by simp at h1
  | _ :: _, [], _, _, _, _, _, h2, _ => by simp at h2

theorem mem_match1L : ∀ {vs bs : List AV} {j : Nat} {v b : AV} {q : Nat × Nat × Nat}, vs[j]? = some v -> bs[j]? = some b -> q ∈ match1 v b -> q ∈ match1L vs bs
  | v :: vs, b :: bs, 0, v', b', q, h1, h2, h => by simp at h1 h2; subst h1 h2; exact List.mem_append_left _ h
  | v :: vs, b :: bs, j + 1, v', b', q, h1, h2, h => List.mem_append_right _ (mem_match1L (by simpa using h1) (by simpa using h2) h)
  | [], _, _, _, _, _, h1, _, _ => by simp at h1
  | _ :: _, [], _, _, _, _, _, h2, _ => by simp at h2

theorem mem_match2L : ∀ {vs bs : List AV} {j : Nat} {v b : AV} {q : Nat × Nat × Nat}, vs[j]? = some v -> bs[j]? = some b -> q ∈ match2 v b -> q ∈ match2L vs bs
  | v :: vs, b :: bs, 0, v', b', q, h1, h2, h => by simp at h1 h2; subst h1 h2; exact List.mem_append_left _ h
  | v :: vs, b :: bs, j + 1, v', b', q, h1, h2, h => List.mem_append_right _ (mem_match2L (by simpa using h1) (by simpa using h2) h)
  | [], _, _, _, _, _, h1, _, _ => by simp at h1
  | _ :: _, [], _, _, _, _, _, h2, _ => by simp at h2

theorem argL_get {no : Nat -> Bool} {al : Bool} : ∀ {vs bs : List AV}, argL st no al vs bs -> vs.length = bs.length /\ ∀ (j : Nat) (b : AV), bs[j]? = some b -> ∃ v, vs[j]? = some v /\ arg0 st no al v b
  | [], [], _ => ⟨rfl, fun j r h => by simp at h⟩
  | v :: vs, r :: rs, ⟨h1, h2⟩ => by
    obtain ⟨g1, g2⟩ := argL_get h2
    refine ⟨by simp [g1], fun j r' hj => ?_⟩
    cases j with
    | zero => simp at hj; subst hj; exact ⟨v, rfl, h1⟩
    | succ j => simpa using g2 j r' (by simpa using hj)
  | [], _ :: _, h => h.elim
  | _ :: _, [], h => h.elim
theorem arg1L_get {no : Nat -> Bool} {al : Bool} : ∀ {vs bs : List AV}, arg1L st no al vs bs -> vs.length = bs.length /\ ∀ (j : Nat) (b : AV), bs[j]? = some b -> ∃ v, vs[j]? = some v /\ arg1 st no al v b
  | [], [], _ => ⟨rfl, fun j r h => by simp at h⟩
  | v :: vs, r :: rs, ⟨h1, h2⟩ => by
    obtain ⟨g1, g2⟩ := arg1L_get h2
    refine ⟨by simp [g1], fun j r' hj => ?_⟩
    cases j with
    | zero => simp at hj; subst hj; exact ⟨v, rfl, h1⟩
    | succ j => simpa using g2 j r' (by simpa using hj)
  | [], _ :: _, h => h.elim
  | _ :: _, [], h => h.elim
theorem args_get {no : Nat -> Bool} {al : Bool} : ∀ {vs bs : List AV}, args st no al vs bs -> vs.length = bs.length /\ ∀ (j : Nat) (b : AV), bs[j]? = some b -> ∃ v, vs[j]? = some v /\ arg2 st no al v b
  | [], [], _ => ⟨rfl, fun j r h => by simp at h⟩
  | v :: vs, r :: rs, ⟨h1, h2⟩ => by
    obtain ⟨g1, g2⟩ := args_get h2
    refine ⟨by simp [g1], fun j r' hj => ?_⟩
    cases j with
    | zero => simp at hj; subst hj; exact ⟨v, rfl, h1⟩
    | succ j => simpa using g2 j r' (by simpa using hj)
  | [], _ :: _, h => h.elim
  | _ :: _, [], h => h.elim

section
variable {ρ : Ren} {al dp : Bool} {objs : List Obj}

theorem arg0_rel (hs : Sim E st a) (hρ : ρ.ok = true) {v b : AV} {x : Value} (hr : Rel E v x) (h : arg0 st (given dp ρ) al v b) (hm : ∀ q ∈ match0 v b, q ∈ ρ) : Rel (E.given al ρ objs) b x := by
  have hSs := seen_still hs (al := al) (ρ := ρ)
  have plain : (∀ q t o l, b ≠ .ref q t o l) -> (∀ t r f, b ≠ .ptr t r f) -> (∀ bs, b ≠ .rptr bs) -> (∀ f x y, b ≠ .fn f x y) -> (∀ c, b ≠ .agg c) -> (∀ c, b ≠ .tup c) -> argP st (given dp ρ) al v b -> Rel (E.given al ρ objs) b x := by
    intro n1 n2 n3 n4 n5 n6 h
    cases al with
    | true =>
      simp only [argP] at h
      subst h
      refine hr.to (fun b hb => ⟨hSs b hb, rfl⟩) fun id L hi _ => ?_
      cases v <;> first
        | exact absurd rfl (n1 _ _ _ _)
        | exact absurd rfl (n2 _ _ _)
        | exact absurd rfl (n4 _ _ _)
        | exact absurd rfl (n5 _)
        | exact absurd rfl (n6 _)
        | (simp [AV.ids] at hi)
    | false => exact lendCell_rel (E' := E.given false ρ objs) hs (lent_of hs) rfl rfl hr h
  cases b with
  | ref q t off len' =>
    obtain ⟨⟨rfl, rfl⟩, h⟩ := h
    cases v <;> simp only at h
    · subst h; rw [rel_nilS hr]; exact .ref0 _ _ _ _ rfl
    · subst h
      cases hr with
      | base _ _ h => cases h; exact .ref0 _ _ _ _ rfl
    · rename_i p L o len
      subst h
      have hl := (Ren.of_mem hρ (hm (t, (L, o)) (by simp [match0]))).1
      exact (hr.noPeek (q := false)).ren hSs (.ref false t 0 len') (by simp [AV.back, hl]) (by simp [AV.fits, hl])
  | ptr t row' fld' =>
    obtain ⟨⟨rfl, rfl⟩, h⟩ := h
    cases v <;> simp only at h
    rename_i id row fld
    obtain ⟨rfl, hb⟩ := h
    have hl := (Ren.of_mem hρ (hm (t, (id, fld)) (by simp [match0]))).1
    unfold isBox at hb
    split at hb
    · rename_i cs hq
      obtain ⟨L, c, ty, k1, k2, _⟩ := hs.sto id _ hq
      cases hr with
      | base _ _ h => cases h
      | ptr _ _ _ L' hL =>
        rw [k1] at hL
        obtain rfl := Option.some.inj hL
        have := Rel.ptr (E := E.given al ρ objs) t 0 0 (L.shift fld) (by simp [Env.given, Env.ren, hl, k1])
        simp only [Loc.shift, k2] at this
        simpa using this
    · cases hb
  | rptr bs =>
    simp only [arg0] at h
    cases v <;> simp only at h
    · rename_i id row fld
      obtain ⟨rfl, hn, h⟩ := h
      split at h
      · rename_i cells hc
        obtain ⟨bl, oo, rfl, hcell⟩ := at_rel hs hr hc
        obtain ⟨g1, g2⟩ := lendCells_get h
        have hval : ∀ j u, bs[j]? = some u -> ∃ y, E.w.cell? ⟨bl, oo + j, none⟩ = some y /\ (u.isFn = false -> RRel E.w (seenS E false ρ) u y) /\ (u.isFn = true -> u.ids = []) /\ (u.isFn = true -> Rel (E.given false ρ objs) u y) := fun j u hu => by
          have hjl := (List.getElem?_eq_some_iff.1 hu).1
          have hv := List.getElem?_eq_getElem (show j < cells.length by omega)
          obtain ⟨hvl, hud⟩ := g2 j _ u hv hu
          obtain ⟨y, y1, y2, y3⟩ := hcell j _ hv
          have hu' : u ≠ .undef := fun e => by subst e; cases hud
          cases hfn : u.isFn with
          | true =>
            refine ⟨y, y1, nofun, ?_⟩
            cases u <;> simp only [AV.isFn] at hfn <;> try cases hfn
            simp only [lendCellF] at hvl
            obtain ⟨hv1, hv2⟩ := hvl
            rw [hv1] at y3
            exact ⟨fun _ => hv2, fun _ => y3.to (fun b hb => ⟨hSs b hb, rfl⟩) fun id L hid => by rw [show (AV.fn _ _ _).view.ids = [] from hv2] at hid; cases hid⟩
          | false =>
            have hvl : lendCell st (given dp ρ) cells[j] u := by cases u <;> first | exact hvl | (simp only [AV.isFn] at hfn; cases hfn)
            have : (cells[j]).view = cells[j] := by
              generalize cells[j] = w at hvl
              cases w <;> first | rfl | (cases u <;> simp only [lendCell] at hvl <;> exact absurd rfl hu')
            rw [this] at y3
            exact ⟨y, y1, fun _ => lendCell_rrel hs (lent_of hs) y3 hvl hu', nofun, nofun⟩
        have hseen : seenS E false ρ bl := by
          have key : ∀ (b : Nat), E.tag b = some (.root id) -> seenS E false ρ b := fun b ht => (lent_of hs).root b id hn ht
          cases hr with
          | base _ _ h => cases h
          | ptr _ _ _ L hL =>
            simp only [St.at] at hc
            split at hc
            · rename_i cs hq
              obtain ⟨L', c, ty, h1, h2, h3, h4⟩ := hs.sto id _ hq
              rw [h1] at hL
              obtain rfl := Option.some.inj hL
              exact key _ h3
            · rename_i sz fl rows hq
              rcases hs.sto id _ hq with ⟨h1, h2⟩ | ⟨L', c, ty, h1, hsz', h2, h3, h4⟩
              · rw [h1] at hL; cases hL
              · rw [h1] at hL
                obtain rfl := Option.some.inj hL
                exact key _ h3
            · cases hc
        refine .rptr bs bl oo (fun j => (E.w.cell? ⟨bl, oo + j, none⟩).getD undef) hseen (fun j u hu => ?_) (fun j u hu hf => ?_) (fun j u hu hf => ?_) (fun j u hu hf => ?_)
        · obtain ⟨y, y1, y2⟩ := hval j u hu
          show E.w.cell? _ = _
          rw [y1]; rfl
        · obtain ⟨y, y1, y2, y3, y4⟩ := hval j u hu
          rw [y1]; exact y2 hf
        · obtain ⟨y, y1, y2, y3, y4⟩ := hval j u hu
          exact y3 hf
        · obtain ⟨y, y1, y2, y3, y4⟩ := hval j u hu
          rw [y1]; exact y4 hf
      · exact h.elim
    · rename_i cells
      subst h
      cases hr with
      | base _ _ h => cases h
      | rptr _ b oo f h1 h2 h3 h4 h5 => exact .rptr _ b oo f (hSs b h1) h2 (fun j v hj hf => (h3 j v hj hf).mono hSs (fun _ _ => rfl)) h4 (fun j v hj hf => (h5 j v hj hf).to (fun b hb => ⟨hSs b hb, rfl⟩) fun id L hid => by rw [h4 j v hj hf] at hid; cases hid)
  | fn f x y => simp only [arg0] at h
  | agg c => simp only [arg0] at h
  | tup c => simp only [arg0] at h
  | _ => exact plain (fun _ _ _ _ e => by cases e) (fun _ _ _ e => by cases e) (fun _ e => by cases e) (fun _ _ _ e => by cases e) (fun _ e => by cases e) (fun _ e => by cases e) h

theorem arg1_rel (hs : Sim E st a) (hρ : ρ.ok = true) {v b : AV} {x : Value} (hr : Rel E v x) (h : arg1 st (given dp ρ) al v b) (hm : ∀ q ∈ match1 v b, q ∈ ρ) : Rel (E.given al ρ objs) b x := by
  cases b with
  | agg bs =>
    simp only [arg1] at h
    cases v <;> simp only at h
    rename_i vs
    obtain ⟨xs, rfl, x1, x2, x3⟩ := rel_agg hr
    obtain ⟨g1, g2⟩ := argL_get h
    refine .agg _ xs (by rw [x1, g1]) x2 fun j u y hu hy => ?_
    obtain ⟨v, hv, hvl⟩ := g2 j u hu
    exact arg0_rel hs hρ (x3 j v y hv hy) hvl fun q hq => hm q (mem_matchL hv hu hq)
  | _ => exact arg0_rel (dp := dp) hs hρ hr h (fun q hq => hm q (by cases v <;> exact hq))

theorem arg2_rel (hs : Sim E st a) (hρ : ρ.ok = true) {v b : AV} {x : Value} (hr : Rel E v x) (h : arg2 st (given dp ρ) al v b) (hm : ∀ q ∈ match2 v b, q ∈ ρ) : Rel (E.given al ρ objs) b x := by
  cases b with
  | fn g x' y' =>
    simp only [arg2] at h
    cases v <;> simp only at h
    rename_i f first caps
    obtain ⟨rfl, h1, h2⟩ := h
    cases hr with
    | base _ _ h => cases h
    | fn _ _ _ xs ys g1 g2 g3 g4 =>
      obtain ⟨q1, q2⟩ := arg1L_get h1
      obtain ⟨p1, p2⟩ := arg1L_get h2
      refine .fn f x' y' xs ys (by rw [g1, q1]) (by rw [g2, p1]) (fun j u y hu hy => ?_) (fun j u y hu hy => ?_)
      · obtain ⟨v, hv, hvl⟩ := q2 j u hu
        exact arg1_rel hs hρ (g3 j v y hv hy) hvl fun q hq => hm q (List.mem_append_left _ (mem_match1L hv hu hq))
      · obtain ⟨v, hv, hvl⟩ := p2 j u hu
        exact arg1_rel hs hρ (g4 j v y hv hy) hvl fun q hq => hm q (List.mem_append_right _ (mem_match1L hv hu hq))
  | _ => exact arg1_rel (dp := dp) hs hρ hr h (fun q hq => hm q (by cases v <;> exact hq))

end

end Go.Proofs.YtihfpbhalnedcaaGreat.AM

namespace Go.Proofs.YtihfpbhalnedcaaGreat.AM
open Go Go.RowKit

variable {P : Program} {T : Nat -> Option TI} {E E0 : Env} {st : St} {a : Act} {K : AV -> St -> Prop} {o : Oper}

def AV.treeC : AV -> Bool
  | .int _ _ => true
  | .bool _ => true
  | .nilS => true
  | .emp => true
  | .ro _ => true
  | .own _ _ _ => true
  | .undef => true
  | _ => false

def AV.tree1 : AV -> Bool
  | .agg cells => cells.all AV.treeC
  | .ownp cells => cells.all AV.treeC
  | .fn _ [] [.rptr _] => true
  | v => v.treeC

def AV.tree : AV -> Bool
  | .tup vs => vs.all AV.tree1
  | v => v.tree1

def sigC (base std : Nat) : List AV -> Ren
  | [] => []
  | .own _ _ _ :: r => (base, (std, 0)) :: sigC (base + 1) (std + 1) r
  | _ :: r => sigC (base + 1) (std + 1) r

def sigV (base std : Nat) : AV -> Ren
  | .agg cells => sigC base std cells
  | .own _ _ _ => [(base, (std, 0))]
  | .ownp cells => (base, (std, 0)) :: sigC (base + 1) (std + 1) cells
  | _ => []

def sigT (base std : Nat) : List AV -> Ren
  | [] => []
  | v :: r => sigV base std v ++ sigT (base + 100) (std + 100) r

def sigR (base std : Nat) : AV -> Ren
  | .tup vs => sigT base std vs
  | v => sigV base std v

def labK (lab k : Nat) : Nat := lab + 5000 + 100 * k

def sigO (st : St) (ρ : Ren) (lab k : Nat) : List (Option Obj) -> Ren
  | [] => []
  | none :: r => sigO st ρ lab (k + 1) r
  | some (.box cells) :: r => (match lk ρ (gl k) with
    | some (id, _) => (id, (gl k, 0)) :: sigC (labK lab k) (gl k + 1) cells
    | none => []) ++ sigO st ρ lab (k + 1) r
  | some (.arr _ _ _) :: r => (match lk ρ (gl k) with
    | some (L, _) => [(L, (gl k, 0))]
    | none => []) ++ sigO st ρ lab (k + 1) r

def sigA (st : St) (ρ : Ren) (lab : Nat) (os : List (Option Obj)) (v : AV) : Ren := sigR lab rl v ++ sigO st ρ lab 0 os

def backSto (ln : List (List AV) -> Nat) (st : St) (ρ : Ren) (lab k : Nat) : List (Option Obj) -> List (Nat × Obj)
  | [] => []
  | none :: r => backSto ln st ρ lab (k + 1) r
  | some (.box cells) :: r => (match lk ρ (gl k) with
    | some (id, fld) => match lk st.sto id with
      | some (.box cs) => (id, .box (setMany cs fld (adopt1 ln (labK lab k) cells))) :: objs1 (labK lab k) cells
      | _ => []
    | none => []) ++ backSto ln st ρ lab (k + 1) r
  | some (.arr s fl rows) :: r => (match lk ρ (gl k) with
    | some (L, _) => [(L, .arr s fl rows)]
    | none => []) ++ backSto ln st ρ lab (k + 1) r

def newSto (ln : List (List AV) -> Nat) (st : St) (ρ : Ren) (lab : Nat) (os : List (Option Obj)) (v : AV) : List (Nat × Obj) := objsOf ln lab v ++ backSto ln st ρ lab 0 os

def inLab (lab id : Nat) : Bool := nble lab id && nblt id (lab + 10000)

def freshL (lab : Nat) (used : List Nat) : Bool := used.all (fun k => nblt k lab || nble (lab + 10000) k) && nble lab0 lab

def shapes : List Obj -> List (Option Obj) -> Bool
  | [], [] => true
  | .box cs :: r, some (.box cs') :: r' => nbeq cs'.length cs.length && cs'.all AV.treeC && shapes r r'
  | .arr _ _ _ :: r, some (.arr _ _ _) :: r' => shapes r r'
  | .arr _ _ _ :: r, none :: r' => shapes r r'
  | _, _ => false

def arrPl (ρ : Ren) (k : Nat) : List (Option Obj) -> List Nat
  | [] => []
  | some (.arr _ _ _) :: r => (match lk ρ (gl k) with
    | some (L, _) => [L]
    | none => []) ++ arrPl ρ (k + 1) r
  | _ :: r => arrPl ρ (k + 1) r

def backChk (st : St) (ρ : Ren) (lab : Nat) (objs : List Obj) (os : List (Option Obj)) (v : AV) : Bool :=
  Ren.ok (sigA st ρ lab os v) && shapes objs os && v.tree && (objsOf (fun _ => 0) lab v).all (fun p => inLab lab p.1)

def backUsed (st : St) (ρ : Ren) (lab : Nat) (os : List (Option Obj)) (v : AV) : List Nat := ((newSto (fun _ => 0) st ρ lab os v).map (·.1)).filter (inLab lab)

theorem shapes_get : ∀ {objs : List Obj} {os : List (Option Obj)}, shapes objs os = true -> ∀ i : Nat, (∀ cs', os[i]? = some (some (Obj.box cs')) -> ∃ cs, objs[i]? = some (Obj.box cs) /\ cs'.length = cs.length /\ cs'.all AV.treeC = true) /\
    (∀ s fl rows, os[i]? = some (some (Obj.arr s fl rows)) -> ∃ s fl rows, objs[i]? = some (Obj.arr s fl rows)) /\ (∀ cs, objs[i]? = some (Obj.box cs) -> ∃ cs', os[i]? = some (some (Obj.box cs')))
  | [], [], _, i => by simp
  | .box cs0 :: r, some (.box cs1) :: r', h, i => by
    simp only [shapes, Bool.and_eq_true] at h
    cases i with
    | zero =>
      have h1 := nbeq_eq h.1.1
      have h2 := h.1.2
      exact ⟨fun cs' e => by simp at e; subst e; exact ⟨cs0, rfl, h1, h2⟩, fun s fl rows e => by simp at e, fun cs e => ⟨cs1, rfl⟩⟩
    | succ i => simpa using shapes_get h.2 i
  | .arr _ _ _ :: r, some (.arr _ _ _) :: r', h, i => by
    cases i with
    | zero => simp
    | succ i => simpa using shapes_get (objs := r) (os := r') h i
  | .arr _ _ _ :: r, none :: r', h, i => by
    cases i with
    | zero => simp
    | succ i => simpa using shapes_get (objs := r) (os := r') h i
  | [], _ :: _, h, _ => by simp [shapes] at h
  | .box _ :: _, [], h, _ => by simp [shapes] at h
  | .box _ :: _, none :: _, h, _ => by simp [shapes] at h
  | .box _ :: _, some (.arr _ _ _) :: _, h, _ => by simp [shapes] at h
  | .arr _ _ _ :: _, [], h, _ => by simp [shapes] at h
  | .arr _ _ _ :: _, some (.box _) :: _, h, _ => by simp [shapes] at h

theorem mem_sigC : ∀ {l : List AV} {base std j s : Nat} {fl : Bool} {rows : List (List AV)}, l[j]? = some (.own s fl rows) -> (base + j, (std + j, 0)) ∈ sigC base std l
  | [], _, _, _, _, _, _, h => by simp at h
  | v :: r, base, std, j, s, fl, rows, h => by
    cases j with
    | zero => simp at h; subst h; simp [sigC]
    | succ j =>
      have := mem_sigC (base := base + 1) (std := std + 1) (l := r) (j := j) (by simpa using h)
      rw [show base + 1 + j = base + (j + 1) by omega, show std + 1 + j = std + (j + 1) by omega] at this
      cases v <;> simp only [sigC] <;> first | exact this | exact List.mem_cons_of_mem _ this

section
variable {σ : Ren} {ln : List (List AV) -> Nat}

theorem cell_renamed (hσ : σ.ok = true) {t t' : Nat} {b : AV} (hb : b.treeC = true) (hm : ∀ s fl rows, b = .own s fl rows -> (t, (t', 0)) ∈ σ) : (adoptC ln t b).back σ = adoptC ln t' b /\ (adoptC ln t b).fits σ = true := by
  cases b with
  | own s fl rows =>
    have := (Ren.of_mem hσ (hm s fl rows rfl)).1
    simp [adoptC, AV.back, AV.fits, this]
  | ref => cases hb
  | ptr => cases hb
  | fn => cases hb
  | agg => cases hb
  | tup => cases hb
  | _ => exact ⟨rfl, rfl⟩

theorem cells_renamed (hσ : σ.ok = true) {l : List AV} {base std : Nat} (hl : l.all AV.treeC = true) (hm : ∀ q ∈ sigC base std l, q ∈ σ) : backL σ (adopt1 ln base l) = adopt1 ln std l /\ fitsL σ (adopt1 ln base l) = true := by
  have hc : ∀ j b, l[j]? = some b -> (adoptC ln (base + j) b).back σ = adoptC ln (std + j) b /\ (adoptC ln (base + j) b).fits σ = true := fun j b hb =>
    cell_renamed hσ (List.all_eq_true.1 hl b (List.mem_of_getElem? hb)) fun s fl rows e => hm _ (mem_sigC (by rw [<- e]; exact hb))
  refine ⟨List.ext_getElem? fun j => ?_, ?_⟩
  · rw [backL_get, adopt1_get, adopt1_get]
    cases hj : l[j]? with
    | none => rfl
    | some b => simp only [Option.map_some]; rw [(hc j b hj).1]
  · have : ∀ l' : List AV, (∀ (j : Nat) (u : AV), l'[j]? = some u -> u.fits σ = true) -> fitsL σ l' = true := by
      intro l'
      induction l' with
      | nil => intro _; rfl
      | cons u r ih =>
        intro h
        unfold fitsL
        rw [Bool.and_eq_true]
        exact ⟨h 0 u rfl, ih fun j u hj => h (j + 1) u (by simpa using hj)⟩
    refine this _ fun j u hu => ?_
    rw [adopt1_get] at hu
    simp only [Option.map_eq_some_iff] at hu
    obtain ⟨b, hb, rfl⟩ := hu
    exact (hc j b hb).2

theorem val_renamed (hσ : σ.ok = true) {v : AV} {base std : Nat} (hv : v.tree1 = true) (hm : ∀ q ∈ sigV base std v, q ∈ σ) : (adoptV ln base v).back σ = adoptV ln std v /\ (adoptV ln base v).fits σ = true := by
  cases v with
  | agg cells =>
    obtain ⟨h1, h2⟩ := cells_renamed (ln := ln) hσ hv hm
    exact ⟨by simp [adoptV, AV.back, h1], by simp [adoptV, AV.fits, h2]⟩
  | own s fl rows =>
    have := (Ren.of_mem hσ (hm (base, (std, 0)) (by simp [sigV]))).1
    simp [adoptV, AV.back, AV.fits, this]
  | ownp cells =>
    have := (Ren.of_mem hσ (hm (base, (std, 0)) (by simp [sigV]))).1
    simp [adoptV, AV.back, AV.fits, this, nbeq_refl]
  | ref => cases hv
  | ptr => cases hv
  | fn f a b =>
    rcases a with _ | ⟨x, a⟩ <;> rcases b with _ | ⟨y, _ | ⟨z, b⟩⟩ <;> first | (exfalso; simp [AV.tree1, AV.treeC] at hv; done) | (cases y <;> first | exact ⟨rfl, rfl⟩ | (exfalso; simp [AV.tree1, AV.treeC] at hv; done))
  | tup => cases hv
  | _ => exact ⟨rfl, rfl⟩

theorem tup_renamed (hσ : σ.ok = true) : ∀ {vs : List AV} {base std : Nat}, vs.all AV.tree1 = true -> (∀ q ∈ sigT base std vs, q ∈ σ) -> backL σ (adoptT ln base vs) = adoptT ln std vs /\ fitsL σ (adoptT ln base vs) = true
  | [], _, _, _, _ => ⟨rfl, rfl⟩
  | v :: r, base, std, hv, hm => by
    simp only [List.all_cons, Bool.and_eq_true] at hv
    obtain ⟨h1, h2⟩ := val_renamed (ln := ln) hσ hv.1 fun q hq => hm q (List.mem_append_left _ hq)
    obtain ⟨h3, h4⟩ := tup_renamed hσ (vs := r) (base := base + 100) (std := std + 100) hv.2 fun q hq => hm q (List.mem_append_right _ hq)
    simp [adoptT, backL, fitsL, h1, h2, h3, h4]

theorem res_renamed (hσ : σ.ok = true) {v : AV} {base std : Nat} (hv : v.tree = true) (hm : ∀ q ∈ sigR base std v, q ∈ σ) : (adopt ln base v).back σ = adopt ln std v /\ (adopt ln base v).fits σ = true := by
  by_cases ht : ∃ vs, v = .tup vs
  · obtain ⟨vs, rfl⟩ := ht
    obtain ⟨h1, h2⟩ := tup_renamed (ln := ln) hσ hv hm
    exact ⟨by simp [adopt, AV.back, h1], by simp [adopt, AV.fits, h2]⟩
  · have e1 : adopt ln base v = adoptV ln base v := by cases v <;> first | rfl | exact absurd ⟨_, rfl⟩ ht
    have e2 : adopt ln std v = adoptV ln std v := by cases v <;> first | rfl | exact absurd ⟨_, rfl⟩ ht
    rw [e1, e2]
    exact val_renamed hσ (by cases v <;> first | exact hv | exact absurd ⟨_, rfl⟩ ht) (by cases v <;> first | exact hm | exact absurd ⟨_, rfl⟩ ht)

end

def Pair (σ : Ren) (Q : Nat -> Prop) (id std : Nat) (o o' : Obj) : Prop :=
  (id, (std, 0)) ∈ σ /\ ((∃ s fl rows, o = .arr s fl rows /\ o' = .arr s fl rows) ∨
    ∃ cells, o = .box (adopt1 List.length (id + 1) cells) /\ o' = .box (adopt1 List.length (std + 1) cells) /\ cells.all AV.treeC = true /\ (∀ q ∈ sigC (id + 1) (std + 1) cells, q ∈ σ) /\ ∀ q ∈ (objs1 (id + 1) cells).map (·.1), Q q)

theorem pairC {σ : Ren} {Q : Nat -> Prop} {l : List AV} {base std id : Nat} {o : Obj} (h : (id, o) ∈ objs1 base l) (hm : ∀ q ∈ sigC base std l, q ∈ σ) : ∃ std' o', (std', o') ∈ objs1 std l /\ Pair σ Q id std' o o' := by
  obtain ⟨j, s, fl, rows, rfl, hj, rfl⟩ := objs1_mem h
  exact ⟨std + j, .arr s fl rows, lk_mem (objs1_get l std j hj), hm _ (mem_sigC hj), .inl ⟨s, fl, rows, rfl, rfl⟩⟩

theorem pairV {σ : Ren} {Q : Nat -> Prop} {v : AV} {base std id : Nat} {o : Obj} (hQ : ∀ q ∈ (objsV List.length base v).map (·.1), Q q) (hv : v.tree1 = true) (h : (id, o) ∈ objsV List.length base v) (hm : ∀ q ∈ sigV base std v, q ∈ σ) : ∃ std' o', (std', o') ∈ objsV List.length std v /\ Pair σ Q id std' o o' := by
  cases v with
  | agg cells => exact pairC h hm
  | own s fl rows =>
    simp only [objsV, List.mem_singleton] at h
    cases h
    exact ⟨std, _, by simp [objsV], hm _ (by simp [sigV]), .inl ⟨_, _, _, rfl, rfl⟩⟩
  | ownp cells =>
    simp only [objsV] at h
    rcases List.mem_cons.1 h with h | h
    · cases h
      exact ⟨std, _, by simp [objsV], hm _ (by simp [sigV]), .inr ⟨cells, rfl, rfl, hv, fun q hq => hm q (by simp [sigV, hq]), fun q hq => hQ q (by simp only [objsV, List.map_cons]; exact List.mem_cons_of_mem _ hq)⟩⟩
    · obtain ⟨std', o', h1, h2⟩ := pairC h fun q hq => hm q (by simp only [sigV]; exact List.mem_cons_of_mem _ hq)
      exact ⟨std', o', by simp only [objsV]; exact List.mem_cons_of_mem _ h1, h2⟩
  | _ => simp [objsV] at h

theorem pairT {σ : Ren} {Q : Nat -> Prop} : ∀ {vs : List AV} {base std id : Nat} {o : Obj}, (∀ q ∈ (objsT List.length base vs).map (·.1), Q q) -> vs.all AV.tree1 = true -> (id, o) ∈ objsT List.length base vs -> (∀ q ∈ sigT base std vs, q ∈ σ) -> ∃ std' o', (std', o') ∈ objsT List.length std vs /\ Pair σ Q id std' o o'
  | [], _, _, _, _, _, _, h, _ => by simp [objsT] at h
  | v :: r, base, std, id, o, hQ, hv, h, hm => by
    simp only [objsT, List.map_append, List.mem_append] at hQ
    simp only [List.all_cons, Bool.and_eq_true] at hv
    unfold objsT at h
    rcases List.mem_append.1 h with h | h
    · obtain ⟨std', o', h1, h2⟩ := pairV (std := std) (fun q hq => hQ q (.inl hq)) hv.1 h fun q hq => hm q (List.mem_append_left _ hq)
      exact ⟨std', o', List.mem_append_left _ h1, h2⟩
    · obtain ⟨std', o', h1, h2⟩ := pairT (std := std + 100) (fun q hq => hQ q (.inr hq)) hv.2 h fun q hq => hm q (List.mem_append_right _ hq)
      exact ⟨std', o', List.mem_append_right _ h1, h2⟩

theorem pairR {σ : Ren} {Q : Nat -> Prop} {v : AV} {base std id : Nat} {o : Obj} (hQ : ∀ q ∈ (objsOf List.length base v).map (·.1), Q q) (hv : v.tree = true) (h : (id, o) ∈ objsOf List.length base v) (hm : ∀ q ∈ sigR base std v, q ∈ σ) : ∃ std' o', (std', o') ∈ objsOf List.length std v /\ Pair σ Q id std' o o' := by
  by_cases ht : ∃ vs, v = .tup vs
  · obtain ⟨vs, rfl⟩ := ht
    exact pairT hQ hv h hm
  · have hv' : v.tree1 = true := by cases v <;> first | exact hv | exact absurd ⟨_, rfl⟩ ht
    have h' : (id, o) ∈ objsV List.length base v := by cases v <;> first | exact h | exact absurd ⟨_, rfl⟩ ht
    have hm' : ∀ q ∈ sigV base std v, q ∈ σ := by cases v <;> first | exact hm | exact absurd ⟨_, rfl⟩ ht
    have hQ' : ∀ q ∈ (objsV List.length base v).map (·.1), Q q := by cases v <;> first | exact hQ | exact absurd ⟨_, rfl⟩ ht
    obtain ⟨std', o', h1, h2⟩ := pairV hQ' hv' h' hm'
    exact ⟨std', o', by cases v <;> first | exact h1 | exact absurd ⟨_, rfl⟩ ht, h2⟩

theorem backSto_mem {ln : List (List AV) -> Nat} {ρ : Ren} {lab : Nat} : ∀ {os : List (Option Obj)} {k id : Nat} {o : Obj}, (id, o) ∈ backSto ln st ρ lab k os ->
    (∃ i cells fld cs, os[i]? = some (some (.box cells)) /\ lk ρ (gl (k + i)) = some (id, fld) /\ lk st.sto id = some (.box cs) /\ o = .box (setMany cs fld (adopt1 ln (labK lab (k + i)) cells))) ∨
    (∃ i cells idb, os[i]? = some (some (.box cells)) /\ lk ρ (gl (k + i)) = some idb /\ (id, o) ∈ objs1 (labK lab (k + i)) cells) ∨
    (∃ i s fl rows off, os[i]? = some (some (.arr s fl rows)) /\ lk ρ (gl (k + i)) = some (id, off) /\ o = .arr s fl rows)
  | [], _, _, _, h => by simp [backSto] at h
  | x :: r, k, id, o, h => by
    have up : (id, o) ∈ backSto ln st ρ lab (k + 1) r -> _ := fun h => backSto_mem (os := r) h
    have up' : (id, o) ∈ backSto ln st ρ lab (k + 1) r ->
        (∃ i cells fld cs, (x :: r)[i]? = some (some (Obj.box cells)) /\ lk ρ (gl (k + i)) = some (id, fld) /\ lk st.sto id = some (.box cs) /\ o = .box (setMany cs fld (adopt1 ln (labK lab (k + i)) cells))) ∨
        (∃ i cells idb, (x :: r)[i]? = some (some (Obj.box cells)) /\ lk ρ (gl (k + i)) = some idb /\ (id, o) ∈ objs1 (labK lab (k + i)) cells) ∨
        (∃ i s fl rows off, (x :: r)[i]? = some (some (Obj.arr s fl rows)) /\ lk ρ (gl (k + i)) = some (id, off) /\ o = .arr s fl rows) := fun h => by
      rcases up h with ⟨i, cells, fld, cs, h1, h2, h3, h4⟩ | ⟨i, cells, idb, h1, h2, h3⟩ | ⟨i, s, fl, rows, off, h1, h2, h3⟩
      · exact .inl ⟨i + 1, cells, fld, cs, by simpa using h1, by rw [show k + (i + 1) = k + 1 + i by omega]; exact h2, h3, by rw [show k + (i + 1) = k + 1 + i by omega]; exact h4⟩
      · exact .inr (.inl ⟨i + 1, cells, idb, by simpa using h1, by rw [show k + (i + 1) = k + 1 + i by omega]; exact h2, by rw [show k + (i + 1) = k + 1 + i by omega]; exact h3⟩)
      · exact .inr (.inr ⟨i + 1, s, fl, rows, off, by simpa using h1, by rw [show k + (i + 1) = k + 1 + i by omega]; exact h2, h3⟩)
    cases x with
    | none => exact up' h
    | some ob =>
      cases ob with
      | box cells =>
        simp only [backSto] at h
        rcases List.mem_append.1 h with h | h
        · split at h
          · rename_i idb fld hq
            split at h
            · rename_i cs hq2
              rcases List.mem_cons.1 h with h | h
              · cases h
                exact .inl ⟨0, cells, fld, cs, rfl, hq, hq2, rfl⟩
              · exact .inr (.inl ⟨0, cells, _, rfl, hq, h⟩)
            · cases h
          · cases h
        · exact up' h
      | arr s fl rows =>
        simp only [backSto] at h
        rcases List.mem_append.1 h with h | h
        · split at h
          · rename_i L off hq
            simp only [List.mem_singleton] at h
            cases h
            exact .inr (.inr ⟨0, s, fl, rows, off, rfl, hq, rfl⟩)
          · cases h
        · exact up' h

theorem sigO_mem {ρ : Ren} {lab : Nat} : ∀ {os : List (Option Obj)} {k i : Nat}, (∀ cells idb, os[i]? = some (some (Obj.box cells)) -> lk ρ (gl (k + i)) = some idb -> (idb.1, (gl (k + i), 0)) ∈ sigO st ρ lab k os /\ ∀ q ∈ sigC (labK lab (k + i)) (gl (k + i) + 1) cells, q ∈ sigO st ρ lab k os) /\
    (∀ s fl rows idb, os[i]? = some (some (Obj.arr s fl rows)) -> lk ρ (gl (k + i)) = some idb -> (idb.1, (gl (k + i), 0)) ∈ sigO st ρ lab k os)
  | [], k, i => by simp
  | x :: r, k, 0 => by
    refine ⟨fun cells idb h1 h2 => ?_, fun s fl rows idb h1 h2 => ?_⟩
    · simp at h1; subst h1
      rw [Nat.add_zero] at h2 ⊢
      simp only [sigO, h2]
      exact ⟨List.mem_append_left _ (List.mem_cons_self ..), fun q hq => List.mem_append_left _ (List.mem_cons_of_mem _ hq)⟩
    · simp at h1; subst h1
      rw [Nat.add_zero] at h2 ⊢
      simp only [sigO, h2]
      exact List.mem_append_left _ (List.mem_singleton.2 rfl)
  | x :: r, k, i + 1 => by
    have ih := sigO_mem (ρ := ρ) (lab := lab) (os := r) (k := k + 1) (i := i)
    rw [show k + 1 + i = k + (i + 1) by omega] at ih
    have up : ∀ q, q ∈ sigO st ρ lab (k + 1) r -> q ∈ sigO st ρ lab k (x :: r) := fun q hq => by
      cases x with
      | none => exact hq
      | some ob => cases ob <;> exact List.mem_append_right _ hq
    refine ⟨fun cells idb h1 h2 => ?_, fun s fl rows idb h1 h2 => ?_⟩
    · obtain ⟨h3, h4⟩ := ih.1 cells idb (by simpa using h1) h2
      exact ⟨up _ h3, fun q hq => up _ (h4 q hq)⟩
    · exact up _ (ih.2 s fl rows idb (by simpa using h1) h2)

theorem arrPl_mem {ρ : Ren} : ∀ {os : List (Option Obj)} {k L : Nat}, L ∈ arrPl ρ k os ↔ ∃ i s fl rows off, os[i]? = some (some (Obj.arr s fl rows)) /\ lk ρ (gl (k + i)) = some (L, off)
  | [], k, L => by simp [arrPl]
  | x :: r, k, L => by
    have ih := arrPl_mem (ρ := ρ) (os := r) (k := k + 1) (L := L)
    have shift : (∃ i s fl rows off, r[i]? = some (some (Obj.arr s fl rows)) /\ lk ρ (gl (k + 1 + i)) = some (L, off)) ↔ ∃ i s fl rows off, (x :: r)[i + 1]? = some (some (Obj.arr s fl rows)) /\ lk ρ (gl (k + (i + 1))) = some (L, off) := by
      constructor
      · rintro ⟨i, s, fl, rows, off, h1, h2⟩
        exact ⟨i, s, fl, rows, off, by simpa using h1, by rw [show k + (i + 1) = k + 1 + i by omega]; exact h2⟩
      · rintro ⟨i, s, fl, rows, off, h1, h2⟩
        exact ⟨i, s, fl, rows, off, by simpa using h1, by rw [show k + (i + 1) = k + 1 + i by omega] at h2; exact h2⟩
    have hsplit : (∃ i s fl rows off, (x :: r)[i]? = some (some (Obj.arr s fl rows)) /\ lk ρ (gl (k + i)) = some (L, off)) ↔ (∃ s fl rows off, x = some (Obj.arr s fl rows) /\ lk ρ (gl k) = some (L, off)) ∨ ∃ i s fl rows off, (x :: r)[i + 1]? = some (some (Obj.arr s fl rows)) /\ lk ρ (gl (k + (i + 1))) = some (L, off) := by
      constructor
      · rintro ⟨i, s, fl, rows, off, h1, h2⟩
        cases i with
        | zero => exact .inl ⟨s, fl, rows, off, by simpa using h1, h2⟩
        | succ i => exact .inr ⟨i, s, fl, rows, off, h1, h2⟩
      · rintro (⟨s, fl, rows, off, rfl, h2⟩ | ⟨i, s, fl, rows, off, h1, h2⟩)
        · exact ⟨0, s, fl, rows, off, rfl, h2⟩
        · exact ⟨i + 1, s, fl, rows, off, h1, h2⟩
    rw [hsplit, <- shift, <- ih]
    cases x with
    | none => simp [arrPl]
    | some ob =>
      cases ob with
      | box cells => simp [arrPl]
      | arr s fl rows =>
        simp only [arrPl, List.mem_append]
        refine or_congr ?_ Iff.rfl
        constructor
        · intro h
          split at h
          · rename_i L' off hq
            simp at h; subst h
            exact ⟨s, fl, rows, off, rfl, hq⟩
          · cases h
        · rintro ⟨s', fl', rows', off, _, h⟩
          rw [h]; simp

theorem sigC_key : ∀ {l : List AV} {base std : Nat} {q : Nat × Nat × Nat}, q ∈ sigC base std l -> q.1 ∈ (objs1 base l).map (·.1)
  | [], _, _, _, h => by simp [sigC] at h
  | v :: r, base, std, q, h => by
    cases v with
    | own s fl rows =>
      simp only [sigC] at h
      rcases List.mem_cons.1 h with h | h
      · subst h; simp [objs1]
      · simp only [objs1, List.map_cons]; exact List.mem_cons_of_mem _ (sigC_key h)
    | _ => exact sigC_key (l := r) (base := base + 1) (std := std + 1) h

theorem sigV_key {ln : List (List AV) -> Nat} {v : AV} {base std : Nat} {q : Nat × Nat × Nat} (h : q ∈ sigV base std v) : q.1 ∈ (objsV ln base v).map (·.1) := by
  cases v with
  | agg cells => exact sigC_key h
  | own s fl rows => simp only [sigV, List.mem_singleton] at h; subst h; simp [objsV]
  | ownp cells =>
    simp only [sigV] at h
    rcases List.mem_cons.1 h with h | h
    · subst h; simp [objsV]
    · simp only [objsV, List.map_cons]; exact List.mem_cons_of_mem _ (sigC_key h)
  | _ => simp [sigV] at h

theorem sigT_key {ln : List (List AV) -> Nat} : ∀ {vs : List AV} {base std : Nat} {q : Nat × Nat × Nat}, q ∈ sigT base std vs -> q.1 ∈ (objsT ln base vs).map (·.1)
  | [], _, _, _, h => by simp [sigT] at h
  | v :: r, base, std, q, h => by
    simp only [objsT, List.map_append, List.mem_append]
    rcases List.mem_append.1 h with h | h
    · exact .inl (sigV_key h)
    · exact .inr (sigT_key h)

theorem sigR_key {ln : List (List AV) -> Nat} {v : AV} {base std : Nat} {q : Nat × Nat × Nat} (h : q ∈ sigR base std v) : q.1 ∈ (objsOf ln base v).map (·.1) := by
  by_cases ht : ∃ vs, v = .tup vs
  · obtain ⟨vs, rfl⟩ := ht
    exact sigT_key h
  · have e1 : sigR base std v = sigV base std v := by cases v <;> first | rfl | exact absurd ⟨_, rfl⟩ ht
    have e2 : objsOf ln base v = objsV ln base v := by cases v <;> first | rfl | exact absurd ⟨_, rfl⟩ ht
    rw [e1] at h
    rw [e2]
    exact sigV_key h

theorem adopt1_ids {ln : List (List AV) -> Nat} {l : List AV} {base id : Nat} (hl : l.all AV.treeC = true) (h : id ∈ idsL (adopt1 ln base l)) : id ∈ (objs1 base l).map (·.1) := by
  obtain ⟨v, hv, hi⟩ := idsL_mem_inv h
  obtain ⟨j, hj⟩ := List.getElem?_of_mem hv
  rw [adopt1_get] at hj
  simp only [Option.map_eq_some_iff] at hj
  obtain ⟨b, hb, rfl⟩ := hj
  have ht := List.all_eq_true.1 hl b (List.mem_of_getElem? hb)
  cases b with
  | own s fl rows =>
    simp only [adoptC, AV.ids, List.mem_singleton] at hi
    subst hi
    exact List.mem_map.2 ⟨_, lk_mem (objs1_get l base j hb), rfl⟩
  | ref => cases ht
  | ptr => cases ht
  | fn => cases ht
  | agg => cases ht
  | tup => cases ht
  | _ => simp [adoptC, AV.ids] at hi

theorem adoptV_ids {ln : List (List AV) -> Nat} {v : AV} {base id : Nat} (hv : v.tree1 = true) (h : id ∈ (adoptV ln base v).ids) : id ∈ (objsV ln base v).map (·.1) := by
  cases v with
  | agg cells => simp only [adoptV] at h; unfold AV.ids at h; exact adopt1_ids hv h
  | own s fl rows => simp only [adoptV, AV.ids, List.mem_singleton] at h; subst h; simp [objsV]
  | ownp cells => simp only [adoptV, AV.ids, List.mem_singleton] at h; subst h; simp [objsV]
  | ref => cases hv
  | ptr => cases hv
  | fn f a b =>
    rcases a with _ | ⟨x, a⟩ <;> rcases b with _ | ⟨y, _ | ⟨z, b⟩⟩ <;> first | (exfalso; simp [AV.tree1, AV.treeC] at hv; done) | (cases y <;> first | (simp [adoptV, AV.ids, idsL] at h; done) | (exfalso; simp [AV.tree1, AV.treeC] at hv; done))
  | tup => cases hv
  | _ => simp [adoptV, AV.ids] at h

theorem adopt_ids {ln : List (List AV) -> Nat} {v : AV} {base id : Nat} (hv : v.tree = true) (h : id ∈ (adopt ln base v).ids) : id ∈ (objsOf ln base v).map (·.1) := by
  by_cases ht : ∃ vs, v = .tup vs
  · obtain ⟨vs, rfl⟩ := ht
    simp only [adopt] at h
    unfold AV.ids at h
    have : ∀ (l : List AV) (b : Nat), l.all AV.tree1 = true -> id ∈ idsL (adoptT ln b l) -> id ∈ (objsT ln b l).map (·.1) := by
      intro l
      induction l with
      | nil => intro b _ h; simp [adoptT, idsL] at h
      | cons u r ih =>
        intro b hl h
        simp only [List.all_cons, Bool.and_eq_true] at hl
        simp only [adoptT] at h
        unfold idsL at h
        simp only [objsT, List.map_append, List.mem_append]
        rcases List.mem_append.1 h with h | h
        · exact .inl (adoptV_ids hl.1 h)
        · exact .inr (ih _ hl.2 h)
    exact this vs base hv h
  · have e1 : adopt ln base v = adoptV ln base v := by cases v <;> first | rfl | exact absurd ⟨_, rfl⟩ ht
    have e2 : objsOf ln base v = objsV ln base v := by cases v <;> first | rfl | exact absurd ⟨_, rfl⟩ ht
    rw [e1] at h
    rw [e2]
    exact adoptV_ids (by cases v <;> first | exact hv | exact absurd ⟨_, rfl⟩ ht) h

theorem sigO_key {ρ : Ren} {lab : Nat} : ∀ {os : List (Option Obj)} {k : Nat} {q : Nat × Nat × Nat}, q ∈ sigO st ρ lab k os -> (∃ i p, lk ρ (gl (k + i)) = some p /\ q.1 = p.1) ∨ (∃ i cells p, os[i]? = some (some (Obj.box cells)) /\ lk ρ (gl (k + i)) = some p /\ q.1 ∈ (objs1 (labK lab (k + i)) cells).map (·.1))
  | [], _, _, h => by simp [sigO] at h
  | x :: r, k, q, h => by
    have up : q ∈ sigO st ρ lab (k + 1) r -> (∃ i p, lk ρ (gl (k + i)) = some p /\ q.1 = p.1) ∨ (∃ i cells p, (x :: r)[i]? = some (some (Obj.box cells)) /\ lk ρ (gl (k + i)) = some p /\ q.1 ∈ (objs1 (labK lab (k + i)) cells).map (·.1)) := fun h => by
      rcases sigO_key h with ⟨i, p, h1, h2⟩ | ⟨i, cells, p, h1, h2, h3⟩
      · exact .inl ⟨i + 1, p, by rw [show k + (i + 1) = k + 1 + i by omega]; exact h1, h2⟩
      · exact .inr ⟨i + 1, cells, p, by simpa using h1, by rw [show k + (i + 1) = k + 1 + i by omega]; exact h2, by rw [show k + (i + 1) = k + 1 + i by omega]; exact h3⟩
    cases x with
    | none => exact up h
    | some ob =>
      cases ob with
      | box cells =>
        simp only [sigO] at h
        rcases List.mem_append.1 h with h | h
        · split at h
          · rename_i idb fld hq
            rcases List.mem_cons.1 h with h | h
            · subst h; exact .inl ⟨0, _, hq, rfl⟩
            · exact .inr ⟨0, cells, _, rfl, hq, sigC_key h⟩
          · cases h
        · exact up h
      | arr s fl rows =>
        simp only [sigO] at h
        rcases List.mem_append.1 h with h | h
        · split at h
          · rename_i L off hq
            simp only [List.mem_singleton] at h
            subst h; exact .inl ⟨0, _, hq, rfl⟩
          · cases h
        · exact up h

theorem backSto_box {ln : List (List AV) -> Nat} {ρ : Ren} {lab : Nat} : ∀ {os : List (Option Obj)} {k i : Nat} {cells cs : List AV} {id fld : Nat}, os[i]? = some (some (Obj.box cells)) -> lk ρ (gl (k + i)) = some (id, fld) -> lk st.sto id = some (.box cs) ->
    (id, Obj.box (setMany cs fld (adopt1 ln (labK lab (k + i)) cells))) ∈ backSto ln st ρ lab k os /\ ∀ q ∈ objs1 (labK lab (k + i)) cells, q ∈ backSto ln st ρ lab k os
  | [], _, _, _, _, _, _, h, _, _ => by simp at h
  | x :: r, k, i, cells, cs, id, fld, h1, h2, h3 => by
    cases i with
    | zero =>
      simp at h1; subst h1
      rw [Nat.add_zero] at h2 ⊢
      simp only [backSto, h2, h3]
      exact ⟨List.mem_append_left _ (List.mem_cons_self ..), fun q hq => List.mem_append_left _ (List.mem_cons_of_mem _ hq)⟩
    | succ i =>
      obtain ⟨g1, g2⟩ := backSto_box (ln := ln) (lab := lab) (os := r) (k := k + 1) (i := i) (by simpa using h1) (by rw [show k + 1 + i = k + (i + 1) by omega]; exact h2) h3
      rw [show k + 1 + i = k + (i + 1) by omega] at g1 g2
      have up : ∀ q, q ∈ backSto ln st ρ lab (k + 1) r -> q ∈ backSto ln st ρ lab k (x :: r) := fun q hq => by
        cases x with
        | none => exact hq
        | some ob => cases ob <;> exact List.mem_append_right _ hq
      exact ⟨up _ g1, fun q hq => up _ (g2 q hq)⟩

end Go.Proofs.YtihfpbhalnedcaaGreat.AM

namespace Go.Proofs.YtihfpbhalnedcaaGreat.AM
open Go Go.RowKit

variable {P : Program} {T : Nat -> Option TI} {E E0 : Env} {st : St} {a : Act} {K : AV -> St -> Prop} {o : Oper}

structure Dl where
  sto : List (Nat × Option Obj)
  used : List Nat
  rd : List Nat

def updSto : List (Nat × Option Obj) -> List (Nat × Obj) -> List (Nat × Obj)
  | [], s => s
  | (k, some o) :: r, s => (k, o) :: updSto r s
  | (k, none) :: r, s => rm (updSto r s) k

def St.upd (st : St) (d : Dl) : St := { st with sto := updSto d.sto st.sto, used := d.used ++ st.used }

def Dl.no : Dl := ⟨[], [], []⟩

theorem lk_updSto (l : List (Nat × Option Obj)) (s : List (Nat × Obj)) (id : Nat) : lk (updSto l s) id = (lk l id).getD (lk s id) := by
  induction l with
  | nil => rfl
  | cons p r ih =>
    obtain ⟨k, x⟩ := p
    cases x with
    | some o =>
      show lk ((k, o) :: updSto r s) id = _
      rw [lk_cons, lk_cons, ih]
      by_cases h : k = id
      · rw [if_pos h, if_pos h]; rfl
      · rw [if_neg h, if_neg h]
    | none =>
      show lk (rm (updSto r s) k) id = _
      rw [lk_rm, lk_cons, ih]
      by_cases h : k = id
      · rw [if_pos h, if_pos h]; rfl
      · rw [if_neg h, if_neg h]

def boxIds (st : St) (i : Nat) : List Nat :=
  match lk st.sto i with
  | some (.box cells) => idsL cells
  | _ => []

def deepIds (st : St) (i : Nat) : List Nat :=
  match lk st.sto i with
  | some (.arr _ false rows) => rows.flatMap idsL
  | _ => []

def rdCall (dp : Bool) (st : St) (avs : List AV) : List Nat :=
  idsL avs ++ (idsL avs).flatMap (boxIds st) ++ (match dp with
    | true => (idsL avs).flatMap (deepIds st)
    | false => [])

def backD (dp : Bool) (ln : List (List AV) -> Nat) (st : St) (avs bs : List AV) (objs : List Obj) (lab : Nat) (os : List (Option Obj)) (v : AV) : Dl :=
  ⟨(newSto ln st (rhoA avs bs) lab os v).map (fun p => (p.1, some p.2)) ++ (rhoG st avs bs objs).map (fun p => (p.2.1, none)), backUsed st (rhoA avs bs) lab os v, rdCall dp st avs⟩

theorem lk_map_some (l : List (Nat × Obj)) (id : Nat) : lk (l.map fun p => (p.1, some p.2)) id = (lk l id).map some := by
  induction l with
  | nil => rfl
  | cons p r ih =>
    obtain ⟨k, o⟩ := p
    simp only [List.map_cons, lk_cons, ih]
    split <;> rfl

theorem lk_map_none (ρ : Ren) (id : Nat) : lk (ρ.map fun p => (p.2.1, (none : Option Obj))) id = if (Ren.inv ρ id).isSome then some none else none := by
  induction ρ with
  | nil => rfl
  | cons p r ih =>
    obtain ⟨t, s, o⟩ := p
    simp only [List.map_cons, lk_cons, ih, Ren.inv]
    by_cases h : s = id
    · subst h; simp [nbeq_refl]
    · simp [nbeq_ne h, h]

theorem objsV_keys (ln ln' : List (List AV) -> Nat) (b : Nat) (v : AV) : (objsV ln b v).map (·.1) = (objsV ln' b v).map (·.1) := by
  cases v <;> simp [objsV]

theorem objsOf_keys (ln ln' : List (List AV) -> Nat) (b : Nat) (v : AV) : (objsOf ln b v).map (·.1) = (objsOf ln' b v).map (·.1) := by
  by_cases ht : ∃ vs, v = .tup vs
  · obtain ⟨vs, rfl⟩ := ht
    show (objsT ln b vs).map _ = (objsT ln' b vs).map _
    induction vs generalizing b with
    | nil => rfl
    | cons u r ih => simp only [objsT, List.map_append]; rw [objsV_keys ln ln', ih]
  · have e : ∀ l, objsOf l b v = objsV l b v := fun l => by cases v <;> first | rfl | exact absurd ⟨_, rfl⟩ ht
    rw [e, e]; exact objsV_keys ln ln' b v

theorem backSto_keys (ln ln' : List (List AV) -> Nat) (ρ : Ren) (lab : Nat) : ∀ (os : List (Option Obj)) (k : Nat), (backSto ln st ρ lab k os).map (·.1) = (backSto ln' st ρ lab k os).map (·.1)
  | [], _ => rfl
  | none :: r, k => backSto_keys ln ln' ρ lab r (k + 1)
  | some (.box cells) :: r, k => by
    simp only [backSto, List.map_append]
    rw [backSto_keys ln ln' ρ lab r (k + 1)]
    congr 1
    split
    · split <;> rfl
    · rfl
  | some (.arr s fl rows) :: r, k => by
    simp only [backSto, List.map_append]
    rw [backSto_keys ln ln' ρ lab r (k + 1)]

theorem newSto_keys (ln ln' : List (List AV) -> Nat) (ρ : Ren) (lab : Nat) (os : List (Option Obj)) (v : AV) : (newSto ln st ρ lab os v).map (·.1) = (newSto ln' st ρ lab os v).map (·.1) := by
  simp only [newSto, List.map_append]
  rw [objsOf_keys ln ln', backSto_keys ln ln']

section
variable {al dp : Bool} {avs bs : List AV} {objs : List Obj}

theorem call_back (hs : Sim E st a) (h : Gives st al dp avs bs objs) {lab : Nat} (hfresh : freshL lab st.used = true) {E' : Env} {v : AV} {os : List (Option Obj)} {x : Value} (hlen : os.length = objs.length)
    (hf : Fr ((E.given al (rhoG st avs bs objs) objs).only (kept os)) E') (hwf : E'.Wf) (hrel : Rel (E'.cut al (E.given al (rhoG st avs bs objs) objs)) (adopt List.length rl v) x)
    (hobj : ∀ id o, (id, o) ∈ flatsO List.length 0 os ++ objsOf List.length rl v -> ORel (E'.cut al (E.given al (rhoG st avs bs objs) objs)) id o /\ (∀ s rows, o = .arr s false rows -> FreeRows al rows))
    (hchk : backChk st (rhoA avs bs) lab objs os v = true) :
    ∃ E2, E2.w = E'.w /\ Fr E E2 /\ Sim E2 (st.upd (backD dp List.length st avs bs objs lab os v)) a /\ Rel E2 (adopt List.length lab v) x := by
  have hrok := h.rok
  have hfew := h.few
  obtain ⟨hwfc, _, _⟩ := h.sim hs
  unfold backChk at hchk
  simp only [Bool.and_eq_true] at hchk
  obtain ⟨⟨⟨hσ, hshape⟩, htree⟩, hinl⟩ := hchk
  have hsh := shapes_get hshape
  unfold freshL at hfresh
  rw [Bool.and_eq_true] at hfresh
  have hlab0 := nble_le hfresh.2
  have hnotin : ∀ id, st.used.elem id = true -> inLab lab id = false := fun id hu => by
    have := List.all_eq_true.1 hfresh.1 id (by rwa [List.elem_iff] at hu)
    rw [Bool.or_eq_true] at this
    unfold inLab
    rcases this with h1 | h1
    · rw [nblt_eq] at h1
      have : nble lab id = false := by simp [nble]; omega
      simp [this]
    · have h1 := nble_le h1
      have : nblt id (lab + 10000) = false := by simp [nblt]; omega
      simp [this]
  generalize hρ : rhoG st avs bs objs = ρ at *
  generalize hσe : sigA st (rhoA avs bs) lab os v = σ at hσ
  let Ec := E.given al ρ objs
  have hwc : Ec.w = E.w := rfl
  have hheadG : ∀ {i : Nat} {p : Nat × Nat}, lk (rhoA avs bs) (gl i) = some p -> lk ρ (gl i) = some p := fun hp => by rw [<- hρ]; exact h.head.2 hp
  have hσR : ∀ q ∈ sigR lab rl v, q ∈ σ := fun q hq => by rw [<- hσe]; exact List.mem_append_left _ hq
  have hσO : ∀ q ∈ sigO st (rhoA avs bs) lab 0 os, q ∈ σ := fun q hq => by rw [<- hσe]; exact List.mem_append_right _ hq
  -- the old memory
  have hold : ∀ b, b < E.w.heap.size -> Ec.tag b = none -> E'.w.heap[b]? = E.w.heap[b]? /\ E'.tag b = none := fun b hb ht => by
    refine ⟨hf.block b hb ht, ?_⟩
    cases hq : E'.tag b with
    | none => rfl
    | some τ =>
      rcases hf.tag b (by rw [hq]; simp) with h1 | h1
      · exact absurd ht h1
      · exact absurd hb (Nat.not_lt.2 h1)
  let S2 : Nat -> Prop := fun b => E.S b ∨ (E'.S b /\ E.w.heap.size <= b)
  let F : Env := (E'.cut al Ec).ren σ S2 E.win
  let arrs := arrPl (rhoA avs bs) 0 os
  let tag2 : Nat -> Option Tag := fun b => match F.tag b with
    | some τ => some τ
    | none => if (Ec.tag b).isSome then none else E.tag b
  let loc2 : Nat -> Option Loc := fun id => if inLab lab id = true ∨ id ∈ arrs then F.loc id else E.loc id
  let E2 : Env := ⟨E'.w, S2, tag2, loc2, E.win⟩
  have hSF : ∀ b, (E'.cut al Ec).S b -> S2 b := fun b hb => by
    obtain ⟨h1, h2⟩ := hb
    rcases h2 with ⟨hal, h2⟩ | h2
    · subst hal; exact .inl h2
    · exact .inr ⟨h1, h2⟩
  -- places of arrays that are given back
  have harr0 : ∀ (i : Nat) (s : Nat) (fl : Bool) (rows : List (List AV)) (p : Nat × Nat), os[i]? = some (some (.arr s fl rows)) -> lk (rhoA avs bs) (gl i) = some p -> p.2 = 0 /\ ∃ s fl rows0, lk st.sto p.1 = some (.arr s fl rows0) := fun i s fl rows p h1 h2 => by
    obtain ⟨s', fl', rows', h3⟩ := (hsh i).2.1 s fl rows h1
    have := arrAt h.objs h3
    rw [Nat.zero_add, h2] at this
    rcases this with ⟨h4, _⟩ | ⟨L', rows0, h4, h5, _⟩
    · cases h4
    · cases h4; exact ⟨rfl, _, _, _, h5⟩
  have harr : ∀ L, L ∈ arrs -> ∃ (i : Nat) (s : Nat) (fl : Bool) (rows : List (List AV)), os[i]? = some (some (.arr s fl rows)) /\ lk (rhoA avs bs) (gl i) = some (L, 0) /\ ∃ s fl rows0, lk st.sto L = some (.arr s fl rows0) := fun L hL => by
    obtain ⟨i, s, fl, rows, off, h1, h2⟩ := arrPl_mem.1 hL
    rw [Nat.zero_add] at h2
    obtain ⟨h3, h4⟩ := harr0 i s fl rows _ h1 h2
    simp only at h3
    subst h3
    exact ⟨i, s, fl, rows, h1, h2, h4⟩
  have hkept : ∀ (i : Nat) (ob : Obj), os[i]? = some (some ob) -> kept os (gl i) = true := fun i ob hi => by
    unfold kept
    refine List.any_eq_true.2 ⟨i, List.mem_range.2 (List.getElem?_eq_some_iff.1 hi).1, ?_⟩
    rw [nbeq_refl, hi]; rfl
  have hglow : ∀ i, i < objs.length -> gl i < lab0 := fun i hi => by unfold gl lab0; omega
  have hkloc : ∀ (i : Nat) (ob : Obj), os[i]? = some (some ob) -> ∀ L, Ec.loc (gl i) = some L -> E'.loc (gl i) = some L := fun i ob hi L hL =>
    hf.keep (gl i) L (hglow i (by rw [<- hlen]; exact (List.getElem?_eq_some_iff.1 hi).1)) (by show (if kept os (gl i) = true then Ec.loc (gl i) else none) = some L; rw [if_pos (hkept i ob hi)]; exact hL)
  have hloc : ∀ id L, E.loc id = some L -> loc2 id = some L := fun id L hL => by
    show (if _ then _ else _) = _
    by_cases hc : inLab lab id = true ∨ id ∈ arrs
    · rw [if_pos hc]
      rcases hc with hc | hc
      · rw [hnotin id (hs.used id L hL)] at hc; cases hc
      · obtain ⟨i, s, fl, rows, h1, h2, _⟩ := harr id hc
        have hEc : Ec.loc (gl i) = some (L.shift 0) := by
          show (lk ρ (gl i)).bind _ = _
          rw [hheadG h2]; simp [hL]
        have hE' := hkloc i _ h1 _ hEc
        have hm := (sigO_mem (st := st) (ρ := rhoA avs bs) (lab := lab) (os := os) (k := 0) (i := i)).2 s fl rows (id, 0) h1 (by rw [Nat.zero_add]; exact h2)
        rw [Nat.zero_add] at hm
        have hl := (Ren.of_mem hσ (hσO _ hm)).1
        show (lk σ id).bind _ = _
        rw [hl]
        simp only [Option.bind_some]
        show (E'.loc (gl i)).map _ = _
        rw [hE']
        simp [Loc.shift]
    · rw [if_neg hc]; exact hL
  -- what a name that is given stands for
  have hkind : ∀ s t off, ρ.inv s = some (t, off) -> (∃ i cells cs, t = gl i /\ objs[i]? = some (.box cells) /\ lk (rhoA avs bs) (gl i) = some (s, off) /\ lk st.sto s = some (.box cs) /\ off + cells.length <= cs.length) ∨ ∃ sz fl rows, lk st.sto s = some (.arr sz fl rows) := fun s t off hi => by
    have hl := Ren.lk_of hrok hi
    obtain ⟨ob, hob⟩ := h.tgt (by rw [hρ]; exact hl)
    obtain ⟨i, o, hio, hfl⟩ := flats_lk hob
    rw [Nat.zero_add] at hfl
    cases o with
    | arr sz fl rows =>
      rcases flat1_lk hfl with ⟨e1, _⟩ | ⟨_, _, _, _, _, e, _⟩
      · subst e1
        have h1 := h.head.1 (by rw [hρ]; exact hl)
        have := arrAt h.objs hio
        rw [Nat.zero_add, h1] at this
        rcases this with ⟨h4, _⟩ | ⟨L', rows0, h4, h5, _⟩
        · cases h4
        · cases h4; exact .inr ⟨_, _, _, h5⟩
      · cases e
    | box cells =>
      obtain ⟨id', fld, cs, h1, h2, h3, h4, h5⟩ := boxAt h.objs hio
      rw [Nat.zero_add] at h1
      rcases flat1_lk hfl with ⟨e1, _⟩ | ⟨cells', j, s', fl', rows, e, e1, hj, _⟩
      · subst e1
        rw [hheadG h1] at hl
        cases hl
        exact .inl ⟨i, cells, cs, rfl, hio, h1, h2, h3⟩
      · cases e
        subst e1
        have hjl := (List.getElem?_eq_some_iff.1 hj).1
        have hv := List.getElem?_eq_getElem (show fld + j < cs.length by omega)
        have hc := h.cell hio h1 h2 hv hj
        rw [hρ, hl] at hc
        obtain ⟨_, gc2⟩ := giveCells_get h5
        have g1 := gc2 j _ _ (by rw [List.getElem?_drop]; exact hv) hj
        simp only [giveCell] at g1
        simp only [cellSrc] at hc
        generalize cs[fld + j] = v at g1 hc
        cases v <;> simp [AV.src] at hc
        obtain ⟨rfl, rfl⟩ := hc
        simp only at g1
        split at g1
        · exact .inr ⟨_, _, _, ‹_›⟩
        · exact g1.elim
  have htagc : ∀ b τ, E.tag b = some τ -> (∀ s, (τ = .root s ∨ ∃ i j, τ = .cell s i j) -> ρ.inv s = none) -> Ec.tag b = none := fun b τ ht hn => by
    show (E.tag b).bind (renTag ρ) = none
    rw [ht]
    cases τ with
    | root s => simp [renTag, hn s (.inl rfl)]
    | cell s i j => simp [renTag, hn s (.inr ⟨i, j, rfl⟩)]
  have htagn : ∀ b, E.tag b = none -> Ec.tag b = none := fun b ht => by
    show (E.tag b).bind (renTag ρ) = none
    rw [ht]; rfl
  have htag2 : ∀ b, b < E.w.heap.size -> Ec.tag b = none -> tag2 b = E.tag b := fun b hb ht => by
    have hF : F.tag b = none := by show (E'.tag b).bind _ = none; rw [(hold b hb ht).2]; rfl
    show (match F.tag b with | some τ => some τ | none => _) = _
    rw [hF, ht]; rfl
  -- a variable that was given
  have hboxF : ∀ (i : Nat) (cells cs : List AV) (id fld : Nat), objs[i]? = some (.box cells) -> lk (rhoA avs bs) (gl i) = some (id, fld) -> lk st.sto id = some (.box cs) -> ∃ (cells' : List AV) (L : Loc), os[i]? = some (some (.box cells')) /\ cells'.length = cells.length /\ cells'.all AV.treeC = true /\
      E.loc id = some L /\ E.tag L.blk = some (.root id) /\ E'.loc (gl i) = some (L.shift fld) /\ E'.tag L.blk = some (.root (gl i)) /\ lk σ id = some (gl i, 0) /\ F.tag L.blk = some (.root id) /\ ORel (E'.cut al Ec) (gl i) (.box (adopt1 List.length (gl i + 1) cells')) := fun i cells cs id fld h1 h2 h3 => by
    obtain ⟨cells', hc'⟩ := (hsh i).2.2 cells h1
    obtain ⟨cells0, h1', hl', ht'⟩ := (hsh i).1 cells' hc'
    rw [h1] at h1'
    cases h1'
    obtain ⟨L, c, ty, k1, k2, k3, k4⟩ := hs.sto id _ h3
    have hEc : Ec.loc (gl i) = some (L.shift fld) := by
      show (lk ρ (gl i)).bind _ = _
      rw [hheadG h2]; simp [k1]
    have hE' := hkloc i _ hc' _ hEc
    have hor := (hobj (gl i) (.box (adopt1 List.length (gl i + 1) cells')) (List.mem_append_left _ (by
      have : ∀ (os : List (Option Obj)) (k j : Nat), os[j]? = some (some (.box cells')) -> (gl (k + j), Obj.box (adopt1 List.length (gl (k + j) + 1) cells')) ∈ flatsO List.length k os := by
        intro os
        induction os with
        | nil => intro k j h; simp at h
        | cons x r ih =>
          intro k j h
          cases j with
          | zero => simp at h; subst h; simp [flatsO, flat1]
          | succ j =>
            have := ih (k + 1) j (by simpa using h)
            rw [show k + 1 + j = k + (j + 1) by omega] at this
            cases x with
            | none => exact this
            | some o => exact List.mem_append_right _ this
      simpa using this os 0 i hc'))).1
    have htg : E'.tag L.blk = some (.root (gl i)) := by
      have hor' := hor
      obtain ⟨L1, c1, ty1, q1, q2, q3, q4⟩ := hor'
      have q1 : E'.loc (gl i) = some L1 := q1
      rw [hE'] at q1
      obtain rfl := Option.some.inj q1
      exact q3
    have hm := ((sigO_mem (st := st) (ρ := rhoA avs bs) (lab := lab) (os := os) (k := 0) (i := i)).1 cells' (id, fld) hc' (by rw [Nat.zero_add]; exact h2)).1
    rw [Nat.zero_add] at hm
    obtain ⟨hl1, hl2⟩ := Ren.of_mem hσ (hσO _ hm)
    refine ⟨cells', L, hc', hl', ht', k1, k3, hE', htg, hl1, ?_, hor⟩
    show (E'.tag L.blk).bind _ = _
    rw [htg]
    simp [renTag, hl2]
  -- windows
  have hwinE : ∀ b, E.win b ≠ none -> b < E.w.heap.size /\ (Ec.tag b = none ∨ ∃ i cells cs id fld L, objs[i]? = some (.box cells) /\ lk (rhoA avs bs) (gl i) = some (id, fld) /\ lk st.sto id = some (.box cs) /\ fld + cells.length <= cs.length /\ E.loc id = some L /\ L.blk = b /\ E.tag b = some (.root id) /\ Ec.win b = some (L.base + fld, L.base + fld + cells.length)) := fun b hb => by
    obtain ⟨g1, k, L, g2, g3, g4, g5⟩ := hs.wf.windows b hb
    refine ⟨g1, ?_⟩
    cases hi : ρ.inv k with
    | none => exact .inl (htagc b _ g5 fun s hs => by rcases hs with hs | ⟨_, _, hs⟩ <;> cases hs; exact hi)
    | some p =>
      obtain ⟨t, off⟩ := p
      rcases hkind k t off hi with ⟨i, cells, cs, rfl, q1, q2, q3, q4⟩ | ⟨sz, fl, rows, hq⟩
      · refine .inr ⟨i, cells, cs, k, off, L, q1, q2, q3, q4, g3, g4, g5, ?_⟩
        show winG E ρ objs b = _
        unfold winG
        rw [g5]
        obtain ⟨d1, d2, d3⟩ := gl_div i 0 (by omega)
        simp only [Nat.add_zero] at d1 d2 d3
        simp only [hi, g3, d1, q1]
        rw [if_pos ⟨d3, d2, g4⟩]
      · exfalso
        rcases hs.sto k _ hq with ⟨h1, _⟩ | ⟨L', c, ty, h1, _, _, _, _, _, _, _, hw, _⟩
        · rw [h1] at g3; cases g3
        · rw [h1] at g3; cases g3; rw [g4] at hw; exact hb hw
  have hS2 : ∀ b, E.S b -> S2 b /\ E'.w.heap[b]? = E.w.heap[b]? := fun b hb => by
    obtain ⟨h1, h2⟩ := hs.wf.still b hb
    exact ⟨.inl hb, (hold b h2 (htagn b h1)).1⟩
  -- what an object of the callee's is to us
  have hpair : ∀ id std o o', Pair σ (fun q => inLab lab q = true) id std o o' -> inLab lab id = true ∨ id ∈ arrs -> ORel (E'.cut al Ec) std o' /\ (∀ s rows, o' = .arr s false rows -> FreeRows al rows) -> ORel E2 id o := fun id std o o' hp hin hor => by
    obtain ⟨hm, hcase⟩ := hp
    obtain ⟨hl1, hl2⟩ := Ren.of_mem hσ hm
    have hFloc : E2.loc id = F.loc id := by show (if _ then _ else _) = _; rw [if_pos hin]
    have hor2 : ORel F id o := by
      rcases hcase with ⟨s, fl, rows, rfl, rfl⟩ | ⟨cells, rfl, rfl, ht, hq, hbx⟩
      · refine ren_arr hσ hSF hl1 hor.1 (Nat.zero_le _) (n := rows.length) (by simp) (fun e => by subst e; exact (hor.2 _ _ rfl).noRefs) (fun b htb hwb => ?_)
        cases hq : E.win b with
        | none => rfl
        | some w =>
          exfalso
          obtain ⟨g1, hcs⟩ := hwinE b (by rw [hq]; simp)
          rcases hcs with hcs | ⟨i, cells, cs, id', fld, L, _, _, _, _, _, _, _, hw⟩
          · rw [show (E'.cut al Ec).tag b = E'.tag b from rfl, (hold b g1 hcs).2] at htb; cases htb
          · rw [show (E'.cut al Ec).win b = E'.win b from rfl, hf.wins] at hwb
            exact absurd hwb (by rw [show (Ec.only (kept os)).win = Ec.win from rfl, hw]; simp)
      · obtain ⟨h1, h2⟩ := cells_renamed (ln := List.length) hσ ht hq
        refine ren_box (o := 0) hσ hSF hl1 hor.1 (by simp [adopt1_length]) (fun j v u y hv hu hr => ?_) h2 (fun L lo hi hL hw hlh => ?_)
        · have : (backL σ (adopt1 List.length (id + 1) cells))[j]? = some (v.back σ) := by rw [backL_get, hv]; rfl
          rw [h1, <- Nat.zero_add j, hu] at this
          rw [<- Option.some.inj this]; exact hr
        · exfalso
          obtain ⟨g1, hcs⟩ := hwinE L.blk (by rw [hlh]; simp)
          obtain ⟨L1, c1, ty1, q1, q2, q3, q4⟩ := hor.1
          rw [q1] at hL
          obtain rfl := Option.some.inj hL
          rcases hcs with hcs | ⟨i, cells0, cs, id', fld, L, k1, k2, k3, k4, k5, k6, k7, k8⟩
          · have := (hold _ g1 hcs).2
            rw [show (E'.cut al Ec).tag L1.blk = E'.tag L1.blk from rfl, this] at q3; cases q3
          · obtain ⟨cells', L', m1, m2, m3, m4, m5, m6, m7, m8, _⟩ := hboxF i cells0 cs id' fld k1 k2 k3
            rw [k5] at m4
            obtain rfl := Option.some.inj m4
            rw [k6] at m7
            rw [show (E'.cut al Ec).tag L1.blk = E'.tag L1.blk from rfl, m7] at q3
            have hstd : gl i = std := by simpa using q3
            subst hstd
            have h3 := Ren.inv_of hσ m8
            rw [hl2] at h3
            have : id = id' := by simpa using h3
            subst this
            rcases hin with hin | hin
            · rw [hnotin id (hs.used id _ k5)] at hin; cases hin
            · obtain ⟨_, _, _, _, _, _, s', fl', rows0, hr0⟩ := harr id hin
              rw [k3] at hr0; cases hr0
    refine hor2.to (fun b hb => ⟨hb, rfl⟩) hFloc rfl (fun i L hi hL => ?_) (fun b hb => ⟨?_, rfl⟩)
    · rcases hcase with ⟨s, fl, rows, rfl, rfl⟩ | ⟨cells, rfl, rfl, ht, hq, hbx⟩
      · cases fl with
        | true => cases hi
        | false =>
          obtain ⟨r, hr, hi'⟩ := List.mem_flatMap.1 hi
          obtain ⟨v, hv, hi''⟩ := idsL_mem_inv hi'
          rw [(hor.2 _ _ rfl).noRefs r hr v hv] at hi''
          cases hi''
      · have := adopt1_ids ht hi
        show (if _ then _ else _) = _
        rw [if_pos (.inl (hbx i this))]; exact hL
    · have hsome : F.tag b ≠ none := by rcases hb with hb | ⟨_, _, hb⟩ <;> rw [hb] <;> simp
      show (match F.tag b with | some τ => some τ | none => _) = _
      cases hq : F.tag b with
      | none => exact absurd hq hsome
      | some τ => rfl
  have hinR : ∀ q ∈ (objsOf List.length lab v).map (·.1), inLab lab q = true := fun q hq => by
    rw [objsOf_keys List.length (fun _ => 0)] at hq
    obtain ⟨p, hp, rfl⟩ := List.mem_map.1 hq
    exact List.all_eq_true.1 hinl p hp
  have hlabK : ∀ (i : Nat) (cells : List AV), i < objs.length -> cells.length <= 90 -> ∀ q ∈ (objs1 (labK lab i) cells).map (·.1), inLab lab q = true := fun i cells hi hc q hq => by
    obtain ⟨p, hp, rfl⟩ := List.mem_map.1 hq
    obtain ⟨j, s, fl, rows, e, hj, _⟩ := objs1_mem hp
    have hjl := (List.getElem?_eq_some_iff.1 hj).1
    rw [e]
    unfold inLab labK
    simp only [Bool.and_eq_true]
    exact ⟨by simp [nble]; omega, by rw [nblt_eq]; omega⟩
  refine ⟨E2, rfl, ⟨hf.os, hf.tape, hf.output, hf.size, fun b hb ht => (hold b hb (htagn b ht)).1, fun b hb => ?_, fun b hb => .inl hb, fun b hb => ?_, fun id L _ hL => hloc id L hL, fun b lo hi hw c T hc => ?_, rfl⟩, ⟨⟨fun b hb => ?_, fun b hb => ?_, fun b hb => ?_⟩, hs.defers, hs.size, fun t u hu => ?_, fun id o ho => ?_, fun id L hL => ?_, fun id o ho => ?_⟩, ?_⟩
  · -- tags
    have hb' : (match F.tag b with | some τ => some τ | none => if (Ec.tag b).isSome then none else E.tag b) ≠ none := hb
    cases hq : F.tag b with
    | some τ =>
      have : E'.tag b ≠ none := fun e => by
        have : F.tag b = none := by show (E'.tag b).bind _ = none; rw [e]; rfl
        rw [this] at hq; cases hq
      rcases hf.tag b this with h1 | h1
      · exact .inl fun e => h1 (htagn b e)
      · exact .inr h1
    | none =>
      rw [hq] at hb'
      simp only at hb'
      split at hb'
      · exact absurd rfl hb'
      · exact .inl hb'
  · rcases hb with hb | hb
    · exact .inl hb
    · exact .inr hb.2
  · -- the windows' outside
    obtain ⟨g1, hcs⟩ := hwinE b (by rw [hw]; simp)
    rcases hcs with hcs | ⟨i, cells, cs, id, fld, L, q1, q2, q3, q4, q5, q6, q7, q8⟩
    · exact ⟨c, by show E'.w.heap[b]? = _; rw [(hold b g1 hcs).1]; exact hc, rfl, fun _ _ => rfl⟩
    · obtain ⟨c', h1, h2, h3⟩ := hf.win b _ _ q8 c T hc
      obtain ⟨L', c0, ty, k1, k2, k3, k4, k5, kw, k6⟩ := hs.sto id _ q3
      rw [q5] at k1
      obtain rfl := Option.some.inj k1
      have := kw lo hi (by rw [q6]; exact hw)
      exact ⟨c', h1, h2, fun j hj => h3 j (by omega)⟩
  · -- still blocks
    rcases hb with hb | ⟨hb, hge⟩
    · obtain ⟨h1, h2⟩ := hs.wf.still b hb
      exact ⟨by show tag2 b = none; rw [htag2 b h2 (htagn b h1)]; exact h1, Nat.lt_of_lt_of_le h2 hf.size⟩
    · obtain ⟨h1, h2⟩ := hwf.still b hb
      refine ⟨?_, h2⟩
      have hE : E.tag b = none := by
        cases hq : E.tag b with
        | none => rfl
        | some τ => exact absurd (hs.wf.owned b (by rw [hq]; simp)) (Nat.not_lt.2 hge)
      have hF : F.tag b = none := by show (E'.tag b).bind _ = none; rw [h1]; rfl
      show (match F.tag b with | some τ => some τ | none => _) = _
      rw [hF, htagn b hE]; exact hE
  · -- our blocks
    have hb' : (match F.tag b with | some τ => some τ | none => if (Ec.tag b).isSome then none else E.tag b) ≠ none := hb
    cases hq : F.tag b with
    | some τ =>
      refine hwf.owned b fun e => ?_
      have : F.tag b = none := by show (E'.tag b).bind _ = none; rw [e]; rfl
      rw [this] at hq; cases hq
    | none =>
      rw [hq] at hb'
      simp only at hb'
      split at hb'
      · exact absurd rfl hb'
      · exact Nat.lt_of_lt_of_le (hs.wf.owned b hb') hf.size
  · -- windows
    obtain ⟨g1, k, L, g2, g3, g4, g5⟩ := hs.wf.windows b hb
    obtain ⟨_, hcs⟩ := hwinE b hb
    refine ⟨Nat.lt_of_lt_of_le g1 hf.size, k, L, g2, hloc k L g3, g4, ?_⟩
    rcases hcs with hcs | ⟨i, cells, cs, id, fld, L', q1, q2, q3, q4, q5, q6, q7, q8⟩
    · show tag2 b = _
      rw [htag2 b g1 hcs]; exact g5
    · obtain ⟨cells', L1, m1, m2, m3, m4, m5, m6, m7, m8, m9, _⟩ := hboxF i cells cs id fld q1 q2 q3
      rw [q5] at m4
      obtain rfl := Option.some.inj m4
      rw [q6] at m9
      rw [g5] at q7
      have : k = id := by simpa using q7
      subst this
      show (match F.tag b with | some τ => some τ | none => _) = _
      rw [m9]
  · obtain ⟨y, hy, hr⟩ := hs.tmps t u hu
    exact ⟨y, hy, hr.to hS2 fun id L _ hL => hloc id L hL⟩
  · -- the objects
    have hlk : lk (updSto ((newSto List.length st (rhoA avs bs) lab os v).map (fun p => (p.1, some p.2)) ++ (rhoG st avs bs objs).map (fun p => (p.2.1, none))) st.sto) id = some o := ho
    rw [lk_updSto, lk_append, lk_map_some, lk_map_none, hρ] at hlk
    cases hn : lk (newSto List.length st (rhoA avs bs) lab os v) id with
    | some o1 =>
      rw [hn] at hlk
      simp at hlk
      subst hlk
      have hmem := lk_mem hn
      rcases List.mem_append.1 hmem with hmem | hmem
      · obtain ⟨std, o', h1, h2⟩ := pairR (σ := σ) (Q := fun q => inLab lab q = true) hinR htree hmem hσR
        exact hpair id std o1 o' h2 (.inl (hinR id (List.mem_map.2 ⟨_, hmem, rfl⟩))) (hobj std o' (List.mem_append_right _ h1))
      · rcases backSto_mem hmem with ⟨i, cells', fld, cs, q1, q2, q3, q4⟩ | ⟨i, cells', idb, q1, q2, q3⟩ | ⟨i, s, fl, rows, off, q1, q2, q3⟩
        · -- a variable
          rw [Nat.zero_add] at q2 q4
          obtain ⟨cells, hc1, hc2, hc3⟩ := (hsh i).1 cells' q1
          obtain ⟨id', fld', cs', p1, p2, p3, p4, _⟩ := boxAt h.objs hc1
          rw [Nat.zero_add, q2] at p1
          cases p1
          rw [q3] at p2
          cases p2
          obtain ⟨cells'', L, m1, m2, m3, m4, m5, m6, m7, m8, m9, m10⟩ := hboxF i cells cs id fld hc1 q2 q3
          rw [q1] at m1
          cases m1
          obtain ⟨L0, c, ty, k1, k2, k3, k4, k5, kw, k6⟩ := hs.sto id _ q3
          rw [m4] at k1
          obtain rfl := Option.some.inj k1
          obtain ⟨L1, c', ty', n1, n2, n3, n4, n5, nw, n6⟩ := m10
          have n1 : E'.loc (gl i) = some L1 := n1
          rw [m6] at n1
          obtain rfl := Option.some.inj n1
          have n4 : E'.w.heap[L.blk]? = some (.cells c' ty' (0, 0)) := n4
          have hbase : (L.shift fld).base = L.base + fld := by simp [Loc.shift, k2]
          have hwc : Ec.win L.blk = some (L.base + fld, L.base + fld + cells.length) := by
            show winG E ρ objs L.blk = _
            unfold winG
            rw [m5]
            obtain ⟨d1, d2, d3⟩ := gl_div i 0 (by omega)
            simp only [Nat.add_zero] at d1 d2 d3
            simp only [Ren.inv_of hrok (hheadG q2), m4, d1, hc1]
            rw [if_pos ⟨d3, d2, trivial⟩]
          obtain ⟨c2, w1, w2, w3⟩ := hf.win L.blk _ _ hwc c ty k4
          rw [n4] at w1
          simp only [Option.some.injEq, Go.Obj.cells.injEq] at w1
          obtain ⟨rfl, rfl, _⟩ := w1
          have hal1 : (adopt1 List.length (labK lab i) cells').length = cells'.length := adopt1_length _ _
          have hle : fld + (adopt1 List.length (labK lab i) cells').length <= cs.length := by rw [hal1, m2]; exact p3
          have hml := setMany_length cs fld (adopt1 List.length (labK lab i) cells') hle
          have hnid : ¬ (inLab lab id = true ∨ id ∈ arrs) := by
            rintro (h1 | h1)
            · rw [hnotin id (hs.keys id _ q3)] at h1; cases h1
            · obtain ⟨_, _, _, _, _, _, s', fl', rows0, hr0⟩ := harr id h1
              rw [q3] at hr0; cases hr0
          rw [q4]
          refine ⟨L, c', ty', by show (if _ then _ else _) = _; rw [if_neg hnid]; exact m4, k2, ?_, n4, by rw [hml, w2]; exact k5, by rw [hml]; exact kw, fun j u hu => ?_⟩
          · show (match F.tag L.blk with | some τ => some τ | none => _) = _
            rw [m9]
          · rw [setMany_get _ _ _ hle, hal1] at hu
            by_cases hj : fld <= j /\ j < fld + cells'.length
            · rw [if_pos hj, adopt1_get] at hu
              simp only [Option.map_eq_some_iff] at hu
              obtain ⟨b, hb, rfl⟩ := hu
              obtain ⟨y, y1, y2, y3⟩ := n6 (j - fld) _ (by rw [adopt1_get, hb]; rfl)
              have hsig := ((sigO_mem (st := st) (ρ := rhoA avs bs) (lab := lab) (os := os) (k := 0) (i := i)).1 cells' (id, fld) q1 (by rw [Nat.zero_add]; exact q2)).2
              rw [Nat.zero_add] at hsig
              obtain ⟨r1, r2⟩ := cell_renamed (ln := List.length) hσ (t := labK lab i + (j - fld)) (t' := gl i + 1 + (j - fld)) (List.all_eq_true.1 hc3 b (List.mem_of_getElem? hb)) (fun s fl rows e => hσO _ (hsig _ (mem_sigC (by rw [<- e]; exact hb))))
              have hF := y3.ren (ρ := σ) (S' := S2) (win' := E.win) hSF _ r1.symm r2
              refine ⟨y, ?_, y2, hF.to (fun b hb => ⟨hb, rfl⟩) fun q Lq hq hLq => ?_⟩
              · rw [<- y1, hbase]; congr 1; omega
              · have hq' : inLab lab q = true := by
                  cases b with
                  | own s fl rows =>
                    simp only [adoptC, AV.ids, List.mem_singleton] at hq
                    subst hq
                    exact hlabK i cells' (by rw [<- hlen]; exact (List.getElem?_eq_some_iff.1 q1).1) (by omega) _ (List.mem_map.2 ⟨_, lk_mem (objs1_get cells' (labK lab i) (j - fld) hb), rfl⟩)
                  | ref => exact absurd (List.all_eq_true.1 hc3 _ (List.mem_of_getElem? hb)) (by simp [AV.treeC])
                  | ptr => exact absurd (List.all_eq_true.1 hc3 _ (List.mem_of_getElem? hb)) (by simp [AV.treeC])
                  | fn => exact absurd (List.all_eq_true.1 hc3 _ (List.mem_of_getElem? hb)) (by simp [AV.treeC])
                  | agg => exact absurd (List.all_eq_true.1 hc3 _ (List.mem_of_getElem? hb)) (by simp [AV.treeC])
                  | tup => exact absurd (List.all_eq_true.1 hc3 _ (List.mem_of_getElem? hb)) (by simp [AV.treeC])
                  | _ => simp [adoptC, AV.ids] at hq
                show (if _ then _ else _) = _
                rw [if_pos (.inl hq')]; exact hLq
            · rw [if_neg hj] at hu
              obtain ⟨y, y1, y2, y3⟩ := k6 j u hu
              exact ⟨y, by rw [w3 _ (by omega)]; exact y1, y2, y3.to hS2 fun q Lq _ hLq => hloc q Lq hLq⟩
        · -- an array in a cell of one
          rw [Nat.zero_add] at q2 q3
          obtain ⟨cells, hc1, hc2, hc3⟩ := (hsh i).1 cells' q1
          have hsig := ((sigO_mem (st := st) (ρ := rhoA avs bs) (lab := lab) (os := os) (k := 0) (i := i)).1 cells' idb q1 (by rw [Nat.zero_add]; exact q2)).2
          rw [Nat.zero_add] at hsig
          obtain ⟨_, _, _, p1, p2, p3, p4, _⟩ := boxAt h.objs hc1
          obtain ⟨std, o', h1, h2⟩ := pairC (σ := σ) (Q := fun q => inLab lab q = true) (std := gl i + 1) q3 fun q hq => hσO _ (hsig q hq)
          refine hpair id std o1 o' h2 (.inl (hlabK i cells' (by rw [<- hlen]; exact (List.getElem?_eq_some_iff.1 q1).1) (by omega) id (List.mem_map.2 ⟨_, q3, rfl⟩))) (hobj std o' (List.mem_append_left _ ?_))
          have : ∀ (os : List (Option Obj)) (k j : Nat), os[j]? = some (some (.box cells')) -> (std, o') ∈ objs1 (gl (k + j) + 1) cells' -> (std, o') ∈ flatsO List.length k os := by
            intro os
            induction os with
            | nil => intro k j h; simp at h
            | cons x r ih =>
              intro k j h hm
              cases j with
              | zero => simp at h; subst h; exact List.mem_append_left _ (List.mem_cons_of_mem _ hm)
              | succ j =>
                have := ih (k + 1) j (by simpa using h) (by rw [show k + 1 + j = k + (j + 1) by omega]; exact hm)
                cases x with
                | none => exact this
                | some o => exact List.mem_append_right _ this
          exact this os 0 i q1 (by rw [Nat.zero_add]; exact h1)
        · -- an array
          rw [Nat.zero_add] at q2
          obtain ⟨z1, _⟩ := harr0 i s fl rows _ q1 q2
          simp only at z1
          subst z1
          have hm := (sigO_mem (st := st) (ρ := rhoA avs bs) (lab := lab) (os := os) (k := 0) (i := i)).2 s fl rows (id, 0) q1 (by rw [Nat.zero_add]; exact q2)
          rw [Nat.zero_add] at hm
          subst q3
          refine hpair id (gl i) _ (.arr s fl rows) ⟨hσO _ hm, .inl ⟨s, fl, rows, rfl, rfl⟩⟩ (.inr (arrPl_mem.2 ⟨i, s, fl, rows, 0, q1, by rw [Nat.zero_add]; exact q2⟩)) (hobj _ _ (List.mem_append_left _ ?_))
          have : ∀ (os : List (Option Obj)) (k j : Nat), os[j]? = some (some (.arr s fl rows)) -> (gl (k + j), Obj.arr s fl rows) ∈ flatsO List.length k os := by
            intro os
            induction os with
            | nil => intro k j h; simp at h
            | cons x r ih =>
              intro k j h
              cases j with
              | zero => simp at h; subst h; simp [flatsO, flat1]
              | succ j =>
                have := ih (k + 1) j (by simpa using h)
                rw [show k + 1 + j = k + (j + 1) by omega] at this
                cases x with
                | none => exact this
                | some o => exact List.mem_append_right _ this
          simpa using this os 0 i q1
    | none =>
      rw [hn] at hlk
      cases hi : ρ.inv id with
      | some p => rw [hi] at hlk; simp at hlk
      | none =>
        rw [hi] at hlk
        simp at hlk
        have hna : ¬ (inLab lab id = true ∨ id ∈ arrs) := by
          rintro (h1 | h1)
          · rw [hnotin id (hs.keys id o hlk)] at h1; cases h1
          · obtain ⟨i, s, fl, rows, h1, h2, _⟩ := harr id h1
            rw [Ren.inv_of hrok (hheadG h2)] at hi; cases hi
        refine (hs.sto id o hlk).to hS2 (by show (if _ then _ else _) = _; rw [if_neg hna]) rfl (fun q L _ hL => hloc q L hL) (fun b hb => ?_)
        have hlt : b < E.w.heap.size := hs.wf.owned b (by rcases hb with hb | ⟨_, _, hb⟩ <;> rw [hb] <;> simp)
        have hec : Ec.tag b = none := by
          rcases hb with hb | ⟨i, j, hb⟩
          · exact htagc b _ hb fun s hs => by rcases hs with hs | ⟨_, _, hs⟩ <;> cases hs; exact hi
          · exact htagc b _ hb fun s hs => by rcases hs with hs | ⟨_, _, hs⟩ <;> cases hs; exact hi
        exact ⟨htag2 b hlt hec, (hold b hlt hec).1⟩
  · -- names in use
    show (backUsed st (rhoA avs bs) lab os v ++ st.used).elem id = true
    rw [List.elem_iff, List.mem_append]
    have hL' : (if inLab lab id = true ∨ id ∈ arrs then F.loc id else E.loc id) = some L := hL
    by_cases hc : inLab lab id = true ∨ id ∈ arrs
    · by_cases hin : inLab lab id = true
      · left
        rw [if_pos hc] at hL'
        refine List.mem_filter.2 ⟨?_, hin⟩
        cases hq : lk σ id with
        | none => rw [show F.loc id = (lk σ id).bind _ from rfl, hq] at hL'; cases hL'
        | some p =>
          have hm := lk_mem hq
          rw [<- hσe] at hm
          unfold newSto
          rw [List.map_append, List.mem_append]
          rcases List.mem_append.1 hm with hm | hm
          · exact .inl (sigR_key hm)
          · right
            rcases sigO_key hm with ⟨i, p', h1, h2⟩ | ⟨i, cells, p', h1, h2, h3⟩
            · exfalso
              rw [Nat.zero_add] at h1
              have hi := hkind _ _ _ (Ren.inv_of hrok (hheadG (p := (p'.1, p'.2)) h1))
              simp only at h2
              have : ∃ o, lk st.sto id = some o := by
                rw [h2]
                rcases hi with ⟨_, _, cs, _, _, _, q, _⟩ | ⟨_, _, _, q⟩ <;> exact ⟨_, q⟩
              obtain ⟨o, ho⟩ := this
              rw [hnotin id (hs.keys id o ho)] at hin; cases hin
            · rw [Nat.zero_add] at h2 h3
              obtain ⟨cells0, hc1, _, _⟩ := (hsh i).1 cells h1
              obtain ⟨id', fld', cs', p1, p2, p3, p4, _⟩ := boxAt h.objs hc1
              rw [Nat.zero_add] at p1
              obtain ⟨_, g2⟩ := backSto_box (ln := fun _ => 0) (st := st) (ρ := rhoA avs bs) (lab := lab) (os := os) (k := 0) (i := i) h1 (by rw [Nat.zero_add]; exact p1) p2
              rw [Nat.zero_add] at g2
              obtain ⟨q, hq1, hq2⟩ := List.mem_map.1 h3
              exact List.mem_map.2 ⟨q, g2 q hq1, hq2⟩
      · right
        obtain ⟨_, _, _, _, _, _, s', fl', rows0, hr0⟩ := harr id (hc.resolve_left hin)
        have := hs.keys id _ hr0
        rwa [List.elem_iff] at this
    · rw [if_neg hc] at hL'
      have := hs.used id L hL'
      rw [List.elem_iff] at this
      exact .inr this
  · show (backUsed st (rhoA avs bs) lab os v ++ st.used).elem id = true
    rw [List.elem_iff, List.mem_append]
    have hlk : lk (updSto ((newSto List.length st (rhoA avs bs) lab os v).map (fun p => (p.1, some p.2)) ++ (rhoG st avs bs objs).map (fun p => (p.2.1, none))) st.sto) id = some o := ho
    rw [lk_updSto, lk_append, lk_map_some, lk_map_none, hρ] at hlk
    cases hn : lk (newSto List.length st (rhoA avs bs) lab os v) id with
    | some o1 =>
      by_cases hin : inLab lab id = true
      · left
        refine List.mem_filter.2 ⟨?_, hin⟩
        rw [newSto_keys (fun _ => 0) List.length]
        exact List.mem_map.2 ⟨_, lk_mem hn, rfl⟩
      · right
        have hmem := lk_mem hn
        have key : ∃ o, lk st.sto id = some o := by
          rcases List.mem_append.1 hmem with hmem | hmem
          · exact absurd (hinR id (List.mem_map.2 ⟨_, hmem, rfl⟩)) hin
          · rcases backSto_mem hmem with ⟨i, cells', fld, cs, q1, q2, q3, q4⟩ | ⟨i, cells', idb, q1, q2, q3⟩ | ⟨i, s, fl, rows, off, q1, q2, q3⟩
            · exact ⟨_, q3⟩
            · exfalso
              rw [Nat.zero_add] at q2 q3
              obtain ⟨cells, hc1, hc2, hc3⟩ := (hsh i).1 cells' q1
              obtain ⟨_, _, _, p1, p2, p3, p4, _⟩ := boxAt h.objs hc1
              exact hin (hlabK i cells' (by rw [<- hlen]; exact (List.getElem?_eq_some_iff.1 q1).1) (by omega) id (List.mem_map.2 ⟨_, q3, rfl⟩))
            · rw [Nat.zero_add] at q2
              obtain ⟨_, s', fl', rows0, z⟩ := harr0 i s fl rows _ q1 q2
              exact ⟨_, z⟩
        obtain ⟨o', ho'⟩ := key
        have := hs.keys id o' ho'
        rwa [List.elem_iff] at this
    | none =>
      right
      rw [hn] at hlk
      cases hi : ρ.inv id with
      | some p => rw [hi] at hlk; simp at hlk
      | none =>
        rw [hi] at hlk
        simp at hlk
        have := hs.keys id o hlk
        rwa [List.elem_iff] at this
  · -- the value
    obtain ⟨r1, r2⟩ := res_renamed (ln := List.length) hσ htree hσR
    have hF := hrel.ren (ρ := σ) (S' := S2) (win' := E.win) hSF _ r1.symm r2
    refine hF.to (fun b hb => ⟨hb, rfl⟩) fun q Lq hq hLq => ?_
    have := hinR q (adopt_ids htree hq)
    show (if _ then _ else _) = _
    rw [if_pos (.inl this)]; exact hLq

end

theorem run_callFunc {f : FuncId} {fn : Func} (hf : P.funcs[f]? = some fn) (hname : (fn.name == "runtime.NumGoroutine") = false) (hbody : fn.body.isNone = false) (xs : Array Value) (w : World) : (callFunc f xs).run P w = .ok (.enter f xs) w := by
  simp only [callFunc, Sem.run_bind, run_program, Result.andThen_ok, hf, hname, hbody, Bool.false_eq_true, if_false, Sem.run_pure]

theorem getD_append3 {α : Type} (l m n : List α) (j : Nat) : (l ++ m ++ n)[j]? = if j < l.length then l[j]? else if j < l.length + m.length then m[j - l.length]? else n[j - l.length - m.length]? := by
  rw [List.append_assoc, List.getElem?_append]
  split
  · rfl
  · rw [List.getElem?_append]
    split
    · rw [if_pos (by omega)]
    · rw [if_neg (by omega)]

theorem call_values (hs : Sim E st a) {c : Operand} {args : Array Operand} {f : FuncId} {first caps : List AV} (hc : st.ev c = .fn f first caps) :
    ∃ xs ys : Array Value, a.eval c = .func (.func f) xs ys /\ (xs ++ args.map a.eval ++ ys).size = (first ++ args.toList.map st.ev ++ caps).length /\
      ∀ (j : Nat) (v : AV) (x : Value), (first ++ args.toList.map st.ev ++ caps)[j]? = some v -> (xs ++ args.map a.eval ++ ys)[j]? = some x -> Rel E v x := by
  have hr := hs.ev c
  rw [hc] at hr
  generalize a.eval c = cv at hr
  cases hr with
  | base _ _ h => cases h
  | fn _ _ _ xs ys h1 h2 h3 h4 =>
    refine ⟨xs, ys, rfl, by simp [h1, h2], fun j v x hv hx => ?_⟩
    rw [getD_append3] at hv
    rw [Array.getElem?_append, Array.getElem?_append] at hx
    simp only [List.length_map, Array.length_toList] at hv
    simp only [Array.size_append, Array.size_map] at hx
    by_cases g1 : j < first.length
    · rw [if_pos g1] at hv
      rw [if_pos (by omega), if_pos (by omega)] at hx
      exact h3 j v x hv hx
    · rw [if_neg g1] at hv
      by_cases g2 : j < first.length + args.size
      · rw [if_pos g2] at hv
        rw [if_pos (by omega), if_neg (by omega)] at hx
        rw [h1] at hx
        simp only [List.getElem?_map, Option.map_eq_some_iff] at hv
        obtain ⟨p, hp, rfl⟩ := hv
        simp only [Array.getElem?_map, Option.map_eq_some_iff] at hx
        obtain ⟨q, hq, rfl⟩ := hx
        have : p = q := by simpa [hq] using hp.symm
        subst this
        exact hs.ev p
      · rw [if_neg g2] at hv
        rw [if_neg (by omega)] at hx
        refine h4 _ v x hv ?_
        rw [<- hx]; congr 1; omega

theorem ok_call {c : Operand} {args : Array Operand} {tys : Array TypeId} {f : FuncId} {first caps bs : List AV} {al dp : Bool} {objs : List Obj} {R : AV -> List (Option Obj) -> Prop} {lab : Nat} (ho : o.op = .call { callee := .value c, args := args, argTypes := tys }) (hc : st.ev c = .fn f first caps)
    (h : SoundM P f al bs objs R) (hg : Gives st al dp (first ++ args.toList.map st.ev ++ caps) bs objs) (hfresh : freshL lab st.used = true)
    (hk : ∀ v os, R v os -> backChk st (rhoA (first ++ args.toList.map st.ev ++ caps) bs) lab objs os v = true /\ K (adopt List.length lab v) (st.upd (backD dp List.length st (first ++ args.toList.map st.ev ++ caps) bs objs lab os v))) : OpOk P o st K := by
  obtain ⟨⟨fn, hf, hname, hbody⟩, hcall⟩ := h
  intro E a KW QW hs hK
  obtain ⟨xs, ys, hcv, hsz, hrel⟩ := call_values hs (args := args) hc
  generalize first ++ args.toList.map st.ev ++ caps = avs at *
  have hrun : (execOp a.eval o).run P E.w = .ok (.enter f (xs ++ args.map a.eval ++ ys)) E.w := by
    simp only [execOp, ho, resolve, Deferred.ofValue, hcv, Sem.run_bind, Sem.run_pure, Result.andThen_ok, invoke, run_callFunc hf hname hbody]
  unfold Oper.wp
  rw [hrun, Oper.upon_enter]
  obtain ⟨q1, q2, q3⟩ := hg.sim hs
  obtain ⟨g1, g2⟩ := args_get hg.args
  refine (hcall (E.given al (rhoG st avs bs objs) objs) _ q1 q2 (by rw [hsz, g1]) (fun j b x hb hx => ?_) q3).mono ?_
  · obtain ⟨v, hv, hvl⟩ := g2 j b hb
    exact arg2_rel hs hg.rok (hrel j v x hv hx) hvl fun q hq => List.mem_append_left _ (mem_match2L hv hb hq)
  · rintro e w' ⟨x, v, os, E', rfl, rfl, hR, hsm, hlen, hfr, hwf, hrelv, hobj⟩
    obtain ⟨hchk, hk⟩ := hk v os hR
    obtain ⟨E2, hw, hfr2, hs2, hr2⟩ := call_back hs hg hfresh hlen hfr hwf hrelv hobj hchk
    have := hK E2 _ x _ hfr2 hs2 hr2 hk
    rw [hw] at this
    exact this

end Go.Proofs.YtihfpbhalnedcaaGreat.AM

namespace Go.Proofs.YtihfpbhalnedcaaGreat.AM
open Go Go.RowKit

structure Sy where
  enc : {α : Type} -> (α -> List AV) -> List α -> List (List AV)
  len : List (List AV) -> Nat

def sy : Sy := ⟨fun f l => l.map f, List.length⟩

structure ALoop (P : Program) (c : Code) (Q : Exit -> St -> Prop) (st : St) : Prop where
  out : awp P (.loop c) Q st

structure AOp (P : Program) (o : Oper) (st : St) (K : AV -> Dl -> Prop) : Prop where
  out : OpOk P o st fun v s => ∃ d, s = st.upd d /\ K v d

def AV.noR0 : AV -> Bool
  | .rptr _ => false
  | _ => true
def AV.noR1 : AV -> Bool
  | .agg l => l.all AV.noR0
  | v => v.noR0
def AV.noR : AV -> Bool
  | .fn _ x y => x.all AV.noR1 && y.all AV.noR1
  | v => v.noR1

structure ACall (A : Sy) (dr : Bool) (P : Program) (f : FuncId) (avs : List AV) (lab : Nat) (st : St) (K : AV -> Dl -> Prop) : Prop where
  out : ∃ al dp bs objs R, SoundM P f al bs objs R /\ Gives st al dp avs bs objs /\ (dr = true -> bs.all AV.noR = true /\ ∃ v₀ os₀, R v₀ os₀ /\ ∀ v os, R v os -> v = v₀ /\ os = os₀) /\
    ∀ v os, R v os -> backChk st (rhoA avs bs) lab objs os v = true /\ K (adopt A.len lab v) (backD dp A.len st avs bs objs lab os v)

structure Need (p : Unit -> Prop) : Prop where
  out : p ()

structure Arith (dr : Bool) (k : IntKind) (m n : Int) (e : Unit -> Int) (K : Int -> Prop) : Prop where
  out : (dr = true ∨ (Lit.int k m).wf = true /\ (Lit.int k n).wf = true) -> K (k.wrap (e ()))

structure ArithN (p : Unit -> Prop) (dr : Bool) (k : IntKind) (m n : Int) (e : Unit -> Int) (K : Int -> Prop) : Prop where
  out : (dr = true ∨ (Lit.int k m).wf = true) -> p () /\ K (k.wrap (e ()))

structure RemA (dr : Bool) (k : IntKind) (m n : Int) (K : Int -> Prop) : Prop where
  out : (dr = true ∨ (Lit.int k m).wf = true /\ (Lit.int k n).wf = true) -> n ≠ 0 /\ K (m.tmod n)

def tstB (op : BinOp) (m n : Int) : Bool :=
  match op with
  | .eql => decide (m = n)
  | .neq => decide (m ≠ n)
  | .lss => decide (m < n)
  | .leq => decide (m <= n)
  | .gtr => decide (m > n)
  | _ => decide (m ≥ n)

structure Test (op : BinOp) (m n : Int) (K : Bool -> Prop) : Prop where
  out : K (tstB op m n)

structure Conv (k k' : IntKind) (n : Int) (K : Int -> Prop) : Prop where
  out : K (k'.wrap n)

structure Len (dr : Bool) (n : Nat) (K : Int -> Prop) : Prop where
  out : (dr = true -> n <= maxLen) /\ (n <= maxLen -> K (n : Int))

structure LenR (dr : Bool) (rows : List (List AV)) (K : Int -> Prop) : Prop where
  out : (dr = true -> rows.length <= maxLen) /\ (rows.length <= maxLen -> K (rows.length : Int))

structure NilT (v : AV) (K : Bool -> Prop) : Prop where
  out : match v with
    | .ro rows => (rows = [] -> K true) /\ K false
    | .ref p _ _ n => (p = true ∨ 0 < n) /\ K false
    | _ => False

structure ElemRef (off len s size : Nat) (rows : List (List AV)) (n : Int) (K : Nat -> Prop) : Prop where
  out : (0 <= n /\ n < len) /\ s = size /\ off + n.toNat < rows.length /\ K (off + n.toNat)

structure ElemRo (rows : List (List AV)) (size : Nat) (n : Int) (K : List AV -> Prop) : Prop where
  out : 0 <= n /\ ∃ r, rows[n.toNat]? = some r /\ r.length = size /\ K r

structure Row (rows : List (List AV)) (row : Nat) (K : List AV -> Prop) : Prop where
  out : ∃ r, rows[row]? = some r /\ K r

structure RowSet (rows : List (List AV)) (row fld size : Nat) (us : List AV) (K : List (List AV) -> Prop) : Prop where
  out : ∃ r, rows[row]? = some r /\ us.length = size /\ fld + us.length <= r.length /\ K (rows.set row (setMany r fld us))

structure CutRef (p : Bool) (off len s size : Nat) (rows : List (List AV)) (l h : Int) (K : Bool -> Nat -> Nat -> Prop) : Prop where
  out : (0 <= l /\ l <= h /\ (h <= len ∨ (p = true /\ h <= ((rows.length - off : Nat) : Int)))) /\ (off + len <= rows.length) /\ s = size /\ K ((p || decide (0 < len)) && decide (off + l.toNat < rows.length)) (off + l.toNat) (h - l).toNat

structure CutRo (size : Nat) (rows : List (List AV)) (l h : Int) (K : List (List AV) -> Prop) : Prop where
  out : (0 <= l /\ l <= h /\ h <= rows.length) /\ (∀ r ∈ rows, r.length = size) /\ K ((rows.take h.toNat).drop l.toNat)

structure CutRoE (size : Nat) (rows : List (List AV)) (l : Int) (K : List (List AV) -> Prop) : Prop where
  out : (0 <= l /\ l <= rows.length) /\ (∀ r ∈ rows, r.length = size) /\ K (rows.drop l.toNat)

structure Part (off len : Nat) (rows : List (List AV)) (K : List (List AV) -> Prop) : Prop where
  out : off + len <= rows.length /\ K ((rows.drop off).take len)

structure AppNew (kd : SK) (fl : Bool) (size bytes : Nat) (ys : List (List AV)) (K : Nat -> List (List AV) -> Prop) : Prop where
  out : Lays kd fl ys /\ (∀ r ∈ ys, r.length = size) /\ ys.length * bytes <= maxBytes /\ K ys.length ys

structure AppRef (kd : SK) (fl p : Bool) (off len s size bytes : Nat) (rows ys : List (List AV)) (K : Bool -> Nat -> List (List AV) -> Prop) : Prop where
  out : s = size /\ Lays kd fl ys /\ (∀ r ∈ ys, r.length = size) /\
    ((off + len <= rows.length /\ (len + ys.length) * bytes <= maxBytes /\ K false (len + ys.length) ((rows.drop off).take len ++ ys)) ∨
     ((p = true ∨ 0 < len) /\ off + len + ys.length <= rows.length /\ K true (len + ys.length) (setMany rows (off + len) ys)))

structure MakeS (n m : Int) (bytes : Nat) (us : List AV) (K : Nat -> List (List AV) -> Prop) : Prop where
  out : 0 <= n /\ n <= m /\ m.toNat * bytes <= maxBytes /\ K n.toNat (List.replicate n.toNat us)

structure SEq (us vs : List AV) (K : Bool -> Prop) : Prop where
  out : ∀ b, (b = true ↔ us = vs) -> K b

structure Clear (off len s size : Nat) (rows : List (List AV)) (us : List AV) (K : List (List AV) -> Prop) : Prop where
  out : s = size /\ off + len <= rows.length /\ K (setMany rows off (List.replicate len us))

def intVC (dr : Bool) (op : BinOp) (k : IntKind) (m n : Int) (K : AV -> Prop) : Prop :=
  match op with
  | .add => Arith dr k m n (fun _ => m + n) fun x => K (.int k x)
  | .sub => Arith dr k m n (fun _ => m - n) fun x => K (.int k x)
  | .mul => Arith dr k m n (fun _ => m * n) fun x => K (.int k x)
  | .quo => ArithN (fun _ => n ≠ 0) dr k m n (fun _ => m.tdiv n) fun x => K (.int k x)
  | .rem => RemA dr k m n fun x => K (.int k x)
  | .and => Arith dr k m n (fun _ => (BitVec.ofInt k.bits m &&& BitVec.ofInt k.bits n).toNat) fun x => K (.int k x)
  | .xor => Arith dr k m n (fun _ => (BitVec.ofInt k.bits m ^^^ BitVec.ofInt k.bits n).toNat) fun x => K (.int k x)
  | .eql => Test .eql m n fun b => K (.bool b)
  | .neq => Test .neq m n fun b => K (.bool b)
  | .lss => Test .lss m n fun b => K (.bool b)
  | .leq => Test .leq m n fun b => K (.bool b)
  | .gtr => Test .gtr m n fun b => K (.bool b)
  | .geq => Test .geq m n fun b => K (.bool b)
  | _ => False

def shiftVC (dr : Bool) (op : BinOp) (k : IntKind) (m n : Int) (K : AV -> Prop) : Prop :=
  match op with
  | .shl => ArithN (fun _ => 0 <= n) dr k m n (fun _ => m * 2 ^ (min n.toNat k.bits)) fun x => K (.int k x)
  | .shr => ArithN (fun _ => 0 <= n) dr k m n (fun _ => m.fdiv (2 ^ (min n.toNat k.bits))) fun x => K (.int k x)
  | _ => False

def lenVC (dr : Bool) (T : Nat -> Option TI) (st : St) (t : Nat) (v : AV) (K : AV -> Prop) : Prop :=
  match T t with
  | some { desc := .slice _, .. } => match v with
    | .nilS => K (.int .i64 0)
    | .emp => K (.int .i64 0)
    | .ro rows => LenR dr rows fun n => K (.int .i64 n)
    | .ref _ id _ n => match lk st.sto id with
      | some (.arr _ _ _) => Len dr n fun n => K (.int .i64 n)
      | _ => False
    | _ => False
  | _ => False

def nilVC (op : BinOp) (v : AV) (K : AV -> Prop) : Prop :=
  match op with
  | .eql => match v with
    | .nilS => K (.bool true)
    | .emp => K (.bool false)
    | v => NilT v fun b => K (.bool b)
  | .neq => match v with
    | .nilS => K (.bool false)
    | .emp => K (.bool true)
    | v => NilT v fun b => K (.bool (!b))
  | _ => False

def storeVC (T : Nat -> Option TI) (st : St) (t : Nat) (p v : AV) (K : AV -> Dl -> Prop) : Prop :=
  match T t, v.flat, p with
  | some i, some vs, .ptr id row fld =>
    match lk st.sto id with
    | some (.box cells) => bif nbeq row 0 && nbeq vs.length i.size && nble (fld + vs.length) cells.length then K .undef ⟨[(id, some (.box (setMany cells fld vs)))], [], []⟩ else False
    | some (.arr s fl rows) =>
      match cellsOf fl vs with
      | some us => RowSet rows row fld i.size us fun rows' => K .undef ⟨[(id, some (.arr s fl rows'))], [], []⟩
      | _ => False
    | none => False
  | _, _, _ => False

def loadVC (T : Nat -> Option TI) (st : St) (t : Nat) (p : AV) (K : AV -> Prop) : Prop :=
  match T t with
  | some i => match i.desc.known with
    | true => match p with
      | .ptr id row fld => match lk st.sto id with
        | some (.box cells) => match nbeq row 0, loadA i (cells.drop fld) with
          | true, some v => K v
          | _, _ => False
        | some (.arr _ _ rows) => Row rows row fun r => match loadA i (r.drop fld) with
          | some v => K v
          | none => False
        | none => False
      | .rptr cells => match loadA i cells with
        | some v => K v
        | none => False
      | _ => False
    | false => False
  | none => False

def St.elemVC (st : St) (size : Nat) (x : AV) (n : Int) (K : AV -> Prop) : Prop :=
  match x with
  | .ref _ id off len => match lk st.sto id with
    | some (.arr s _ rows) => ElemRef off len s size rows n fun row => K (.ptr id row 0)
    | _ => False
  | .ro rows => ElemRo rows size n fun r => K (.rptr r)
  | _ => False

def hiVC (v : Option AV) (n : Int -> Prop) (d : Prop) : Prop :=
  match v with
  | some (.int _ h) => n h
  | none => d
  | _ => False

def St.cutVC (st : St) (size : Nat) (x : AV) (lo hi : Option AV) (K : AV -> Prop) : Prop :=
  match x with
  | .ref p id off len =>
    match lk st.sto id, loOf lo with
    | some (.arr s _ rows), some l => match hi with
      | some (.int _ h) => CutRef p off len s size rows l h fun p' off' len' => K (.ref p' id off' len')
      | none => CutRef p off len s size rows l (len : Int) fun p' off' len' => K (.ref p' id off' len')
      | _ => False
    | _, _ => False
  | .ro rows =>
    match loOf lo with
    | some l => match hi with
      | some (.int _ h) => CutRo size rows l h fun rows' => K (.ro rows')
      | none => CutRoE size rows l fun rows' => K (.ro rows')
      | _ => False
    | _ => False
  | .nilS => match loOf lo, hiOf 0 hi with
    | some l, some h => Need (fun _ => l = 0 /\ h = 0) /\ K .nilS
    | _, _ => False
  | _ => False

def St.srcVC (st : St) (v : AV) (K : SK -> List (List AV) -> Prop) : Prop :=
  match v with
  | .nilS => K .flat []
  | .emp => K .flat []
  | .ro rows => K .ro rows
  | .ref _ id off len => match lk st.sto id with
    | some (.arr _ fl rows) => Part off len rows fun ys => K (match fl with | true => .flat | false => .raw) ys
    | _ => False
  | _ => False

def St.appVC (st : St) (j : TI) (lab : Nat) (x y : AV) (K : AV -> Dl -> Prop) : Prop :=
  st.srcVC y fun kd ys => match x with
    | .nilS => AppNew kd j.flat j.size j.bytes ys fun n rows => K (.ref false lab 0 n) ⟨[(lab, some (.arr j.size j.flat rows))], [lab], []⟩
    | .emp => AppNew kd j.flat j.size j.bytes ys fun n rows => K (.ref false lab 0 n) ⟨[(lab, some (.arr j.size j.flat rows))], [lab], []⟩
    | .ref p id off len => match lk st.sto id with
      | some (.arr s fl rows) => AppRef kd fl p off len s j.size j.bytes rows ys fun b n rows' => match b with
        | false => K (.ref false lab 0 n) ⟨[(lab, some (.arr s fl rows')), (id, none)], [lab], []⟩
        | true => K (.ref p id off n) ⟨[(id, some (.arr s fl rows'))], [], []⟩
      | _ => False
    | _ => False

def opVC (A : Sy) (dr : Bool) (P : Program) (T : Nat -> Option TI) (lab : Nat) (o : Oper) (st : St) (K : AV -> Dl -> Prop) : Prop :=
  match o.op with
  | .move x => K (st.ev x) .no
  | .assign x => K (st.ev x) .no
  | .pick c x y => match st.ev c with
    | .bool b => match b with
      | true => K (st.ev x) .no
      | false => K (st.ev y) .no
    | _ => False
  | .unOp op _ x => match op, st.ev x with
    | .not, .bool b => K (.bool (!b)) .no
    | .neg, .int k n => Conv k k (0 - n) fun x => K (.int k x) .no
    | _, _ => False
  | .binOp op t x y _ => match st.ev x, st.ev y with
    | .int k m, .int k' n => match op with
      | .shl => shiftVC dr .shl k m n fun v => K v .no
      | .shr => shiftVC dr .shr k m n fun v => K v .no
      | op => match decide (k = k') with
        | true => intVC dr op k m n fun v => K v .no
        | false => False
    | .bool m, .bool n => match T t, op with
      | some { desc := .bool, .. }, .eql => match n with
        | true => K (.bool m) .no
        | false => K (.bool (!m)) .no
      | some { desc := .bool, .. }, .neq => match n with
        | true => K (.bool (!m)) .no
        | false => K (.bool m) .no
      | _, _ => False
    | .agg us, .agg vs => match T t with
      | some { desc := .strct fs, .. } => Need (fun _ => eqFit P t = true) /\ match plainEq T 0 fs us vs with
        | true => match op with
          | .eql => SEq us vs fun b => K (.bool b) .no
          | .neq => SEq us vs fun b => K (.bool (!b)) .no
          | _ => False
        | false => False
      | _ => False
    | v, .nilS => match T t with
      | some { desc := .slice _, .. } => match dr with
        | true => False
        | false => nilVC op v fun v => K v .no
      | _ => False
    | _, _ => False
  | .extract x i => match st.ev x with
    | .tup vs => match vs[i]? with
      | some v => K v .no
      | none => False
    | _ => False
  | .convert s d x => match T s, T d, st.ev x with
    | some { desc := .int _, .. }, some { desc := .int k', .. }, .int k n => match decide (k = k') with
      | true => K (.int k' n) .no
      | false => Conv k k' n fun x => K (.int k' x) .no
    | _, _, _ => False
  | .makeFunc (.func f) first caps => K (.fn f (first.toList.map st.ev) (caps.toList.map st.ev)) .no
  | .alloc t => match T t, st.used.elem lab with
    | some i, false => K (.ptr lab 0 0) ⟨[(lab, some (.box i.zero))], [lab], []⟩
    | _, _ => False
  | .box _ x => match (st.ev x).flat, st.used.elem lab with
    | some cs, false => K (.ptr lab 0 0) ⟨[(lab, some (.box cs))], [lab], []⟩
    | _, _ => False
  | .build t parts => match T t with
    | some { desc := .strct fs, zero := z, .. } => match fs.all (fun p => (T p.2).isSome), fillA (placesOf T fs) st.ev z parts.toList with
      | true, some cells => K (.agg cells) .no
      | _, _ => False
    | _ => False
  | .load t p => loadVC T st t (st.ev p) fun v => K v .no
  | .store t p x => storeVC T st t (st.ev p) (st.ev x) K
  | .fieldAddr s p f => match T s with
    | some { desc := .strct fs, .. } => match fs[f]? with
      | some (off, ft) => match T ft, (st.ev p).shift off with
        | some j, some v => match nblt 0 j.size with
          | true => K v .no
          | false => False
        | _, _ => False
      | none => False
    | _ => False
  | .field t x f => match T t, st.ev x with
    | some { desc := .strct fs, .. }, .agg cells => match fs[f]? with
      | some (off, ft) => match T ft with
        | some j => match j.desc.known, j.desc.isAgg with
          | true, true => nble (off + j.size) cells.length = true /\ K (.agg ((cells.drop off).take j.size)) .no
          | true, false => match cells.drop off with
            | v :: _ => K v .no
            | [] => False
          | _, _ => False
        | none => False
      | none => False
    | _, _ => False
  | .indexAddr t x y => match T t with
    | some { desc := .slice e, .. } => match T e, st.ev y with
      | some j, .int _ n => st.elemVC j.size (st.ev x) n fun v => K v .no
      | _, _ => False
    | _ => False
  | .slice t x lo hi none => match T t with
    | some { desc := .slice e, .. } => match T e with
      | some j => match st.ev x, lo, hi with
        | .nilS, none, none => K .nilS .no
        | v, lo, hi => st.cutVC j.size v (lo.map st.ev) (hi.map st.ev) fun v => K v .no
      | none => False
    | _ => False
  | .makeSlice t x y => match T t with
    | some { desc := .slice e, .. } => match T e, st.ev x, st.ev y, st.used.elem lab with
      | some j, .int _ n, .int _ m, false => match nblt 0 j.size && nblt 0 j.bytes, cellsOf j.flat j.zero with
        | true, some us => MakeS n m j.bytes us fun n rows => K (.ref false lab 0 n) ⟨[(lab, some (.arr j.size j.flat rows))], [lab], []⟩
        | _, _ => False
      | _, _, _, _ => False
    | _ => False
  | .buildSlice t n parts => match T t with
    | some { desc := .slice e, .. } => match T e, st.used.elem lab with
      | some j, false => match nblt 0 j.size, n, parts.toList with
        | true, 0, [] => K .emp ⟨[(lab, some (.arr j.size j.flat []))], [lab], []⟩
        | true, n + 1, l => match nble ((n + 1) * j.size) 10000, fillA (fun i => some (i * j.size, j.size)) st.ev (repl j.zero (n + 1)) l with
          | true, some cells => match cellsOfL j.flat (chunk j.size (n + 1) cells) with
            | some rows => K (.ref true lab 0 (n + 1)) ⟨[(lab, some (.arr j.size j.flat rows))], [lab], []⟩
            | none => False
          | _, _ => False
        | _, _, _ => False
      | _, _ => False
    | _ => False
  | .nilCheck x => match (st.ev x).sure with
    | true => K (st.ev x) .no
    | false => False
  | .call { callee := .builtin .append, args := args, argTypes := tys } => match args.toList, tys.toList with
    | [x, y], [t, t'] => match nbeq t t', T t, st.used.elem lab with
      | true, some { desc := .slice e, .. }, false => match T e with
        | some j => match nblt 0 j.size && nblt 0 j.bytes with
          | true => st.appVC j lab (st.ev x) (st.ev y) K
          | false => False
        | none => False
      | false, _, _ => match dr with
        | true => False
        | false => AOp P o st K
      | _, _, _ => False
    | _, _ => False
  | .call { callee := .builtin .len, args := args, argTypes := tys } => match args.toList, tys.toList with
    | [x], [t] => lenVC dr T st t (st.ev x) fun v => K v .no
    | _, _ => False
  | .call { callee := .builtin .cap, args := args, argTypes := tys } => match args.toList, tys.toList with
    | [x], [t] => match T t, st.ev x with
      | some { desc := .slice _, .. }, .nilS => K (.int .i64 0) .no
      | _, _ => False
    | _, _ => False
  | .call { callee := .builtin .clear, args := args, argTypes := tys } => match dr with
    | true => False
    | false => match args.toList, tys.toList with
      | [x], [t] => match T t, st.ev x with
        | some { desc := .slice e, .. }, .ref _ id off len => match T e, lk st.sto id with
          | some j, some (.arr s fl rows) => match nblt 0 j.size, cellsOf j.flat j.zero with
            | true, some us => Need (fun _ => fl = j.flat) /\ Clear off len s j.size rows us fun rows' => K (.tup []) ⟨[(id, some (.arr s fl rows'))], [], []⟩
            | _, _ => False
          | _, _ => False
        | _, _ => False
      | _, _ => False
  | .call { callee := .value c, args := args, .. } => match st.ev c, freshL lab st.used with
    | .fn f first caps, true => ACall A dr P f (first ++ args.toList.map st.ev ++ caps) lab st K
    | _, _ => False
  | _ => match dr with
    | true => False
    | false => AOp P o st K

variable {P : Program} {T : Nat -> Option TI}

theorem OpOk.know {P : Program} {o : Oper} {st : St} {K : AV -> St -> Prop} {p : Prop} (h : ∀ E a, Sim E st a -> p) (k : p -> OpOk P o st K) : OpOk P o st K :=
  fun E a KW QW hs hK => k (h E a hs) E a KW QW hs hK

theorem Sim.intFact {E : Env} {st : St} {a : Act} (hs : Sim E st a) {x : Operand} {k : IntKind} {n : Int} (h : st.ev x = .int k n) : (Lit.int k n).wf = true := by
  have := hs.ev x
  rw [h] at this
  exact (rel_int this).2

theorem Sim.refFact {E : Env} {st : St} {a : Act} (hs : Sim E st a) {v : AV} {x : Value} (hr : Rel E v x) {p : Bool} {id off n s : Nat} {fl : Bool} {rows : List (List AV)} (h : v = .ref p id off n) (hq : lk st.sto id = some (.arr s fl rows)) : n <= maxLen := by
  subst h
  cases hr with
  | base _ _ h => cases h
  | ref0 _ _ cap ad hc => exact Nat.zero_le _
  | ref _ _ _ _ L cap hL h1 h2 =>
    rcases hs.sto id _ hq with ⟨g1, g2⟩ | ⟨L', c, ty, g1, gsz, g2, g3, g4, g5, g6, g7, g8, g9⟩
    · rw [g1] at hL; cases hL
    · rw [g1] at hL
      obtain rfl := Option.some.inj hL
      omega

theorem rel_roLen {E : Env} {rows : List (List AV)} {x : Value} (h : Rel E (.ro rows) x) : rows.length <= maxLen := by
  cases h with
  | base _ _ h =>
    cases h with
    | ro0 => simp [maxLen]
    | ro _ _ _ _ _ _ h1 h2 h3 => exact Nat.le_trans h2 h3

theorem wrap_wf {k : IntKind} {n : Int} (h : (Lit.int k n).wf = true) : k.wrap n = n := by
  rw [wf_iff] at h
  cases k <;> simp only [IntKind.wrap, IntKind.min, IntKind.max, IntKind.signed, IntKind.bits] at h ⊢ <;> simp at h ⊢ <;> (try split) <;> omega

theorem intVC_sound {op : BinOp} {t u : Nat} {x y : Operand} {k : IntKind} {m n : Int} {st : St} {K : AV -> St -> Prop} {o : Oper} {dr : Bool} (ho : o.op = .binOp op t x y u) (hx : st.ev x = .int k m) (hy : st.ev y = .int k n)
    (hk : intVC dr op k m n fun v => K v st) : OpOk P o st K := by
  refine OpOk.know (fun E a hs => And.intro (hs.intFact hx) (hs.intFact hy)) fun hf => ?_
  cases op <;> simp only [intVC] at hk <;> first
    | exact hk.elim
    | exact ok_intBin ho hx hy (hk.out (.inr hf))
    | exact ok_intBin ho hx hy (hk.out (.inr hf.1))
    | exact ok_intBin ho hx hy hk.out
    | exact ok_xor ho hx hy (hk.out (.inr hf))

theorem shiftVC_sound {op : BinOp} {t u : Nat} {x y : Operand} {k k' : IntKind} {m n : Int} {st : St} {K : AV -> St -> Prop} {o : Oper} {dr : Bool} (ho : o.op = .binOp op t x y u) (hx : st.ev x = .int k m) (hy : st.ev y = .int k' n)
    (hk : shiftVC dr op k m n fun v => K v st) : OpOk P o st K := by
  refine OpOk.know (fun E a hs => hs.intFact hx) fun hf => ?_
  cases op <;> simp only [shiftVC] at hk <;> first
    | exact hk.elim
    | (obtain ⟨h1, h2⟩ := hk.out (.inr hf); exact ok_shl ho hx hy h1 h2)
    | (obtain ⟨h1, h2⟩ := hk.out (.inr hf); exact ok_shr ho hx hy h1 h2)

theorem lenVC_sound (h : TabOk P T) {t : Nat} {x : Operand} {st : St} {K : AV -> St -> Prop} {o : Oper} {dr : Bool} (ho : o.op = .call { callee := .builtin .len, args := #[x], argTypes := #[t] })
    (hk : lenVC dr T st t (st.ev x) fun v => K v st) : OpOk P o st K := by
  unfold lenVC at hk
  split at hk
  · rename_i hti
    split at hk
    · rename_i hv; exact ok_len (ty := 0) h hti rfl (x := x) ho (by rw [hv]; rfl) (by decide) hk
    · rename_i hv; exact ok_len (ty := 0) h hti rfl (x := x) ho (by rw [hv]; rfl) (by decide) hk
    · rename_i rows hv
      refine OpOk.know (p := rows.length <= maxLen) (fun E a hs => rel_roLen (by have := hs.ev x; rw [hv] at this; exact this)) fun hle => ?_
      exact ok_len (ty := 0) h hti rfl (x := x) ho (by rw [hv]; rfl) hle (hk.out.2 hle)
    · rename_i n hv
      split at hk
      · rename_i hq
        refine OpOk.know (p := n <= maxLen) (fun E a hs => hs.refFact (hs.ev x) hv hq) fun hle => ?_
        exact ok_len (ty := 0) h hti rfl (x := x) ho (by rw [hv]; rfl) hle (hk.out.2 hle)
      · exact hk.elim
    · exact hk.elim
  · exact hk.elim

theorem nilVC_sound (h : TabOk P T) {op : BinOp} {t u e : Nat} {x y : Operand} {st : St} {K : AV -> St -> Prop} {o : Oper} {i : TI} (hi : T t = some i) (hd : i.desc = .slice e) (ho : o.op = .binOp op t x y u) (hy : st.ev y = .nilS)
    (hk : nilVC op (st.ev x) fun v => K v st) : OpOk P o st K := by
  have un : ∀ {w : AV}, st.ev x = w -> w = .ro [] -> K (.bool true) st -> K (.bool false) st -> (op = .eql ∨ op = .neq) -> OpOk P o st K := by
    intro w hw he h1 h2 hop
    subst he
    intro E a KW QW hs hK
    have hr := hs.ev x
    rw [hw] at hr
    have hxv : ∃ ad c, a.eval x = .slice ad 0 c := by
      generalize a.eval x = xv at hr
      cases hr with
      | base _ _ h =>
        cases h with
        | ro0 ad cap _ _ => exact ⟨_, _, rfl⟩
        | ro _ _ _ _ _ _ h1 => exact absurd rfl h1
    obtain ⟨ad, c, hxv⟩ := hxv
    have hr' := hs.ev y
    rw [hy] at hr'
    obtain ⟨d, hu, htd⟩ := h.und hi
    have hd1 := tdOf_slice (htd.trans hd)
    subst hd1
    have hneq : (binOp .neq t (.slice ad 0 c) (.slice none 0 0)).run P E.w = .ok (.bool (!ad.isNone)) E.w := by
      simp only [binOp]
      simp [Op.equal, Op.maxDepth, Lib.run_equalIn_slice_nil E.w 9999 t e ad 0 c 0 0 hu]
    have heql := Lib.run_eql_slice_nil (P := P) E.w t e ad 0 c 0 0 hu
    have hrun : ∃ b, (execOp a.eval o).run P E.w = .ok (.value (.bool b)) E.w := by
      rcases hop with rfl | rfl
      · exact ⟨ad.isNone, by simp [execOp, ho, hxv, rel_nilS hr', eqGuard_slice, heql]⟩
      · exact ⟨!ad.isNone, by simp [execOp, ho, hxv, rel_nilS hr', eqGuard_slice, hneq]⟩
    obtain ⟨b, hrun⟩ := hrun
    unfold Oper.wp
    rw [hrun]
    refine hK E (.bool b) _ st (Fr.refl E) hs (.base _ _ (.bool b)) ?_
    cases b
    · exact h2
    · exact h1
  have ro : ∀ {rows : List (List AV)}, st.ev x = .ro rows -> (rows = [] -> K (.bool true) st /\ K (.bool false) st) -> ((op = .eql /\ K (.bool false) st) ∨ (op = .neq /\ K (.bool true) st)) -> OpOk P o st K := by
    intro rows hx h1 h2
    cases rows with
    | nil =>
      obtain ⟨k1, k2⟩ := h1 rfl
      exact un hx rfl k1 k2 (h2.imp (·.1) (·.1))
    | cons r rest =>
      exact ok_nilEq h hi hd ho hy (b := false) (.inr ⟨by rw [hx]; rfl, rfl⟩) h2
  have rf : ∀ {p : Bool} {id off n : Nat}, st.ev x = .ref p id off n -> (p = true ∨ 0 < n) -> ((op = .eql /\ K (.bool false) st) ∨ (op = .neq /\ K (.bool true) st)) -> OpOk P o st K := by
    intro p id off n hx hn h2
    refine ok_nilEq h hi hd ho hy (b := false) (.inr ⟨?_, rfl⟩) h2
    rw [hx]
    cases p with
    | true => cases n <;> rfl
    | false =>
      cases n with
      | zero => rcases hn with h | h; cases h; omega
      | succ n => rfl
  cases op <;> simp only [nilVC] at hk <;> try exact hk.elim
  · split at hk
    · rename_i hx; exact ok_nilEq h hi hd ho hy (b := true) (.inl ⟨hx, rfl⟩) (.inl ⟨rfl, hk⟩)
    · rename_i hx; exact ok_nilEq h hi hd ho hy (b := false) (.inr ⟨by rw [hx]; rfl, rfl⟩) (.inl ⟨rfl, hk⟩)
    · have hk := hk.out
      split at hk
      · rename_i hx; exact ro hx (fun e => ⟨hk.1 e, hk.2⟩) (.inl ⟨rfl, hk.2⟩)
      · rename_i hx; exact rf hx hk.1 (.inl ⟨rfl, hk.2⟩)
      · exact hk.elim
  · split at hk
    · rename_i hx; exact ok_nilEq h hi hd ho hy (b := true) (.inl ⟨hx, rfl⟩) (.inr ⟨rfl, hk⟩)
    · rename_i hx; exact ok_nilEq h hi hd ho hy (b := false) (.inr ⟨by rw [hx]; rfl, rfl⟩) (.inr ⟨rfl, hk⟩)
    · have hk := hk.out
      split at hk
      · rename_i hx; exact ro hx (fun e => ⟨hk.2, hk.1 e⟩) (.inr ⟨rfl, hk.2⟩)
      · rename_i hx; exact rf hx hk.1 (.inr ⟨rfl, hk.2⟩)
      · exact hk.elim

theorem storeVC_sound (h : TabOk P T) {t : Nat} {p x : Operand} {st : St} {K : AV -> St -> Prop} {o : Oper} (ho : o.op = .store t p x) (hk : storeVC T st t (st.ev p) (st.ev x) fun v d => K v (st.upd d)) : OpOk P o st K := by
  unfold storeVC at hk
  split at hk
  · rename_i i vs id row fld hi hf hp
    split at hk
    · rename_i cells hq
      cases hc : (nbeq row 0 && nbeq vs.length i.size && nble (fld + vs.length) cells.length) with
      | false => rw [hc] at hk; exact hk.elim
      | true =>
        rw [hc] at hk
        simp only [Bool.and_eq_true] at hc
        obtain rfl := nbeq_eq hc.1.1
        exact ok_storeBox h hi ho hp hq hf (nbeq_eq hc.1.2) (nble_le hc.2) hk
    · rename_i s fl rows hq
      split at hk
      · rename_i us hu
        obtain ⟨r, hr, hl, hle, hk⟩ := hk.out
        have hlu := (cellsOf_get hu).1
        exact ok_storeArr h hi ho hp hq hr hf (by omega) (by omega) hu hk
      · exact hk.elim
    · exact hk.elim
  · exact hk.elim

theorem loadVC_sound (h : TabOk P T) {t : Nat} {p : Operand} {st : St} {K : AV -> St -> Prop} {o : Oper} (ho : o.op = .load t p) (hk : loadVC T st t (st.ev p) fun v => K v st) : OpOk P o st K := by
  unfold loadVC at hk
  split at hk
  · rename_i i hi
    split at hk
    · rename_i hkn
      split at hk
      · rename_i id row fld hp
        split at hk
        · rename_i cells hq
          split at hk
          · rename_i v hrow hl
            exact ok_load h hi hkn ho (by simp only [hp, St.at, hq, hrow, cond_true]) hl hk
          · exact hk.elim
        · rename_i s fl rows hq
          obtain ⟨r, hr, hk⟩ := hk.out
          split at hk
          · rename_i v hl
            exact ok_load h hi hkn ho (by simp only [hp, St.at, hq, hr, Option.map_some]) hl hk
          · exact hk.elim
        · exact hk.elim
      · rename_i cells hp
        split at hk
        · rename_i v hl
          exact ok_load h hi hkn ho (by simp only [hp, St.at]) hl hk
        · exact hk.elim
      · exact hk.elim
    · exact hk.elim
  · exact hk.elim

theorem St.elemVC_sound {st : St} {size : Nat} {x : AV} {n : Int} {K : AV -> Prop} (h : st.elemVC size x n K) : st.elem size x n K := by
  unfold St.elemVC at h
  unfold St.elem
  split at h
  · split at h
    · rename_i hq
      obtain ⟨⟨h1, h2, h3, h4⟩⟩ := h
      simp only [hq]
      exact ⟨h1, h2, h3, h4⟩
    · exact h.elim
  · exact h.out
  · exact h.elim

theorem St.cutVC_sound {st : St} {size : Nat} {x : AV} {lo hi : Option AV} {K : AV -> Prop} (h : st.cutVC size x lo hi K) : st.cut size x lo hi K := by
  unfold St.cutVC at h
  unfold St.cut
  split at h
  · split at h
    · rename_i h1 h2
      split at h
      · simp only [h1, h2, hiOf]; exact h.out
      · simp only [h1, h2, hiOf]; exact h.out
      · exact h.elim
    · exact h.elim
  · split at h
    · rename_i h2
      split at h
      · simp only [h2, hiOf]; exact h.out
      · simp only [h2, hiOf]
        obtain ⟨⟨⟨g1, g2⟩, g3, g4⟩⟩ := h
        refine ⟨⟨g1, g2, Int.le_refl _⟩, g3, ?_⟩
        rw [show ((_ : Nat) : Int).toNat = _ from Int.toNat_natCast _, List.take_length]; exact g4
      · exact h.elim
    · exact h.elim
  · split at h
    · rename_i h1 h2
      simp only [h1, h2]; exact ⟨h.1.out, h.2⟩
    · exact h.elim
  · exact h.elim

theorem St.srcVC_sound {st : St} {v : AV} {K : SK -> List (List AV) -> Prop} (h : st.srcVC v K) : ∃ kd ys, st.rows v = some (kd, ys) /\ K kd ys := by
  unfold St.srcVC at h
  split at h
  · exact ⟨_, _, rfl, h⟩
  · exact ⟨_, _, rfl, h⟩
  · exact ⟨_, _, rfl, h⟩
  · split at h
    · rename_i fl rows hq
      obtain ⟨⟨h1, h2⟩⟩ := h
      refine ⟨_, _, ?_, h2⟩
      simp only [St.rows, hq, show nble _ _ = true from by simp only [nble]; exact decide_eq_true h1, cond_true]
      cases fl <;> rfl
    · exact h.elim
  · exact h.elim

theorem appVC_sound (h : TabOk P T) {t e lab : Nat} {i j : TI} {x y : Operand} {st : St} {K : AV -> St -> Prop} {o : Oper} (hti : T t = some i) (hd : i.desc = .slice e) (hj : T e = some j) (hpos : 0 < j.size) (hby : 0 < j.bytes)
    (ho : o.op = .call { callee := .builtin .append, args := #[x, y], argTypes := #[t, t] }) (hu : st.used.elem lab = false) (hk : st.appVC j lab (st.ev x) (st.ev y) fun v d => K v (st.upd d)) : OpOk P o st K := by
  unfold St.appVC at hk
  obtain ⟨kd, ys, hys, hk⟩ := St.srcVC_sound hk
  split at hk
  · rename_i hxv
    obtain ⟨⟨h1, h2, h3, h4⟩⟩ := hk
    exact ok_appendNew h hti hd hj hpos hby ho hu (.inl hxv) hys h1 h2 h3 h4
  · rename_i hxv
    obtain ⟨⟨h1, h2, h3, h4⟩⟩ := hk
    exact ok_appendNew h hti hd hj hpos hby ho hu (.inr hxv) hys h1 h2 h3 h4
  · rename_i hxv
    split at hk
    · rename_i hq
      obtain ⟨⟨rfl, h1, h2, h3⟩⟩ := hk
      rcases h3 with ⟨h3, h4, h5⟩ | ⟨h3, h4, h5⟩
      · exact ok_appendRef h hti hd hj hpos hby ho hu hxv hq h3 hys h1 h2 h4 h5
      · exact ok_appendIn h hti hd hj hpos ho hxv h3 hq h4 hys h1 h2 h5
    · exact hk.elim
  · exact hk.elim

theorem opVC_sound (h : TabOk P T) {dr : Bool} {lab : Nat} {o : Oper} {st : St} {K : AV -> St -> Prop} (hk : opVC sy dr P T lab o st fun v d => K v (st.upd d)) : OpOk P o st K := by
  unfold opVC at hk
  split at hk
  case h_1 x ho => exact ok_move (.inl ho) hk
  case h_2 x ho => exact ok_move (.inr ho) hk
  case h_3 c x y ho =>
    split at hk
    · rename_i b hc
      refine ok_pick ho hc ?_
      cases b <;> exact hk
    · exact hk.elim
  case h_4 op t x ho =>
    split at hk
    · exact ok_not ho ‹_› hk
    · exact ok_neg ho ‹_› hk.out
    · exact hk.elim
  case h_5 op t x y u ho =>
    split at hk
    · rename_i k m k' n hx hy
      split at hk
      · exact shiftVC_sound ho hx hy hk
      · exact shiftVC_sound ho hx hy hk
      · by_cases hkk : k = k'
        · subst hkk
          rw [show decide (k = k) = true by simp] at hk
          exact intVC_sound ho hx hy hk
        · rw [show decide (k = k') = false by simp [hkk]] at hk
          exact hk.elim
    · rename_i m n hx hy
      split at hk
      · rename_i ht; exact ok_boolEq h ht rfl ho hx hy (.inl ⟨rfl, by cases n <;> cases m <;> exact hk⟩)
      · rename_i ht; exact ok_boolEq h ht rfl ho hx hy (.inr ⟨rfl, by cases n <;> cases m <;> exact hk⟩)
      · exact hk.elim
    · rename_i us vs hx hy
      split at hk
      · rename_i hti
        obtain ⟨hfit, hk⟩ := hk
        split at hk
        · rename_i hp
          obtain ⟨b, hb⟩ : ∃ b : Bool, b = true ↔ us = vs := by
            by_cases he : us = vs
            · exact ⟨true, by simp [he]⟩
            · exact ⟨false, by simp [he]⟩
          split at hk
          · exact ok_structEq h hti rfl hfit.out ho hx hy hp hb (.inl ⟨rfl, hk.out _ hb⟩)
          · exact ok_structEq h hti rfl hfit.out ho hx hy hp hb (.inr ⟨rfl, hk.out _ hb⟩)
          · exact hk.elim
        · exact hk.elim
      · exact hk.elim
    · rename_i hy
      split at hk
      · rename_i ht
        cases dr with
        | true => exact hk.elim
        | false => exact nilVC_sound h ht rfl ho hy hk
      · exact hk.elim
    · exact hk.elim
  case h_6 x i ho =>
    split at hk
    · rename_i vs hx
      split at hk
      · exact ok_extract ho hx ‹_› hk
      · exact hk.elim
    · exact hk.elim
  case h_7 s d x ho =>
    split at hk
    · rename_i hs hd hx
      rename_i k n
      refine OpOk.know (fun E a hs' => hs'.intFact hx) fun hwf => ?_
      refine ok_convInt h hs hd rfl rfl ho hx ?_
      split at hk
      · rename_i hkk
        have := of_decide_eq_true hkk
        subst this
        rw [wrap_wf hwf]; exact hk
      · exact hk.out
    · exact hk.elim
  case h_8 f first caps ho => exact ok_makeFunc ho hk
  case h_9 t ho =>
    split at hk
    · rename_i hi hu; exact ok_alloc h hi hu ho hk
    · exact hk.elim
  case h_10 t x ho =>
    split at hk
    · rename_i hf hu; exact ok_box hu ho hf hk
    · exact hk.elim
  case h_11 t parts ho =>
    split at hk
    · rename_i ht
      split at hk
      · rename_i ha hf; exact ok_build h ht rfl ha ho hf hk
      · exact hk.elim
    · exact hk.elim
  case h_12 t p ho => exact loadVC_sound h ho hk
  case h_13 t p x ho => exact storeVC_sound h ho hk
  case h_14 s p f ho =>
    split at hk
    · rename_i hi
      split at hk
      · rename_i hf
        split at hk
        · rename_i hj hv
          split at hk
          · rename_i hpos; exact ok_fieldAddr h hi rfl hf hj (by simpa [nblt_eq] using hpos) ho hv hk
          · exact hk.elim
        · exact hk.elim
      · exact hk.elim
    · exact hk.elim
  case h_15 t x f ho =>
    split at hk
    · rename_i hi hx
      split at hk
      · rename_i hf
        split at hk
        · rename_i hj
          split at hk
          · rename_i hkn hag; exact ok_field h hi rfl hf hj hkn ho hx (by rw [hag]; exact ⟨nble_le hk.1, hk.2⟩)
          · rename_i hkn hag
            split at hk
            · rename_i hd; exact ok_field h hi rfl hf hj hkn ho hx (by rw [hag]; exact ⟨_, _, hd, hk⟩)
            · exact hk.elim
          · exact hk.elim
        · exact hk.elim
      · exact hk.elim
    · exact hk.elim
  case h_16 t x y ho =>
    split at hk
    · rename_i hi
      split at hk
      · rename_i hj hy; exact ok_indexAddr h hi rfl hj ho hy (St.elemVC_sound hk)
      · exact hk.elim
    · exact hk.elim
  case h_17 t x lo hi ho =>
    split at hk
    · rename_i hti
      split at hk
      · rename_i hj
        split at hk
        · rename_i hx
          exact ok_sliceNil h hti rfl hj ho hx hk
        · exact ok_slice h hti rfl hj ho (St.cutVC_sound hk)
      · exact hk.elim
    · exact hk.elim
  case h_18 t x y ho =>
    split at hk
    · rename_i hti
      split at hk
      · rename_i hj hx hy hu
        split at hk
        · rename_i hpos hz
          simp only [Bool.and_eq_true, nblt_eq] at hpos
          obtain ⟨⟨h1, h2, h3, h4⟩⟩ := hk
          exact ok_makeSlice h hti rfl hj hpos.1 hpos.2 ho hu hx hy h1 h2 h3 hz h4
        · exact hk.elim
      · exact hk.elim
    · exact hk.elim
  case h_19 t n parts ho =>
    split at hk
    · rename_i hti
      split at hk
      · rename_i hj hu
        split at hk
        · rename_i hpos hp
          exact ok_buildNil h hti rfl hj (by simpa [nblt_eq] using hpos) ho hp hu hk
        · rename_i hpos
          split at hk
          · rename_i hsm hf
            split at hk
            · rename_i hrows
              exact ok_buildSlice h hti rfl hj (by simpa [nblt_eq] using hpos) ho (Nat.succ_pos _) (nble_le hsm) hf hrows hu hk
            · exact hk.elim
          · exact hk.elim
        · exact hk.elim
      · exact hk.elim
    · exact hk.elim
  case h_20 x ho =>
    split at hk
    · exact ok_nilCheck ho ‹_› hk
    · exact hk.elim
  case h_21 args tys ho =>
    split at hk
    · rename_i x y t t' hx ht
      split at hk
      · rename_i htt hti hu
        obtain rfl := nbeq_eq htt
        split at hk
        · rename_i hj
          split at hk
          · rename_i hpos
            simp only [Bool.and_eq_true, nblt_eq] at hpos
            have h1 : args = #[x, y] := by rw [<- Array.toArray_toList (xs := args), hx]
            have h2 : tys = #[t, t] := by rw [<- Array.toArray_toList (xs := tys), ht]
            rw [h1, h2] at ho
            exact appVC_sound h hti rfl hj hpos.1 hpos.2 ho hu hk
          · exact hk.elim
        · exact hk.elim
      · cases dr with
        | true => exact hk.elim
        | false => exact hk.out.mono fun v s ⟨d, hs, hk⟩ => hs ▸ hk
      · exact hk.elim
    · exact hk.elim
  case h_22 args tys ho =>
    split at hk
    · rename_i x t hx ht
      have h1 : args = #[x] := by rw [<- Array.toArray_toList (xs := args), hx]
      have h2 : tys = #[t] := by rw [<- Array.toArray_toList (xs := tys), ht]
      rw [h1, h2] at ho
      exact lenVC_sound h ho hk
    · exact hk.elim
  case h_23 args tys ho =>
    split at hk
    · rename_i x t hx ht
      have h1 : args = #[x] := by rw [<- Array.toArray_toList (xs := args), hx]
      have h2 : tys = #[t] := by rw [<- Array.toArray_toList (xs := tys), ht]
      rw [h1, h2] at ho
      split at hk
      · rename_i hti hv; exact ok_capNil (ty := 0) h hti rfl ho hv hk
      · exact hk.elim
    · exact hk.elim
  case h_24 args tys ho =>
    split at hk
    · exact hk.elim
    split at hk
    · rename_i x t hx ht
      have h1 : args = #[x] := by rw [<- Array.toArray_toList (xs := args), hx]
      have h2 : tys = #[t] := by rw [<- Array.toArray_toList (xs := tys), ht]
      rw [h1, h2] at ho
      split at hk
      · rename_i hti hv
        split at hk
        · rename_i hj hq
          split at hk
          · rename_i hpos hz
            obtain ⟨⟨rfl⟩, ⟨rfl, h3, h4⟩⟩ := hk
            exact ok_clear h hti rfl hj (by simpa [nblt_eq] using hpos) ho hv hq h3 hz h4
          · exact hk.elim
        · exact hk.elim
      · exact hk.elim
    · exact hk.elim
  case h_25 c args tys ho =>
    split at hk
    · rename_i f first caps hc hfr
      obtain ⟨al, dp, bs, objs, R, h1, h2, _, h4⟩ := hk.out
      exact ok_call ho hc h1 h2 hfr h4
    · exact hk.elim
  case h_26 =>
    cases dr with
    | true => exact hk.elim
    | false => exact hk.out.mono fun v s ⟨d, hs, hk⟩ => hs ▸ hk

end Go.Proofs.YtihfpbhalnedcaaGreat.AM
