/- The abstract machine, part 3: what is known may be told otherwise: new names, less, an array inside a cell or by its own name. -/
import Derived.Test.YtmbckmfihcojoaaB2
namespace Go.Proofs.Ytmbckmfihcojoaa.AM
open Go Go.RowKit

set_option linter.unusedVariables false
set_option linter.unusedSimpArgs false

def rm {α : Type} : List (Nat × α) → Nat → List (Nat × α)
  | [], _ => []
  | (k, v) :: r, n => bif nbeq k n then rm r n else (k, v) :: rm r n

theorem lk_rm {α : Type} (l : List (Nat × α)) (n t : Nat) : lk (rm l n) t = if n = t then none else lk l t := by
  induction l with
  | nil => simp [rm, lk]
  | cons p r ih =>
    obtain ⟨k, v⟩ := p
    unfold rm
    by_cases hk : k = n
    · subst hk
      rw [nbeq_refl, cond_true, ih, lk_cons]
      by_cases ht : k = t
      · rw [if_pos ht, if_pos ht]
      · rw [if_neg ht, if_neg ht, if_neg ht]
    · rw [nbeq_ne hk, cond_false, lk_cons, ih, lk_cons]
      by_cases ht : n = t
      · subst ht
        rw [if_neg hk, if_pos rfl, if_pos rfl]
      · rw [if_neg ht, if_neg ht]

/-! ### Names -/

/-- A new name, the old one, from which element on. -/
abbrev Ren := List (Nat × (Nat × Nat))

def Ren.inv : Ren → Nat → Option (Nat × Nat)
  | [], _ => none
  | (t, (s, o)) :: r, n => bif nbeq s n then some (t, o) else Ren.inv r n

def Ren.ok : Ren → Bool
  | [] => true
  | (t, (s, _)) :: r => r.all (fun p => !(nbeq p.1 t) && !(nbeq p.2.1 s)) && Ren.ok r

theorem lk_mem {α : Type} : ∀ {l : List (Nat × α)} {k : Nat} {v : α}, lk l k = some v → (k, v) ∈ l
  | [], _, _, h => by simp [lk] at h
  | (k', v') :: r, k, v, h => by
    rw [lk_cons] at h
    by_cases he : k' = k
    · rw [if_pos he] at h; obtain rfl := Option.some.inj h; rw [he]; simp
    · rw [if_neg he] at h; exact List.mem_cons_of_mem _ (lk_mem h)

theorem Ren.inv_mem : ∀ {ρ : Ren} {s t o : Nat}, ρ.inv s = some (t, o) → (t, (s, o)) ∈ ρ
  | [], _, _, _, h => by simp [Ren.inv] at h
  | (t', (s', o')) :: r, s, t, o, h => by
    unfold Ren.inv at h
    by_cases hk : s' = s
    · subst hk
      rw [nbeq_refl, cond_true] at h
      simp only [Option.some.injEq, Prod.mk.injEq] at h
      obtain ⟨rfl, rfl⟩ := h
      simp
    · rw [nbeq_ne hk, cond_false] at h
      exact List.mem_cons_of_mem _ (Ren.inv_mem h)

theorem Ren.of_mem : ∀ {ρ : Ren} (_ : ρ.ok = true) {s t o : Nat}, (t, (s, o)) ∈ ρ → lk ρ t = some (s, o) ∧ ρ.inv s = some (t, o)
  | [], _, _, _, _, h => by cases h
  | (t', (s', o')) :: r, hk, s, t, o, h => by
    unfold Ren.ok at hk
    rw [Bool.and_eq_true] at hk
    rcases List.mem_cons.1 h with h | h
    · simp only [Prod.mk.injEq] at h
      obtain ⟨rfl, rfl, rfl⟩ := h
      exact ⟨lk_cons_eq _ _ _, by unfold Ren.inv; rw [nbeq_refl, cond_true]⟩
    · have := List.all_eq_true.1 hk.1 _ h
      simp only [Bool.and_eq_true, Bool.not_eq_true'] at this
      have n1 : t' ≠ t := fun e => by subst e; rw [nbeq_refl] at this; cases this.1
      have n2 : s' ≠ s := fun e => by subst e; rw [nbeq_refl] at this; cases this.2
      obtain ⟨g1, g2⟩ := Ren.of_mem hk.2 h
      exact ⟨by rw [lk_cons_ne _ _ n1]; exact g1, by unfold Ren.inv; rw [nbeq_ne n2, cond_false]; exact g2⟩

theorem Ren.inv_of {ρ : Ren} (h : ρ.ok = true) {s t o : Nat} (k : lk ρ t = some (s, o)) : ρ.inv s = some (t, o) := (Ren.of_mem h (lk_mem k)).2
theorem Ren.lk_of {ρ : Ren} (h : ρ.ok = true) {s t o : Nat} (k : ρ.inv s = some (t, o)) : lk ρ t = some (s, o) := (Ren.of_mem h (Ren.inv_mem k)).1

def Loc.shift (o : Nat) (L : Loc) : Loc := { L with base := L.base + o * L.siz, cap := L.cap - o }

def renTag (ρ : Ren) : Tag → Option Tag
  | .root s => (ρ.inv s).map fun p => .root p.1
  | .cell s i j => (ρ.inv s).bind fun p => if p.2 ≤ i then some (.cell p.1 (i - p.2) j) else none

def Env.ren (E : Env) (ρ : Ren) (S' : Nat → Prop) (win' : Nat → Option (Nat × Nat)) : Env :=
  ⟨E.w, S', fun b => (E.tag b).bind (renTag ρ), fun t => (lk ρ t).bind fun p => (E.loc p.1).map (Loc.shift p.2), win'⟩

mutual
/-- A value in the old names. -/
def AV.back (ρ : Ren) : AV → AV
  | .ref p t off len => match lk ρ t with
    | some (s, o) => .ref p s (off + o) len
    | none => .undef
  | .ptr t row fld => match lk ρ t with
    | some (s, o) => .ptr s row (fld + o)
    | none => .undef
  | .fn f x y => .fn f (backL ρ x) (backL ρ y)
  | .agg cs => .agg (backL ρ cs)
  | .tup cs => .tup (backL ρ cs)
  | v => v
def backL (ρ : Ren) : List AV → List AV
  | [] => []
  | v :: r => v.back ρ :: backL ρ r
end

mutual
/-- Its names are known; pointers lie as they lay. -/
def AV.fits (ρ : Ren) : AV → Bool
  | .ref _ t _ _ => (lk ρ t).isSome
  | .ptr t _ _ => match lk ρ t with
    | some (_, o) => nbeq o 0
    | none => false
  | .fn _ x y => fitsL ρ x && fitsL ρ y
  | .agg cs => fitsL ρ cs
  | .tup cs => fitsL ρ cs
  | _ => true
def fitsL (ρ : Ren) : List AV → Bool
  | [] => true
  | v :: r => v.fits ρ && fitsL ρ r
end

theorem backL_get {ρ : Ren} : ∀ (l : List AV) (j : Nat), (backL ρ l)[j]? = (l[j]?).map (·.back ρ)
  | [], j => by simp [backL]
  | v :: r, j => by
    unfold backL
    cases j with
    | zero => rfl
    | succ j => simpa using backL_get r j

theorem backL_length {ρ : Ren} : ∀ (l : List AV), (backL ρ l).length = l.length
  | [] => rfl
  | v :: r => by simp [backL, backL_length r]

theorem fitsL_get {ρ : Ren} : ∀ {l : List AV} {j : Nat} {v : AV}, fitsL ρ l = true → l[j]? = some v → v.fits ρ = true
  | [], j, v, _, h => by simp at h
  | u :: r, j, v, hf, h => by
    unfold fitsL at hf
    rw [Bool.and_eq_true] at hf
    cases j with
    | zero => simp at h; subst h; exact hf.1
    | succ j => exact fitsL_get hf.2 (by simpa using h)

theorem Rel.ren {E : Env} {ρ : Ren} {S' : Nat → Prop} {win' : Nat → Option (Nat × Nat)} (hS : ∀ b, E.S b → S' b) {u : AV} {x : Value} (h : Rel E u x) : ∀ v : AV, u = v.back ρ → v.fits ρ = true → Rel (E.ren ρ S' win') v x := by
  have loc : ∀ {t s o : Nat} {L : Loc}, lk ρ t = some (s, o) → E.loc s = some L → (E.ren ρ S' win').loc t = some (L.shift o) := fun h1 h2 => by simp [Env.ren, h1, h2]
  induction h with
  | base u x h =>
    intro v e hf
    have hm : Rel (E.ren ρ S' win') u x := .base _ _ (h.mono hS fun _ _ => rfl)
    cases v with
    | ref p t off len =>
      unfold AV.back at e
      split at e <;> subst e <;> cases h
    | ptr t row fld =>
      unfold AV.back at e
      split at e <;> subst e <;> cases h
    | fn f a b => unfold AV.back at e; subst e; cases h
    | agg cs => unfold AV.back at e; subst e; cases h
    | tup cs => unfold AV.back at e; subst e; cases h
    | _ => unfold AV.back at e; subst e; exact hm
  | ref0 id off cap a h =>
    intro v e hf
    cases v with
    | ref p t off' len =>
      unfold AV.back at e
      split at e
      · rename_i s o hl
        simp only [AV.ref.injEq] at e
        obtain ⟨rfl, rfl, rfl, rfl⟩ := e
        exact .ref0 _ _ _ _ h
      · cases e
    | ptr t row fld =>
      unfold AV.back at e
      split at e <;> cases e
    | _ => unfold AV.back at e; cases e
  | ref p id off len L cap h1 h2 h3 =>
    intro v e hf
    cases v with
    | ref p' t off' len' =>
      unfold AV.back at e
      split at e
      · rename_i s o hl
        simp only [AV.ref.injEq] at e
        obtain ⟨rfl, rfl, rfl, rfl⟩ := e
        have := Rel.ref (E := E.ren ρ S' win') p t off' len (L.shift o) cap (loc hl h1) h2 (by simp only [Loc.shift]; omega)
        have he : (L.shift o).base + off' * (L.shift o).siz = L.base + (off' + o) * L.siz := by
          simp only [Loc.shift]; rw [Nat.add_mul]; omega
        rw [he] at this
        exact this
      · cases e
    | ptr t row fld =>
      unfold AV.back at e
      split at e <;> cases e
    | _ => unfold AV.back at e; cases e
  | ptr id row fld L h1 =>
    intro v e hf
    cases v with
    | ptr t row' fld' =>
      unfold AV.back at e
      split at e
      · rename_i s o hl
        simp only [AV.ptr.injEq] at e
        obtain ⟨rfl, rfl, rfl⟩ := e
        unfold AV.fits at hf
        rw [hl] at hf
        have ho : o = 0 := nbeq_eq hf
        subst ho
        have := Rel.ptr (E := E.ren ρ S' win') t row fld' (L.shift 0) (loc hl h1)
        simpa [Loc.shift] using this
      · cases e
    | ref p' t off' len' =>
      unfold AV.back at e
      split at e <;> cases e
    | _ => unfold AV.back at e; cases e
  | rptr cells b o f h1 h2 h3 =>
    intro v e hf
    have hm : Rel (E.ren ρ S' win') (.rptr cells) (.pointer (some ⟨b, o, none⟩)) := .rptr cells b o f (hS b h1) h2 fun j v hj => (h3 j v hj).mono hS fun _ _ => rfl
    cases v with
    | rptr cs => unfold AV.back at e; cases e; exact hm
    | ptr t row fld =>
      unfold AV.back at e
      split at e <;> cases e
    | ref p' t off' len' =>
      unfold AV.back at e
      split at e <;> cases e
    | _ => unfold AV.back at e; cases e
  | fn f first caps xs ys h1 h2 h3 h4 ih1 ih2 =>
    intro v e hf
    cases v with
    | fn g a b =>
      unfold AV.back at e
      simp only [AV.fn.injEq] at e
      obtain ⟨rfl, rfl, rfl⟩ := e
      unfold AV.fits at hf
      rw [Bool.and_eq_true] at hf
      refine .fn _ _ _ xs ys (by rw [h1, backL_length]) (by rw [h2, backL_length]) (fun j v x hv hx => ?_) (fun j v x hv hx => ?_)
      · exact ih1 j (v.back ρ) x (by rw [backL_get, hv]; rfl) hx v rfl (fitsL_get hf.1 hv)
      · exact ih2 j (v.back ρ) x (by rw [backL_get, hv]; rfl) hx v rfl (fitsL_get hf.2 hv)
    | ptr t row fld =>
      unfold AV.back at e
      split at e <;> cases e
    | ref p' t off' len' =>
      unfold AV.back at e
      split at e <;> cases e
    | _ => unfold AV.back at e; cases e
  | agg cells xs h1 h2 h3 ih =>
    intro v e hf
    cases v with
    | agg cs =>
      unfold AV.back at e
      simp only [AV.agg.injEq] at e
      subst e
      unfold AV.fits at hf
      exact .agg _ xs (by rw [h1, backL_length]) h2 fun j v x hv hx => ih j (v.back ρ) x (by rw [backL_get, hv]; rfl) hx v rfl (fitsL_get hf hv)
    | ptr t row fld =>
      unfold AV.back at e
      split at e <;> cases e
    | ref p' t off' len' =>
      unfold AV.back at e
      split at e <;> cases e
    | _ => unfold AV.back at e; cases e
  | tup vs xs h1 h3 ih =>
    intro v e hf
    cases v with
    | tup cs =>
      unfold AV.back at e
      simp only [AV.tup.injEq] at e
      subst e
      unfold AV.fits at hf
      exact .tup _ xs (by rw [h1, backL_length]) fun j v x hv hx => ih j (v.back ρ) x (by rw [backL_get, hv]; rfl) hx v rfl (fitsL_get hf hv)
    | ptr t row fld =>
      unfold AV.back at e
      split at e <;> cases e
    | ref p' t off' len' =>
      unfold AV.back at e
      split at e <;> cases e
    | _ => unfold AV.back at e; cases e
  | undef x =>
    intro v e hf
    cases v with
    | undef => exact .undef _
    | ref p t off len =>
      unfold AV.fits at hf
      unfold AV.back at e
      cases hl : lk ρ t with
      | none => rw [hl] at hf; cases hf
      | some q => rw [hl] at e; cases e
    | ptr t row fld =>
      unfold AV.fits at hf
      unfold AV.back at e
      cases hl : lk ρ t with
      | none => rw [hl] at hf; cases hf
      | some q => rw [hl] at e; cases e
    | _ => unfold AV.back at e; cases e

/-- No cell of these leads to an object by its name. -/
def noRefs (rows : List (List AV)) : Prop := ∀ r ∈ rows, ∀ v ∈ r, v.ids = []

theorem ren_tag_root {E : Env} {ρ : Ren} {S' : Nat → Prop} {win' : Nat → Option (Nat × Nat)} (hρ : ρ.ok = true) {s t o b : Nat} (hl : lk ρ t = some (s, o)) (h : E.tag b = some (.root s)) : (E.ren ρ S' win').tag b = some (.root t) := by
  simp [Env.ren, h, renTag, Ren.inv_of hρ hl]

theorem ren_tag_cell {E : Env} {ρ : Ren} {S' : Nat → Prop} {win' : Nat → Option (Nat × Nat)} (hρ : ρ.ok = true) {s t o b i j : Nat} (hl : lk ρ t = some (s, o)) (h : E.tag b = some (.cell s (o + i) j)) : (E.ren ρ S' win').tag b = some (.cell t i j) := by
  simp [Env.ren, h, renTag, Ren.inv_of hρ hl]

theorem ren_arr {E : Env} {ρ : Ren} {S' : Nat → Prop} {win' : Nat → Option (Nat × Nat)} (hρ : ρ.ok = true) (hS : ∀ b, E.S b → S' b) {s t o n sz : Nat} {fl : Bool} {rows rows' : List (List AV)} (hl : lk ρ t = some (s, o))
    (h : ORel E s (.arr sz fl rows)) (ho : o ≤ rows.length) (hr : rows' = (rows.drop o).take n) (hfl : fl = false → noRefs rows') (hwin : ∀ b, E.tag b = some (.root s) → E.win b = none → win' b = none) : ORel (E.ren ρ S' win') t (.arr sz fl rows') := by
  rcases h with ⟨h1, h2⟩ | ⟨L, c, T, h1, hsz, h2, h3, h4, h5, h6, h7, hw, h8, h9⟩
  · subst h2
    refine .inl ⟨by simp [Env.ren, hl, h1], by rw [hr]; simp⟩
  · have hget : ∀ (i : Nat) (r : List AV), rows'[i]? = some r → rows[o + i]? = some r := fun i r hh => by
      rw [hr, List.getElem?_take] at hh
      split at hh
      · rw [List.getElem?_drop] at hh; exact hh
      · cases hh
    have hlen : rows'.length ≤ rows.length - o := by rw [hr]; simp; omega
    refine .inr ⟨L.shift o, c, T, by simp [Env.ren, hl, h1], hsz, h2, ren_tag_root hρ hl h3, h4, ?_, by simp only [Loc.shift]; omega, by simp only [Loc.shift]; omega, hwin _ h3 hw, fun i r hi => h8 _ _ (hget i r hi), fun i j r v hi hj => ?_⟩
    · simp only [Loc.shift]
      rw [Nat.add_assoc, ← Nat.add_mul, show o + (L.cap - o) = L.cap by omega]
      exact h5
    · obtain ⟨y, y1, y2, y3⟩ := h9 _ j r v (hget i r hi) hj
      refine ⟨y, ?_, y2, ?_⟩
      · rw [← y1]; congr 1
        simp only [Loc.shift]; rw [Nat.add_mul]; omega
      · cases fl with
        | true => exact y3
        | false =>
          rcases y3 with y3 | ⟨s', rs, e, y3⟩
          · refine .inl ?_
            have hids := hfl rfl r (List.mem_of_getElem? hi) v (List.mem_of_getElem? hj)
            exact y3.to (fun b hb => ⟨hS b hb, rfl⟩) fun q L hq _ => by rw [hids] at hq; cases hq
          · exact .inr ⟨s', rs, e, y3.mono fun b hb => ⟨ren_tag_cell hρ hl hb, rfl⟩⟩

theorem ren_box {E : Env} {ρ : Ren} {S' : Nat → Prop} {win' : Nat → Option (Nat × Nat)} (hρ : ρ.ok = true) (hS : ∀ b, E.S b → S' b) {s t o : Nat} {cells cells' : List AV} (hl : lk ρ t = some (s, o))
    (h : ORel E s (.box cells)) (hle : o + cells'.length ≤ cells.length) (hc : ∀ (j : Nat) (v u : AV) (y : Value), cells'[j]? = some v → cells[o + j]? = some u → Rel E u y → Rel E (v.back ρ) y) (hf : fitsL ρ cells' = true)
    (hwin : ∀ L lo hi, E.loc s = some L → (∀ lo hi, E.win L.blk = some (lo, hi) → lo ≤ L.base ∧ L.base + cells.length ≤ hi) → win' L.blk = some (lo, hi) → lo ≤ L.base + o ∧ L.base + o + cells'.length ≤ hi) : ORel (E.ren ρ S' win') t (.box cells') := by
  obtain ⟨L, c, T, h1, h2, h3, h4, h5, hw, h6⟩ := h
  have hb : (L.shift o).base = L.base + o := by simp [Loc.shift, h2]
  refine ⟨L.shift o, c, T, by simp [Env.ren, hl, h1], h2, ren_tag_root hρ hl h3, h4, by rw [hb]; omega, fun lo hi hq => ?_, fun j v hj => ?_⟩
  · rw [hb]; exact hwin L lo hi h1 hw hq
  · have hj' := (List.getElem?_eq_some_iff.1 hj).1
    have hu : cells[o + j]? = some cells[o + j] := List.getElem?_eq_getElem (by omega)
    obtain ⟨y, y1, y2, y3⟩ := h6 _ _ hu
    exact ⟨y, by rw [hb, ← y1]; congr 1; omega, y2, (hc j v _ y hj hu y3).ren hS v rfl (fitsL_get hf hj)⟩

/-! ### Told with other names, and less -/

/-- The names of what a caller gave stand. -/
def Ren.low (ρ : Ren) (used : List Nat) : Bool :=
  used.all (fun u => nble lab0 u || (match lk ρ u with | some (s, o) => nbeq s u && nbeq o 0 | none => false)) && ρ.all (fun p => nble lab0 p.1 && nble lab0 p.2.1 || nbeq p.1 p.2.1)

def stoOk (s : St) (ρ : Ren) (i : Nat) (o : Obj) : Prop :=
  match lk ρ i with
  | some (src, off) => match o with
    | .box cells => nbeq off 0 = true ∧ lk s.sto src = some (.box (backL ρ cells)) ∧ fitsL ρ cells = true
    | .arr sz true rows => ∃ rows0, lk s.sto src = some (.arr sz true rows0) ∧ off ≤ rows0.length ∧ rows0.drop off = rows
    | .arr sz false rows => (∃ rows0, lk s.sto src = some (.arr sz false rows0) ∧ off ≤ rows0.length ∧ rows0.drop off = rows) ∧ noRefs rows
  | none => False

theorem Weak.to (ρ : Ren) {s t : St} (hρ : ρ.ok = true) (hn : t.nt = s.nt) (hlow : ρ.low s.used = true) (hu : ρ.all (fun p => t.used.elem p.1) = true)
    (ht : lkAll t.tmps fun k v => lk s.tmps k = some (v.back ρ) ∧ v.fits ρ = true) (ho : lkAll t.sto fun i o => stoOk s ρ i o) : Weak s t := by
  intro E a hs
  have ht' := lkAll_spec _ ht
  have ho' := lkAll_spec _ ho
  unfold Ren.low at hlow
  rw [Bool.and_eq_true] at hlow
  have hlow1 : ∀ u, u ∈ s.used → u < lab0 → lk ρ u = some (u, 0) := fun u hu hlt => by
    have := List.all_eq_true.1 hlow.1 u hu
    rw [Bool.or_eq_true] at this
    rcases this with h | h
    · have := nble_le h; omega
    · cases hq : lk ρ u with
      | none => rw [hq] at h; cases h
      | some p =>
        obtain ⟨q, o⟩ := p
        rw [hq] at h
        simp only [Bool.and_eq_true] at h
        rw [nbeq_eq h.1, nbeq_eq h.2]
  have hS : ∀ b, E.S b → E.S b := fun _ h => h
  have key : ∀ t' p, lk ρ t' = some p → t.used.elem t' = true := fun t' p h => List.all_eq_true.1 hu _ (lk_mem h)
  have hlock : ∀ id L, id < lab0 → E.loc id = some L → (E.ren ρ E.S E.win).loc id = some L := fun id L hlt hL => by
    have := hs.used id L hL
    rw [List.elem_iff] at this
    simp [Env.ren, hlow1 id this hlt, hL, Loc.shift]
  refine ⟨E.ren ρ E.S E.win, rfl, Fr.ghost rfl rfl rfl rfl (fun b hb e => hb (by simp [Env.ren, e])) rfl hlock rfl, ⟨fun b hb => ?_, fun b hb => ?_, fun b hb => ?_⟩, hs.defers, hs.size.trans hn.symm, fun k v hv => ?_, fun i o hv => ?_, fun i L hL => ?_, fun i o hv => ?_⟩
  · obtain ⟨h1, h2⟩ := hs.wf.still b hb
    exact ⟨by simp [Env.ren, h1], h2⟩
  · exact hs.wf.owned b (fun e => hb (by simp [Env.ren, e]))
  · obtain ⟨h1, k, L, h2, hL, hb', h3⟩ := hs.wf.windows b hb
    have hk : lk ρ k = some (k, 0) := hlow1 k (by have := hs.used k L hL; rwa [List.elem_iff] at this) h2
    exact ⟨h1, k, L, h2, hlock k L h2 hL, hb', ren_tag_root hρ hk h3⟩
  · obtain ⟨h1, h2⟩ := ht' k v hv
    obtain ⟨x, hx, hr⟩ := hs.tmps k _ h1
    exact ⟨x, hx, hr.ren hS v rfl h2⟩
  · have h := ho' i o hv
    unfold stoOk at h
    cases hq : lk ρ i with
    | none => rw [hq] at h; exact h.elim
    | some p =>
      obtain ⟨src, off⟩ := p
      rw [hq] at h
      cases o with
      | box cells =>
        obtain ⟨h1, h2, h3⟩ := h
        have h1 := nbeq_eq h1
        subst h1
        have hlen : (backL ρ cells).length = cells.length := backL_length _
        refine ren_box hρ hS hq (hs.sto src _ h2) (by omega) (fun j v u y hv hu hr => ?_) h3 (fun L lo hi _ hw hlh => ?_)
        · rw [Nat.zero_add, backL_get, hv] at hu
          simp at hu
          subst hu; exact hr
        · have := hw lo hi hlh
          omega
      | arr sz fl rows =>
        cases fl with
        | true =>
          obtain ⟨rows0, h1, h2, h3⟩ := h
          exact ren_arr hρ hS hq (hs.sto src _ h1) h2 (n := rows.length) (by rw [h3, List.take_length]) (fun e => by cases e) (fun b _ h => h)
        | false =>
          obtain ⟨⟨rows0, h1, h2, h3⟩, h4⟩ := h
          exact ren_arr hρ hS hq (hs.sto src _ h1) h2 (n := rows.length) (by rw [h3, List.take_length]) (fun _ => h4) (fun b _ h => h)
  · simp only [Env.ren] at hL
    cases hq : lk ρ i with
    | none => simp [hq] at hL
    | some p => exact key i p hq
  · have h := ho' i o hv
    unfold stoOk at h
    cases hq : lk ρ i with
    | none => rw [hq] at h; exact h.elim
    | some p => exact key i p hq

/-! ### An array inside a cell, by its own name -/

theorem rows_set_get {rows : List (List AV)} {i : Nat} {r : List AV} (hr : rows[i]? = some r) {j : Nat} {u : AV} {i' j' : Nat} {r' : List AV} {v : AV} (h1 : (rows.set i (r.set j u))[i']? = some r') (h2 : r'[j']? = some v) :
    (i' = i ∧ j' = j ∧ v = u) ∨ (¬ (i' = i ∧ j' = j) ∧ ∃ r0, rows[i']? = some r0 ∧ r0[j']? = some v) := by
  have hi := (List.getElem?_eq_some_iff.1 hr).1
  rw [List.getElem?_set] at h1
  by_cases h : i = i'
  · subst h
    rw [if_pos rfl, if_pos hi] at h1
    obtain rfl := Option.some.inj h1
    rw [List.getElem?_set] at h2
    by_cases hj : j = j'
    · subst hj
      rw [if_pos rfl] at h2
      split at h2
      · exact .inl ⟨rfl, rfl, (Option.some.inj h2).symm⟩
      · cases h2
    · rw [if_neg hj] at h2
      exact .inr ⟨fun h => hj h.2.symm, r, hr, h2⟩
  · rw [if_neg h] at h1
    exact .inr ⟨fun h' => h h'.1.symm, r', h1, h2⟩

theorem rows_set_len {rows : List (List AV)} {i j n : Nat} {r : List AV} {u : AV} (hr : rows[i]? = some r) (h : ∀ (i : Nat) (r : List AV), rows[i]? = some r → r.length = n) : ∀ (i' : Nat) (r' : List AV), (rows.set i (r.set j u))[i']? = some r' → r'.length = n := by
  intro i' r' h1
  have hi := (List.getElem?_eq_some_iff.1 hr).1
  rw [List.getElem?_set] at h1
  by_cases hh : i = i'
  · subst hh
    rw [if_pos rfl, if_pos hi] at h1
    obtain rfl := Option.some.inj h1
    rw [List.length_set]; exact h _ _ hr
  · rw [if_neg hh] at h1
    exact h _ _ h1

theorem Sim.notUsed {E : Env} {st : St} {a : Act} (h : Sim E st a) {id : Nat} (hu : st.used.elem id = false) : E.loc id = none := by
  cases hq : E.loc id with
  | none => rfl
  | some L => rw [h.used id L hq] at hu; cases hu

/-- The array in a cell gets a name. -/
theorem Weak.unfold {s : St} {id i j sz s0 L : Nat} {rows rows' : List (List AV)} {r : List AV} (hq : lk s.sto id = some (.arr s0 false rows)) (hr : rows[i]? = some r) (hc : r[j]? = some (.own sz true rows')) (hu : s.used.elem L = false) :
    Weak s { s with sto := (L, .arr sz true rows') :: (id, .arr s0 false (rows.set i (r.set j (.ref false L 0 rows'.length)))) :: s.sto, used := L :: s.used } := by
  intro E a hs
  have hLn := hs.notUsed hu
  have hLk : ∀ o, lk s.sto L = some o → False := fun o h => by rw [hs.keys L o h] at hu; cases hu
  have hid : id ≠ L := fun e => hLk _ (e ▸ hq)
  rcases hs.sto id _ hq with ⟨g1, g2⟩ | ⟨L0, c, T, g1, gsz, g2, g3, g4, g5, g6, g7, gw, g8, g9⟩
  · subst g2; simp at hr
  obtain ⟨y, y1, y2, y3⟩ := g9 i j r _ hr hc
  have y3 : OwnAt E.w E.tag (.cell id i j) sz rows' y := by
    rcases y3 with y3 | ⟨_, _, e, y3⟩
    · cases y3 with
      | base _ _ h => cases h
    · cases e; exact y3
  -- where it lies
  have : ∃ (lc : Option Loc) (tag' : Nat → Option Tag), (∀ b, tag' b ≠ none → E.tag b ≠ none) ∧ (∀ b, E.tag b ≠ none → tag' b ≠ none) ∧ (∀ b, E.tag b ≠ some (.cell id i j) → tag' b = E.tag b) ∧
      (∀ E' : Env, E'.w = E.w → E'.win = E.win → E'.tag = tag' → E'.loc L = lc → ORel E' L (.arr sz true rows') ∧ Rel E' (.ref false L 0 rows'.length) y) := by
    rcases y3 with ⟨h1, h2⟩ | ⟨b, o, cap, c', T', h1, h2, h3, h4, h5, h5', h6, h7, h8, h9⟩
    · subst h1
      refine ⟨none, E.tag, fun _ h => h, fun _ h => h, fun _ _ => rfl, fun E' _ _ _ hl => ⟨.inl ⟨hl, rfl⟩, ?_⟩⟩
      rcases h2 with ⟨a, rfl⟩ | rfl <;> exact .ref0 _ _ _ _ rfl
    · refine ⟨some ⟨b, o, sz, cap⟩, fun b' => if b' = b then some (.root L) else E.tag b', fun b' hb => ?_, fun b' hb => ?_, fun b' hb => ?_, fun E' e1 e2 e3 e4 => ⟨.inr ⟨_, c', T', e4, rfl, h7, ?_, ?_, h4, h5, h6, ?_, h8, h9⟩, ?_⟩⟩
      · by_cases e : b' = b
        · subst e; rw [h2]; simp
        · simpa [e] using hb
      · by_cases e : b' = b
        · simp [e]
        · simpa [e] using hb
      · have : b' ≠ b := fun e => hb (e ▸ h2)
        simp [this]
      · rw [e3]; simp
      · rw [e1]; exact h3
      · rw [e2]
        cases hw : E.win b with
        | none => rfl
        | some p =>
          obtain ⟨_, k, _, _, _, _, ht⟩ := hs.wf.windows b (by rw [hw]; simp)
          rw [h2] at ht; cases ht
      · rw [h1]
        have := Rel.ref (E := E') false L 0 rows'.length _ cap e4 h5 (by simp)
        simpa using this
  obtain ⟨lc, tag', t1, t2, t3, t4⟩ := this
  let E' : Env := ⟨E.w, E.S, tag', fun k => if k = L then lc else E.loc k, E.win⟩
  have hloc : ∀ k Lk, E.loc k = some Lk → E'.loc k = some Lk := fun k Lk hL => by
    have : k ≠ L := fun e => by rw [e, hLn] at hL; cases hL
    simp only [E', if_neg this]; exact hL
  obtain ⟨o1, o2⟩ := t4 E' rfl rfl rfl (by simp [E'])
  have hS : ∀ b, E.S b → E'.S b ∧ E'.w.heap[b]? = E.w.heap[b]? := fun b h => ⟨h, rfl⟩
  refine ⟨E', rfl, Fr.ghost rfl rfl rfl rfl t1 rfl (fun k Lk _ h => hloc k Lk h) rfl, ⟨fun b hb => ?_, fun b hb => hs.wf.owned b (t1 b hb), fun b hb => ?_⟩, hs.defers, hs.size, fun t v hv => ?_, fun k ob hk => ?_, fun k Lk hL => ?_, fun k ob hk => ?_⟩
  · obtain ⟨h1, h2⟩ := hs.wf.still b hb
    refine ⟨?_, h2⟩
    show tag' b = none
    rw [t3 b (by rw [h1]; simp)]; exact h1
  · obtain ⟨h1, k, Lk, h2, h3, hb', h4⟩ := hs.wf.windows b hb
    exact ⟨h1, k, Lk, h2, hloc k Lk h3, hb', by show tag' b = _; rw [t3 b (by rw [h4]; simp)]; exact h4⟩
  · obtain ⟨x, hx, hrx⟩ := hs.tmps t v hv
    exact ⟨x, hx, hrx.to hS fun k Lk _ h => hloc k Lk h⟩
  · rw [lk_cons] at hk
    by_cases e1 : L = k
    · subst e1
      rw [if_pos rfl] at hk
      obtain rfl := Option.some.inj hk
      exact o1
    · rw [if_neg e1, lk_cons] at hk
      by_cases e2 : id = k
      · subst e2
        rw [if_pos rfl] at hk
        obtain rfl := Option.some.inj hk
        refine .inr ⟨L0, c, T, hloc _ _ g1, gsz, g2, by show tag' _ = _; rw [t3 _ (by rw [g3]; simp)]; exact g3, g4, g5, by simpa using g6, g7, gw, rows_set_len hr g8, fun i' j' r' v hi' hj' => ?_⟩
        rcases rows_set_get hr hi' hj' with ⟨rfl, rfl, rfl⟩ | ⟨hne, r0, k1, k2⟩
        · exact ⟨y, y1, y2, .inl o2⟩
        · obtain ⟨z, z1, z2, z3⟩ := g9 _ _ _ _ k1 k2
          refine ⟨z, z1, z2, z3.to hS (fun k Lk _ h => hloc k Lk h) fun b hb => ⟨?_, rfl⟩⟩
          show tag' b = _
          rw [t3 b (by rw [hb]; simp; exact fun e => fun e' => hne ⟨e, e'⟩)]; exact hb
      · rw [if_neg e2] at hk
        refine (hs.sto k ob hk).to hS (by show (if k = L then lc else E.loc k) = _; rw [if_neg (Ne.symm e1)]) rfl (fun q Lq _ h => hloc q Lq h) fun b hb => ⟨?_, rfl⟩
        show tag' b = _
        rw [t3 b (by rcases hb with hb | ⟨_, _, hb⟩ <;> rw [hb] <;> simp; exact fun e => absurd e.symm e2)]
  · by_cases e : k = L
    · subst e; simp
    · simp only [E', if_neg e] at hL
      have := hs.used k Lk hL
      simp only [List.elem_cons, this]
      split <;> rfl
  · rw [lk_cons] at hk
    by_cases e1 : L = k
    · subst e1; simp
    · rw [if_neg e1, lk_cons] at hk
      have : s.used.elem k = true := by
        by_cases e2 : id = k
        · subst e2; exact hs.keys _ _ hq
        · rw [if_neg e2] at hk; exact hs.keys _ _ hk
      simp only [List.elem_cons, this]
      split <;> rfl

/-- A named array goes into the cell that holds it. -/
theorem Weak.fold {s : St} {id i j sz s0 L n : Nat} {p : Bool} {rows rows' : List (List AV)} {r : List AV} (hq : lk s.sto id = some (.arr s0 false rows)) (hr : rows[i]? = some r) (hc : r[j]? = some (.ref p L 0 n))
    (hL : lk s.sto L = some (.arr sz true rows')) (hn : rows'.length = n) (hlow : lab0 ≤ L) :
    Weak s { s with sto := (id, .arr s0 false (rows.set i (r.set j (.own sz true rows')))) :: rm s.sto L } := by
  intro E a hs
  have hid : id ≠ L := fun e => by rw [e, hL] at hq; cases hq
  rcases hs.sto id _ hq with ⟨g1, g2⟩ | ⟨L0, c, T, g1, gsz, g2, g3, g4, g5, g6, g7, gw, g8, g9⟩
  · subst g2; simp at hr
  obtain ⟨y, y1, y2, y3⟩ := g9 i j r _ hr hc
  have y3 : Rel E (.ref p L 0 n) y := by
    rcases y3 with y3 | ⟨_, _, e, y3⟩
    · exact y3
    · cases e
  have : ∃ (tag' : Nat → Option Tag), (∀ b, tag' b ≠ none → E.tag b ≠ none) ∧ (∀ b, E.tag b ≠ some (.root L) → tag' b = E.tag b) ∧ OwnAt E.w tag' (.cell id i j) sz rows' y := by
    cases y3 with
    | base _ _ h => cases h
    | ref0 _ _ cap ad h0 =>
      subst h0
      refine ⟨E.tag, fun _ h => h, fun _ _ => rfl, .inl ⟨List.eq_nil_of_length_eq_zero hn, ?_⟩⟩
      cases ad with
      | none => exact .inr rfl
      | some ad => exact .inl ⟨ad, rfl⟩
    | ref _ _ _ _ Lc cap h1 h2 h3 =>
      rcases hs.sto L _ hL with ⟨k1, k2⟩ | ⟨L', c', T', k1, ksz, k2, k3, k4, k5, k6, k7, kw, k8, k9⟩
      · rw [k1] at h1; cases h1
      rw [k1] at h1
      obtain rfl := Option.some.inj h1
      refine ⟨fun b => if b = L'.blk then some (.cell id i j) else E.tag b, fun b hb => ?_, fun b hb => ?_, ?_⟩
      · by_cases e : b = L'.blk
        · subst e; rw [k3]; simp
        · simpa [e] using hb
      · have : b ≠ L'.blk := fun e => hb (e ▸ k3)
        simp [this]
      · rw [Nat.zero_mul, Nat.add_zero, ← hn]
        by_cases h0 : cap = 0
        · subst h0
          refine .inl ⟨List.eq_nil_of_length_eq_zero (by omega), .inl ⟨⟨L'.blk, L'.base, none⟩, ?_⟩⟩
          rw [show rows'.length = 0 by omega]
        · refine .inr ⟨L'.blk, L'.base, cap, c', T', rfl, by simp, k4, ?_, by omega, by omega, by omega, by rw [← ksz]; exact k2, fun i r hi => by rw [← ksz]; exact k8 i r hi, fun i j r v hi hj => by rw [← ksz]; exact k9 i j r v hi hj⟩
          rw [← ksz, show cap = L'.cap by omega]; exact k5
  obtain ⟨tag', t1, t3, t4⟩ := this
  let E' : Env := ⟨E.w, E.S, tag', E.loc, E.win⟩
  have hS : ∀ b, E.S b → E'.S b ∧ E'.w.heap[b]? = E.w.heap[b]? := fun b h => ⟨h, rfl⟩
  refine ⟨E', rfl, Fr.ghost rfl rfl rfl rfl t1 rfl (fun k Lk _ h => h) rfl, ⟨fun b hb => ?_, fun b hb => hs.wf.owned b (t1 b hb), fun b hb => ?_⟩, hs.defers, hs.size, fun t v hv => ?_, fun k ob hk => ?_, hs.used, fun k ob hk => ?_⟩
  · obtain ⟨h1, h2⟩ := hs.wf.still b hb
    refine ⟨?_, h2⟩
    show tag' b = none
    rw [t3 b (by rw [h1]; simp)]; exact h1
  · obtain ⟨h1, k, Lk, h2, h3, hb', h4⟩ := hs.wf.windows b hb
    refine ⟨h1, k, Lk, h2, h3, hb', ?_⟩
    show tag' b = _
    rw [t3 b (by rw [h4]; simp only [ne_eq, Option.some.injEq, Tag.root.injEq]; unfold lab0 at *; omega)]; exact h4
  · obtain ⟨x, hx, hrx⟩ := hs.tmps t v hv
    exact ⟨x, hx, hrx.to hS fun k Lk _ h => h⟩
  · rw [lk_cons] at hk
    by_cases e2 : id = k
    · subst e2
      rw [if_pos rfl] at hk
      obtain rfl := Option.some.inj hk
      refine .inr ⟨L0, c, T, g1, gsz, g2, by show tag' _ = _; rw [t3 _ (by rw [g3]; simpa using hid)]; exact g3, g4, g5, by simpa using g6, g7, gw, rows_set_len hr g8, fun i' j' r' v hi' hj' => ?_⟩
      rcases rows_set_get hr hi' hj' with ⟨rfl, rfl, rfl⟩ | ⟨hne, r0, k1, k2⟩
      · exact ⟨y, y1, y2, .inr ⟨_, _, rfl, t4⟩⟩
      · obtain ⟨z, z1, z2, z3⟩ := g9 _ _ _ _ k1 k2
        refine ⟨z, z1, z2, z3.to hS (fun k Lk _ h => h) fun b hb => ⟨?_, rfl⟩⟩
        show tag' b = _
        rw [t3 b (by rw [hb]; simp)]; exact hb
    · rw [if_neg e2, lk_rm] at hk
      by_cases e1 : L = k
      · rw [if_pos e1] at hk; cases hk
      · rw [if_neg e1] at hk
        refine (hs.sto k ob hk).to hS rfl rfl (fun q Lq _ h => h) fun b hb => ⟨?_, rfl⟩
        show tag' b = _
        rw [t3 b (by rcases hb with hb | ⟨_, _, hb⟩ <;> rw [hb] <;> simp; exact fun e => absurd e.symm e1)]
  · rw [lk_cons] at hk
    by_cases e2 : id = k
    · subst e2; exact hs.keys _ _ hq
    · rw [if_neg e2, lk_rm] at hk
      by_cases e1 : L = k
      · rw [if_pos e1] at hk; cases hk
      · rw [if_neg e1] at hk; exact hs.keys _ _ hk

end Go.Proofs.Ytmbckmfihcojoaa.AM
