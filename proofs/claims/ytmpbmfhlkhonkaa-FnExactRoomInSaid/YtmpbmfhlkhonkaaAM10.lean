/- The abstract machine, part 10: what a call hands back. -/
import Derived.Test.YtmpbmfhlkhonkaaAM9
namespace Go.Proofs.Ytmpbmfhlkhonkaa.AM
open Go Go.RowKit

set_option linter.unusedVariables false
set_option linter.unusedSimpArgs false

variable {P : Program} {T : Nat → Option TI} {E : Env} {st : St} {a : Act} {K : AV → St → Prop} {o : Oper}

/-! ### Own arrays of a result get names -/

def adopt1 (base : Nat) : List AV → List AV
  | [] => []
  | .own _ _ rows :: r => .ref false base 0 rows.length :: adopt1 (base + 1) r
  | v :: r => v :: adopt1 (base + 1) r

def adoptV (base : Nat) : AV → AV
  | .agg cells => .agg (adopt1 base cells)
  | .own _ _ rows => .ref false base 0 rows.length
  | v => v

def adoptT (base : Nat) : List AV → List AV
  | [] => []
  | v :: r => adoptV base v :: adoptT (base + 100) r

def adopt (base : Nat) : AV → AV
  | .tup vs => .tup (adoptT base vs)
  | v => adoptV base v

def objs1 (base : Nat) : List AV → List (Nat × Obj)
  | [] => []
  | .own s fl rows :: r => (base, .arr s fl rows) :: objs1 (base + 1) r
  | _ :: r => objs1 (base + 1) r

def objsV (base : Nat) : AV → List (Nat × Obj)
  | .agg cells => objs1 base cells
  | .own s fl rows => [(base, .arr s fl rows)]
  | _ => []

def objsT (base : Nat) : List AV → List (Nat × Obj)
  | [] => []
  | v :: r => objsV base v ++ objsT (base + 100) r

def objsOf (base : Nat) : AV → List (Nat × Obj)
  | .tup vs => objsT base vs
  | v => objsV base v

def small1 : AV → Bool
  | .agg cells => nble cells.length 100
  | _ => true

/-- Few enough parts for their names. -/
def AV.small : AV → Bool
  | .tup vs => vs.all small1 && nble vs.length 90
  | v => small1 v

def freshL (lab : Nat) (used : List Nat) : Bool := used.all fun k => nblt k lab || nble (lab + 10000) k

def St.adopt (st : St) (lab : Nat) (v : AV) : St :=
  { st with sto := objsOf lab v ++ st.sto, used := (objsOf lab v).map (·.1) ++ st.used }

theorem lk_append {α : Type} (l m : List (Nat × α)) (k : Nat) : lk (l ++ m) k = (lk l k).or (lk m k) := by
  induction l with
  | nil => simp [lk]
  | cons p r ih =>
    obtain ⟨k', v⟩ := p
    rw [List.cons_append, lk_cons, lk_cons, ih]
    by_cases h : k' = k
    · rw [if_pos h, if_pos h]; rfl
    · rw [if_neg h, if_neg h]

theorem lk_mem {α : Type} : ∀ {l : List (Nat × α)} {k : Nat} {v : α}, lk l k = some v → (k, v) ∈ l
  | [], _, _, h => by simp [lk] at h
  | (k', v') :: r, k, v, h => by
    rw [lk_cons] at h
    by_cases he : k' = k
    · rw [if_pos he] at h; obtain rfl := Option.some.inj h; rw [he]; simp
    · rw [if_neg he] at h; exact List.mem_cons_of_mem _ (lk_mem h)

/-- The cell at a place of a result, and its value. -/
def cellAt1 (v : AV) (x : Value) (j : Nat) : Option (AV × Value) :=
  match v, x with
  | .agg cells, .agg xs => match cells[j]?, xs[j]? with
    | some u, some y => some (u, y)
    | _, _ => none
  | v, x => if j = 0 then some (v, x) else none

def cellAt (v : AV) (x : Value) (p : Nat) : Option (AV × Value) :=
  match v, x with
  | .tup vs, .tuple xs => match vs[p / 100]?, xs[p / 100]? with
    | some u, some y => cellAt1 u y (p % 100)
    | _, _ => none
  | v, x => cellAt1 v x p

def locOf : Option (AV × Value) → Option Loc
  | some (.own s _ _, .slice (some ⟨b, o, none⟩) _ cap) => if cap = 0 then none else some ⟨b, o, s, cap⟩
  | _ => none

def relabel (lab : Nat) : Option Tag → Option Tag
  | some (.root p) => some (.root (lab + p))
  | some (.cell p i j) => some (.cell (lab + p) i j)
  | none => none

theorem objs1_lk : ∀ (l : List AV) (base k : Nat) (ob : Obj), lk (objs1 base l) k = some ob → ∃ j s fl rows, k = base + j ∧ l[j]? = some (.own s fl rows) ∧ ob = .arr s fl rows
  | [], _, _, _, h => by simp [objs1, lk] at h
  | v :: r, base, k, ob, h => by
    have hrec : lk (objs1 (base + 1) r) k = some ob → ∃ j s fl rows, k = base + j ∧ (v :: r)[j]? = some (.own s fl rows) ∧ ob = .arr s fl rows := fun h => by
      obtain ⟨j, s, fl, rows, h1, h2, h3⟩ := objs1_lk r (base + 1) k ob h
      exact ⟨j + 1, s, fl, rows, by omega, by simpa using h2, h3⟩
    cases v with
    | own s fl rows =>
      simp only [objs1] at h
      rw [lk_cons] at h
      by_cases he : base = k
      · rw [if_pos he] at h; obtain rfl := Option.some.inj h; exact ⟨0, s, fl, rows, by omega, rfl, rfl⟩
      · rw [if_neg he] at h; exact hrec h
    | _ => exact hrec h

theorem objs1_get {s : Nat} {fl : Bool} {rows : List (List AV)} : ∀ (l : List AV) (base j : Nat), l[j]? = some (.own s fl rows) → lk (objs1 base l) (base + j) = some (.arr s fl rows)
  | [], _, _, h => by simp at h
  | v :: r, base, j, h => by
    cases j with
    | zero => simp at h; subst h; simp [objs1, lk_cons]
    | succ j =>
      have := objs1_get r (base + 1) j (by simpa using h)
      rw [show base + 1 + j = base + (j + 1) by omega] at this
      cases v with
      | own => simp only [objs1]; rw [lk_cons, if_neg (by omega)]; exact this
      | _ => exact this

theorem adopt1_get : ∀ (l : List AV) (base j : Nat) (v : AV), l[j]? = some v → (adopt1 base l)[j]? = some (match v with | .own _ _ rows => .ref false (base + j) 0 rows.length | v => v)
  | [], _, _, _, h => by simp at h
  | u :: r, base, j, v, h => by
    cases j with
    | zero => simp at h; subst h; cases u <;> rfl
    | succ j =>
      have := adopt1_get r (base + 1) j v (by simpa using h)
      rw [show base + 1 + j = base + (j + 1) by omega] at this
      cases u <;> simpa [adopt1] using this

theorem adopt1_length : ∀ (l : List AV) (base : Nat), (adopt1 base l).length = l.length
  | [], _ => rfl
  | v :: r, base => by cases v <;> simp [adopt1, adopt1_length r]

theorem objsV_lk {v : AV} {base k : Nat} {ob : Obj} (h : lk (objsV base v) k = some ob) (x : Value) (hx : ∀ cells, v = .agg cells → ∃ xs : Array Value, x = .agg xs ∧ xs.size = cells.length) :
    ∃ j s fl rows y, k = base + j ∧ cellAt1 v x j = some (.own s fl rows, y) ∧ ob = .arr s fl rows := by
  cases v with
  | agg cells =>
    obtain ⟨xs, rfl, hxs⟩ := hx cells rfl
    obtain ⟨j, s, fl, rows, h1, h2, h3⟩ := objs1_lk _ _ _ _ h
    have hlt : j < xs.size := by rw [hxs]; exact (List.getElem?_eq_some_iff.1 h2).1
    exact ⟨j, s, fl, rows, xs[j], h1, by simp [cellAt1, h2, hlt], h3⟩
  | own s fl rows =>
    simp only [objsV, lk_cons] at h
    by_cases he : base = k
    · rw [if_pos he] at h; obtain rfl := Option.some.inj h; exact ⟨0, s, fl, rows, x, by omega, by simp [cellAt1], rfl⟩
    · rw [if_neg he] at h; simp [lk] at h
  | _ => simp [objsV, lk] at h

theorem objsV_get {v : AV} {x y : Value} {base j s : Nat} {fl : Bool} {rows : List (List AV)} (h : cellAt1 v x j = some (.own s fl rows, y)) : lk (objsV base v) (base + j) = some (.arr s fl rows) := by
  cases v with
  | agg cells =>
    cases x <;> simp only [cellAt1] at h <;> try (split at h <;> simp at h; done)
    split at h
    · rename_i u z hu hz
      simp at h
      rw [h.1] at hu
      exact objs1_get cells base j hu
    · cases h
  | own s' fl' rows' =>
    simp only [cellAt1] at h
    split at h
    · rename_i hj
      subst hj
      simp at h
      obtain ⟨⟨rfl, rfl, rfl⟩, _⟩ := h
      simp [objsV, lk_cons]
    · cases h
  | _ =>
    simp only [cellAt1] at h
    split at h <;> simp at h

theorem cellAt1_lt {v : AV} {x : Value} {j : Nat} {p : AV × Value} (hs : small1 v = true) (h : cellAt1 v x j = some p) : j < 100 := by
  cases v with
  | agg cells =>
    have hl : cells.length ≤ 100 := nble_le hs
    cases x <;> simp only [cellAt1] at h <;> try (split at h <;> first | omega | simp at h; done)
    split at h
    · rename_i u z hu hz
      have := (List.getElem?_eq_some_iff.1 hu).1
      omega
    · cases h
  | _ =>
    simp only [cellAt1] at h
    split at h
    · omega
    · cases h

/-- A result's shape, and the value's. -/
def shape1 (v : AV) (x : Value) : Prop := ∀ cells, v = .agg cells → ∃ xs : Array Value, x = .agg xs ∧ xs.size = cells.length

theorem objsT_lk : ∀ (vs : List AV) (xs : List Value) (base k : Nat) (ob : Obj), vs.length = xs.length → (∀ (j : Nat) (v : AV) (x : Value), vs[j]? = some v → xs[j]? = some x → shape1 v x) → vs.all small1 = true → lk (objsT base vs) k = some ob →
    ∃ q s fl rows y v x, k = base + q ∧ vs[q / 100]? = some v ∧ xs[q / 100]? = some x ∧ cellAt1 v x (q % 100) = some (.own s fl rows, y) ∧ ob = .arr s fl rows
  | [], _, _, _, _, _, _, _, h => by simp [objsT, lk] at h
  | v :: vs, [], _, _, _, hl, _, _, _ => by simp at hl
  | v :: vs, x :: xs, base, k, ob, hl, hsh, hsm, h => by
    simp only [List.all_cons, Bool.and_eq_true] at hsm
    simp only [objsT, lk_append] at h
    cases hq : lk (objsV base v) k with
    | some ob' =>
      rw [hq] at h
      simp at h
      subst h
      obtain ⟨j, s, fl, rows, y, h1, h2, h3⟩ := objsV_lk hq x (hsh 0 v x rfl rfl)
      have hj := cellAt1_lt hsm.1 h2
      exact ⟨j, s, fl, rows, y, v, x, h1, by simp [Nat.div_eq_of_lt hj], by simp [Nat.div_eq_of_lt hj], by rw [Nat.mod_eq_of_lt hj]; exact h2, h3⟩
    | none =>
      rw [hq] at h
      simp at h
      obtain ⟨q, s, fl, rows, y, v', x', h1, h2, h3, h4, h5⟩ := objsT_lk vs xs (base + 100) k ob (by simpa using hl) (fun j v x hv hx => hsh (j + 1) v x (by simpa using hv) (by simpa using hx)) hsm.2 h
      refine ⟨q + 100, s, fl, rows, y, v', x', by omega, ?_, ?_, ?_, h5⟩
      · rw [show (q + 100) / 100 = q / 100 + 1 by omega]; simpa using h2
      · rw [show (q + 100) / 100 = q / 100 + 1 by omega]; simpa using h3
      · rw [show (q + 100) % 100 = q % 100 by omega]; exact h4

theorem objsT_get {v : AV} {x y : Value} {s : Nat} {fl : Bool} {rows : List (List AV)} : ∀ (vs : List AV) (base q : Nat), vs.all small1 = true → vs[q / 100]? = some v → cellAt1 v x (q % 100) = some (.own s fl rows, y) → lk (objsT base vs) (base + q) = some (.arr s fl rows)
  | [], _, _, _, h, _ => by simp at h
  | u :: vs, base, q, hsm, h, hc => by
    simp only [List.all_cons, Bool.and_eq_true] at hsm
    simp only [objsT, lk_append]
    by_cases hq : q < 100
    · rw [Nat.div_eq_of_lt hq] at h
      simp at h; subst h
      rw [Nat.mod_eq_of_lt hq] at hc
      rw [objsV_get hc]; rfl
    · have hd : q / 100 = (q - 100) / 100 + 1 := by omega
      have hm : q % 100 = (q - 100) % 100 := by omega
      rw [hd] at h
      rw [hm] at hc
      have := objsT_get vs (base + 100) (q - 100) hsm.2 (by simpa using h) hc
      rw [show base + 100 + (q - 100) = base + q by omega] at this
      rw [this]
      cases hq' : lk (objsV base u) (base + q) with
      | none => rfl
      | some ob =>
        exfalso
        cases u with
        | agg cells =>
          obtain ⟨j, s, fl, rows, h1, h2, h3⟩ := objs1_lk _ _ _ _ hq'
          have := (List.getElem?_eq_some_iff.1 h2).1
          have hl : cells.length ≤ 100 := nble_le hsm.1
          omega
        | own s fl rows =>
          simp only [objsV, lk_cons] at hq'
          rw [if_neg (by omega)] at hq'
          simp [lk] at hq'
        | _ => simp [objsV, lk] at hq'

end Go.Proofs.Ytmpbmfhlkhonkaa.AM
