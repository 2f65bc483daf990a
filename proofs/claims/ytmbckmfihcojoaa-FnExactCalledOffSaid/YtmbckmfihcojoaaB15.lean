/- The abstract machine, part 15: calls: what comes back; the rule. -/
import Derived.Test.YtmbckmfihcojoaaB14
namespace Go.Proofs.Ytmbckmfihcojoaa.AM
open Go Go.RowKit

set_option linter.unusedVariables false
set_option linter.unusedSimpArgs false

variable {P : Program} {T : Nat → Option TI} {E E0 : Env} {st : St} {a : Act} {K : AV → St → Prop} {o : Oper}

/-! ### Trees -/

def AV.treeC : AV → Bool
  | .int _ _ => true
  | .bool _ => true
  | .nilS => true
  | .emp => true
  | .ro _ => true
  | .own _ _ _ => true
  | .undef => true
  | _ => false

def AV.tree1 : AV → Bool
  | .agg cells => cells.all AV.treeC
  | .ownp cells => cells.all AV.treeC
  | v => v.treeC

def AV.tree : AV → Bool
  | .tup vs => vs.all AV.tree1
  | v => v.tree1

/-! ### New names for what comes back: the caller's, the callee's -/

def sigC (base std : Nat) : List AV → Ren
  | [] => []
  | .own _ _ _ :: r => (base, (std, 0)) :: sigC (base + 1) (std + 1) r
  | _ :: r => sigC (base + 1) (std + 1) r

def sigV (base std : Nat) : AV → Ren
  | .agg cells => sigC base std cells
  | .own _ _ _ => [(base, (std, 0))]
  | .ownp cells => (base, (std, 0)) :: sigC (base + 1) (std + 1) cells
  | _ => []

def sigT (base std : Nat) : List AV → Ren
  | [] => []
  | v :: r => sigV base std v ++ sigT (base + 100) (std + 100) r

def sigR (base std : Nat) : AV → Ren
  | .tup vs => sigT base std vs
  | v => sigV base std v

/-- Where the cells of a variable that was given get their names. -/
def labK (lab k : Nat) : Nat := lab + 5000 + 100 * k

def sigO (st : St) (ρ : Ren) (lab k : Nat) : List (Option Obj) → Ren
  | [] => []
  | none :: r => sigO st ρ lab (k + 1) r
  | some (.box cells) :: r => (match lk ρ (gl k) with
    | some (id, _) => (id, (gl k, 0)) :: sigC (labK lab k) (gl k + 1) cells
    | none => []) ++ sigO st ρ lab (k + 1) r
  | some (.arr _ _ _) :: r => (match lk ρ (gl k) with
    | some (L, _) => [(L, (gl k, 0))]
    | none => []) ++ sigO st ρ lab (k + 1) r

def sigA (st : St) (ρ : Ren) (lab : Nat) (os : List (Option Obj)) (v : AV) : Ren := sigR lab rl v ++ sigO st ρ lab 0 os

/-- The objects afterwards. -/
def backSto (ln : List (List AV) → Nat) (st : St) (ρ : Ren) (lab k : Nat) : List (Option Obj) → List (Nat × Obj)
  | [] => []
  | none :: r => backSto ln st ρ lab (k + 1) r
  | some (.box cells) :: r => (match lk ρ (gl k) with
    | some (id, fld) => match lk st.sto id with
      | some (.box cs) => (id, .box (setMany cs fld (adopt1 ln (labK lab k) cells))) :: objs1 (labK lab k) cells
      | _ => []
    | none => []) ++ backSto ln st ρ lab (k + 1) r
  | some (.arr s fl rows) :: r => (match lk ρ (gl k) with
    | some (L, _) => [(L, .arr s fl rows)]
    | none => []) ++ backSto ln st ρ lab (k + 1) r

def newSto (ln : List (List AV) → Nat) (st : St) (ρ : Ren) (lab : Nat) (os : List (Option Obj)) (v : AV) : List (Nat × Obj) := objsOf ln lab v ++ backSto ln st ρ lab 0 os

def inLab (lab id : Nat) : Bool := nble lab id && nblt id (lab + 10000)

def freshL (lab : Nat) (used : List Nat) : Bool := used.all (fun k => nblt k lab || nble (lab + 10000) k) && nble lab0 lab

/-- The objects that come back are like those that were given. -/
def shapes : List Obj → List (Option Obj) → Bool
  | [], [] => true
  | .box cs :: r, some (.box cs') :: r' => nbeq cs'.length cs.length && cs'.all AV.treeC && shapes r r'
  | .arr _ _ _ :: r, some (.arr _ _ _) :: r' => shapes r r'
  | .arr _ _ _ :: r, none :: r' => shapes r r'
  | _, _ => false

def arrPl (ρ : Ren) (k : Nat) : List (Option Obj) → List Nat
  | [] => []
  | some (.arr _ _ _) :: r => (match lk ρ (gl k) with
    | some (L, _) => [L]
    | none => []) ++ arrPl ρ (k + 1) r
  | _ :: r => arrPl ρ (k + 1) r

def backChk (st : St) (ρ : Ren) (lab : Nat) (objs : List Obj) (os : List (Option Obj)) (v : AV) : Bool :=
  Ren.ok (sigA st ρ lab os v) && shapes objs os && v.tree && (objsOf (fun _ => 0) lab v).all (fun p => inLab lab p.1)

def backUsed (st : St) (ρ : Ren) (lab : Nat) (os : List (Option Obj)) (v : AV) : List Nat := ((newSto (fun _ => 0) st ρ lab os v).map (·.1)).filter (inLab lab)

theorem shapes_get : ∀ {objs : List Obj} {os : List (Option Obj)}, shapes objs os = true → ∀ i : Nat, (∀ cs', os[i]? = some (some (Obj.box cs')) → ∃ cs, objs[i]? = some (Obj.box cs) ∧ cs'.length = cs.length ∧ cs'.all AV.treeC = true) ∧
    (∀ s fl rows, os[i]? = some (some (Obj.arr s fl rows)) → ∃ s fl rows, objs[i]? = some (Obj.arr s fl rows)) ∧ (∀ cs, objs[i]? = some (Obj.box cs) → ∃ cs', os[i]? = some (some (Obj.box cs')))
  | [], [], _, i => by simp
  | .box cs0 :: r, some (.box cs1) :: r', h, i => by
    simp only [shapes, Bool.and_eq_true] at h
    cases i with
    | zero =>
      have h1 := nbeq_eq h.1.1
      have h2 := h.1.2
      exact ⟨fun cs' e => by simp at e; subst e; exact ⟨cs0, rfl, h1, h2⟩, fun s fl rows e => by simp at e, fun cs e => ⟨cs1, rfl⟩⟩
    | succ i => simpa using shapes_get h.2 i
  | .arr _ _ _ :: r, some (.arr _ _ _) :: r', h, i => by
    cases i with
    | zero => simp
    | succ i => simpa using shapes_get (objs := r) (os := r') h i
  | .arr _ _ _ :: r, none :: r', h, i => by
    cases i with
    | zero => simp
    | succ i => simpa using shapes_get (objs := r) (os := r') h i
  | [], _ :: _, h, _ => by simp [shapes] at h
  | .box _ :: _, [], h, _ => by simp [shapes] at h
  | .box _ :: _, none :: _, h, _ => by simp [shapes] at h
  | .box _ :: _, some (.arr _ _ _) :: _, h, _ => by simp [shapes] at h
  | .arr _ _ _ :: _, [], h, _ => by simp [shapes] at h
  | .arr _ _ _ :: _, some (.box _) :: _, h, _ => by simp [shapes] at h

theorem mem_sigC : ∀ {l : List AV} {base std j s : Nat} {fl : Bool} {rows : List (List AV)}, l[j]? = some (.own s fl rows) → (base + j, (std + j, 0)) ∈ sigC base std l
  | [], _, _, _, _, _, _, h => by simp at h
  | v :: r, base, std, j, s, fl, rows, h => by
    cases j with
    | zero => simp at h; subst h; simp [sigC]
    | succ j =>
      have := mem_sigC (base := base + 1) (std := std + 1) (l := r) (j := j) (by simpa using h)
      rw [show base + 1 + j = base + (j + 1) by omega, show std + 1 + j = std + (j + 1) by omega] at this
      cases v <;> simp only [sigC] <;> first | exact this | exact List.mem_cons_of_mem _ this

/-! ### Renamed trees -/

section
variable {σ : Ren} {ln : List (List AV) → Nat}

theorem cell_renamed (hσ : σ.ok = true) {t t' : Nat} {b : AV} (hb : b.treeC = true) (hm : ∀ s fl rows, b = .own s fl rows → (t, (t', 0)) ∈ σ) : (adoptC ln t b).back σ = adoptC ln t' b ∧ (adoptC ln t b).fits σ = true := by
  cases b with
  | own s fl rows =>
    have := (Ren.of_mem hσ (hm s fl rows rfl)).1
    simp [adoptC, AV.back, AV.fits, this]
  | ref => cases hb
  | ptr => cases hb
  | fn => cases hb
  | agg => cases hb
  | tup => cases hb
  | _ => exact ⟨rfl, rfl⟩

theorem cells_renamed (hσ : σ.ok = true) {l : List AV} {base std : Nat} (hl : l.all AV.treeC = true) (hm : ∀ q ∈ sigC base std l, q ∈ σ) : backL σ (adopt1 ln base l) = adopt1 ln std l ∧ fitsL σ (adopt1 ln base l) = true := by
  have hc : ∀ j b, l[j]? = some b → (adoptC ln (base + j) b).back σ = adoptC ln (std + j) b ∧ (adoptC ln (base + j) b).fits σ = true := fun j b hb =>
    cell_renamed hσ (List.all_eq_true.1 hl b (List.mem_of_getElem? hb)) fun s fl rows e => hm _ (mem_sigC (by rw [← e]; exact hb))
  refine ⟨List.ext_getElem? fun j => ?_, ?_⟩
  · rw [backL_get, adopt1_get, adopt1_get]
    cases hj : l[j]? with
    | none => rfl
    | some b => simp only [Option.map_some]; rw [(hc j b hj).1]
  · have : ∀ l' : List AV, (∀ (j : Nat) (u : AV), l'[j]? = some u → u.fits σ = true) → fitsL σ l' = true := by
      intro l'
      induction l' with
      | nil => intro _; rfl
      | cons u r ih =>
        intro h
        unfold fitsL
        rw [Bool.and_eq_true]
        exact ⟨h 0 u rfl, ih fun j u hj => h (j + 1) u (by simpa using hj)⟩
    refine this _ fun j u hu => ?_
    rw [adopt1_get] at hu
    simp only [Option.map_eq_some_iff] at hu
    obtain ⟨b, hb, rfl⟩ := hu
    exact (hc j b hb).2

theorem val_renamed (hσ : σ.ok = true) {v : AV} {base std : Nat} (hv : v.tree1 = true) (hm : ∀ q ∈ sigV base std v, q ∈ σ) : (adoptV ln base v).back σ = adoptV ln std v ∧ (adoptV ln base v).fits σ = true := by
  cases v with
  | agg cells =>
    obtain ⟨h1, h2⟩ := cells_renamed (ln := ln) hσ hv hm
    exact ⟨by simp [adoptV, AV.back, h1], by simp [adoptV, AV.fits, h2]⟩
  | own s fl rows =>
    have := (Ren.of_mem hσ (hm (base, (std, 0)) (by simp [sigV]))).1
    simp [adoptV, AV.back, AV.fits, this]
  | ownp cells =>
    have := (Ren.of_mem hσ (hm (base, (std, 0)) (by simp [sigV]))).1
    simp [adoptV, AV.back, AV.fits, this, nbeq_refl]
  | ref => cases hv
  | ptr => cases hv
  | fn => cases hv
  | tup => cases hv
  | _ => exact ⟨rfl, rfl⟩

theorem tup_renamed (hσ : σ.ok = true) : ∀ {vs : List AV} {base std : Nat}, vs.all AV.tree1 = true → (∀ q ∈ sigT base std vs, q ∈ σ) → backL σ (adoptT ln base vs) = adoptT ln std vs ∧ fitsL σ (adoptT ln base vs) = true
  | [], _, _, _, _ => ⟨rfl, rfl⟩
  | v :: r, base, std, hv, hm => by
    simp only [List.all_cons, Bool.and_eq_true] at hv
    obtain ⟨h1, h2⟩ := val_renamed (ln := ln) hσ hv.1 fun q hq => hm q (List.mem_append_left _ hq)
    obtain ⟨h3, h4⟩ := tup_renamed hσ (vs := r) (base := base + 100) (std := std + 100) hv.2 fun q hq => hm q (List.mem_append_right _ hq)
    simp [adoptT, backL, fitsL, h1, h2, h3, h4]

theorem res_renamed (hσ : σ.ok = true) {v : AV} {base std : Nat} (hv : v.tree = true) (hm : ∀ q ∈ sigR base std v, q ∈ σ) : (adopt ln base v).back σ = adopt ln std v ∧ (adopt ln base v).fits σ = true := by
  by_cases ht : ∃ vs, v = .tup vs
  · obtain ⟨vs, rfl⟩ := ht
    obtain ⟨h1, h2⟩ := tup_renamed (ln := ln) hσ hv hm
    exact ⟨by simp [adopt, AV.back, h1], by simp [adopt, AV.fits, h2]⟩
  · have e1 : adopt ln base v = adoptV ln base v := by cases v <;> first | rfl | exact absurd ⟨_, rfl⟩ ht
    have e2 : adopt ln std v = adoptV ln std v := by cases v <;> first | rfl | exact absurd ⟨_, rfl⟩ ht
    rw [e1, e2]
    exact val_renamed hσ (by cases v <;> first | exact hv | exact absurd ⟨_, rfl⟩ ht) (by cases v <;> first | exact hm | exact absurd ⟨_, rfl⟩ ht)

end

/-- An object that comes back, under its new name and its old one. -/
def Pair (σ : Ren) (Q : Nat → Prop) (id std : Nat) (o o' : Obj) : Prop :=
  (id, (std, 0)) ∈ σ ∧ ((∃ s fl rows, o = .arr s fl rows ∧ o' = .arr s fl rows) ∨
    ∃ cells, o = .box (adopt1 List.length (id + 1) cells) ∧ o' = .box (adopt1 List.length (std + 1) cells) ∧ cells.all AV.treeC = true ∧ (∀ q ∈ sigC (id + 1) (std + 1) cells, q ∈ σ) ∧ ∀ q ∈ (objs1 (id + 1) cells).map (·.1), Q q)

theorem pairC {σ : Ren} {Q : Nat → Prop} {l : List AV} {base std id : Nat} {o : Obj} (h : (id, o) ∈ objs1 base l) (hm : ∀ q ∈ sigC base std l, q ∈ σ) : ∃ std' o', (std', o') ∈ objs1 std l ∧ Pair σ Q id std' o o' := by
  obtain ⟨j, s, fl, rows, rfl, hj, rfl⟩ := objs1_mem h
  exact ⟨std + j, .arr s fl rows, lk_mem (objs1_get l std j hj), hm _ (mem_sigC hj), .inl ⟨s, fl, rows, rfl, rfl⟩⟩

theorem pairV {σ : Ren} {Q : Nat → Prop} {v : AV} {base std id : Nat} {o : Obj} (hQ : ∀ q ∈ (objsV List.length base v).map (·.1), Q q) (hv : v.tree1 = true) (h : (id, o) ∈ objsV List.length base v) (hm : ∀ q ∈ sigV base std v, q ∈ σ) : ∃ std' o', (std', o') ∈ objsV List.length std v ∧ Pair σ Q id std' o o' := by
  cases v with
  | agg cells => exact pairC h hm
  | own s fl rows =>
    simp only [objsV, List.mem_singleton] at h
    cases h
    exact ⟨std, _, by simp [objsV], hm _ (by simp [sigV]), .inl ⟨_, _, _, rfl, rfl⟩⟩
  | ownp cells =>
    simp only [objsV] at h
    rcases List.mem_cons.1 h with h | h
    · cases h
      exact ⟨std, _, by simp [objsV], hm _ (by simp [sigV]), .inr ⟨cells, rfl, rfl, hv, fun q hq => hm q (by simp [sigV, hq]), fun q hq => hQ q (by simp only [objsV, List.map_cons]; exact List.mem_cons_of_mem _ hq)⟩⟩
    · obtain ⟨std', o', h1, h2⟩ := pairC h fun q hq => hm q (by simp only [sigV]; exact List.mem_cons_of_mem _ hq)
      exact ⟨std', o', by simp only [objsV]; exact List.mem_cons_of_mem _ h1, h2⟩
  | _ => simp [objsV] at h

theorem pairT {σ : Ren} {Q : Nat → Prop} : ∀ {vs : List AV} {base std id : Nat} {o : Obj}, (∀ q ∈ (objsT List.length base vs).map (·.1), Q q) → vs.all AV.tree1 = true → (id, o) ∈ objsT List.length base vs → (∀ q ∈ sigT base std vs, q ∈ σ) → ∃ std' o', (std', o') ∈ objsT List.length std vs ∧ Pair σ Q id std' o o'
  | [], _, _, _, _, _, _, h, _ => by simp [objsT] at h
  | v :: r, base, std, id, o, hQ, hv, h, hm => by
    simp only [objsT, List.map_append, List.mem_append] at hQ
    simp only [List.all_cons, Bool.and_eq_true] at hv
    unfold objsT at h
    rcases List.mem_append.1 h with h | h
    · obtain ⟨std', o', h1, h2⟩ := pairV (std := std) (fun q hq => hQ q (.inl hq)) hv.1 h fun q hq => hm q (List.mem_append_left _ hq)
      exact ⟨std', o', List.mem_append_left _ h1, h2⟩
    · obtain ⟨std', o', h1, h2⟩ := pairT (std := std + 100) (fun q hq => hQ q (.inr hq)) hv.2 h fun q hq => hm q (List.mem_append_right _ hq)
      exact ⟨std', o', List.mem_append_right _ h1, h2⟩

theorem pairR {σ : Ren} {Q : Nat → Prop} {v : AV} {base std id : Nat} {o : Obj} (hQ : ∀ q ∈ (objsOf List.length base v).map (·.1), Q q) (hv : v.tree = true) (h : (id, o) ∈ objsOf List.length base v) (hm : ∀ q ∈ sigR base std v, q ∈ σ) : ∃ std' o', (std', o') ∈ objsOf List.length std v ∧ Pair σ Q id std' o o' := by
  by_cases ht : ∃ vs, v = .tup vs
  · obtain ⟨vs, rfl⟩ := ht
    exact pairT hQ hv h hm
  · have hv' : v.tree1 = true := by cases v <;> first | exact hv | exact absurd ⟨_, rfl⟩ ht
    have h' : (id, o) ∈ objsV List.length base v := by cases v <;> first | exact h | exact absurd ⟨_, rfl⟩ ht
    have hm' : ∀ q ∈ sigV base std v, q ∈ σ := by cases v <;> first | exact hm | exact absurd ⟨_, rfl⟩ ht
    have hQ' : ∀ q ∈ (objsV List.length base v).map (·.1), Q q := by cases v <;> first | exact hQ | exact absurd ⟨_, rfl⟩ ht
    obtain ⟨std', o', h1, h2⟩ := pairV hQ' hv' h' hm'
    exact ⟨std', o', by cases v <;> first | exact h1 | exact absurd ⟨_, rfl⟩ ht, h2⟩

/-- What an object that was given has become. -/
theorem backSto_mem {ln : List (List AV) → Nat} {ρ : Ren} {lab : Nat} : ∀ {os : List (Option Obj)} {k id : Nat} {o : Obj}, (id, o) ∈ backSto ln st ρ lab k os →
    (∃ i cells fld cs, os[i]? = some (some (.box cells)) ∧ lk ρ (gl (k + i)) = some (id, fld) ∧ lk st.sto id = some (.box cs) ∧ o = .box (setMany cs fld (adopt1 ln (labK lab (k + i)) cells))) ∨
    (∃ i cells idb, os[i]? = some (some (.box cells)) ∧ lk ρ (gl (k + i)) = some idb ∧ (id, o) ∈ objs1 (labK lab (k + i)) cells) ∨
    (∃ i s fl rows off, os[i]? = some (some (.arr s fl rows)) ∧ lk ρ (gl (k + i)) = some (id, off) ∧ o = .arr s fl rows)
  | [], _, _, _, h => by simp [backSto] at h
  | x :: r, k, id, o, h => by
    have up : (id, o) ∈ backSto ln st ρ lab (k + 1) r → _ := fun h => backSto_mem (os := r) h
    have up' : (id, o) ∈ backSto ln st ρ lab (k + 1) r →
        (∃ i cells fld cs, (x :: r)[i]? = some (some (Obj.box cells)) ∧ lk ρ (gl (k + i)) = some (id, fld) ∧ lk st.sto id = some (.box cs) ∧ o = .box (setMany cs fld (adopt1 ln (labK lab (k + i)) cells))) ∨
        (∃ i cells idb, (x :: r)[i]? = some (some (Obj.box cells)) ∧ lk ρ (gl (k + i)) = some idb ∧ (id, o) ∈ objs1 (labK lab (k + i)) cells) ∨
        (∃ i s fl rows off, (x :: r)[i]? = some (some (Obj.arr s fl rows)) ∧ lk ρ (gl (k + i)) = some (id, off) ∧ o = .arr s fl rows) := fun h => by
      rcases up h with ⟨i, cells, fld, cs, h1, h2, h3, h4⟩ | ⟨i, cells, idb, h1, h2, h3⟩ | ⟨i, s, fl, rows, off, h1, h2, h3⟩
      · exact .inl ⟨i + 1, cells, fld, cs, by simpa using h1, by rw [show k + (i + 1) = k + 1 + i by omega]; exact h2, h3, by rw [show k + (i + 1) = k + 1 + i by omega]; exact h4⟩
      · exact .inr (.inl ⟨i + 1, cells, idb, by simpa using h1, by rw [show k + (i + 1) = k + 1 + i by omega]; exact h2, by rw [show k + (i + 1) = k + 1 + i by omega]; exact h3⟩)
      · exact .inr (.inr ⟨i + 1, s, fl, rows, off, by simpa using h1, by rw [show k + (i + 1) = k + 1 + i by omega]; exact h2, h3⟩)
    cases x with
    | none => exact up' h
    | some ob =>
      cases ob with
      | box cells =>
        simp only [backSto] at h
        rcases List.mem_append.1 h with h | h
        · split at h
          · rename_i idb fld hq
            split at h
            · rename_i cs hq2
              rcases List.mem_cons.1 h with h | h
              · cases h
                exact .inl ⟨0, cells, fld, cs, rfl, hq, hq2, rfl⟩
              · exact .inr (.inl ⟨0, cells, _, rfl, hq, h⟩)
            · cases h
          · cases h
        · exact up' h
      | arr s fl rows =>
        simp only [backSto] at h
        rcases List.mem_append.1 h with h | h
        · split at h
          · rename_i L off hq
            simp only [List.mem_singleton] at h
            cases h
            exact .inr (.inr ⟨0, s, fl, rows, off, rfl, hq, rfl⟩)
          · cases h
        · exact up' h

theorem sigO_mem {ρ : Ren} {lab : Nat} : ∀ {os : List (Option Obj)} {k i : Nat}, (∀ cells idb, os[i]? = some (some (Obj.box cells)) → lk ρ (gl (k + i)) = some idb → (idb.1, (gl (k + i), 0)) ∈ sigO st ρ lab k os ∧ ∀ q ∈ sigC (labK lab (k + i)) (gl (k + i) + 1) cells, q ∈ sigO st ρ lab k os) ∧
    (∀ s fl rows idb, os[i]? = some (some (Obj.arr s fl rows)) → lk ρ (gl (k + i)) = some idb → (idb.1, (gl (k + i), 0)) ∈ sigO st ρ lab k os)
  | [], k, i => by simp
  | x :: r, k, 0 => by
    refine ⟨fun cells idb h1 h2 => ?_, fun s fl rows idb h1 h2 => ?_⟩
    · simp at h1; subst h1
      rw [Nat.add_zero] at h2 ⊢
      simp only [sigO, h2]
      exact ⟨List.mem_append_left _ (List.mem_cons_self ..), fun q hq => List.mem_append_left _ (List.mem_cons_of_mem _ hq)⟩
    · simp at h1; subst h1
      rw [Nat.add_zero] at h2 ⊢
      simp only [sigO, h2]
      exact List.mem_append_left _ (List.mem_singleton.2 rfl)
  | x :: r, k, i + 1 => by
    have ih := sigO_mem (ρ := ρ) (lab := lab) (os := r) (k := k + 1) (i := i)
    rw [show k + 1 + i = k + (i + 1) by omega] at ih
    have up : ∀ q, q ∈ sigO st ρ lab (k + 1) r → q ∈ sigO st ρ lab k (x :: r) := fun q hq => by
      cases x with
      | none => exact hq
      | some ob => cases ob <;> exact List.mem_append_right _ hq
    refine ⟨fun cells idb h1 h2 => ?_, fun s fl rows idb h1 h2 => ?_⟩
    · obtain ⟨h3, h4⟩ := ih.1 cells idb (by simpa using h1) h2
      exact ⟨up _ h3, fun q hq => up _ (h4 q hq)⟩
    · exact up _ (ih.2 s fl rows idb (by simpa using h1) h2)

theorem arrPl_mem {ρ : Ren} : ∀ {os : List (Option Obj)} {k L : Nat}, L ∈ arrPl ρ k os ↔ ∃ i s fl rows off, os[i]? = some (some (Obj.arr s fl rows)) ∧ lk ρ (gl (k + i)) = some (L, off)
  | [], k, L => by simp [arrPl]
  | x :: r, k, L => by
    have ih := arrPl_mem (ρ := ρ) (os := r) (k := k + 1) (L := L)
    have shift : (∃ i s fl rows off, r[i]? = some (some (Obj.arr s fl rows)) ∧ lk ρ (gl (k + 1 + i)) = some (L, off)) ↔ ∃ i s fl rows off, (x :: r)[i + 1]? = some (some (Obj.arr s fl rows)) ∧ lk ρ (gl (k + (i + 1))) = some (L, off) := by
      constructor
      · rintro ⟨i, s, fl, rows, off, h1, h2⟩
        exact ⟨i, s, fl, rows, off, by simpa using h1, by rw [show k + (i + 1) = k + 1 + i by omega]; exact h2⟩
      · rintro ⟨i, s, fl, rows, off, h1, h2⟩
        exact ⟨i, s, fl, rows, off, by simpa using h1, by rw [show k + (i + 1) = k + 1 + i by omega] at h2; exact h2⟩
    have hsplit : (∃ i s fl rows off, (x :: r)[i]? = some (some (Obj.arr s fl rows)) ∧ lk ρ (gl (k + i)) = some (L, off)) ↔ (∃ s fl rows off, x = some (Obj.arr s fl rows) ∧ lk ρ (gl k) = some (L, off)) ∨ ∃ i s fl rows off, (x :: r)[i + 1]? = some (some (Obj.arr s fl rows)) ∧ lk ρ (gl (k + (i + 1))) = some (L, off) := by
      constructor
      · rintro ⟨i, s, fl, rows, off, h1, h2⟩
        cases i with
        | zero => exact .inl ⟨s, fl, rows, off, by simpa using h1, h2⟩
        | succ i => exact .inr ⟨i, s, fl, rows, off, h1, h2⟩
      · rintro (⟨s, fl, rows, off, rfl, h2⟩ | ⟨i, s, fl, rows, off, h1, h2⟩)
        · exact ⟨0, s, fl, rows, off, rfl, h2⟩
        · exact ⟨i + 1, s, fl, rows, off, h1, h2⟩
    rw [hsplit, ← shift, ← ih]
    cases x with
    | none => simp [arrPl]
    | some ob =>
      cases ob with
      | box cells => simp [arrPl]
      | arr s fl rows =>
        simp only [arrPl, List.mem_append]
        refine or_congr ?_ Iff.rfl
        constructor
        · intro h
          split at h
          · rename_i L' off hq
            simp at h; subst h
            exact ⟨s, fl, rows, off, rfl, hq⟩
          · cases h
        · rintro ⟨s', fl', rows', off, _, h⟩
          rw [h]; simp

/-- The names that are taken are those of what comes back. -/
theorem sigC_key : ∀ {l : List AV} {base std : Nat} {q : Nat × Nat × Nat}, q ∈ sigC base std l → q.1 ∈ (objs1 base l).map (·.1)
  | [], _, _, _, h => by simp [sigC] at h
  | v :: r, base, std, q, h => by
    cases v with
    | own s fl rows =>
      simp only [sigC] at h
      rcases List.mem_cons.1 h with h | h
      · subst h; simp [objs1]
      · simp only [objs1, List.map_cons]; exact List.mem_cons_of_mem _ (sigC_key h)
    | _ => exact sigC_key (l := r) (base := base + 1) (std := std + 1) h

theorem sigV_key {ln : List (List AV) → Nat} {v : AV} {base std : Nat} {q : Nat × Nat × Nat} (h : q ∈ sigV base std v) : q.1 ∈ (objsV ln base v).map (·.1) := by
  cases v with
  | agg cells => exact sigC_key h
  | own s fl rows => simp only [sigV, List.mem_singleton] at h; subst h; simp [objsV]
  | ownp cells =>
    simp only [sigV] at h
    rcases List.mem_cons.1 h with h | h
    · subst h; simp [objsV]
    · simp only [objsV, List.map_cons]; exact List.mem_cons_of_mem _ (sigC_key h)
  | _ => simp [sigV] at h

theorem sigT_key {ln : List (List AV) → Nat} : ∀ {vs : List AV} {base std : Nat} {q : Nat × Nat × Nat}, q ∈ sigT base std vs → q.1 ∈ (objsT ln base vs).map (·.1)
  | [], _, _, _, h => by simp [sigT] at h
  | v :: r, base, std, q, h => by
    simp only [objsT, List.map_append, List.mem_append]
    rcases List.mem_append.1 h with h | h
    · exact .inl (sigV_key h)
    · exact .inr (sigT_key h)

theorem sigR_key {ln : List (List AV) → Nat} {v : AV} {base std : Nat} {q : Nat × Nat × Nat} (h : q ∈ sigR base std v) : q.1 ∈ (objsOf ln base v).map (·.1) := by
  by_cases ht : ∃ vs, v = .tup vs
  · obtain ⟨vs, rfl⟩ := ht
    exact sigT_key h
  · have e1 : sigR base std v = sigV base std v := by cases v <;> first | rfl | exact absurd ⟨_, rfl⟩ ht
    have e2 : objsOf ln base v = objsV ln base v := by cases v <;> first | rfl | exact absurd ⟨_, rfl⟩ ht
    rw [e1] at h
    rw [e2]
    exact sigV_key h

theorem adopt1_ids {ln : List (List AV) → Nat} {l : List AV} {base id : Nat} (hl : l.all AV.treeC = true) (h : id ∈ idsL (adopt1 ln base l)) : id ∈ (objs1 base l).map (·.1) := by
  obtain ⟨v, hv, hi⟩ := idsL_mem_inv h
  obtain ⟨j, hj⟩ := List.getElem?_of_mem hv
  rw [adopt1_get] at hj
  simp only [Option.map_eq_some_iff] at hj
  obtain ⟨b, hb, rfl⟩ := hj
  have ht := List.all_eq_true.1 hl b (List.mem_of_getElem? hb)
  cases b with
  | own s fl rows =>
    simp only [adoptC, AV.ids, List.mem_singleton] at hi
    subst hi
    exact List.mem_map.2 ⟨_, lk_mem (objs1_get l base j hb), rfl⟩
  | ref => cases ht
  | ptr => cases ht
  | fn => cases ht
  | agg => cases ht
  | tup => cases ht
  | _ => simp [adoptC, AV.ids] at hi

theorem adoptV_ids {ln : List (List AV) → Nat} {v : AV} {base id : Nat} (hv : v.tree1 = true) (h : id ∈ (adoptV ln base v).ids) : id ∈ (objsV ln base v).map (·.1) := by
  cases v with
  | agg cells => simp only [adoptV] at h; unfold AV.ids at h; exact adopt1_ids hv h
  | own s fl rows => simp only [adoptV, AV.ids, List.mem_singleton] at h; subst h; simp [objsV]
  | ownp cells => simp only [adoptV, AV.ids, List.mem_singleton] at h; subst h; simp [objsV]
  | ref => cases hv
  | ptr => cases hv
  | fn => cases hv
  | tup => cases hv
  | _ => simp [adoptV, AV.ids] at h

theorem adopt_ids {ln : List (List AV) → Nat} {v : AV} {base id : Nat} (hv : v.tree = true) (h : id ∈ (adopt ln base v).ids) : id ∈ (objsOf ln base v).map (·.1) := by
  by_cases ht : ∃ vs, v = .tup vs
  · obtain ⟨vs, rfl⟩ := ht
    simp only [adopt] at h
    unfold AV.ids at h
    have : ∀ (l : List AV) (b : Nat), l.all AV.tree1 = true → id ∈ idsL (adoptT ln b l) → id ∈ (objsT ln b l).map (·.1) := by
      intro l
      induction l with
      | nil => intro b _ h; simp [adoptT, idsL] at h
      | cons u r ih =>
        intro b hl h
        simp only [List.all_cons, Bool.and_eq_true] at hl
        simp only [adoptT] at h
        unfold idsL at h
        simp only [objsT, List.map_append, List.mem_append]
        rcases List.mem_append.1 h with h | h
        · exact .inl (adoptV_ids hl.1 h)
        · exact .inr (ih _ hl.2 h)
    exact this vs base hv h
  · have e1 : adopt ln base v = adoptV ln base v := by cases v <;> first | rfl | exact absurd ⟨_, rfl⟩ ht
    have e2 : objsOf ln base v = objsV ln base v := by cases v <;> first | rfl | exact absurd ⟨_, rfl⟩ ht
    rw [e1] at h
    rw [e2]
    exact adoptV_ids (by cases v <;> first | exact hv | exact absurd ⟨_, rfl⟩ ht) h

theorem sigO_key {ρ : Ren} {lab : Nat} : ∀ {os : List (Option Obj)} {k : Nat} {q : Nat × Nat × Nat}, q ∈ sigO st ρ lab k os → (∃ i p, lk ρ (gl (k + i)) = some p ∧ q.1 = p.1) ∨ (∃ i cells p, os[i]? = some (some (Obj.box cells)) ∧ lk ρ (gl (k + i)) = some p ∧ q.1 ∈ (objs1 (labK lab (k + i)) cells).map (·.1))
  | [], _, _, h => by simp [sigO] at h
  | x :: r, k, q, h => by
    have up : q ∈ sigO st ρ lab (k + 1) r → (∃ i p, lk ρ (gl (k + i)) = some p ∧ q.1 = p.1) ∨ (∃ i cells p, (x :: r)[i]? = some (some (Obj.box cells)) ∧ lk ρ (gl (k + i)) = some p ∧ q.1 ∈ (objs1 (labK lab (k + i)) cells).map (·.1)) := fun h => by
      rcases sigO_key h with ⟨i, p, h1, h2⟩ | ⟨i, cells, p, h1, h2, h3⟩
      · exact .inl ⟨i + 1, p, by rw [show k + (i + 1) = k + 1 + i by omega]; exact h1, h2⟩
      · exact .inr ⟨i + 1, cells, p, by simpa using h1, by rw [show k + (i + 1) = k + 1 + i by omega]; exact h2, by rw [show k + (i + 1) = k + 1 + i by omega]; exact h3⟩
    cases x with
    | none => exact up h
    | some ob =>
      cases ob with
      | box cells =>
        simp only [sigO] at h
        rcases List.mem_append.1 h with h | h
        · split at h
          · rename_i idb fld hq
            rcases List.mem_cons.1 h with h | h
            · subst h; exact .inl ⟨0, _, hq, rfl⟩
            · exact .inr ⟨0, cells, _, rfl, hq, sigC_key h⟩
          · cases h
        · exact up h
      | arr s fl rows =>
        simp only [sigO] at h
        rcases List.mem_append.1 h with h | h
        · split at h
          · rename_i L off hq
            simp only [List.mem_singleton] at h
            subst h; exact .inl ⟨0, _, hq, rfl⟩
          · cases h
        · exact up h

theorem backSto_box {ln : List (List AV) → Nat} {ρ : Ren} {lab : Nat} : ∀ {os : List (Option Obj)} {k i : Nat} {cells cs : List AV} {id fld : Nat}, os[i]? = some (some (Obj.box cells)) → lk ρ (gl (k + i)) = some (id, fld) → lk st.sto id = some (.box cs) →
    (id, Obj.box (setMany cs fld (adopt1 ln (labK lab (k + i)) cells))) ∈ backSto ln st ρ lab k os ∧ ∀ q ∈ objs1 (labK lab (k + i)) cells, q ∈ backSto ln st ρ lab k os
  | [], _, _, _, _, _, _, h, _, _ => by simp at h
  | x :: r, k, i, cells, cs, id, fld, h1, h2, h3 => by
    cases i with
    | zero =>
      simp at h1; subst h1
      rw [Nat.add_zero] at h2 ⊢
      simp only [backSto, h2, h3]
      exact ⟨List.mem_append_left _ (List.mem_cons_self ..), fun q hq => List.mem_append_left _ (List.mem_cons_of_mem _ hq)⟩
    | succ i =>
      obtain ⟨g1, g2⟩ := backSto_box (ln := ln) (lab := lab) (os := r) (k := k + 1) (i := i) (by simpa using h1) (by rw [show k + 1 + i = k + (i + 1) by omega]; exact h2) h3
      rw [show k + 1 + i = k + (i + 1) by omega] at g1 g2
      have up : ∀ q, q ∈ backSto ln st ρ lab (k + 1) r → q ∈ backSto ln st ρ lab k (x :: r) := fun q hq => by
        cases x with
        | none => exact hq
        | some ob => cases ob <;> exact List.mem_append_right _ hq
      exact ⟨up _ g1, fun q hq => up _ (g2 q hq)⟩

end Go.Proofs.Ytmbckmfihcojoaa.AM
