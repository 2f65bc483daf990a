/- The abstract machine, part 12: calls: what is lent, what is given. -/
import Derived.Test.YtmbckmfihcojoaaB11
namespace Go.Proofs.Ytmbckmfihcojoaa.AM
open Go Go.RowKit

set_option linter.unusedVariables false
set_option linter.unusedSimpArgs false

variable {P : Program} {T : Nat → Option TI} {E E0 : Env} {st : St} {a : Act} {K : AV → St → Prop} {o : Oper}

/-! ### Lent -/

/-- An array's own arrays, as still ones. -/
def AV.still : AV → AV
  | .own _ _ rows => .ro rows
  | v => v

def stillRows (fl : Bool) (rows : List (List AV)) : List (List AV) :=
  bif fl then rows else rows.map fun r => r.map AV.still

/-- A cell of an array, lent with the array. -/
def deepCell (st : St) (no : Nat → Bool) (v b : AV) : Prop :=
  match v with
  | .int k n => b = .int k n
  | .bool c => b = .bool c
  | .nilS => b = .nilS ∨ b = .ro []
  | .emp => b = .emp ∨ b = .ro []
  | .ro rows => b = .ro rows
  | .own _ true rows => b = .ro rows
  | .ref _ id off len => match b with
    | .ro rows' => no id = false ∧ match lk st.sto id with
      | some (.arr _ true rows) => off + len ≤ rows.length ∧ rows' = (rows.drop off).take len
      | _ => False
    | _ => False
  | _ => False

def deepCells (st : St) (no : Nat → Bool) : List AV → List AV → Prop
  | [], [] => True
  | v :: vs, b :: bs => deepCell st no v b ∧ deepCells st no vs bs
  | _, _ => False

def deepRows (st : St) (no : Nat → Bool) : List (List AV) → List (List AV) → Prop
  | [], [] => True
  | v :: vs, b :: bs => deepCells st no v b ∧ deepRows st no vs bs
  | _, _ => False

def lendRows (st : St) (no : Nat → Bool) (fl : Bool) (part rows' : List (List AV)) : Prop :=
  match fl with
  | true => rows' = part
  | false => (FreeRows true part ∧ rows' = stillRows false part) ∨ (no 0 = false ∧ deepRows st no part rows')

/-- A cell that is lent; 'no': the names of what is given (and 0 where no array's arrays by name are lent). -/
def lendCell (st : St) (no : Nat → Bool) (v b : AV) : Prop :=
  match v, b with
  | _, .undef => True
  | .int k n, b => b = .int k n
  | .bool c, b => b = .bool c
  | .nilS, .ro rows => rows = []
  | .emp, .ro rows => rows = []
  | .nilS, .nilS => True
  | .emp, .emp => True
  | .ro rows, b => b = .ro rows
  | .ref _ id off len, .ro rows' => no id = false ∧ match lk st.sto id with
    | some (.arr _ fl rows) => off + len ≤ rows.length ∧ lendRows st no fl ((rows.drop off).take len) rows'
    | _ => False
  | _, _ => False

/-- Everything that is there and not given, still while a call runs. -/
structure Lent (E : Env) (st : St) (no : Nat → Bool) (S' : Nat → Prop) : Prop where
  still : ∀ b, E.S b → S' b
  root : ∀ b id, no id = false → E.tag b = some (.root id) → S' b
  cell : ∀ b id i j, no id = false → E.tag b = some (.cell id i j) → S' b

theorem rel_part (hs : Sim E st a) {no : Nat → Bool} {S' : Nat → Prop} (hL : Lent E st no S') {p : Bool} {id off len s : Nat} {fl : Bool} {rows : List (List AV)} {x : Value} (hr : Rel E (.ref p id off len) x) (hn : no id = false) (hq : lk st.sto id = some (.arr s fl rows)) (hle : off + len ≤ rows.length)
    {rows' : List (List AV)} (hl : rows'.length = len) (hrow : ∀ (i : Nat) (r' : List AV), rows'[i]? = some r' → ∃ r, rows[off + i]? = some r ∧ r'.length = r.length ∧ ∀ (j : Nat) (u : AV) (y : Value), r'[j]? = some u → ∀ v, r[j]? = some v → Cell E fl (.cell id (off + i) j) v y → RRel E.w S' u y) : RRel E.w S' (.ro rows') x := by
  cases hr with
  | base _ _ h => cases h
  | ref0 _ _ cap ad hc =>
    subst hc
    rw [List.eq_nil_of_length_eq_zero hl]
    cases ad with
    | none => exact .ro0 none 0 (Nat.zero_le _) (fun _ => rfl)
    | some ad => exact .ro0 _ 0 (Nat.zero_le _) (fun h => by cases h)
  | ref _ _ _ _ L cap hLo h1 h2 =>
    rcases hs.sto id _ hq with ⟨g1, g2⟩ | ⟨L', c, ty, g1, gsz, g2, g3, g4, g5, g6, g7, gwa, g8, g9⟩
    · rw [g1] at hLo; cases hLo
    rw [g1] at hLo
    obtain rfl := Option.some.inj hLo
    by_cases hz : len = 0
    · subst hz
      rw [List.eq_nil_of_length_eq_zero hl]
      exact .ro0 _ _ (by omega) (fun h => by cases h)
    · have hne : rows' ≠ [] := fun e => by rw [e] at hl; simp at hl; omega
      have hcell : ∀ (i j : Nat) (r' : List AV) (u : AV), rows'[i]? = some r' → r'[j]? = some u → ∃ y, c[L'.base + (off + i) * L'.siz + j]? = some y ∧ RRel E.w S' u y := fun i j r' u hi hj => by
        obtain ⟨r, hr, hlr, hc⟩ := hrow i r' hi
        have hjl := (List.getElem?_eq_some_iff.1 hj).1
        have hv := List.getElem?_eq_getElem (show j < r.length by omega)
        obtain ⟨y, y1, y2, y3⟩ := g9 _ j r _ hr hv
        exact ⟨y, y1, hc j u y hj _ hv y3⟩
      have := RRel.ro (w := E.w) (S := S') rows' L'.blk (L'.base + off * L'.siz) cap L'.siz (fun i j => (c[L'.base + (off + i) * L'.siz + j]?).getD undef) hne (by omega) (by omega)
        (hL.root _ id hn g3) (fun i r' hi => by
          obtain ⟨r, hr, hlr, _⟩ := hrow i r' hi
          rw [hlr]; exact g8 _ _ hr) (fun i j r v hi hj => by
          obtain ⟨y, y1, y2⟩ := hcell i j r v hi hj
          rw [cell_of_row E.w L'.blk _ c ty (0, 0) g4, y1]
          simp only [Option.getD_some]
          rw [← y1]; congr 1
          rw [Nat.add_mul]; omega) (fun i j r v hi hj => by
          obtain ⟨y, y1, y2⟩ := hcell i j r v hi hj
          rw [y1]; exact y2)
      rw [hl] at this
      exact this

theorem part_get {rows : List (List AV)} {off len i : Nat} {r : List AV} (h : ((rows.drop off).take len)[i]? = some r) : rows[off + i]? = some r := by
  rw [List.getElem?_take] at h
  split at h
  · rw [List.getElem?_drop] at h; exact h
  · cases h

theorem own_still {no : Nat → Bool} {S' : Nat → Prop} (hL : Lent E st no S') {id i j s : Nat} (hn : no id = false) {rows : List (List AV)} {x : Value} (h : OwnAt E.w E.tag (.cell id i j) s rows x) : RRel E.w S' (.ro rows) x := by
  rcases h with ⟨h1, h2⟩ | ⟨b, o, cap, c, ty, h1, h2, h3, h4, h5, h5', h6, h7, h8, h9⟩
  · subst h1
    rcases h2 with ⟨ad, rfl⟩ | rfl
    · exact .ro0 _ _ (Nat.zero_le _) (fun h => by cases h)
    · exact .ro0 _ _ (Nat.zero_le _) (fun _ => rfl)
  · subst h1
    by_cases he : rows = []
    · subst he; exact .ro0 _ _ h6 (fun h => by cases h)
    · refine .ro rows b o cap s (fun i j => (c[o + i * s + j]?).getD undef) he h5 h6 (hL.cell b id i j hn h2) h8 (fun i j r v hi hj => ?_) (fun i j r v hi hj => ?_)
      · obtain ⟨y, y1, y2, y3⟩ := h9 i j r v hi hj
        rw [cell_of_row E.w b _ c ty (0, 0) h3, y1]; rfl
      · obtain ⟨y, y1, y2, y3⟩ := h9 i j r v hi hj
        rw [y1]; exact y3.rrel

theorem deepCell_rel (hs : Sim E st a) {no : Nat → Bool} {S' : Nat → Prop} (hL : Lent E st no S') {id i j : Nat} (hn : no id = false) {v b : AV} {y : Value} (hc : Cell E false (.cell id i j) v y) (hd : deepCell st no v b) : RRel E.w S' b y := by
  have base : ∀ {u : AV}, Rel E u y → (∀ s fl rows, u ≠ .own s fl rows) → RRel E.w E.S u y → RRel E.w S' u y := fun _ _ h => h.mono hL.still (fun _ _ => rfl)
  have hrel : (∀ s rows, v ≠ .own s true rows) → Rel E v y := fun hne => by
    rcases hc with hc | ⟨s, rows, e, _⟩
    · exact hc
    · exact absurd e (hne s rows)
  cases v with
  | int k n => simp only [deepCell] at hd; subst hd; have h := hrel (fun _ _ e => by cases e); rw [(rel_int h).1]; exact .int _ _ (rel_int h).2
  | bool c => simp only [deepCell] at hd; subst hd; have h := hrel (fun _ _ e => by cases e); rw [rel_bool h]; exact .bool _
  | nilS =>
    have h := hrel (fun _ _ e => by cases e)
    rw [rel_nilS h]
    rcases hd with rfl | rfl
    · exact .nilS
    · exact .ro0 none 0 (Nat.zero_le _) (fun _ => rfl)
  | emp =>
    have h := hrel (fun _ _ e => by cases e)
    cases h with
    | base _ _ h =>
      cases h
      rcases hd with rfl | rfl
      · exact .emp _
      · exact .ro0 _ 0 (Nat.zero_le _) (fun h => by cases h)
  | ro rows =>
    simp only [deepCell] at hd; subst hd
    have h := hrel (fun _ _ e => by cases e)
    cases h with
    | base _ _ h => exact h.mono hL.still (fun _ _ => rfl)
  | own s fl rows =>
    cases fl with
    | false => simp only [deepCell] at hd
    | true =>
      simp only [deepCell] at hd; subst hd
      rcases hc with hc | ⟨s', rows', e, hc⟩
      · cases hc with
        | base _ _ h => cases h
      · cases e
        exact own_still hL hn hc
  | ref p id' off len =>
    have h := hrel (fun _ _ e => by cases e)
    cases b <;> simp only [deepCell] at hd
    rename_i rows'
    obtain ⟨hn', hd⟩ := hd
    split at hd
    · rename_i s rows hq
      obtain ⟨hle, rfl⟩ := hd
      refine rel_part hs hL h hn' hq hle (by simp; omega) fun i r' hi => ⟨r', part_get hi, rfl, fun j u y hu v hv hcell => ?_⟩
      rw [hu] at hv
      obtain rfl := Option.some.inj hv
      exact SRel.rrel hcell
    · exact hd.elim
  | _ => simp only [deepCell] at hd

theorem deepCells_get {no : Nat → Bool} : ∀ {vs bs : List AV}, deepCells st no vs bs → vs.length = bs.length ∧ ∀ (j : Nat) (v b : AV), vs[j]? = some v → bs[j]? = some b → deepCell st no v b
  | [], [], _ => ⟨rfl, fun j v r h => by simp at h⟩
  | v :: vs, r :: rs, ⟨h1, h2⟩ => by
    obtain ⟨g1, g2⟩ := deepCells_get h2
    refine ⟨by simp [g1], fun j v' r' hv hj => ?_⟩
    cases j with
    | zero => simp at hj hv; subst hj hv; exact h1
    | succ j => exact g2 j v' r' (by simpa using hv) (by simpa using hj)
  | [], _ :: _, h => h.elim
  | _ :: _, [], h => h.elim

theorem deepRows_get {no : Nat → Bool} : ∀ {vs bs : List (List AV)}, deepRows st no vs bs → vs.length = bs.length ∧ ∀ (j : Nat) (v b : List AV), vs[j]? = some v → bs[j]? = some b → deepCells st no v b
  | [], [], _ => ⟨rfl, fun j v r h => by simp at h⟩
  | v :: vs, r :: rs, ⟨h1, h2⟩ => by
    obtain ⟨g1, g2⟩ := deepRows_get h2
    refine ⟨by simp [g1], fun j v' r' hv hj => ?_⟩
    cases j with
    | zero => simp at hj hv; subst hj hv; exact h1
    | succ j => exact g2 j v' r' (by simpa using hv) (by simpa using hj)
  | [], _ :: _, h => h.elim
  | _ :: _, [], h => h.elim

theorem still_deep {v : AV} {no : Nat → Bool} (hf : v.free true) : deepCell st no v v.still := by
  cases v with
  | int => rfl
  | bool => rfl
  | nilS => exact .inl rfl
  | emp => exact .inl rfl
  | ro => rfl
  | own s fl rows => cases fl <;> first | exact hf.elim | rfl
  | _ => exact hf.elim

theorem lendCell_rrel (hs : Sim E st a) {no : Nat → Bool} {S' : Nat → Prop} (hL : Lent E st no S') {v b : AV} {x : Value} (hr : Rel E v x) (hl : lendCell st no v b) (hbu : b ≠ .undef) : RRel E.w S' b x := by
  have fin : RRel E.w S' b x → RRel E.w S' b x := id
  cases v with
  | int k n =>
    cases b <;> simp only [lendCell] at hl <;> first | exact absurd rfl hbu | cases hl
    refine fin ?_; rw [(rel_int hr).1]; exact .int _ _ (rel_int hr).2
  | bool c =>
    cases b <;> simp only [lendCell] at hl <;> first | exact absurd rfl hbu | cases hl
    refine fin ?_; rw [rel_bool hr]; exact .bool _
  | nilS =>
    rw [rel_nilS hr] at fin ⊢
    cases b <;> simp only [lendCell] at hl <;> first | exact absurd rfl hbu | skip
    · exact fin .nilS
    · subst hl; exact fin (.ro0 none 0 (Nat.zero_le _) (fun _ => rfl))
  | emp =>
    cases hr with
    | base _ _ h =>
      cases h
      cases b <;> simp only [lendCell] at hl <;> first | exact absurd rfl hbu | skip
      · exact fin (.emp _)
      · subst hl; exact fin (.ro0 _ 0 (Nat.zero_le _) (fun h => by cases h))
  | ro rows =>
    cases b <;> simp only [lendCell] at hl <;> first | exact absurd rfl hbu | cases hl
    cases hr with
    | base _ _ h => exact fin (h.mono hL.still (fun _ _ => rfl))
  | ref p id off len =>
    cases b <;> simp only [lendCell] at hl <;> first | exact absurd rfl hbu | skip
    rename_i rows'
    obtain ⟨hn, hl⟩ := hl
    split at hl
    · rename_i s fl rows hq
      obtain ⟨hle, hlr⟩ := hl
      have hpl : ((rows.drop off).take len).length = len := by simp; omega
      refine fin ?_
      cases fl with
      | true =>
        simp only [lendRows] at hlr
        subst hlr
        refine rel_part hs hL hr hn hq hle hpl fun i r' hi => ⟨r', part_get hi, rfl, fun j u y hu v hv hcell => ?_⟩
        rw [hu] at hv
        obtain rfl := Option.some.inj hv
        exact SRel.rrel hcell
      | false =>
        have deep : deepRows st no ((rows.drop off).take len) rows' → RRel E.w S' (.ro rows') x := fun hd => by
          obtain ⟨d1, d2⟩ := deepRows_get hd
          refine rel_part hs hL hr hn hq hle (by rw [← d1, hpl]) fun i r' hi => ?_
          have hil := (List.getElem?_eq_some_iff.1 hi).1
          have hg := List.getElem?_eq_getElem (show i < ((rows.drop off).take len).length by omega)
          obtain ⟨c1, c2⟩ := deepCells_get (d2 i _ _ hg hi)
          exact ⟨_, part_get hg, c1.symm, fun j u y hu v hv hcell => deepCell_rel hs hL hn hcell (c2 j v u hv hu)⟩
        rcases hlr with ⟨hfr, rfl⟩ | ⟨_, hd⟩
        · refine deep ?_
          have : ∀ l : List (List AV), FreeRows true l → deepRows st no l (stillRows false l) := by
            intro l
            induction l with
            | nil => intro _; trivial
            | cons r rs ih =>
              intro hf
              refine ⟨?_, ih (fun q hq => hf q (List.mem_cons_of_mem _ hq))⟩
              have hr := hf r (List.mem_cons_self ..)
              clear ih hf
              induction r with
              | nil => trivial
              | cons v vs ih => exact ⟨still_deep (hr v (List.mem_cons_self ..)), ih (fun q hq => hr q (List.mem_cons_of_mem _ hq))⟩
          exact this _ hfr
        · exact deep hd
    · exact hl.elim
  | _ => cases b <;> simp only [lendCell] at hl <;> first | exact absurd rfl hbu | exact hl.elim

theorem lendCell_rel (hs : Sim E st a) {no : Nat → Bool} {S' : Nat → Prop} (hL : Lent E st no S') {E' : Env} (hw : E'.w = E.w) (hS' : E'.S = S') {v b : AV} {x : Value} (hr : Rel E v x) (hl : lendCell st no v b) : Rel E' b x := by
  by_cases hbu : b = .undef
  · subst hbu; exact .undef _
  · exact .base _ _ (by rw [hw, hS']; exact lendCell_rrel hs hL hr hl hbu)

end Go.Proofs.Ytmbckmfihcojoaa.AM
