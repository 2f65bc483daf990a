/- The abstract machine, part 13: calls: the memory that a callee sees. -/
import Derived.Test.YtmbckmfihcojoaaB12
namespace Go.Proofs.Ytmbckmfihcojoaa.AM
open Go Go.RowKit

set_option linter.unusedVariables false
set_option linter.unusedSimpArgs false

variable {P : Program} {T : Nat → Option TI} {E E0 : Env} {st : St} {a : Act} {K : AV → St → Prop} {o : Oper}

/-! ### What is given, found by the values -/

def match0 (v b : AV) : Ren :=
  match b with
  | .ref _ t _ _ => match v with
    | .ref _ L off _ => [(t, (L, off))]
    | _ => []
  | .ptr t _ _ => match v with
    | .ptr L _ fld => [(t, (L, fld))]
    | _ => []
  | _ => []

def matchL : List AV → List AV → Ren
  | v :: vs, b :: bs => match0 v b ++ matchL vs bs
  | _, _ => []

def match1 (v b : AV) : Ren :=
  match v, b with
  | .agg vs, .agg bs => matchL vs bs
  | v, b => match0 v b

def match1L : List AV → List AV → Ren
  | v :: vs, b :: bs => match1 v b ++ match1L vs bs
  | _, _ => []

def match2 (v b : AV) : Ren :=
  match v, b with
  | .fn _ x y, .fn _ x' y' => match1L x x' ++ match1L y y'
  | v, b => match1 v b

def match2L : List AV → List AV → Ren
  | v :: vs, b :: bs => match2 v b ++ match2L vs bs
  | _, _ => []

/-- The arrays in the cells of a variable that is given. -/
def matchB (base : Nat) : List AV → List AV → Ren
  | v :: vs, b :: bs => (match b with
    | .own _ _ _ => (match v with
      | .ref _ L off _ => [(base, (L, off))]
      | _ => [])
    | _ => []) ++ matchB (base + 1) vs bs
  | _, _ => []

def matchO (st : St) (ρ : Ren) (k : Nat) : List Obj → Ren
  | [] => []
  | .box cells :: r => (match lk ρ (gl k) with
    | some (id, fld) => match lk st.sto id with
      | some (.box cs) => matchB (gl k + 1) (cs.drop fld) cells
      | _ => []
    | none => []) ++ matchO st ρ (k + 1) r
  | .arr _ _ _ :: r => matchO st ρ (k + 1) r

/-- Of one's own names, what is given: the callee's name, ours, from which element (cell) on. -/
def rhoA (avs bs : List AV) : Ren := match2L avs bs
def rhoB (st : St) (avs bs : List AV) (objs : List Obj) : Ren := matchO st (rhoA avs bs) 0 objs
def rhoG (st : St) (avs bs : List AV) (objs : List Obj) : Ren := rhoA avs bs ++ rhoB st avs bs objs

def isBox (st : St) (id : Nat) : Bool :=
  match lk st.sto id with
  | some (.box _) => true
  | _ => false

/-! ### How the values must be -/

def AV.isUndef : AV → Bool
  | .undef => true
  | _ => false

def lendCells (st : St) (no : Nat → Bool) : List AV → List AV → Prop
  | _, [] => True
  | v :: vs, b :: bs => (lendCell st no v b ∧ b.isUndef = false) ∧ lendCells st no vs bs
  | _, _ => False

theorem lendCells_get {no : Nat → Bool} : ∀ {vs bs : List AV}, lendCells st no vs bs → bs.length ≤ vs.length ∧ ∀ (j : Nat) (v b : AV), vs[j]? = some v → bs[j]? = some b → lendCell st no v b ∧ b.isUndef = false
  | vs, [], _ => ⟨Nat.zero_le _, fun j v r _ h => by simp at h⟩
  | v :: vs, r :: rs, ⟨h1, h2⟩ => by
    obtain ⟨g1, g2⟩ := lendCells_get h2
    refine ⟨by simp; exact g1, fun j v' r' hv hj => ?_⟩
    cases j with
    | zero => simp at hj hv; subst hj hv; exact h1
    | succ j => exact g2 j v' r' (by simpa using hv) (by simpa using hj)
  | [], _ :: _, h => h.elim

def argP (st : St) (no : Nat → Bool) (al : Bool) (v b : AV) : Prop :=
  match al with
  | true => v = b
  | false => lendCell st no v b

def arg0 (st : St) (no : Nat → Bool) (al : Bool) (v b : AV) : Prop :=
  match b with
  | .ref q _ off len' => (q = false ∧ off = 0) ∧ match v with
    | .ref _ _ _ len => len' = len
    | .nilS => len' = 0
    | .emp => len' = 0
    | _ => False
  | .ptr _ row' fld' => (row' = 0 ∧ fld' = 0) ∧ match v with
    | .ptr id row _ => row = 0 ∧ isBox st id = true
    | _ => False
  | .rptr bs => match v with
    | .ptr id row fld => al = false ∧ no id = false ∧ match st.at (.ptr id row fld) with
      | some cells => lendCells st no cells bs
      | none => False
    | .rptr cells => bs = cells
    | _ => False
  | .agg _ => False
  | .tup _ => False
  | .fn _ _ _ => False
  | b => argP st no al v b

def argL (st : St) (no : Nat → Bool) (al : Bool) : List AV → List AV → Prop
  | [], [] => True
  | v :: vs, b :: bs => arg0 st no al v b ∧ argL st no al vs bs
  | _, _ => False

def arg1 (st : St) (no : Nat → Bool) (al : Bool) (v b : AV) : Prop :=
  match b with
  | .agg bs => match v with
    | .agg vs => argL st no al vs bs
    | _ => False
  | b => arg0 st no al v b

def arg1L (st : St) (no : Nat → Bool) (al : Bool) : List AV → List AV → Prop
  | [], [] => True
  | v :: vs, b :: bs => arg1 st no al v b ∧ arg1L st no al vs bs
  | _, _ => False

def arg2 (st : St) (no : Nat → Bool) (al : Bool) (v b : AV) : Prop :=
  match b with
  | .fn g x' y' => match v with
    | .fn f x y => f = g ∧ arg1L st no al x x' ∧ arg1L st no al y y'
    | _ => False
  | b => arg1 st no al v b

def args (st : St) (no : Nat → Bool) (al : Bool) : List AV → List AV → Prop
  | [], [] => True
  | v :: vs, b :: bs => arg2 st no al v b ∧ args st no al vs bs
  | _, _ => False

/-- A cell of a variable that is given. -/
def giveCell (st : St) (al : Bool) (v b : AV) : Prop :=
  match b with
  | .undef => True
  | .own s fl rows => match v with
    | .nilS => rows = []
    | .emp => rows = []
    | .ref _ L off len => match lk st.sto L with
      | some (.arr s' fl' rows0) => (s' = s ∧ fl' = fl) ∧ (off + len ≤ rows0.length ∧ rows = (rows0.drop off).take len) ∧ (match fl with | true => True | false => FreeRows al rows)
      | _ => False
    | _ => False
  | .ro rows => v = .ro rows ∧ (al = true ∨ rows = [])
  | b => v = b ∧ b.scal = true

def giveCells (st : St) (al : Bool) : List AV → List AV → Prop
  | _, [] => True
  | v :: vs, b :: bs => giveCell st al v b ∧ giveCells st al vs bs
  | _, _ => False

def giveObjs (st : St) (al : Bool) (ρ : Ren) (k : Nat) : List Obj → Prop
  | [] => True
  | .box cells :: r => (match lk ρ (gl k) with
    | some (id, fld) => match lk st.sto id with
      | some (.box cs) => (nble (fld + cells.length) cs.length && nble cells.length 90) = true ∧ giveCells st al (cs.drop fld) cells
      | _ => False
    | none => False) ∧ giveObjs st al ρ (k + 1) r
  | .arr s fl rows :: r => (match lk ρ (gl k) with
    | some (L, off) => match lk st.sto L with
      | some (.arr s' fl' rows0) => (off = 0 ∧ s' = s ∧ fl' = fl) ∧ (rows.length ≤ rows0.length ∧ rows = rows0.take rows.length) ∧ (match fl with | true => True | false => FreeRows al rows)
      | _ => False
    | none => rows = []) ∧ giveObjs st al ρ (k + 1) r

/-- Names of the objects that are given, our own. -/
def given (dp : Bool) (ρ : Ren) (id : Nat) : Bool := (Ren.inv ρ id).isSome || (nbeq id 0 && !dp)

def tgtOk (ρ : Ren) (objs : List Obj) : Bool := ρ.all fun p => ((flats (fun _ => 0) 0 objs).map (·.1)).elem p.1

structure Gives (st : St) (al dp : Bool) (avs bs : List AV) (objs : List Obj) : Prop where
  ok : (Ren.ok (rhoG st avs bs objs) && tgtOk (rhoG st avs bs objs) objs && (rhoA avs bs).all (fun p => nbeq (p.1 % 1000) 0 && nble 1000 p.1) && nble objs.length 40) = true
  args : args st (given dp (rhoG st avs bs objs)) al avs bs
  objs : giveObjs st al (rhoA avs bs) 0 objs

theorem objs1_keys {l : List AV} : ∀ (base : Nat) (ln : List (List AV) → Nat), True := fun _ _ => trivial

theorem flat1_keys (ln ln' : List (List AV) → Nat) (base : Nat) (o : Obj) : (flat1 ln base o).map (·.1) = (flat1 ln' base o).map (·.1) := by
  cases o <;> simp [flat1]

theorem flats_keys (ln ln' : List (List AV) → Nat) : ∀ (objs : List Obj) (k : Nat), (flats ln k objs).map (·.1) = (flats ln' k objs).map (·.1)
  | [], _ => rfl
  | o :: r, k => by
    simp only [flats, List.map_append]
    rw [flat1_keys ln ln', flats_keys ln ln' r]

/-! ### The callee's memory -/

/-- The windows: what of a block is given. -/
def winG (E : Env) (ρ : Ren) (objs : List Obj) (b : Nat) : Option (Nat × Nat) :=
  match E.tag b with
  | some (.root s) => match ρ.inv s, E.loc s with
    | some (t, fld), some L => match objs[t / 1000 - 1]? with
      | some (.box cells) => if t % 1000 = 0 ∧ 1000 ≤ t ∧ L.blk = b then some (L.base + fld, L.base + fld + cells.length) else none
      | _ => none
    | _, _ => none
  | _ => none

def seenS (E : Env) (al : Bool) (ρ : Ren) (b : Nat) : Prop :=
  match al with
  | true => E.S b
  | false => b < E.w.heap.size ∧ (E.tag b).bind (renTag ρ) = none

def Env.given (E : Env) (al : Bool) (ρ : Ren) (objs : List Obj) : Env := E.ren ρ (seenS E al ρ) (winG E ρ objs)

theorem seen_still (hs : Sim E st a) {al : Bool} {ρ : Ren} : ∀ b, E.S b → seenS E al ρ b := fun b hb => by
  cases al with
  | true => exact hb
  | false =>
    obtain ⟨h1, h2⟩ := hs.wf.still b hb
    exact ⟨h2, by rw [h1]; rfl⟩

theorem lent_of (hs : Sim E st a) {dp : Bool} {ρ : Ren} : Lent E st (given dp ρ) (seenS E false ρ) := by
  refine ⟨seen_still hs, fun b id hn ht => ⟨hs.wf.owned b (by rw [ht]; simp), ?_⟩, fun b id i j hn ht => ⟨hs.wf.owned b (by rw [ht]; simp), ?_⟩⟩
  · rw [ht]
    simp only [Option.bind_some, renTag]
    unfold AM.given at hn
    rw [Bool.or_eq_false_iff] at hn
    replace hn := hn.1
    cases hq : ρ.inv id with
    | none => rfl
    | some p => rw [hq] at hn; cases hn
  · rw [ht]
    simp only [Option.bind_some, renTag]
    unfold AM.given at hn
    rw [Bool.or_eq_false_iff] at hn
    replace hn := hn.1
    cases hq : ρ.inv id with
    | none => rfl
    | some p => rw [hq] at hn; cases hn

theorem inv_key {ρ : Ren} {s t o : Nat} (h : ρ.inv s = some (t, o)) : (t, (s, o)) ∈ ρ := Ren.inv_mem h

theorem fl_key {objs : List Obj} {ln : List (List AV) → Nat} {t : Nat} (h : ((flats ln 0 objs).map (·.1)).elem t = true) : ∃ ob, lk (flats List.length 0 objs) t = some ob := by
  rw [flats_keys ln List.length] at h
  exact lk_elem h

theorem gl_div (i j : Nat) (h : j < 1000) : (gl i + j) / 1000 - 1 = i ∧ 1000 ≤ gl i + j ∧ (gl i + j) % 1000 = j := by
  unfold gl
  omega

theorem boxAt {al : Bool} {ρ : Ren} : ∀ {objs : List Obj} {k i : Nat} {cells : List AV}, giveObjs st al ρ k objs → objs[i]? = some (.box cells) → ∃ id fld cs, lk ρ (gl (k + i)) = some (id, fld) ∧ lk st.sto id = some (.box cs) ∧ fld + cells.length ≤ cs.length ∧ cells.length ≤ 90 ∧ giveCells st al (cs.drop fld) cells
  | [], _, _, _, _, h => by simp at h
  | o :: r, k, i, cells, hg, h => by
    cases i with
    | zero =>
      simp at h; subst h
      have := hg.1
      split at this
      · rename_i id fld hq
        split at this
        · rename_i cs hq2
          simp only [Bool.and_eq_true] at this
          exact ⟨id, fld, cs, hq, hq2, nble_le this.1.1, nble_le this.1.2, this.2⟩
        · exact this.elim
      · exact this.elim
    | succ i =>
      have h2 : giveObjs st al ρ (k + 1) r := by cases o <;> exact hg.2
      have := boxAt (i := i) h2 (by simpa using h)
      rw [show k + 1 + i = k + (i + 1) by omega] at this
      exact this

theorem arrAt {al : Bool} {ρ : Ren} : ∀ {objs : List Obj} {k i s : Nat} {fl : Bool} {rows : List (List AV)}, giveObjs st al ρ k objs → objs[i]? = some (.arr s fl rows) →
    (lk ρ (gl (k + i)) = none ∧ rows = []) ∨ ∃ L rows0, lk ρ (gl (k + i)) = some (L, 0) ∧ lk st.sto L = some (.arr s fl rows0) ∧ rows.length ≤ rows0.length ∧ rows = rows0.take rows.length ∧ (fl = false → FreeRows al rows)
  | [], _, _, _, _, _, _, h => by simp at h
  | o :: r, k, i, s, fl, rows, hg, h => by
    cases i with
    | zero =>
      simp at h; subst h
      have := hg.1
      split at this
      · rename_i L off hq
        split at this
        · rename_i s' fl' rows0 hq2
          obtain ⟨⟨rfl, rfl, rfl⟩, ⟨h1, h2⟩, h3⟩ := this
          exact .inr ⟨L, rows0, hq, hq2, h1, h2, fun e => by subst e; exact h3⟩
        · exact this.elim
      · exact .inl ⟨‹_›, this⟩
    | succ i =>
      have h2 : giveObjs st al ρ (k + 1) r := by cases o <;> exact hg.2
      have := arrAt (i := i) h2 (by simpa using h)
      rw [show k + 1 + i = k + (i + 1) by omega] at this
      exact this

theorem giveCells_get {al : Bool} : ∀ {vs bs : List AV}, giveCells st al vs bs → bs.length ≤ vs.length ∧ ∀ (j : Nat) (v b : AV), vs[j]? = some v → bs[j]? = some b → giveCell st al v b
  | vs, [], _ => ⟨Nat.zero_le _, fun j v r _ h => by simp at h⟩
  | v :: vs, r :: rs, ⟨h1, h2⟩ => by
    obtain ⟨g1, g2⟩ := giveCells_get h2
    refine ⟨by simp; exact g1, fun j v' r' hv hj => ?_⟩
    cases j with
    | zero => simp at hj hv; subst hj hv; exact h1
    | succ j => exact g2 j v' r' (by simpa using hv) (by simpa using hj)
  | [], _ :: _, h => h.elim

/-- The name of a cell's array in what is given. -/
def cellSrc (v b : AV) : Option (Nat × Nat) :=
  match b with
  | .own _ _ _ => v.src
  | _ => none

theorem mem_matchB : ∀ {vs bs : List AV} {base t : Nat} {p : Nat × Nat}, (t, p) ∈ matchB base vs bs ↔ ∃ j v b, t = base + j ∧ vs[j]? = some v ∧ bs[j]? = some b ∧ cellSrc v b = some p
  | [], bs, base, t, p => by simp [matchB]
  | v :: vs, [], base, t, p => by simp [matchB]
  | v :: vs, b :: bs, base, t, p => by
    have ih := mem_matchB (vs := vs) (bs := bs) (base := base + 1) (t := t) (p := p)
    unfold matchB
    rw [List.mem_append, ih]
    have h0 : (t, p) ∈ (match b with
      | .own _ _ _ => (match v with
        | .ref _ L off _ => [(base, (L, off))]
        | _ => [])
      | _ => []) ↔ t = base ∧ cellSrc v b = some p := by
      cases b <;> cases v <;> simp [cellSrc, AV.src, eq_comm]
    rw [h0]
    constructor
    · rintro (⟨rfl, h⟩ | ⟨j, v', b', rfl, h1, h2, h3⟩)
      · exact ⟨0, v, b, rfl, rfl, rfl, h⟩
      · exact ⟨j + 1, v', b', by omega, by simpa using h1, by simpa using h2, h3⟩
    · rintro ⟨j, v', b', rfl, h1, h2, h3⟩
      cases j with
      | zero => simp at h1 h2; subst h1 h2; exact .inl ⟨rfl, h3⟩
      | succ j => exact .inr ⟨j, v', b', by omega, by simpa using h1, by simpa using h2, h3⟩

theorem mem_matchO {ρ : Ren} : ∀ {objs : List Obj} {k t : Nat} {p : Nat × Nat}, (t, p) ∈ matchO st ρ k objs ↔ ∃ i cells id fld cs, objs[i]? = some (.box cells) ∧ lk ρ (gl (k + i)) = some (id, fld) ∧ lk st.sto id = some (.box cs) ∧ (t, p) ∈ matchB (gl (k + i) + 1) (cs.drop fld) cells
  | [], k, t, p => by simp [matchO]
  | o :: r, k, t, p => by
    have ih := mem_matchO (ρ := ρ) (objs := r) (k := k + 1) (t := t) (p := p)
    have shift : (∃ i cells id fld cs, r[i]? = some (Obj.box cells) ∧ lk ρ (gl (k + 1 + i)) = some (id, fld) ∧ lk st.sto id = some (.box cs) ∧ (t, p) ∈ matchB (gl (k + 1 + i) + 1) (cs.drop fld) cells) ↔
        ∃ i cells id fld cs, (o :: r)[i + 1]? = some (Obj.box cells) ∧ lk ρ (gl (k + (i + 1))) = some (id, fld) ∧ lk st.sto id = some (.box cs) ∧ (t, p) ∈ matchB (gl (k + (i + 1)) + 1) (cs.drop fld) cells := by
      constructor
      · rintro ⟨i, cells, id, fld, cs, h⟩
        exact ⟨i, cells, id, fld, cs, by rw [show k + (i + 1) = k + 1 + i by omega]; simpa using h⟩
      · rintro ⟨i, cells, id, fld, cs, h⟩
        exact ⟨i, cells, id, fld, cs, by rw [show k + (i + 1) = k + 1 + i by omega] at h; simpa using h⟩
    cases o with
    | arr s fl rows =>
      simp only [matchO]
      rw [ih, shift]
      constructor
      · rintro ⟨i, h⟩; exact ⟨i + 1, h⟩
      · rintro ⟨i, cells, id, fld, cs, h1, h⟩
        cases i with
        | zero => simp at h1
        | succ i => exact ⟨i, cells, id, fld, cs, h1, h⟩
    | box cells0 =>
      simp only [matchO, List.mem_append]
      rw [ih, shift]
      constructor
      · rintro (h | ⟨i, h⟩)
        · split at h
          · rename_i id fld hq
            split at h
            · rename_i cs hq2
              exact ⟨0, cells0, id, fld, cs, rfl, hq, hq2, h⟩
            · cases h
          · cases h
        · exact ⟨i + 1, h⟩
      · rintro ⟨i, cells, id, fld, cs, h1, h2, h3, h4⟩
        cases i with
        | zero =>
          simp at h1; subst h1
          rw [Nat.add_zero] at h2 h4
          exact .inl (by rw [h2]; simp only [h3]; exact h4)
        | succ i => exact .inr ⟨i, cells, id, fld, cs, h1, h2, h3, h4⟩

section
variable {al dp : Bool} {avs bs : List AV} {objs : List Obj}

theorem Gives.rok (h : Gives st al dp avs bs objs) : Ren.ok (rhoG st avs bs objs) = true := by
  have := h.ok
  simp only [Bool.and_eq_true] at this
  exact this.1.1.1

theorem Gives.few (h : Gives st al dp avs bs objs) : objs.length ≤ 40 := by
  have := h.ok
  simp only [Bool.and_eq_true] at this
  exact nble_le this.2

theorem Gives.tgt (h : Gives st al dp avs bs objs) {t : Nat} {p : Nat × Nat} (hm : lk (rhoG st avs bs objs) t = some p) : ∃ ob, lk (flats List.length 0 objs) t = some ob := by
  have := h.ok
  simp only [Bool.and_eq_true] at this
  exact fl_key (List.all_eq_true.1 this.1.1.2 _ (lk_mem hm))

theorem Gives.head (h : Gives st al dp avs bs objs) {i : Nat} {p : Nat × Nat} : lk (rhoG st avs bs objs) (gl i) = some p ↔ lk (rhoA avs bs) (gl i) = some p := by
  have hrok := h.rok
  constructor
  · intro hm
    have hm := lk_mem hm
    unfold rhoG at hm
    rcases List.mem_append.1 hm with hm | hm
    · cases hq : lk (rhoA avs bs) (gl i) with
      | none =>
        exfalso
        have : ∀ l : Ren, (gl i, p) ∈ l → lk l (gl i) ≠ none := by
          intro l
          induction l with
          | nil => intro h; cases h
          | cons q r ih =>
            intro h
            obtain ⟨t', q'⟩ := q
            rw [lk_cons]
            split
            · simp
            · rcases List.mem_cons.1 h with h | h
              · cases h; exact absurd rfl ‹_›
              · exact ih h
        exact this _ hm hq
      | some q =>
        have h1 : lk (rhoG st avs bs objs) (gl i) = some q := by unfold rhoG; rw [lk_append, hq]; rfl
        have h2 := (Ren.of_mem hrok (show (gl i, (p.1, p.2)) ∈ rhoG st avs bs objs from List.mem_append_left _ hm)).1
        rw [h1] at h2
        rw [h2]
    · exfalso
      obtain ⟨i', cells, id, fld, cs, g1, g2, g3, g4⟩ := mem_matchO.1 hm
      obtain ⟨j, v, b, g5, g6, g7, _⟩ := mem_matchB.1 g4
      obtain ⟨id', fld', cs', q1, q2, q3, q4, _⟩ := boxAt h.objs g1
      have := (List.getElem?_eq_some_iff.1 g7).1
      unfold gl at g5
      omega
  · intro hm
    unfold rhoG
    rw [lk_append, hm]; rfl

theorem Gives.cell (h : Gives st al dp avs bs objs) {i j id fld : Nat} {cells cs : List AV} {v b : AV} (h1 : objs[i]? = some (.box cells)) (h2 : lk (rhoA avs bs) (gl i) = some (id, fld)) (h3 : lk st.sto id = some (.box cs)) (h4 : cs[fld + j]? = some v) (h5 : cells[j]? = some b) :
    lk (rhoG st avs bs objs) (gl i + 1 + j) = cellSrc v b := by
  have hrok := h.rok
  obtain ⟨_, _, _, q1, q2, q3, q4, _⟩ := boxAt h.objs h1
  have hj := (List.getElem?_eq_some_iff.1 h5).1
  cases hq : cellSrc v b with
  | some p =>
    refine (Ren.of_mem hrok (s := p.1) (o := p.2) (List.mem_append_right _ (mem_matchO.2 ⟨i, cells, id, fld, cs, h1, by rw [Nat.zero_add]; exact h2, h3, mem_matchB.2 ⟨j, v, b, by rw [Nat.zero_add], by rw [List.getElem?_drop]; exact h4, h5, hq⟩⟩))).1
  | none =>
    cases hl : lk (rhoG st avs bs objs) (gl i + 1 + j) with
    | none => rfl
    | some p =>
      exfalso
      have hm := lk_mem hl
      unfold rhoG at hm
      rcases List.mem_append.1 hm with hm | hm
      · have := h.ok
        simp only [Bool.and_eq_true] at this
        have := List.all_eq_true.1 this.1.2 _ hm
        simp only [Bool.and_eq_true] at this
        have := nbeq_eq this.1
        unfold gl at this
        omega
      · obtain ⟨i', cells', id', fld', cs', g1, g2, g3, g4⟩ := mem_matchO.1 hm
        obtain ⟨j', v', b', g5, g6, g7, g8⟩ := mem_matchB.1 g4
        obtain ⟨_, _, _, p1, p2, p3, p4, _⟩ := boxAt h.objs g1
        have hj' := (List.getElem?_eq_some_iff.1 g7).1
        have : i' = i ∧ j' = j := by unfold gl at g5; omega
        obtain ⟨rfl, rfl⟩ := this
        rw [Nat.zero_add] at g2
        rw [h1] at g1; cases g1
        rw [h2] at g2; cases g2
        rw [h3] at g3; cases g3
        rw [List.getElem?_drop, h4] at g6; cases g6
        rw [h5] at g7; cases g7
        rw [hq] at g8; cases g8

/-- A block with a window is that of a variable that is given. -/
theorem Gives.noWin (hs : Sim E st a) (h : Gives st al dp avs bs objs) {b : Nat} {s t : Nat} {o : Nat} (ht : E.tag b = some (.root s)) (hl : lk (rhoG st avs bs objs) t = some (s, o)) (hn : ∀ i cells, t = gl i → objs[i]? ≠ some (.box cells)) : winG E (rhoG st avs bs objs) objs b = none := by
  unfold winG
  rw [ht]
  simp only [Ren.inv_of h.rok hl]
  cases E.loc s with
  | none => rfl
  | some L =>
    simp only
    cases hc : objs[t / 1000 - 1]? with
    | none => rfl
    | some o =>
      cases o with
      | arr _ _ _ => rfl
      | box cells =>
        simp only
        rw [if_neg]
        rintro ⟨h1, h2, _⟩
        exact hn (t / 1000 - 1) cells (by unfold gl; omega) hc

theorem Gives.sim (hs : Sim E st a) (h : Gives st al dp avs bs objs) : (E.given al (rhoG st avs bs objs) objs).Wf ∧ (∀ id L, (E.given al (rhoG st avs bs objs) objs).loc id = some L → ((flats List.length 0 objs).map (·.1)).elem id = true) ∧
    ∀ id o, lk (flats List.length 0 objs) id = some o → ORel (E.given al (rhoG st avs bs objs) objs) id o := by
  have hrok := h.rok
  have hSs := seen_still hs (al := al) (ρ := rhoG st avs bs objs)
  generalize hρ : rhoG st avs bs objs = ρ at *
  have hgl0 : ∀ i, gl i % 1000 = 0 ∧ gl i / 1000 - 1 = i ∧ 1000 ≤ gl i := fun i => by unfold gl; omega
  refine ⟨⟨fun b hb => ?_, fun b hb => hs.wf.owned b (fun e => hb (by simp [Env.given, Env.ren, e])), fun b hb => ?_⟩, fun id L hL => ?_, fun id o ho => ?_⟩
  · cases al with
    | true =>
      obtain ⟨h1, h2⟩ := hs.wf.still b hb
      exact ⟨by simp [Env.given, Env.ren, h1], h2⟩
    | false => exact ⟨hb.2, hb.1⟩
  · change winG E ρ objs b ≠ none at hb
    unfold winG at hb
    split at hb
    · rename_i s ht
      split at hb
      · rename_i t fld L hi hL
        split at hb
        · rename_i cells hc
          split at hb
          · rename_i hcond
            have hlk := Ren.lk_of hrok hi
            have hlt := (List.getElem?_eq_some_iff.1 hc).1
            have hfew := h.few
            exact ⟨hs.wf.owned b (by rw [ht]; simp), t, L.shift fld, by unfold lab0; omega, by simp [Env.given, Env.ren, hlk, hL], hcond.2.2, ren_tag_root hrok hlk ht⟩
          · exact absurd rfl hb
        · exact absurd rfl hb
      · exact absurd rfl hb
    · exact absurd rfl hb
  · simp only [Env.given, Env.ren] at hL
    cases hq : lk ρ id with
    | none => simp [hq] at hL
    | some p =>
      obtain ⟨ob, hob⟩ := Gives.tgt h (by rw [hρ]; exact hq)
      rw [List.elem_iff]
      exact List.mem_map.2 ⟨(id, ob), lk_mem hob, rfl⟩
  · obtain ⟨i, ob, hi, hfl⟩ := flats_lk ho
    rw [Nat.zero_add] at hfl
    cases ob with
    | arr s fl rows =>
      have hcase := arrAt h.objs hi
      rw [Nat.zero_add] at hcase
      have he : id = gl i ∧ o = .arr s fl rows := by
        rcases flat1_lk hfl with ⟨e1, e2⟩ | ⟨_, _, _, _, _, e, _⟩
        · exact ⟨e1, e2⟩
        · cases e
      obtain ⟨e1, e2⟩ := he
      subst e1 e2
      rcases hcase with ⟨h1, rfl⟩ | ⟨L, rows0, h1, h2, h3, h4, h5⟩
      · refine .inl ⟨?_, rfl⟩
        have : lk ρ (gl i) = none := by
          cases hq : lk ρ (gl i) with
          | none => rfl
          | some p => rw [← hρ] at hq; rw [h.head.1 hq] at h1; cases h1
        simp [Env.given, Env.ren, this]
      · have hl : lk ρ (gl i) = some (L, 0) := by rw [← hρ]; exact h.head.2 h1
        refine ren_arr hrok hSs hl (hs.sto L _ h2) (Nat.zero_le _) (n := rows.length) (by simpa using h4) (fun e => (h5 e).noRefs) (fun b hb _ => ?_)
        have := Gives.noWin hs h (b := b) hb (by rw [hρ]; exact hl) (fun i' cells e hc => by
          have : i' = i := by unfold gl at e; omega
          subst this
          rw [hi] at hc; cases hc)
        rw [hρ] at this
        exact this
    | box cells =>
      obtain ⟨id', fld, cs, h1, h2, h3, h4, h5⟩ := boxAt h.objs hi
      rw [Nat.zero_add] at h1
      have hl : lk ρ (gl i) = some (id', fld) := by rw [← hρ]; exact h.head.2 h1
      obtain ⟨gc1, gc2⟩ := giveCells_get h5
      have hcell : ∀ j v b, cs[fld + j]? = some v → cells[j]? = some b → giveCell st al v b ∧ lk ρ (gl i + 1 + j) = cellSrc v b := fun j v b hv hb =>
        ⟨gc2 j v b (by rw [List.getElem?_drop]; exact hv) hb, by rw [← hρ]; exact h.cell hi h1 h2 hv hb⟩
      -- a cell's value
      have hrel : ∀ j v b y, cs[fld + j]? = some v → cells[j]? = some b → Rel E v y → Rel (E.given al ρ objs) (adoptC List.length (gl i + 1 + j) b) y := fun j v b y hv hb hr => by
        obtain ⟨g1, g2⟩ := hcell j v b hv hb
        have same : v = b → b.scal = true ∨ (∃ rows, b = .ro rows) → Rel (E.given al ρ objs) b y := fun e hb' => by
          subst e
          cases hr with
          | base _ _ h => exact .base _ _ (h.mono hSs (fun _ _ => rfl))
          | _ => rcases hb' with h | ⟨_, h⟩ <;> cases h
        cases b with
        | own s fl rows =>
          simp only [giveCell] at g1
          simp only [cellSrc] at g2
          simp only [adoptC]
          cases v <;> simp only at g1
          · subst g1; rw [rel_nilS hr]; exact .ref0 _ _ _ _ rfl
          · subst g1
            cases hr with
            | base _ _ h => cases h; exact .ref0 _ _ _ _ rfl
          · rename_i p L off len
            split at g1
            · rename_i s' fl' rows0 hq
              obtain ⟨_, ⟨q1, q2⟩, _⟩ := g1
              have hlen : rows.length = len := by rw [q2]; simp; omega
              rw [hlen]
              exact (hr.noPeek (q := false)).ren hSs (.ref false (gl i + 1 + j) 0 len) (by simp [AV.back, g2, AV.src]) (by simp [AV.fits, g2, AV.src])
            · exact g1.elim
        | undef => exact .undef _
        | ro rows => simp only [giveCell] at g1; exact same g1.1 (.inr ⟨_, rfl⟩)
        | int k n => simp only [giveCell] at g1; exact same g1.1 (.inl rfl)
        | bool c => simp only [giveCell] at g1; exact same g1.1 (.inl rfl)
        | _ => simp only [giveCell, AV.scal] at g1; cases g1.2
      have hcases : (id = gl i ∧ o = .box (adopt1 List.length (gl i + 1) cells)) ∨ ∃ j s fl rows, id = gl i + 1 + j ∧ cells[j]? = some (.own s fl rows) ∧ o = .arr s fl rows := by
        rcases flat1_lk hfl with ⟨e1, e2⟩ | ⟨cells', j, s, fl', rows, e, e1, hj, e2⟩
        · exact .inl ⟨e1, e2⟩
        · cases e; exact .inr ⟨j, s, fl', rows, e1, hj, e2⟩
      rcases hcases with ⟨e1, e2⟩ | ⟨j, s, fl', rows, e1, hj, e2⟩
      · -- the variable
        subst e1 e2
        obtain ⟨L, c, ty, k1, k2, k3, k4, k5, kw, k6⟩ := hs.sto id' _ h2
        have hbase : (L.shift fld).base = L.base + fld := by simp [Loc.shift, k2]
        refine ⟨L.shift fld, c, ty, by simp [Env.given, Env.ren, hl, k1], k2, ren_tag_root hrok hl k3, k4, by rw [hbase, adopt1_length]; omega, fun lo hi' hw => ?_, fun j u hu => ?_⟩
        · change winG E ρ objs L.blk = some (lo, hi') at hw
          unfold winG at hw
          rw [k3] at hw
          obtain ⟨d1, d2, d3⟩ := gl_div i 0 (by omega)
          simp only [Nat.add_zero] at d1 d2 d3
          simp only [Ren.inv_of hrok hl, k1, d1, hi] at hw
          rw [if_pos ⟨d3, d2, trivial⟩] at hw
          simp only [Option.some.injEq, Prod.mk.injEq] at hw
          rw [hbase, adopt1_length]
          omega
        · rw [adopt1_get] at hu
          simp only [Option.map_eq_some_iff] at hu
          obtain ⟨b, hb, rfl⟩ := hu
          have hjl := (List.getElem?_eq_some_iff.1 hb).1
          have hv := List.getElem?_eq_getElem (show fld + j < cs.length by omega)
          obtain ⟨y, y1, y2, y3⟩ := k6 _ _ hv
          exact ⟨y, by rw [hbase, Nat.add_assoc]; exact y1, y2, hrel j _ b y hv hb y3⟩
      · subst e1 e2
        have hjl := (List.getElem?_eq_some_iff.1 hj).1
        have hv := List.getElem?_eq_getElem (show fld + j < cs.length by omega)
        obtain ⟨g1, g2⟩ := hcell j _ _ hv hj
        simp only [giveCell] at g1
        simp only [cellSrc] at g2
        generalize cs[fld + j] = v at g1 g2 hv
        cases v <;> simp only at g1
        · subst g1; exact .inl ⟨by simp [Env.given, Env.ren, g2, AV.src], rfl⟩
        · subst g1; exact .inl ⟨by simp [Env.given, Env.ren, g2, AV.src], rfl⟩
        · rename_i p L off len
          split at g1
          · rename_i s' fl'' rows0 hq
            obtain ⟨⟨q1, q2⟩, ⟨q3, q4⟩, q5⟩ := g1
            subst q1 q2
            refine ren_arr hrok hSs g2 (hs.sto L _ hq) (by omega) q4 (fun e => by subst e; exact FreeRows.noRefs q5) (fun b hb _ => ?_)
            have := Gives.noWin hs h (b := b) hb (by rw [hρ]; exact g2) (fun i' cells e hc => by unfold gl at e; omega)
            rw [hρ] at this
            exact this
          · exact g1.elim

end
end Go.Proofs.Ytmbckmfihcojoaa.AM
