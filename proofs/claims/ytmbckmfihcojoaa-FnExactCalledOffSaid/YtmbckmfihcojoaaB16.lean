/- The abstract machine, part 16: calls: the rule. -/
import Derived.Test.YtmbckmfihcojoaaB15
namespace Go.Proofs.Ytmbckmfihcojoaa.AM
open Go Go.RowKit

set_option linter.unusedVariables false
set_option linter.unusedSimpArgs false

variable {P : Program} {T : Nat → Option TI} {E E0 : Env} {st : St} {a : Act} {K : AV → St → Prop} {o : Oper}

/-- What an operation does to our objects: new ones, changed ones, lost ones; the names that it takes. -/
structure Dl where
  sto : List (Nat × Option Obj)
  used : List Nat
  rd : List Nat

def updSto : List (Nat × Option Obj) → List (Nat × Obj) → List (Nat × Obj)
  | [], s => s
  | (k, some o) :: r, s => (k, o) :: updSto r s
  | (k, none) :: r, s => rm (updSto r s) k

def St.upd (st : St) (d : Dl) : St := { st with sto := updSto d.sto st.sto, used := d.used ++ st.used }

def Dl.no : Dl := ⟨[], [], []⟩

theorem lk_updSto (l : List (Nat × Option Obj)) (s : List (Nat × Obj)) (id : Nat) : lk (updSto l s) id = (lk l id).getD (lk s id) := by
  induction l with
  | nil => rfl
  | cons p r ih =>
    obtain ⟨k, x⟩ := p
    cases x with
    | some o =>
      show lk ((k, o) :: updSto r s) id = _
      rw [lk_cons, lk_cons, ih]
      by_cases h : k = id
      · rw [if_pos h, if_pos h]; rfl
      · rw [if_neg h, if_neg h]
    | none =>
      show lk (rm (updSto r s) k) id = _
      rw [lk_rm, lk_cons, ih]
      by_cases h : k = id
      · rw [if_pos h, if_pos h]; rfl
      · rw [if_neg h, if_neg h]

def boxIds (st : St) (i : Nat) : List Nat :=
  match lk st.sto i with
  | some (.box cells) => idsL cells
  | _ => []

def deepIds (st : St) (i : Nat) : List Nat :=
  match lk st.sto i with
  | some (.arr _ false rows) => rows.flatMap idsL
  | _ => []

/-- What a call looks at. -/
def rdCall (dp : Bool) (st : St) (avs : List AV) : List Nat :=
  idsL avs ++ (idsL avs).flatMap (boxIds st) ++ (match dp with
    | true => (idsL avs).flatMap (deepIds st)
    | false => [])

def backD (dp : Bool) (ln : List (List AV) → Nat) (st : St) (avs bs : List AV) (objs : List Obj) (lab : Nat) (os : List (Option Obj)) (v : AV) : Dl :=
  ⟨(newSto ln st (rhoA avs bs) lab os v).map (fun p => (p.1, some p.2)) ++ (rhoG st avs bs objs).map (fun p => (p.2.1, none)), backUsed st (rhoA avs bs) lab os v, rdCall dp st avs⟩

theorem lk_map_some (l : List (Nat × Obj)) (id : Nat) : lk (l.map fun p => (p.1, some p.2)) id = (lk l id).map some := by
  induction l with
  | nil => rfl
  | cons p r ih =>
    obtain ⟨k, o⟩ := p
    simp only [List.map_cons, lk_cons, ih]
    split <;> rfl

theorem lk_map_none (ρ : Ren) (id : Nat) : lk (ρ.map fun p => (p.2.1, (none : Option Obj))) id = if (Ren.inv ρ id).isSome then some none else none := by
  induction ρ with
  | nil => rfl
  | cons p r ih =>
    obtain ⟨t, s, o⟩ := p
    simp only [List.map_cons, lk_cons, ih, Ren.inv]
    by_cases h : s = id
    · subst h; simp [nbeq_refl]
    · simp [nbeq_ne h, h]

theorem objs1_keys' : ∀ (l : List AV) (b : Nat) (id : Nat), (∃ o, (id, o) ∈ objs1 b l) → id ∈ (objs1 b l).map (·.1) := fun l b id ⟨o, h⟩ => List.mem_map.2 ⟨_, h, rfl⟩

theorem objsV_keys (ln ln' : List (List AV) → Nat) (b : Nat) (v : AV) : (objsV ln b v).map (·.1) = (objsV ln' b v).map (·.1) := by
  cases v <;> simp [objsV]

theorem objsOf_keys (ln ln' : List (List AV) → Nat) (b : Nat) (v : AV) : (objsOf ln b v).map (·.1) = (objsOf ln' b v).map (·.1) := by
  by_cases ht : ∃ vs, v = .tup vs
  · obtain ⟨vs, rfl⟩ := ht
    show (objsT ln b vs).map _ = (objsT ln' b vs).map _
    induction vs generalizing b with
    | nil => rfl
    | cons u r ih => simp only [objsT, List.map_append]; rw [objsV_keys ln ln', ih]
  · have e : ∀ l, objsOf l b v = objsV l b v := fun l => by cases v <;> first | rfl | exact absurd ⟨_, rfl⟩ ht
    rw [e, e]; exact objsV_keys ln ln' b v

theorem backSto_keys (ln ln' : List (List AV) → Nat) (ρ : Ren) (lab : Nat) : ∀ (os : List (Option Obj)) (k : Nat), (backSto ln st ρ lab k os).map (·.1) = (backSto ln' st ρ lab k os).map (·.1)
  | [], _ => rfl
  | none :: r, k => backSto_keys ln ln' ρ lab r (k + 1)
  | some (.box cells) :: r, k => by
    simp only [backSto, List.map_append]
    rw [backSto_keys ln ln' ρ lab r (k + 1)]
    congr 1
    split
    · split <;> rfl
    · rfl
  | some (.arr s fl rows) :: r, k => by
    simp only [backSto, List.map_append]
    rw [backSto_keys ln ln' ρ lab r (k + 1)]

theorem newSto_keys (ln ln' : List (List AV) → Nat) (ρ : Ren) (lab : Nat) (os : List (Option Obj)) (v : AV) : (newSto ln st ρ lab os v).map (·.1) = (newSto ln' st ρ lab os v).map (·.1) := by
  simp only [newSto, List.map_append]
  rw [objsOf_keys ln ln', backSto_keys ln ln']

section
variable {al dp : Bool} {avs bs : List AV} {objs : List Obj}

theorem mem_of_lk {ρ : Ren} {t : Nat} {p : Nat × Nat} (h : lk ρ t = some p) : (t, (p.1, p.2)) ∈ ρ := lk_mem h

/-- What comes back. -/
theorem call_back (hs : Sim E st a) (h : Gives st al dp avs bs objs) {lab : Nat} (hfresh : freshL lab st.used = true) {E' : Env} {v : AV} {os : List (Option Obj)} {x : Value} (hlen : os.length = objs.length)
    (hf : Fr ((E.given al (rhoG st avs bs objs) objs).only (kept os)) E') (hwf : E'.Wf) (hrel : Rel (E'.cut al (E.given al (rhoG st avs bs objs) objs)) (adopt List.length rl v) x)
    (hobj : ∀ id o, (id, o) ∈ flatsO List.length 0 os ++ objsOf List.length rl v → ORel (E'.cut al (E.given al (rhoG st avs bs objs) objs)) id o ∧ (∀ s rows, o = .arr s false rows → FreeRows al rows))
    (hchk : backChk st (rhoA avs bs) lab objs os v = true) :
    ∃ E2, E2.w = E'.w ∧ Fr E E2 ∧ Sim E2 (st.upd (backD dp List.length st avs bs objs lab os v)) a ∧ Rel E2 (adopt List.length lab v) x := by
  have hrok := h.rok
  have hfew := h.few
  obtain ⟨hwfc, _, _⟩ := h.sim hs
  unfold backChk at hchk
  simp only [Bool.and_eq_true] at hchk
  obtain ⟨⟨⟨hσ, hshape⟩, htree⟩, hinl⟩ := hchk
  have hsh := shapes_get hshape
  unfold freshL at hfresh
  rw [Bool.and_eq_true] at hfresh
  have hlab0 := nble_le hfresh.2
  have hnotin : ∀ id, st.used.elem id = true → inLab lab id = false := fun id hu => by
    have := List.all_eq_true.1 hfresh.1 id (by rwa [List.elem_iff] at hu)
    rw [Bool.or_eq_true] at this
    unfold inLab
    rcases this with h1 | h1
    · rw [nblt_eq] at h1
      have : nble lab id = false := by simp [nble]; omega
      simp [this]
    · have h1 := nble_le h1
      have : nblt id (lab + 10000) = false := by simp [nblt]; omega
      simp [this]
  generalize hρ : rhoG st avs bs objs = ρ at *
  generalize hσe : sigA st (rhoA avs bs) lab os v = σ at hσ
  let Ec := E.given al ρ objs
  have hwc : Ec.w = E.w := rfl
  have hheadG : ∀ {i : Nat} {p : Nat × Nat}, lk (rhoA avs bs) (gl i) = some p → lk ρ (gl i) = some p := fun hp => by rw [← hρ]; exact h.head.2 hp
  have hσR : ∀ q ∈ sigR lab rl v, q ∈ σ := fun q hq => by rw [← hσe]; exact List.mem_append_left _ hq
  have hσO : ∀ q ∈ sigO st (rhoA avs bs) lab 0 os, q ∈ σ := fun q hq => by rw [← hσe]; exact List.mem_append_right _ hq
  -- the old memory
  have hold : ∀ b, b < E.w.heap.size → Ec.tag b = none → E'.w.heap[b]? = E.w.heap[b]? ∧ E'.tag b = none := fun b hb ht => by
    refine ⟨hf.block b hb ht, ?_⟩
    cases hq : E'.tag b with
    | none => rfl
    | some τ =>
      rcases hf.tag b (by rw [hq]; simp) with h1 | h1
      · exact absurd ht h1
      · exact absurd hb (Nat.not_lt.2 h1)
  let S2 : Nat → Prop := fun b => E.S b ∨ (E'.S b ∧ E.w.heap.size ≤ b)
  let F : Env := (E'.cut al Ec).ren σ S2 E.win
  let arrs := arrPl (rhoA avs bs) 0 os
  let tag2 : Nat → Option Tag := fun b => match F.tag b with
    | some τ => some τ
    | none => if (Ec.tag b).isSome then none else E.tag b
  let loc2 : Nat → Option Loc := fun id => if inLab lab id = true ∨ id ∈ arrs then F.loc id else E.loc id
  let E2 : Env := ⟨E'.w, S2, tag2, loc2, E.win⟩
  have hSF : ∀ b, (E'.cut al Ec).S b → S2 b := fun b hb => by
    obtain ⟨h1, h2⟩ := hb
    rcases h2 with ⟨hal, h2⟩ | h2
    · subst hal; exact .inl h2
    · exact .inr ⟨h1, h2⟩
  -- places of arrays that are given back
  have harr0 : ∀ (i : Nat) (s : Nat) (fl : Bool) (rows : List (List AV)) (p : Nat × Nat), os[i]? = some (some (.arr s fl rows)) → lk (rhoA avs bs) (gl i) = some p → p.2 = 0 ∧ ∃ s fl rows0, lk st.sto p.1 = some (.arr s fl rows0) := fun i s fl rows p h1 h2 => by
    obtain ⟨s', fl', rows', h3⟩ := (hsh i).2.1 s fl rows h1
    have := arrAt h.objs h3
    rw [Nat.zero_add, h2] at this
    rcases this with ⟨h4, _⟩ | ⟨L', rows0, h4, h5, _⟩
    · cases h4
    · cases h4; exact ⟨rfl, _, _, _, h5⟩
  have harr : ∀ L, L ∈ arrs → ∃ (i : Nat) (s : Nat) (fl : Bool) (rows : List (List AV)), os[i]? = some (some (.arr s fl rows)) ∧ lk (rhoA avs bs) (gl i) = some (L, 0) ∧ ∃ s fl rows0, lk st.sto L = some (.arr s fl rows0) := fun L hL => by
    obtain ⟨i, s, fl, rows, off, h1, h2⟩ := arrPl_mem.1 hL
    rw [Nat.zero_add] at h2
    obtain ⟨h3, h4⟩ := harr0 i s fl rows _ h1 h2
    simp only at h3
    subst h3
    exact ⟨i, s, fl, rows, h1, h2, h4⟩
  have hkept : ∀ (i : Nat) (ob : Obj), os[i]? = some (some ob) → kept os (gl i) = true := fun i ob hi => by
    unfold kept
    refine List.any_eq_true.2 ⟨i, List.mem_range.2 (List.getElem?_eq_some_iff.1 hi).1, ?_⟩
    rw [nbeq_refl, hi]; rfl
  have hglow : ∀ i, i < objs.length → gl i < lab0 := fun i hi => by unfold gl lab0; omega
  have hkloc : ∀ (i : Nat) (ob : Obj), os[i]? = some (some ob) → ∀ L, Ec.loc (gl i) = some L → E'.loc (gl i) = some L := fun i ob hi L hL =>
    hf.keep (gl i) L (hglow i (by rw [← hlen]; exact (List.getElem?_eq_some_iff.1 hi).1)) (by show (if kept os (gl i) = true then Ec.loc (gl i) else none) = some L; rw [if_pos (hkept i ob hi)]; exact hL)
  have hloc : ∀ id L, E.loc id = some L → loc2 id = some L := fun id L hL => by
    show (if _ then _ else _) = _
    by_cases hc : inLab lab id = true ∨ id ∈ arrs
    · rw [if_pos hc]
      rcases hc with hc | hc
      · rw [hnotin id (hs.used id L hL)] at hc; cases hc
      · obtain ⟨i, s, fl, rows, h1, h2, _⟩ := harr id hc
        have hEc : Ec.loc (gl i) = some (L.shift 0) := by
          show (lk ρ (gl i)).bind _ = _
          rw [hheadG h2]; simp [hL]
        have hE' := hkloc i _ h1 _ hEc
        have hm := (sigO_mem (st := st) (ρ := rhoA avs bs) (lab := lab) (os := os) (k := 0) (i := i)).2 s fl rows (id, 0) h1 (by rw [Nat.zero_add]; exact h2)
        rw [Nat.zero_add] at hm
        have hl := (Ren.of_mem hσ (hσO _ hm)).1
        show (lk σ id).bind _ = _
        rw [hl]
        simp only [Option.bind_some]
        show (E'.loc (gl i)).map _ = _
        rw [hE']
        simp [Loc.shift]
    · rw [if_neg hc]; exact hL
  -- what a name that is given stands for
  have hkind : ∀ s t off, ρ.inv s = some (t, off) → (∃ i cells cs, t = gl i ∧ objs[i]? = some (.box cells) ∧ lk (rhoA avs bs) (gl i) = some (s, off) ∧ lk st.sto s = some (.box cs) ∧ off + cells.length ≤ cs.length) ∨ ∃ sz fl rows, lk st.sto s = some (.arr sz fl rows) := fun s t off hi => by
    have hl := Ren.lk_of hrok hi
    obtain ⟨ob, hob⟩ := h.tgt (by rw [hρ]; exact hl)
    obtain ⟨i, o, hio, hfl⟩ := flats_lk hob
    rw [Nat.zero_add] at hfl
    cases o with
    | arr sz fl rows =>
      rcases flat1_lk hfl with ⟨e1, _⟩ | ⟨_, _, _, _, _, e, _⟩
      · subst e1
        have h1 := h.head.1 (by rw [hρ]; exact hl)
        have := arrAt h.objs hio
        rw [Nat.zero_add, h1] at this
        rcases this with ⟨h4, _⟩ | ⟨L', rows0, h4, h5, _⟩
        · cases h4
        · cases h4; exact .inr ⟨_, _, _, h5⟩
      · cases e
    | box cells =>
      obtain ⟨id', fld, cs, h1, h2, h3, h4, h5⟩ := boxAt h.objs hio
      rw [Nat.zero_add] at h1
      rcases flat1_lk hfl with ⟨e1, _⟩ | ⟨cells', j, s', fl', rows, e, e1, hj, _⟩
      · subst e1
        rw [hheadG h1] at hl
        cases hl
        exact .inl ⟨i, cells, cs, rfl, hio, h1, h2, h3⟩
      · cases e
        subst e1
        have hjl := (List.getElem?_eq_some_iff.1 hj).1
        have hv := List.getElem?_eq_getElem (show fld + j < cs.length by omega)
        have hc := h.cell hio h1 h2 hv hj
        rw [hρ, hl] at hc
        obtain ⟨_, gc2⟩ := giveCells_get h5
        have g1 := gc2 j _ _ (by rw [List.getElem?_drop]; exact hv) hj
        simp only [giveCell] at g1
        simp only [cellSrc] at hc
        generalize cs[fld + j] = v at g1 hc
        cases v <;> simp [AV.src] at hc
        obtain ⟨rfl, rfl⟩ := hc
        simp only at g1
        split at g1
        · exact .inr ⟨_, _, _, ‹_›⟩
        · exact g1.elim
  have htagc : ∀ b τ, E.tag b = some τ → (∀ s, (τ = .root s ∨ ∃ i j, τ = .cell s i j) → ρ.inv s = none) → Ec.tag b = none := fun b τ ht hn => by
    show (E.tag b).bind (renTag ρ) = none
    rw [ht]
    cases τ with
    | root s => simp [renTag, hn s (.inl rfl)]
    | cell s i j => simp [renTag, hn s (.inr ⟨i, j, rfl⟩)]
  have htagn : ∀ b, E.tag b = none → Ec.tag b = none := fun b ht => by
    show (E.tag b).bind (renTag ρ) = none
    rw [ht]; rfl
  have htag2 : ∀ b, b < E.w.heap.size → Ec.tag b = none → tag2 b = E.tag b := fun b hb ht => by
    have hF : F.tag b = none := by show (E'.tag b).bind _ = none; rw [(hold b hb ht).2]; rfl
    show (match F.tag b with | some τ => some τ | none => _) = _
    rw [hF, ht]; rfl
  -- a variable that was given
  have hboxF : ∀ (i : Nat) (cells cs : List AV) (id fld : Nat), objs[i]? = some (.box cells) → lk (rhoA avs bs) (gl i) = some (id, fld) → lk st.sto id = some (.box cs) → ∃ (cells' : List AV) (L : Loc), os[i]? = some (some (.box cells')) ∧ cells'.length = cells.length ∧ cells'.all AV.treeC = true ∧
      E.loc id = some L ∧ E.tag L.blk = some (.root id) ∧ E'.loc (gl i) = some (L.shift fld) ∧ E'.tag L.blk = some (.root (gl i)) ∧ lk σ id = some (gl i, 0) ∧ F.tag L.blk = some (.root id) ∧ ORel (E'.cut al Ec) (gl i) (.box (adopt1 List.length (gl i + 1) cells')) := fun i cells cs id fld h1 h2 h3 => by
    obtain ⟨cells', hc'⟩ := (hsh i).2.2 cells h1
    obtain ⟨cells0, h1', hl', ht'⟩ := (hsh i).1 cells' hc'
    rw [h1] at h1'
    cases h1'
    obtain ⟨L, c, ty, k1, k2, k3, k4⟩ := hs.sto id _ h3
    have hEc : Ec.loc (gl i) = some (L.shift fld) := by
      show (lk ρ (gl i)).bind _ = _
      rw [hheadG h2]; simp [k1]
    have hE' := hkloc i _ hc' _ hEc
    have hor := (hobj (gl i) (.box (adopt1 List.length (gl i + 1) cells')) (List.mem_append_left _ (by
      have : ∀ (os : List (Option Obj)) (k j : Nat), os[j]? = some (some (.box cells')) → (gl (k + j), Obj.box (adopt1 List.length (gl (k + j) + 1) cells')) ∈ flatsO List.length k os := by
        intro os
        induction os with
        | nil => intro k j h; simp at h
        | cons x r ih =>
          intro k j h
          cases j with
          | zero => simp at h; subst h; simp [flatsO, flat1]
          | succ j =>
            have := ih (k + 1) j (by simpa using h)
            rw [show k + 1 + j = k + (j + 1) by omega] at this
            cases x with
            | none => exact this
            | some o => exact List.mem_append_right _ this
      simpa using this os 0 i hc'))).1
    have htg : E'.tag L.blk = some (.root (gl i)) := by
      have hor' := hor
      obtain ⟨L1, c1, ty1, q1, q2, q3, q4⟩ := hor'
      have q1 : E'.loc (gl i) = some L1 := q1
      rw [hE'] at q1
      obtain rfl := Option.some.inj q1
      exact q3
    have hm := ((sigO_mem (st := st) (ρ := rhoA avs bs) (lab := lab) (os := os) (k := 0) (i := i)).1 cells' (id, fld) hc' (by rw [Nat.zero_add]; exact h2)).1
    rw [Nat.zero_add] at hm
    obtain ⟨hl1, hl2⟩ := Ren.of_mem hσ (hσO _ hm)
    refine ⟨cells', L, hc', hl', ht', k1, k3, hE', htg, hl1, ?_, hor⟩
    show (E'.tag L.blk).bind _ = _
    rw [htg]
    simp [renTag, hl2]
  -- windows
  have hwinE : ∀ b, E.win b ≠ none → b < E.w.heap.size ∧ (Ec.tag b = none ∨ ∃ i cells cs id fld L, objs[i]? = some (.box cells) ∧ lk (rhoA avs bs) (gl i) = some (id, fld) ∧ lk st.sto id = some (.box cs) ∧ fld + cells.length ≤ cs.length ∧ E.loc id = some L ∧ L.blk = b ∧ E.tag b = some (.root id) ∧ Ec.win b = some (L.base + fld, L.base + fld + cells.length)) := fun b hb => by
    obtain ⟨g1, k, L, g2, g3, g4, g5⟩ := hs.wf.windows b hb
    refine ⟨g1, ?_⟩
    cases hi : ρ.inv k with
    | none => exact .inl (htagc b _ g5 fun s hs => by rcases hs with hs | ⟨_, _, hs⟩ <;> cases hs; exact hi)
    | some p =>
      obtain ⟨t, off⟩ := p
      rcases hkind k t off hi with ⟨i, cells, cs, rfl, q1, q2, q3, q4⟩ | ⟨sz, fl, rows, hq⟩
      · refine .inr ⟨i, cells, cs, k, off, L, q1, q2, q3, q4, g3, g4, g5, ?_⟩
        show winG E ρ objs b = _
        unfold winG
        rw [g5]
        obtain ⟨d1, d2, d3⟩ := gl_div i 0 (by omega)
        simp only [Nat.add_zero] at d1 d2 d3
        simp only [hi, g3, d1, q1]
        rw [if_pos ⟨d3, d2, g4⟩]
      · exfalso
        rcases hs.sto k _ hq with ⟨h1, _⟩ | ⟨L', c, ty, h1, _, _, _, _, _, _, _, hw, _⟩
        · rw [h1] at g3; cases g3
        · rw [h1] at g3; cases g3; rw [g4] at hw; exact hb hw
  have hS2 : ∀ b, E.S b → S2 b ∧ E'.w.heap[b]? = E.w.heap[b]? := fun b hb => by
    obtain ⟨h1, h2⟩ := hs.wf.still b hb
    exact ⟨.inl hb, (hold b h2 (htagn b h1)).1⟩
  -- what an object of the callee's is to us
  have hpair : ∀ id std o o', Pair σ (fun q => inLab lab q = true) id std o o' → inLab lab id = true ∨ id ∈ arrs → ORel (E'.cut al Ec) std o' ∧ (∀ s rows, o' = .arr s false rows → FreeRows al rows) → ORel E2 id o := fun id std o o' hp hin hor => by
    obtain ⟨hm, hcase⟩ := hp
    obtain ⟨hl1, hl2⟩ := Ren.of_mem hσ hm
    have hFloc : E2.loc id = F.loc id := by show (if _ then _ else _) = _; rw [if_pos hin]
    have hor2 : ORel F id o := by
      rcases hcase with ⟨s, fl, rows, rfl, rfl⟩ | ⟨cells, rfl, rfl, ht, hq, hbx⟩
      · refine ren_arr hσ hSF hl1 hor.1 (Nat.zero_le _) (n := rows.length) (by simp) (fun e => by subst e; exact (hor.2 _ _ rfl).noRefs) (fun b htb hwb => ?_)
        cases hq : E.win b with
        | none => rfl
        | some w =>
          exfalso
          obtain ⟨g1, hcs⟩ := hwinE b (by rw [hq]; simp)
          rcases hcs with hcs | ⟨i, cells, cs, id', fld, L, _, _, _, _, _, _, _, hw⟩
          · rw [show (E'.cut al Ec).tag b = E'.tag b from rfl, (hold b g1 hcs).2] at htb; cases htb
          · rw [show (E'.cut al Ec).win b = E'.win b from rfl, hf.wins] at hwb
            exact absurd hwb (by rw [show (Ec.only (kept os)).win = Ec.win from rfl, hw]; simp)
      · obtain ⟨h1, h2⟩ := cells_renamed (ln := List.length) hσ ht hq
        refine ren_box (o := 0) hσ hSF hl1 hor.1 (by simp [adopt1_length]) (fun j v u y hv hu hr => ?_) h2 (fun L lo hi hL hw hlh => ?_)
        · have : (backL σ (adopt1 List.length (id + 1) cells))[j]? = some (v.back σ) := by rw [backL_get, hv]; rfl
          rw [h1, ← Nat.zero_add j, hu] at this
          rw [← Option.some.inj this]; exact hr
        · exfalso
          obtain ⟨g1, hcs⟩ := hwinE L.blk (by rw [hlh]; simp)
          obtain ⟨L1, c1, ty1, q1, q2, q3, q4⟩ := hor.1
          rw [q1] at hL
          obtain rfl := Option.some.inj hL
          rcases hcs with hcs | ⟨i, cells0, cs, id', fld, L, k1, k2, k3, k4, k5, k6, k7, k8⟩
          · have := (hold _ g1 hcs).2
            rw [show (E'.cut al Ec).tag L1.blk = E'.tag L1.blk from rfl, this] at q3; cases q3
          · obtain ⟨cells', L', m1, m2, m3, m4, m5, m6, m7, m8, _⟩ := hboxF i cells0 cs id' fld k1 k2 k3
            rw [k5] at m4
            obtain rfl := Option.some.inj m4
            rw [k6] at m7
            rw [show (E'.cut al Ec).tag L1.blk = E'.tag L1.blk from rfl, m7] at q3
            have hstd : gl i = std := by simpa using q3
            subst hstd
            have h3 := Ren.inv_of hσ m8
            rw [hl2] at h3
            have : id = id' := by simpa using h3
            subst this
            rcases hin with hin | hin
            · rw [hnotin id (hs.used id _ k5)] at hin; cases hin
            · obtain ⟨_, _, _, _, _, _, s', fl', rows0, hr0⟩ := harr id hin
              rw [k3] at hr0; cases hr0
    refine hor2.to (fun b hb => ⟨hb, rfl⟩) hFloc rfl (fun i L hi hL => ?_) (fun b hb => ⟨?_, rfl⟩)
    · rcases hcase with ⟨s, fl, rows, rfl, rfl⟩ | ⟨cells, rfl, rfl, ht, hq, hbx⟩
      · cases fl with
        | true => cases hi
        | false =>
          obtain ⟨r, hr, hi'⟩ := List.mem_flatMap.1 hi
          obtain ⟨v, hv, hi''⟩ := idsL_mem_inv hi'
          rw [(hor.2 _ _ rfl).noRefs r hr v hv] at hi''
          cases hi''
      · have := adopt1_ids ht hi
        show (if _ then _ else _) = _
        rw [if_pos (.inl (hbx i this))]; exact hL
    · have hsome : F.tag b ≠ none := by rcases hb with hb | ⟨_, _, hb⟩ <;> rw [hb] <;> simp
      show (match F.tag b with | some τ => some τ | none => _) = _
      cases hq : F.tag b with
      | none => exact absurd hq hsome
      | some τ => rfl
  have hinR : ∀ q ∈ (objsOf List.length lab v).map (·.1), inLab lab q = true := fun q hq => by
    rw [objsOf_keys List.length (fun _ => 0)] at hq
    obtain ⟨p, hp, rfl⟩ := List.mem_map.1 hq
    exact List.all_eq_true.1 hinl p hp
  have hlabK : ∀ (i : Nat) (cells : List AV), i < objs.length → cells.length ≤ 90 → ∀ q ∈ (objs1 (labK lab i) cells).map (·.1), inLab lab q = true := fun i cells hi hc q hq => by
    obtain ⟨p, hp, rfl⟩ := List.mem_map.1 hq
    obtain ⟨j, s, fl, rows, e, hj, _⟩ := objs1_mem hp
    have hjl := (List.getElem?_eq_some_iff.1 hj).1
    rw [e]
    unfold inLab labK
    simp only [Bool.and_eq_true]
    exact ⟨by simp [nble]; omega, by rw [nblt_eq]; omega⟩
  refine ⟨E2, rfl, ⟨hf.os, hf.tape, hf.output, hf.size, fun b hb ht => (hold b hb (htagn b ht)).1, fun b hb => ?_, fun b hb => .inl hb, fun b hb => ?_, fun id L _ hL => hloc id L hL, fun b lo hi hw c T hc => ?_, rfl⟩, ⟨⟨fun b hb => ?_, fun b hb => ?_, fun b hb => ?_⟩, hs.defers, hs.size, fun t u hu => ?_, fun id o ho => ?_, fun id L hL => ?_, fun id o ho => ?_⟩, ?_⟩
  · -- tags
    have hb' : (match F.tag b with | some τ => some τ | none => if (Ec.tag b).isSome then none else E.tag b) ≠ none := hb
    cases hq : F.tag b with
    | some τ =>
      have : E'.tag b ≠ none := fun e => by
        have : F.tag b = none := by show (E'.tag b).bind _ = none; rw [e]; rfl
        rw [this] at hq; cases hq
      rcases hf.tag b this with h1 | h1
      · exact .inl fun e => h1 (htagn b e)
      · exact .inr h1
    | none =>
      rw [hq] at hb'
      simp only at hb'
      split at hb'
      · exact absurd rfl hb'
      · exact .inl hb'
  · rcases hb with hb | hb
    · exact .inl hb
    · exact .inr hb.2
  · -- the windows' outside
    obtain ⟨g1, hcs⟩ := hwinE b (by rw [hw]; simp)
    rcases hcs with hcs | ⟨i, cells, cs, id, fld, L, q1, q2, q3, q4, q5, q6, q7, q8⟩
    · exact ⟨c, by show E'.w.heap[b]? = _; rw [(hold b g1 hcs).1]; exact hc, rfl, fun _ _ => rfl⟩
    · obtain ⟨c', h1, h2, h3⟩ := hf.win b _ _ q8 c T hc
      obtain ⟨L', c0, ty, k1, k2, k3, k4, k5, kw, k6⟩ := hs.sto id _ q3
      rw [q5] at k1
      obtain rfl := Option.some.inj k1
      have := kw lo hi (by rw [q6]; exact hw)
      exact ⟨c', h1, h2, fun j hj => h3 j (by omega)⟩
  · -- still blocks
    rcases hb with hb | ⟨hb, hge⟩
    · obtain ⟨h1, h2⟩ := hs.wf.still b hb
      exact ⟨by show tag2 b = none; rw [htag2 b h2 (htagn b h1)]; exact h1, Nat.lt_of_lt_of_le h2 hf.size⟩
    · obtain ⟨h1, h2⟩ := hwf.still b hb
      refine ⟨?_, h2⟩
      have hE : E.tag b = none := by
        cases hq : E.tag b with
        | none => rfl
        | some τ => exact absurd (hs.wf.owned b (by rw [hq]; simp)) (Nat.not_lt.2 hge)
      have hF : F.tag b = none := by show (E'.tag b).bind _ = none; rw [h1]; rfl
      show (match F.tag b with | some τ => some τ | none => _) = _
      rw [hF, htagn b hE]; exact hE
  · -- our blocks
    have hb' : (match F.tag b with | some τ => some τ | none => if (Ec.tag b).isSome then none else E.tag b) ≠ none := hb
    cases hq : F.tag b with
    | some τ =>
      refine hwf.owned b fun e => ?_
      have : F.tag b = none := by show (E'.tag b).bind _ = none; rw [e]; rfl
      rw [this] at hq; cases hq
    | none =>
      rw [hq] at hb'
      simp only at hb'
      split at hb'
      · exact absurd rfl hb'
      · exact Nat.lt_of_lt_of_le (hs.wf.owned b hb') hf.size
  · -- windows
    obtain ⟨g1, k, L, g2, g3, g4, g5⟩ := hs.wf.windows b hb
    obtain ⟨_, hcs⟩ := hwinE b hb
    refine ⟨Nat.lt_of_lt_of_le g1 hf.size, k, L, g2, hloc k L g3, g4, ?_⟩
    rcases hcs with hcs | ⟨i, cells, cs, id, fld, L', q1, q2, q3, q4, q5, q6, q7, q8⟩
    · show tag2 b = _
      rw [htag2 b g1 hcs]; exact g5
    · obtain ⟨cells', L1, m1, m2, m3, m4, m5, m6, m7, m8, m9, _⟩ := hboxF i cells cs id fld q1 q2 q3
      rw [q5] at m4
      obtain rfl := Option.some.inj m4
      rw [q6] at m9
      rw [g5] at q7
      have : k = id := by simpa using q7
      subst this
      show (match F.tag b with | some τ => some τ | none => _) = _
      rw [m9]
  · obtain ⟨y, hy, hr⟩ := hs.tmps t u hu
    exact ⟨y, hy, hr.to hS2 fun id L _ hL => hloc id L hL⟩
  · -- the objects
    have hlk : lk (updSto ((newSto List.length st (rhoA avs bs) lab os v).map (fun p => (p.1, some p.2)) ++ (rhoG st avs bs objs).map (fun p => (p.2.1, none))) st.sto) id = some o := ho
    rw [lk_updSto, lk_append, lk_map_some, lk_map_none, hρ] at hlk
    cases hn : lk (newSto List.length st (rhoA avs bs) lab os v) id with
    | some o1 =>
      rw [hn] at hlk
      simp at hlk
      subst hlk
      have hmem := lk_mem hn
      rcases List.mem_append.1 hmem with hmem | hmem
      · obtain ⟨std, o', h1, h2⟩ := pairR (σ := σ) (Q := fun q => inLab lab q = true) hinR htree hmem hσR
        exact hpair id std o1 o' h2 (.inl (hinR id (List.mem_map.2 ⟨_, hmem, rfl⟩))) (hobj std o' (List.mem_append_right _ h1))
      · rcases backSto_mem hmem with ⟨i, cells', fld, cs, q1, q2, q3, q4⟩ | ⟨i, cells', idb, q1, q2, q3⟩ | ⟨i, s, fl, rows, off, q1, q2, q3⟩
        · -- a variable
          rw [Nat.zero_add] at q2 q4
          obtain ⟨cells, hc1, hc2, hc3⟩ := (hsh i).1 cells' q1
          obtain ⟨id', fld', cs', p1, p2, p3, p4, _⟩ := boxAt h.objs hc1
          rw [Nat.zero_add, q2] at p1
          cases p1
          rw [q3] at p2
          cases p2
          obtain ⟨cells'', L, m1, m2, m3, m4, m5, m6, m7, m8, m9, m10⟩ := hboxF i cells cs id fld hc1 q2 q3
          rw [q1] at m1
          cases m1
          obtain ⟨L0, c, ty, k1, k2, k3, k4, k5, kw, k6⟩ := hs.sto id _ q3
          rw [m4] at k1
          obtain rfl := Option.some.inj k1
          obtain ⟨L1, c', ty', n1, n2, n3, n4, n5, nw, n6⟩ := m10
          have n1 : E'.loc (gl i) = some L1 := n1
          rw [m6] at n1
          obtain rfl := Option.some.inj n1
          have n4 : E'.w.heap[L.blk]? = some (.cells c' ty' (0, 0)) := n4
          have hbase : (L.shift fld).base = L.base + fld := by simp [Loc.shift, k2]
          have hwc : Ec.win L.blk = some (L.base + fld, L.base + fld + cells.length) := by
            show winG E ρ objs L.blk = _
            unfold winG
            rw [m5]
            obtain ⟨d1, d2, d3⟩ := gl_div i 0 (by omega)
            simp only [Nat.add_zero] at d1 d2 d3
            simp only [Ren.inv_of hrok (hheadG q2), m4, d1, hc1]
            rw [if_pos ⟨d3, d2, trivial⟩]
          obtain ⟨c2, w1, w2, w3⟩ := hf.win L.blk _ _ hwc c ty k4
          rw [n4] at w1
          simp only [Option.some.injEq, Go.Obj.cells.injEq] at w1
          obtain ⟨rfl, rfl, _⟩ := w1
          have hal1 : (adopt1 List.length (labK lab i) cells').length = cells'.length := adopt1_length _ _
          have hle : fld + (adopt1 List.length (labK lab i) cells').length ≤ cs.length := by rw [hal1, m2]; exact p3
          have hml := setMany_length cs fld (adopt1 List.length (labK lab i) cells') hle
          have hnid : ¬ (inLab lab id = true ∨ id ∈ arrs) := by
            rintro (h1 | h1)
            · rw [hnotin id (hs.keys id _ q3)] at h1; cases h1
            · obtain ⟨_, _, _, _, _, _, s', fl', rows0, hr0⟩ := harr id h1
              rw [q3] at hr0; cases hr0
          rw [q4]
          refine ⟨L, c', ty', by show (if _ then _ else _) = _; rw [if_neg hnid]; exact m4, k2, ?_, n4, by rw [hml, w2]; exact k5, by rw [hml]; exact kw, fun j u hu => ?_⟩
          · show (match F.tag L.blk with | some τ => some τ | none => _) = _
            rw [m9]
          · rw [setMany_get _ _ _ hle, hal1] at hu
            by_cases hj : fld ≤ j ∧ j < fld + cells'.length
            · rw [if_pos hj, adopt1_get] at hu
              simp only [Option.map_eq_some_iff] at hu
              obtain ⟨b, hb, rfl⟩ := hu
              obtain ⟨y, y1, y2, y3⟩ := n6 (j - fld) _ (by rw [adopt1_get, hb]; rfl)
              have hsig := ((sigO_mem (st := st) (ρ := rhoA avs bs) (lab := lab) (os := os) (k := 0) (i := i)).1 cells' (id, fld) q1 (by rw [Nat.zero_add]; exact q2)).2
              rw [Nat.zero_add] at hsig
              obtain ⟨r1, r2⟩ := cell_renamed (ln := List.length) hσ (t := labK lab i + (j - fld)) (t' := gl i + 1 + (j - fld)) (List.all_eq_true.1 hc3 b (List.mem_of_getElem? hb)) (fun s fl rows e => hσO _ (hsig _ (mem_sigC (by rw [← e]; exact hb))))
              have hF := y3.ren (ρ := σ) (S' := S2) (win' := E.win) hSF _ r1.symm r2
              refine ⟨y, ?_, y2, hF.to (fun b hb => ⟨hb, rfl⟩) fun q Lq hq hLq => ?_⟩
              · rw [← y1, hbase]; congr 1; omega
              · have hq' : inLab lab q = true := by
                  cases b with
                  | own s fl rows =>
                    simp only [adoptC, AV.ids, List.mem_singleton] at hq
                    subst hq
                    exact hlabK i cells' (by rw [← hlen]; exact (List.getElem?_eq_some_iff.1 q1).1) (by omega) _ (List.mem_map.2 ⟨_, lk_mem (objs1_get cells' (labK lab i) (j - fld) hb), rfl⟩)
                  | ref => exact absurd (List.all_eq_true.1 hc3 _ (List.mem_of_getElem? hb)) (by simp [AV.treeC])
                  | ptr => exact absurd (List.all_eq_true.1 hc3 _ (List.mem_of_getElem? hb)) (by simp [AV.treeC])
                  | fn => exact absurd (List.all_eq_true.1 hc3 _ (List.mem_of_getElem? hb)) (by simp [AV.treeC])
                  | agg => exact absurd (List.all_eq_true.1 hc3 _ (List.mem_of_getElem? hb)) (by simp [AV.treeC])
                  | tup => exact absurd (List.all_eq_true.1 hc3 _ (List.mem_of_getElem? hb)) (by simp [AV.treeC])
                  | _ => simp [adoptC, AV.ids] at hq
                show (if _ then _ else _) = _
                rw [if_pos (.inl hq')]; exact hLq
            · rw [if_neg hj] at hu
              obtain ⟨y, y1, y2, y3⟩ := k6 j u hu
              exact ⟨y, by rw [w3 _ (by omega)]; exact y1, y2, y3.to hS2 fun q Lq _ hLq => hloc q Lq hLq⟩
        · -- an array in a cell of one
          rw [Nat.zero_add] at q2 q3
          obtain ⟨cells, hc1, hc2, hc3⟩ := (hsh i).1 cells' q1
          have hsig := ((sigO_mem (st := st) (ρ := rhoA avs bs) (lab := lab) (os := os) (k := 0) (i := i)).1 cells' idb q1 (by rw [Nat.zero_add]; exact q2)).2
          rw [Nat.zero_add] at hsig
          obtain ⟨_, _, _, p1, p2, p3, p4, _⟩ := boxAt h.objs hc1
          obtain ⟨std, o', h1, h2⟩ := pairC (σ := σ) (Q := fun q => inLab lab q = true) (std := gl i + 1) q3 fun q hq => hσO _ (hsig q hq)
          refine hpair id std o1 o' h2 (.inl (hlabK i cells' (by rw [← hlen]; exact (List.getElem?_eq_some_iff.1 q1).1) (by omega) id (List.mem_map.2 ⟨_, q3, rfl⟩))) (hobj std o' (List.mem_append_left _ ?_))
          have : ∀ (os : List (Option Obj)) (k j : Nat), os[j]? = some (some (.box cells')) → (std, o') ∈ objs1 (gl (k + j) + 1) cells' → (std, o') ∈ flatsO List.length k os := by
            intro os
            induction os with
            | nil => intro k j h; simp at h
            | cons x r ih =>
              intro k j h hm
              cases j with
              | zero => simp at h; subst h; exact List.mem_append_left _ (List.mem_cons_of_mem _ hm)
              | succ j =>
                have := ih (k + 1) j (by simpa using h) (by rw [show k + 1 + j = k + (j + 1) by omega]; exact hm)
                cases x with
                | none => exact this
                | some o => exact List.mem_append_right _ this
          exact this os 0 i q1 (by rw [Nat.zero_add]; exact h1)
        · -- an array
          rw [Nat.zero_add] at q2
          obtain ⟨z1, _⟩ := harr0 i s fl rows _ q1 q2
          simp only at z1
          subst z1
          have hm := (sigO_mem (st := st) (ρ := rhoA avs bs) (lab := lab) (os := os) (k := 0) (i := i)).2 s fl rows (id, 0) q1 (by rw [Nat.zero_add]; exact q2)
          rw [Nat.zero_add] at hm
          subst q3
          refine hpair id (gl i) _ (.arr s fl rows) ⟨hσO _ hm, .inl ⟨s, fl, rows, rfl, rfl⟩⟩ (.inr (arrPl_mem.2 ⟨i, s, fl, rows, 0, q1, by rw [Nat.zero_add]; exact q2⟩)) (hobj _ _ (List.mem_append_left _ ?_))
          have : ∀ (os : List (Option Obj)) (k j : Nat), os[j]? = some (some (.arr s fl rows)) → (gl (k + j), Obj.arr s fl rows) ∈ flatsO List.length k os := by
            intro os
            induction os with
            | nil => intro k j h; simp at h
            | cons x r ih =>
              intro k j h
              cases j with
              | zero => simp at h; subst h; simp [flatsO, flat1]
              | succ j =>
                have := ih (k + 1) j (by simpa using h)
                rw [show k + 1 + j = k + (j + 1) by omega] at this
                cases x with
                | none => exact this
                | some o => exact List.mem_append_right _ this
          simpa using this os 0 i q1
    | none =>
      rw [hn] at hlk
      cases hi : ρ.inv id with
      | some p => rw [hi] at hlk; simp at hlk
      | none =>
        rw [hi] at hlk
        simp at hlk
        have hna : ¬ (inLab lab id = true ∨ id ∈ arrs) := by
          rintro (h1 | h1)
          · rw [hnotin id (hs.keys id o hlk)] at h1; cases h1
          · obtain ⟨i, s, fl, rows, h1, h2, _⟩ := harr id h1
            rw [Ren.inv_of hrok (hheadG h2)] at hi; cases hi
        refine (hs.sto id o hlk).to hS2 (by show (if _ then _ else _) = _; rw [if_neg hna]) rfl (fun q L _ hL => hloc q L hL) (fun b hb => ?_)
        have hlt : b < E.w.heap.size := hs.wf.owned b (by rcases hb with hb | ⟨_, _, hb⟩ <;> rw [hb] <;> simp)
        have hec : Ec.tag b = none := by
          rcases hb with hb | ⟨i, j, hb⟩
          · exact htagc b _ hb fun s hs => by rcases hs with hs | ⟨_, _, hs⟩ <;> cases hs; exact hi
          · exact htagc b _ hb fun s hs => by rcases hs with hs | ⟨_, _, hs⟩ <;> cases hs; exact hi
        exact ⟨htag2 b hlt hec, (hold b hlt hec).1⟩
  · -- names in use
    show (backUsed st (rhoA avs bs) lab os v ++ st.used).elem id = true
    rw [List.elem_iff, List.mem_append]
    have hL' : (if inLab lab id = true ∨ id ∈ arrs then F.loc id else E.loc id) = some L := hL
    by_cases hc : inLab lab id = true ∨ id ∈ arrs
    · by_cases hin : inLab lab id = true
      · left
        rw [if_pos hc] at hL'
        refine List.mem_filter.2 ⟨?_, hin⟩
        cases hq : lk σ id with
        | none => rw [show F.loc id = (lk σ id).bind _ from rfl, hq] at hL'; cases hL'
        | some p =>
          have hm := lk_mem hq
          rw [← hσe] at hm
          unfold newSto
          rw [List.map_append, List.mem_append]
          rcases List.mem_append.1 hm with hm | hm
          · exact .inl (sigR_key hm)
          · right
            rcases sigO_key hm with ⟨i, p', h1, h2⟩ | ⟨i, cells, p', h1, h2, h3⟩
            · exfalso
              rw [Nat.zero_add] at h1
              have hi := hkind _ _ _ (Ren.inv_of hrok (hheadG (p := (p'.1, p'.2)) h1))
              simp only at h2
              have : ∃ o, lk st.sto id = some o := by
                rw [h2]
                rcases hi with ⟨_, _, cs, _, _, _, q, _⟩ | ⟨_, _, _, q⟩ <;> exact ⟨_, q⟩
              obtain ⟨o, ho⟩ := this
              rw [hnotin id (hs.keys id o ho)] at hin; cases hin
            · rw [Nat.zero_add] at h2 h3
              obtain ⟨cells0, hc1, _, _⟩ := (hsh i).1 cells h1
              obtain ⟨id', fld', cs', p1, p2, p3, p4, _⟩ := boxAt h.objs hc1
              rw [Nat.zero_add] at p1
              obtain ⟨_, g2⟩ := backSto_box (ln := fun _ => 0) (st := st) (ρ := rhoA avs bs) (lab := lab) (os := os) (k := 0) (i := i) h1 (by rw [Nat.zero_add]; exact p1) p2
              rw [Nat.zero_add] at g2
              obtain ⟨q, hq1, hq2⟩ := List.mem_map.1 h3
              exact List.mem_map.2 ⟨q, g2 q hq1, hq2⟩
      · right
        obtain ⟨_, _, _, _, _, _, s', fl', rows0, hr0⟩ := harr id (hc.resolve_left hin)
        have := hs.keys id _ hr0
        rwa [List.elem_iff] at this
    · rw [if_neg hc] at hL'
      have := hs.used id L hL'
      rw [List.elem_iff] at this
      exact .inr this
  · show (backUsed st (rhoA avs bs) lab os v ++ st.used).elem id = true
    rw [List.elem_iff, List.mem_append]
    have hlk : lk (updSto ((newSto List.length st (rhoA avs bs) lab os v).map (fun p => (p.1, some p.2)) ++ (rhoG st avs bs objs).map (fun p => (p.2.1, none))) st.sto) id = some o := ho
    rw [lk_updSto, lk_append, lk_map_some, lk_map_none, hρ] at hlk
    cases hn : lk (newSto List.length st (rhoA avs bs) lab os v) id with
    | some o1 =>
      by_cases hin : inLab lab id = true
      · left
        refine List.mem_filter.2 ⟨?_, hin⟩
        rw [newSto_keys (fun _ => 0) List.length]
        exact List.mem_map.2 ⟨_, lk_mem hn, rfl⟩
      · right
        have hmem := lk_mem hn
        have key : ∃ o, lk st.sto id = some o := by
          rcases List.mem_append.1 hmem with hmem | hmem
          · exact absurd (hinR id (List.mem_map.2 ⟨_, hmem, rfl⟩)) hin
          · rcases backSto_mem hmem with ⟨i, cells', fld, cs, q1, q2, q3, q4⟩ | ⟨i, cells', idb, q1, q2, q3⟩ | ⟨i, s, fl, rows, off, q1, q2, q3⟩
            · exact ⟨_, q3⟩
            · exfalso
              rw [Nat.zero_add] at q2 q3
              obtain ⟨cells, hc1, hc2, hc3⟩ := (hsh i).1 cells' q1
              obtain ⟨_, _, _, p1, p2, p3, p4, _⟩ := boxAt h.objs hc1
              exact hin (hlabK i cells' (by rw [← hlen]; exact (List.getElem?_eq_some_iff.1 q1).1) (by omega) id (List.mem_map.2 ⟨_, q3, rfl⟩))
            · rw [Nat.zero_add] at q2
              obtain ⟨_, s', fl', rows0, z⟩ := harr0 i s fl rows _ q1 q2
              exact ⟨_, z⟩
        obtain ⟨o', ho'⟩ := key
        have := hs.keys id o' ho'
        rwa [List.elem_iff] at this
    | none =>
      right
      rw [hn] at hlk
      cases hi : ρ.inv id with
      | some p => rw [hi] at hlk; simp at hlk
      | none =>
        rw [hi] at hlk
        simp at hlk
        have := hs.keys id o hlk
        rwa [List.elem_iff] at this
  · -- the value
    obtain ⟨r1, r2⟩ := res_renamed (ln := List.length) hσ htree hσR
    have hF := hrel.ren (ρ := σ) (S' := S2) (win' := E.win) hSF _ r1.symm r2
    refine hF.to (fun b hb => ⟨hb, rfl⟩) fun q Lq hq hLq => ?_
    have := hinR q (adopt_ids htree hq)
    show (if _ then _ else _) = _
    rw [if_pos (.inl this)]; exact hLq

end

/-! ### The rule -/

theorem run_callFunc {f : FuncId} {fn : Func} (hf : P.funcs[f]? = some fn) (hname : (fn.name == "runtime.NumGoroutine") = false) (hbody : fn.body.isNone = false) (xs : Array Value) (w : World) : (callFunc f xs).run P w = .ok (.enter f xs) w := by
  simp only [callFunc, Sem.run_bind, run_program, Result.andThen_ok, hf, hname, hbody, Bool.false_eq_true, if_false, Sem.run_pure]

theorem getD_append3 {α : Type} (l m n : List α) (j : Nat) : (l ++ m ++ n)[j]? = if j < l.length then l[j]? else if j < l.length + m.length then m[j - l.length]? else n[j - l.length - m.length]? := by
  rw [List.append_assoc, List.getElem?_append]
  split
  · rfl
  · rw [List.getElem?_append]
    split
    · rw [if_pos (by omega)]
    · rw [if_neg (by omega)]

/-- The values that a call hands over. -/
theorem call_values (hs : Sim E st a) {c : Operand} {args : Array Operand} {f : FuncId} {first caps : List AV} (hc : st.ev c = .fn f first caps) :
    ∃ xs ys : Array Value, a.eval c = .func (.func f) xs ys ∧ (xs ++ args.map a.eval ++ ys).size = (first ++ args.toList.map st.ev ++ caps).length ∧
      ∀ (j : Nat) (v : AV) (x : Value), (first ++ args.toList.map st.ev ++ caps)[j]? = some v → (xs ++ args.map a.eval ++ ys)[j]? = some x → Rel E v x := by
  have hr := hs.ev c
  rw [hc] at hr
  generalize a.eval c = cv at hr
  cases hr with
  | base _ _ h => cases h
  | fn _ _ _ xs ys h1 h2 h3 h4 =>
    refine ⟨xs, ys, rfl, by simp [h1, h2], fun j v x hv hx => ?_⟩
    rw [getD_append3] at hv
    rw [Array.getElem?_append, Array.getElem?_append] at hx
    simp only [List.length_map, Array.length_toList] at hv
    simp only [Array.size_append, Array.size_map] at hx
    by_cases g1 : j < first.length
    · rw [if_pos g1] at hv
      rw [if_pos (by omega), if_pos (by omega)] at hx
      exact h3 j v x hv hx
    · rw [if_neg g1] at hv
      by_cases g2 : j < first.length + args.size
      · rw [if_pos g2] at hv
        rw [if_pos (by omega), if_neg (by omega)] at hx
        rw [h1] at hx
        simp only [List.getElem?_map, Option.map_eq_some_iff] at hv
        obtain ⟨p, hp, rfl⟩ := hv
        simp only [Array.getElem?_map, Option.map_eq_some_iff] at hx
        obtain ⟨q, hq, rfl⟩ := hx
        have : p = q := by simpa [hq] using hp.symm
        subst this
        exact hs.ev p
      · rw [if_neg g2] at hv
        rw [if_neg (by omega)] at hx
        refine h4 _ v x hv ?_
        rw [← hx]; congr 1; omega

/-- A call, of which is known what it gives. -/
theorem ok_call {c : Operand} {args : Array Operand} {tys : Array TypeId} {f : FuncId} {first caps bs : List AV} {al dp : Bool} {objs : List Obj} {R : AV → List (Option Obj) → Prop} {lab : Nat} (ho : o.op = .call { callee := .value c, args := args, argTypes := tys }) (hc : st.ev c = .fn f first caps)
    (h : SoundM P f al bs objs R) (hg : Gives st al dp (first ++ args.toList.map st.ev ++ caps) bs objs) (hfresh : freshL lab st.used = true)
    (hk : ∀ v os, R v os → backChk st (rhoA (first ++ args.toList.map st.ev ++ caps) bs) lab objs os v = true ∧ K (adopt List.length lab v) (st.upd (backD dp List.length st (first ++ args.toList.map st.ev ++ caps) bs objs lab os v))) : OpOk P o st K := by
  obtain ⟨⟨fn, hf, hname, hbody⟩, hcall⟩ := h
  intro E a KW QW hs hK
  obtain ⟨xs, ys, hcv, hsz, hrel⟩ := call_values hs (args := args) hc
  generalize first ++ args.toList.map st.ev ++ caps = avs at *
  have hrun : (execOp a.eval o).run P E.w = .ok (.enter f (xs ++ args.map a.eval ++ ys)) E.w := by
    simp only [execOp, ho, resolve, Deferred.ofValue, hcv, Sem.run_bind, Sem.run_pure, Result.andThen_ok, invoke, run_callFunc hf hname hbody]
  unfold Oper.wp
  rw [hrun, Oper.upon_enter]
  obtain ⟨q1, q2, q3⟩ := hg.sim hs
  obtain ⟨g1, g2⟩ := args_get hg.args
  refine (hcall (E.given al (rhoG st avs bs objs) objs) _ q1 q2 (by rw [hsz, g1]) (fun j b x hb hx => ?_) q3).mono ?_
  · obtain ⟨v, hv, hvl⟩ := g2 j b hb
    exact arg2_rel hs hg.rok (hrel j v x hv hx) hvl fun q hq => List.mem_append_left _ (mem_match2L hv hb hq)
  · rintro e w' ⟨x, v, os, E', rfl, rfl, hR, hsm, hlen, hfr, hwf, hrelv, hobj⟩
    obtain ⟨hchk, hk⟩ := hk v os hR
    obtain ⟨E2, hw, hfr2, hs2, hr2⟩ := call_back hs hg hfresh hlen hfr hwf hrelv hobj hchk
    have := hK E2 _ x _ hfr2 hs2 hr2 hk
    rw [hw] at this
    exact this

end Go.Proofs.Ytmbckmfihcojoaa.AM
