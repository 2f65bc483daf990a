/- The abstract machine, part 8: functions: what a call gives. -/
import Derived.Test.YtmpbmfhlkhonkaaAM7
namespace Go.Proofs.Ytmpbmfhlkhonkaa.AM
open Go Go.RowKit

set_option linter.unusedVariables false
set_option linter.unusedSimpArgs false

variable {P : Program} {T : Nat → Option TI} {E : Env} {st : St} {a : Act} {K : AV → St → Prop} {o : Oper}

/-! ### Results -/

def St.ret1 (T : Nat → Option TI) (st : St) : ResultVar → Option AV
  | .tmp t => some (st.get t)
  | .cell p t => match T t, st.at (st.get p) with
    | some i, some cells => bif i.desc.known then loadA i cells else none
    | _, _ => none

def St.rets (T : Nat → Option TI) (st : St) : List ResultVar → Option (List AV)
  | [] => some []
  | r :: rs => match st.ret1 T r, st.rets T rs with
    | some v, some vs => some (v :: vs)
    | _, _ => none

def St.ret (T : Nat → Option TI) (st : St) (rs : List ResultVar) : Option AV :=
  match st.rets T rs with
  | some [v] => some v
  | some vs => some (.tup vs)
  | none => none

def retOp (tmps : Array Value) (r : ResultVar) : Sem Value :=
  match r with
  | .tmp t => pure (tmps.getD t undef)
  | .cell p t => do loadVar t (← asAddr (tmps.getD p undef))

theorem results_eq (fn : Func) (tmps : Array Value) : results fn tmps = (do
    let vs ← fn.results.mapM (retOp tmps)
    pure (if h : vs.size = 1 then vs[0] else .tuple vs)) := by
  unfold results
  congr 1

theorem rets_rel (h : TabOk P T) (hs : Sim E st a) : ∀ (rs : List ResultVar) (vs : List AV), st.rets T rs = some vs →
    ∃ xs : List Value, (rs.mapM (retOp a.tmps)).run P E.w = .ok xs E.w ∧ xs.length = vs.length ∧ ∀ (j : Nat) (v : AV) (x : Value), vs[j]? = some v → xs[j]? = some x → Rel E v x
  | [], vs, hv => by simp [St.rets] at hv; subst hv; exact ⟨[], by simp, rfl, fun j v x hj => by simp at hj⟩
  | r :: rs, vs, hv => by
    unfold St.rets at hv
    split at hv
    · rename_i v vs' h1 h2
      obtain rfl := Option.some.inj hv
      obtain ⟨xs, g1, g2, g3⟩ := rets_rel h hs rs vs' h2
      have hr : ∃ x, (retOp a.tmps r).run P E.w = .ok x E.w ∧ Rel E v x := by
        cases r with
        | tmp t =>
          simp [St.ret1] at h1
          subst h1
          exact ⟨_, by simp [retOp], hs.get t⟩
        | cell p t =>
          simp only [St.ret1] at h1
          split at h1
          · rename_i i cells hi hc
            cases hk : i.desc.known with
            | false => simp [hk] at h1
            | true =>
              simp only [hk, cond_true] at h1
              obtain ⟨ad, y, q1, q2, q3⟩ := load_rel h hi hk hs (hs.get p) hc h1
              exact ⟨y, by simp [retOp, q1, asAddr, q2], q3⟩
          · cases h1
      obtain ⟨x, hx, hrx⟩ := hr
      refine ⟨x :: xs, ?_, by simp [g2], fun j v' x' hj hj' => ?_⟩
      · simp only [List.mapM_cons, Sem.run_bind, hx, Result.andThen_ok, g1, Sem.run_pure]
      · cases j with
        | zero => simp at hj hj'; subst hj hj'; exact hrx
        | succ j => exact g3 j v' x' (by simpa using hj) (by simpa using hj')
    · cases hv

theorem ret_rel (h : TabOk P T) (hs : Sim E st a) {fn : Func} {v : AV} (hv : st.ret T fn.results.toList = some v) : ∃ x, (results fn a.tmps).run P E.w = .ok x E.w ∧ Rel E v x := by
  unfold St.ret at hv
  cases hq : st.rets T fn.results.toList with
  | none => simp [hq] at hv
  | some vs =>
    obtain ⟨xs, h1, h2, h3⟩ := rets_rel h hs _ vs hq
    have hrun : ∀ x, (if h : xs.toArray.size = 1 then xs.toArray[0] else Value.tuple xs.toArray) = x → (results fn a.tmps).run P E.w = .ok x E.w := fun x hx => by
      rw [results_eq, Array.mapM_eq_mapM_toList, ← hx]
      simp [h1]
    refine ⟨_, hrun _ rfl, ?_⟩
    match vs, hq, h2, h3 with
    | [u], hq, h2, h3 =>
      simp [hq] at hv
      subst hv
      obtain ⟨x, rfl⟩ := List.length_eq_one_iff.1 h2
      have := h3 0 u x rfl rfl
      simpa using this
    | [], hq, h2, h3 =>
      simp [hq] at hv
      subst hv
      have : xs = [] := List.eq_nil_of_length_eq_zero h2
      subst this
      simp
      exact .tup _ _ rfl (fun j v x hj => by simp at hj)
    | u :: u' :: us, hq, h2, h3 =>
      simp [hq] at hv
      subst hv
      have hl : ¬ xs.toArray.size = 1 := by simp at h2 ⊢; omega
      rw [dif_neg hl]
      exact .tup _ _ (by simpa using h2) (fun j v x hj hx => h3 j v x hj (by simpa using hx))

/-! ### What a caller is handed -/

def Res1 (w : World) (S : Nat → Prop) (tag : Nat → Option Tag) (base : Nat) (v : AV) (x : Value) : Prop :=
  match v with
  | .agg cells => ∃ xs : Array Value, x = .agg xs ∧ xs.size = cells.length ∧ (∀ (j : Nat) (y : Value), xs[j]? = some y → y.oneCell' = true) ∧
      ∀ (j : Nat) (u : AV) (y : Value), cells[j]? = some u → xs[j]? = some y → Cell2 w S tag (base + j) u y
  | v => Cell2 w S tag base v x

def Res (w : World) (S : Nat → Prop) (tag : Nat → Option Tag) (v : AV) (x : Value) : Prop :=
  match v with
  | .tup vs => ∃ xs : Array Value, x = .tuple xs ∧ xs.size = vs.length ∧ ∀ (k : Nat) (u : AV) (y : Value), vs[k]? = some u → xs[k]? = some y → Res1 w S tag (k * 100) u y
  | v => Res1 w S tag 0 v x

/-- The call of f with these arguments returns what R says, in new memory (al: parts of it may lie in what was handed). -/
def Sound (P : Program) (f : FuncId) (al : Bool) (args : List AV) (R : AV → Prop) : Prop :=
  (∃ fn, P.funcs[f]? = some fn ∧ (fn.name == "runtime.NumGoroutine") = false ∧ fn.body.isNone = false) ∧
  ∀ (w : World) (S : Nat → Prop) (xs : Array Value), (∀ b, S b → b < w.heap.size) → xs.size = args.length →
    (∀ (j : Nat) (v : AV) (x : Value), args[j]? = some v → xs[j]? = some x → Rel ⟨w, S, fun _ => none, fun _ => none⟩ v x) →
    Calls P f xs w fun e w' => ∃ x v S' tag', e = .returned x ∧ R v ∧ Below w.heap.size w w' ∧ (∀ b, tag' b ≠ none → w.heap.size ≤ b ∧ b < w'.heap.size) ∧
      (∀ b, S' b → (al = true ∧ S b) ∨ (w.heap.size ≤ b ∧ b < w'.heap.size)) ∧ (∀ b, S' b → tag' b = none) ∧ Res w' S' tag' v x

theorem Sound.mono {f : FuncId} {al : Bool} {args : List AV} {R R' : AV → Prop} (h : Sound P f al args R) (hr : ∀ v, R v → R' v) : Sound P f al args R' :=
  ⟨h.1, fun w S xs h1 h2 h3 => (h.2 w S xs h1 h2 h3).mono fun e w' ⟨x, v, S', tag', g1, g2, g3⟩ => ⟨x, v, S', tag', g1, hr v g2, g3⟩⟩

/-- A cell without a road to memory that is not its own. -/
def AV.plain : AV → Prop
  | .int _ _ => True
  | .bool _ => True
  | .own _ _ rows => ∀ r ∈ rows, ∀ v ∈ r, (match v with | .int _ _ | .bool _ => True | _ => False)
  | _ => False

/-- What a state's value becomes for the caller. -/
def resCell (al : Bool) (st : St) (v r : AV) : Prop :=
  match v, r with
  | .int k n, r => r = .int k n
  | .bool b, r => r = .bool b
  | .nilS, .own _ _ rows => rows = []
  | .emp, .own _ _ rows => rows = []
  | .nilS, .ro rows => rows = []
  | .emp, .ro rows => rows = []
  | .ro rows, .ro rows' => rows' = rows ∧ (al = true ∨ rows = [])
  | .ref _ id off len, .own s fl rows' => ∃ rows, lk st.sto id = some (.arr s fl rows) ∧ off + len ≤ rows.length ∧ rows' = (rows.drop off).take len ∧ (al = true ∨ ∀ r ∈ rows', ∀ v ∈ r, v.plain)
  | _, _ => False

def resCells (al : Bool) (st : St) : List AV → List AV → Prop
  | [], [] => True
  | v :: vs, r :: rs => resCell al st v r ∧ resCells al st vs rs
  | _, _ => False

def res1 (al : Bool) (st : St) (v r : AV) : Prop :=
  match v with
  | .agg vs => match r with
    | .agg rs => resCells al st vs rs
    | _ => False
  | v => resCell al st v r

def res1s (al : Bool) (st : St) : List AV → List AV → Prop
  | [], [] => True
  | v :: vs, r :: rs => res1 al st v r ∧ res1s al st vs rs
  | _, _ => False

def resOk (al : Bool) (st : St) (v r : AV) : Prop :=
  match v with
  | .tup vs => match r with
    | .tup rs => res1s al st vs rs
    | _ => False
  | v => res1 al st v r

theorem resCells_get {al : Bool} : ∀ {vs rs : List AV}, resCells al st vs rs → vs.length = rs.length ∧ ∀ (j : Nat) (r : AV), rs[j]? = some r → ∃ v, vs[j]? = some v ∧ resCell al st v r
  | [], [], _ => ⟨rfl, fun j r h => by simp at h⟩
  | v :: vs, r :: rs, ⟨h1, h2⟩ => by
    obtain ⟨g1, g2⟩ := resCells_get h2
    refine ⟨by simp [g1], fun j r' hj => ?_⟩
    cases j with
    | zero => simp at hj; subst hj; exact ⟨v, rfl, h1⟩
    | succ j => simpa using g2 j r' (by simpa using hj)
  | [], _ :: _, h => h.elim
  | _ :: _, [], h => h.elim

theorem res1s_get {al : Bool} : ∀ {vs rs : List AV}, res1s al st vs rs → vs.length = rs.length ∧ ∀ (j : Nat) (r : AV), rs[j]? = some r → ∃ v, vs[j]? = some v ∧ res1 al st v r
  | [], [], _ => ⟨rfl, fun j r h => by simp at h⟩
  | v :: vs, r :: rs, ⟨h1, h2⟩ => by
    obtain ⟨g1, g2⟩ := res1s_get h2
    refine ⟨by simp [g1], fun j r' hj => ?_⟩
    cases j with
    | zero => simp at hj; subst hj; exact ⟨v, rfl, h1⟩
    | succ j => simpa using g2 j r' (by simpa using hj)
  | [], _ :: _, h => h.elim
  | _ :: _, [], h => h.elim

/-- Where the names of a result stand. -/
def places1 (base : Nat) : List AV → List (Nat × (Nat × Nat))
  | [] => []
  | .ref _ id off _ :: r => (id, (base, off)) :: places1 (base + 1) r
  | _ :: r => places1 (base + 1) r

def placesV (base : Nat) : AV → List (Nat × (Nat × Nat))
  | .agg cells => places1 base cells
  | .ref _ id off _ => [(id, (base, off))]
  | _ => []

def placesT (k : Nat) : List AV → List (Nat × (Nat × Nat))
  | [] => []
  | v :: r => placesV (k * 100) v ++ placesT (k + 1) r

def placesOf' : AV → List (Nat × (Nat × Nat))
  | .tup vs => placesT 0 vs
  | v => placesV 0 v

def nodupKeys {α : Type} : List (Nat × α) → Bool
  | [] => true
  | (k, _) :: r => r.all (fun p => !(nbeq p.1 k)) && nodupKeys r

theorem lk_of_mem {α : Type} : ∀ {l : List (Nat × α)} {k : Nat} {v : α}, nodupKeys l = true → (k, v) ∈ l → lk l k = some v
  | (k', v') :: r, k, v, hn, hm => by
    unfold nodupKeys at hn
    rw [Bool.and_eq_true] at hn
    rw [lk_cons]
    rcases List.mem_cons.1 hm with h | h
    · cases h; rw [if_pos rfl]
    · have := List.all_eq_true.1 hn.1 _ h
      by_cases he : k' = k
      · subst he; simp [nbeq] at this
      · rw [if_neg he]; exact lk_of_mem hn.2 h

theorem places1_mem {p : Bool} {id off len : Nat} : ∀ (l : List AV) (base j : Nat), l[j]? = some (.ref p id off len) → (id, (base + j, off)) ∈ places1 base l
  | [], _, _, h => by simp at h
  | v :: r, base, j, h => by
    cases j with
    | zero =>
      simp at h; subst h
      simp [places1]
    | succ j =>
      have := places1_mem r (base + 1) j (by simpa using h)
      have he : base + 1 + j = base + (j + 1) := by omega
      rw [he] at this
      cases v <;> simp only [places1] <;> first | exact this | exact List.mem_cons_of_mem _ this

theorem placesT_mem {x : Nat × (Nat × Nat)} {v : AV} : ∀ (l : List AV) (k j : Nat), l[j]? = some v → x ∈ placesV ((k + j) * 100) v → x ∈ placesT k l
  | [], _, _, h, _ => by simp at h
  | u :: r, k, j, h, hx => by
    unfold placesT
    cases j with
    | zero => simp at h; subst h; exact List.mem_append_left _ hx
    | succ j =>
      have he : k + 1 + j = k + (j + 1) := by omega
      exact List.mem_append_right _ (placesT_mem r (k + 1) j (by simpa using h) (by rw [he]; exact hx))

/-! ### A body, proved: a function, sound -/

def enum : Nat → List AV → List (Nat × AV)
  | _, [] => []
  | k, v :: r => (k, v) :: enum (k + 1) r

theorem enum_get : ∀ (l : List AV) (k t : Nat) (v : AV), lk (enum k l) t = some v → k ≤ t ∧ l[t - k]? = some v
  | [], _, _, _, h => by simp [enum, lk] at h
  | u :: r, k, t, v, h => by
    unfold enum at h
    rw [lk_cons] at h
    by_cases he : k = t
    · subst he; rw [if_pos rfl] at h; exact ⟨Nat.le_refl _, by simpa using h⟩
    · rw [if_neg he] at h
      obtain ⟨h1, h2⟩ := enum_get r (k + 1) t v h
      exact ⟨by omega, by rw [show t - k = (t - (k + 1)) + 1 by omega, List.getElem?_cons_succ]; exact h2⟩

def entry (n : Nat) (args : List AV) : St := { nt := args.length + (n - args.length), tmps := enum 0 args, sto := [], used := [] }

theorem plain_to {fl : Bool} {w : World} {S S' : Nat → Prop} {tag tag' : Nat → Option Tag} {τ τ' : Tag} {v : AV} {y : Value} (hp : v.plain) (h : Cell1 fl w S tag τ v y) (ht : ∀ b, tag b = some τ → tag' b = some τ') : Cell1 fl w S' tag' τ' v y := by
  have flatcase : ∀ {u : AV} {z : Value}, (match u with | .int _ _ | .bool _ => True | _ => False) → RRel w S u z → RRel w S' u z := fun {u z} hu hz => by
    cases hz with
    | int k n h => exact .int k n h
    | bool b => exact .bool b
    | _ => exact hu.elim
  cases v with
  | int k n =>
    rcases h with h | ⟨_, _, _, h, _⟩
    · exact .inl (flatcase trivial h)
    · cases h
  | bool b =>
    rcases h with h | ⟨_, _, _, h, _⟩
    · exact .inl (flatcase trivial h)
    · cases h
  | own s fl' rows =>
    rcases h with h | ⟨hfl, s', rows', h, hown⟩
    · cases h
    · cases h
      refine .inr ⟨hfl, _, _, rfl, ?_⟩
      rcases hown with hown | ⟨b, o, cap, c, ty, h1, h2, h3, h4, h5, h6, h7, h8, h9⟩
      · exact .inl hown
      · refine .inr ⟨b, o, cap, c, ty, h1, ht b h2, h3, h4, h5, h6, h7, h8, fun i j r u hi hj => ?_⟩
        obtain ⟨z, z1, z2, z3⟩ := h9 i j r u hi hj
        exact ⟨z, z1, z2, flatcase (hp r (List.mem_of_getElem? hi) u (List.mem_of_getElem? hj)) z3⟩
  | _ => exact hp.elim

def outTag (pl : List (Nat × (Nat × Nat))) : Option Tag → Option Tag
  | some (.root id) => (lk pl id).map fun p => .root p.1
  | some (.cell id i j) => (lk pl id).map fun p => .cell p.1 (i - p.2) j
  | none => none

theorem resCell_rel (hs : Sim E st a) {al : Bool} {v r : AV} {y : Value} {pos : Nat} {pl : List (Nat × (Nat × Nat))} (hr : Rel E v y) (hres : resCell al st v r) (hpos : ∀ p id off len, v = .ref p id off len → lk pl id = some (pos, off)) :
    Cell2 E.w (fun b => al = true ∧ E.S b) (fun b => outTag pl (E.tag b)) pos r y := by
  cases v with
  | int k n => simp only [resCell] at hres; subst hres; rw [(rel_int hr).1]; exact .inl (.int _ _ (rel_int hr).2)
  | bool b => simp only [resCell] at hres; subst hres; rw [rel_bool hr]; exact .inl (.bool _)
  | nilS =>
    rw [rel_nilS hr]
    cases r <;> simp only [resCell] at hres <;> try exact hres.elim
    · subst hres; exact .inl (.ro0 none 0 (Nat.zero_le _) (fun _ => rfl))
    · subst hres; exact .inr ⟨_, _, _, rfl, .inl ⟨rfl, .inr rfl⟩⟩
  | emp =>
    have hy : ∃ ad, y = .slice (some ad) 0 0 := by
      cases hr with
      | base _ _ h => cases h; exact ⟨_, rfl⟩
    obtain ⟨ad, rfl⟩ := hy
    cases r <;> simp only [resCell] at hres <;> try exact hres.elim
    · subst hres; exact .inl (.ro0 (some ad) 0 (Nat.zero_le _) (fun h => by cases h))
    · subst hres; exact .inr ⟨_, _, _, rfl, .inl ⟨rfl, .inl ⟨ad, rfl⟩⟩⟩
  | ro rows =>
    cases r <;> simp only [resCell] at hres <;> try exact hres.elim
    · obtain ⟨rfl, h⟩ := hres
      cases hr with
      | base _ _ hr =>
        refine .inl ?_
        rcases h with h | h
        · exact hr.mono (fun b hb => ⟨h, hb⟩) (fun _ _ => rfl)
        · subst h
          cases hr with
          | ro0 a cap h1 h2 => exact .ro0 a cap h1 h2
          | ro _ _ _ _ _ _ h1 => exact absurd rfl h1
  | ref p id off len =>
    cases r <;> simp only [resCell] at hres <;> try exact hres.elim
    rename_i s fl rows'
    obtain ⟨rows, hq, hle, hrows, hpl⟩ := hres
    have hp := hpos p id off len rfl
    have hl : rows'.length = len := by rw [hrows]; simp; omega
    refine .inr ⟨s, fl, rows', rfl, ?_⟩
    cases hr with
    | base _ _ h => cases h
    | ref0 _ _ cap ad hc =>
      subst hc
      have : rows' = [] := List.eq_nil_of_length_eq_zero hl
      cases ad with
      | none => exact .inl ⟨this, .inr rfl⟩
      | some ad => exact .inl ⟨this, .inl ⟨ad, rfl⟩⟩
    | ref _ _ _ _ L cap hL h1 h2 =>
      rcases hs.sto id _ hq with ⟨g1, g2⟩ | ⟨L', c, ty, g1, gsz, g2, g3, g4, g5, g6, g7, g8, g9⟩
      · rw [g1] at hL; cases hL
      rw [g1] at hL
      obtain rfl := Option.some.inj hL
      have hget : ∀ (i : Nat) (r : List AV), rows'[i]? = some r → rows[off + i]? = some r := fun i r hh => by
        rw [hrows, List.getElem?_take] at hh
        split at hh
        · rw [List.getElem?_drop] at hh; exact hh
        · cases hh
      refine .inr ⟨L'.blk, L'.base + off * L'.siz, cap, c, ty, by rw [hl], ?_, g4, ?_, by omega, by omega, by rw [← gsz]; exact g2, fun i r hi => ?_, fun i j r v hi hj => ?_⟩
      · show outTag pl (E.tag L'.blk) = _
        rw [g3]; simp [outTag, hp]
      · rw [← gsz, Nat.add_assoc, ← Nat.add_mul, h2]; exact g5
      · rw [← gsz]; exact g8 _ _ (hget i r hi)
      · obtain ⟨z, z1, z2, z3⟩ := g9 _ j r v (hget i r hi) hj
        have ht : ∀ b, E.tag b = some (.cell id (off + i) j) → outTag pl (E.tag b) = some (.cell pos i j) := fun b hb => by
          rw [hb]; simp [outTag, hp]
        refine ⟨z, ?_, z2, ?_⟩
        · rw [← z1]; congr 1
          rw [← gsz, Nat.add_mul]; omega
        · rcases hpl with hal | hpl
          · exact z3.to (fun b hb => ⟨⟨hal, hb⟩, rfl⟩) fun b hb => ⟨ht b hb, rfl⟩
          · exact plain_to (hpl r (List.mem_of_getElem? hi) v (List.mem_of_getElem? hj)) z3 ht
  | _ => simp only [resCell] at hres

theorem res1_rel (hs : Sim E st a) {al : Bool} {v r : AV} {y : Value} {base : Nat} {pl : List (Nat × (Nat × Nat))} (hr : Rel E v y) (hres : res1 al st v r) (hpl : ∀ x ∈ placesV base v, lk pl x.1 = some x.2) :
    Res1 E.w (fun b => al = true ∧ E.S b) (fun b => outTag pl (E.tag b)) base r y := by
  by_cases hv : ∃ vs, v = .agg vs
  · obtain ⟨vs, rfl⟩ := hv
    unfold res1 at hres
    cases r <;> simp only at hres <;> try exact hres.elim
    rename_i rs
    obtain ⟨xs, rfl, h2, h3, h4⟩ := rel_agg hr
    obtain ⟨g1, g2⟩ := resCells_get hres
    refine ⟨xs, rfl, by rw [h2, g1], h3, fun j u z hu hz => ?_⟩
    obtain ⟨v, hv, hrc⟩ := g2 j u hu
    exact resCell_rel hs (h4 j v z hv hz) hrc fun p id off len e => by
      subst e
      exact hpl _ (places1_mem vs base j hv)
  · have hres' : resCell al st v r := by cases v <;> first | exact hres | exact absurd ⟨_, rfl⟩ hv
    have := resCell_rel hs (pos := base) (pl := pl) hr hres' (fun p id off len e => by
      subst e
      exact hpl (id, (base, off)) (by simp [placesV]))
    cases r <;> first | exact this | (cases v <;> simp only [resCell] at hres' <;> cases hres')

theorem resOk_rel (hs : Sim E st a) {al : Bool} {v r : AV} {y : Value} (hr : Rel E v y) (hres : resOk al st v r) (hn : nodupKeys (placesOf' v) = true) :
    Res E.w (fun b => al = true ∧ E.S b) (fun b => outTag (placesOf' v) (E.tag b)) r y := by
  have hmem : ∀ x ∈ placesOf' v, lk (placesOf' v) x.1 = some x.2 := fun x hx => lk_of_mem hn hx
  by_cases hv : ∃ vs, v = .tup vs
  · obtain ⟨vs, rfl⟩ := hv
    unfold resOk at hres
    cases r <;> simp only at hres <;> try exact hres.elim
    rename_i rs
    obtain ⟨xs, rfl, h2, h4⟩ := rel_tup hr
    obtain ⟨g1, g2⟩ := res1s_get hres
    refine ⟨xs, rfl, by rw [h2, g1], fun j u z hu hz => ?_⟩
    obtain ⟨v, hv, hrc⟩ := g2 j u hu
    refine res1_rel hs (h4 j v z hv hz) hrc fun x hx => hmem x ?_
    exact placesT_mem vs 0 j hv (by simpa using hx)
  · have hres' : res1 al st v r := by cases v <;> first | exact hres | exact absurd ⟨_, rfl⟩ hv
    have := res1_rel hs (base := 0) (pl := placesOf' v) hr hres' (fun x hx => hmem x (by cases v <;> first | exact hx | exact absurd ⟨_, rfl⟩ hv))
    cases r <;> first | exact this | (cases v <;> simp [res1, resCell] at hres' <;> exact absurd ⟨_, rfl⟩ hv)

/-- What must hold where a body ends. -/
def Ends (T : Nat → Option TI) (rs : List ResultVar) (al : Bool) (R : AV → Prop) (e : Exit) (st : St) : Prop :=
  (match e with | .normal | .ret => True | _ => False) ∧ ∃ v r, st.ret T rs = some v ∧ nodupKeys (placesOf' v) = true ∧ resOk al st v r ∧ R r

theorem sound_of_body {f : FuncId} {fn : Func} {c : Code} {al : Bool} {args : List AV} {R : AV → Prop} (htab : TabOk P T) (hf : P.funcs[f]? = some fn) (hb : fn.body = some c) (hname : (fn.name == "runtime.NumGoroutine") = false)
    (h : awp P c (Ends T fn.results.toList al R) (entry fn.ntmps args)) : Sound P f al args R := by
  refine ⟨⟨fn, hf, hname, by rw [hb]; rfl⟩, fun w S xs hS hxs hargs => calls_of_wp hf hb ?_⟩
  let E0 : Env := ⟨w, S, fun _ => none, fun _ => none⟩
  have hs0 : Sim E0 (entry fn.ntmps args) { tmps := xs ++ Array.replicate (fn.ntmps - xs.size) undef, defers := [] } := by
    refine ⟨⟨fun b hb => ⟨rfl, hS b hb⟩, fun b hb => absurd rfl hb⟩, rfl, by simp [entry, hxs], fun t v hv => ?_, fun id ob h => by simp [entry, lk] at h, fun id L h => (by cases h), fun id ob h => by simp [entry, lk] at h⟩
    obtain ⟨_, hg⟩ := enum_get _ _ _ _ hv
    simp at hg
    have hlt : t < xs.size := by rw [hxs]; exact (List.getElem?_eq_some_iff.1 hg).1
    have hx := Array.getElem?_eq_getElem hlt
    exact ⟨xs[t], by simp [Array.getElem?_append, hlt], hargs t v _ hg hx⟩
  refine wp_mono (h E0 _ hs0) ?_
  rintro e a' w' ⟨_, E, st, rfl, hfr, hs, he, v, r, hv, hn, hres, hR⟩
  obtain ⟨x, hx, hrx⟩ := ret_rel htab hs hv
  have key : ∃ x' v' S' tag', Ending.returned x = .returned x' ∧ R v' ∧ Below w.heap.size w E.w ∧ (∀ b, tag' b ≠ none → w.heap.size ≤ b ∧ b < E.w.heap.size) ∧
      (∀ b, S' b → (al = true ∧ S b) ∨ (w.heap.size ≤ b ∧ b < E.w.heap.size)) ∧ (∀ b, S' b → tag' b = none) ∧ Res E.w S' tag' v' x' := by
    refine ⟨x, r, _, _, rfl, hR, ⟨hfr.os, hfr.tape, hfr.output, hfr.size, fun k hk => hfr.block k hk rfl⟩, fun b hb => ?_, fun b hb => ?_, fun b hb => ?_, resOk_rel hs hrx hres hn⟩
    · have : E.tag b ≠ none := fun e => hb (by simp [e, outTag])
      rcases hfr.tag b this with h1 | h1
      · exact absurd rfl h1
      · exact ⟨h1, hs.wf.owned b this⟩
    · rcases hfr.still b hb.2 with h1 | h1
      · exact .inl ⟨hb.1, h1⟩
      · exact .inr ⟨h1, (hs.wf.still b hb.2).2⟩
    · show outTag _ (E.tag b) = none
      rw [(hs.wf.still b hb.2).1]; rfl
  cases e with
  | normal => exact ⟨hs.defers, x, hx, key⟩
  | ret => exact ⟨hs.defers, x, hx, key⟩
  | _ => exact he.elim

end Go.Proofs.Ytmpbmfhlkhonkaa.AM
