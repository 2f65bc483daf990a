/- The abstract machine, part 10: functions: what they are given, what they give back. -/
import Derived.Test.YtmbckmfihcojoaaB9
namespace Go.Proofs.Ytmbckmfihcojoaa.AM
open Go Go.RowKit

set_option linter.unusedVariables false
set_option linter.unusedSimpArgs false

variable {P : Program} {T : Nat → Option TI} {E : Env} {st : St} {a : Act} {K : AV → St → Prop} {o : Oper}

/-! ### Results as slots -/

def St.ret1 (T : Nat → Option TI) (st : St) : ResultVar → Option AV
  | .tmp t => some (st.get t)
  | .cell p t => match T t, st.at (st.get p) with
    | some i, some cells => bif i.desc.known then loadA i cells else none
    | _, _ => none

def St.rets (T : Nat → Option TI) (st : St) : List ResultVar → Option (List AV)
  | [] => some []
  | r :: rs => match st.ret1 T r, st.rets T rs with
    | some v, some vs => some (v :: vs)
    | _, _ => none

def St.ret (T : Nat → Option TI) (st : St) (rs : List ResultVar) : Option AV :=
  match st.rets T rs with
  | some [v] => some v
  | some vs => some (.tup vs)
  | none => none

def retOp (tmps : Array Value) (r : ResultVar) : Sem Value :=
  match r with
  | .tmp t => pure (tmps.getD t undef)
  | .cell p t => do loadVar t (← asAddr (tmps.getD p undef))

theorem results_eq (fn : Func) (tmps : Array Value) : results fn tmps = (do
    let vs ← fn.results.mapM (retOp tmps)
    pure (if h : vs.size = 1 then vs[0] else .tuple vs)) := by
  unfold results
  congr 1

theorem rets_rel (h : TabOk P T) (hs : Sim E st a) : ∀ (rs : List ResultVar) (vs : List AV), st.rets T rs = some vs →
    ∃ xs : List Value, (rs.mapM (retOp a.tmps)).run P E.w = .ok xs E.w ∧ xs.length = vs.length ∧ ∀ (j : Nat) (v : AV) (x : Value), vs[j]? = some v → xs[j]? = some x → Rel E v x
  | [], vs, hv => by simp [St.rets] at hv; subst hv; exact ⟨[], by simp, rfl, fun j v x hj => by simp at hj⟩
  | r :: rs, vs, hv => by
    unfold St.rets at hv
    split at hv
    · rename_i v vs' h1 h2
      obtain rfl := Option.some.inj hv
      obtain ⟨xs, g1, g2, g3⟩ := rets_rel h hs rs vs' h2
      have hr : ∃ x, (retOp a.tmps r).run P E.w = .ok x E.w ∧ Rel E v x := by
        cases r with
        | tmp t =>
          simp [St.ret1] at h1
          subst h1
          exact ⟨_, by simp [retOp], hs.get t⟩
        | cell p t =>
          simp only [St.ret1] at h1
          split at h1
          · rename_i i cells hi hc
            cases hk : i.desc.known with
            | false => simp [hk] at h1
            | true =>
              simp only [hk, cond_true] at h1
              obtain ⟨ad, y, q1, q2, q3⟩ := load_rel h hi hk hs (hs.get p) hc h1
              exact ⟨y, by simp [retOp, q1, asAddr, q2], q3⟩
          · cases h1
      obtain ⟨x, hx, hrx⟩ := hr
      refine ⟨x :: xs, ?_, by simp [g2], fun j v' x' hj hj' => ?_⟩
      · simp only [List.mapM_cons, Sem.run_bind, hx, Result.andThen_ok, g1, Sem.run_pure]
      · cases j with
        | zero => simp at hj hj'; subst hj hj'; exact hrx
        | succ j => exact g3 j v' x' (by simpa using hj) (by simpa using hj')
    · cases hv

theorem ret_rel (h : TabOk P T) (hs : Sim E st a) {fn : Func} {v : AV} (hv : st.ret T fn.results.toList = some v) : ∃ x, (results fn a.tmps).run P E.w = .ok x E.w ∧ Rel E v x := by
  unfold St.ret at hv
  cases hq : st.rets T fn.results.toList with
  | none => simp [hq] at hv
  | some vs =>
    obtain ⟨xs, h1, h2, h3⟩ := rets_rel h hs _ vs hq
    have hrun : ∀ x, (if h : xs.toArray.size = 1 then xs.toArray[0] else Value.tuple xs.toArray) = x → (results fn a.tmps).run P E.w = .ok x E.w := fun x hx => by
      rw [results_eq, Array.mapM_eq_mapM_toList, ← hx]
      simp [h1]
    refine ⟨_, hrun _ rfl, ?_⟩
    match vs, hq, h2, h3 with
    | [u], hq, h2, h3 =>
      simp [hq] at hv
      subst hv
      obtain ⟨x, rfl⟩ := List.length_eq_one_iff.1 h2
      have := h3 0 u x rfl rfl
      simpa using this
    | [], hq, h2, h3 =>
      simp [hq] at hv
      subst hv
      have : xs = [] := List.eq_nil_of_length_eq_zero h2
      subst this
      simp
      exact .tup _ _ rfl (fun j v x hj => by simp at hj)
    | u :: u' :: us, hq, h2, h3 =>
      simp [hq] at hv
      subst hv
      have hl : ¬ xs.toArray.size = 1 := by simp at h2 ⊢; omega
      rw [dif_neg hl]
      exact .tup _ _ (by simpa using h2) (fun j v x hj hx => h3 j v x hj (by simpa using hx))

/-! ### Names for what is told as trees -/

section
variable (ln : List (List AV) → Nat)

def adopt1 (base : Nat) : List AV → List AV
  | [] => []
  | .own _ _ rows :: r => .ref false base 0 (ln rows) :: adopt1 (base + 1) r
  | v :: r => v :: adopt1 (base + 1) r

def adoptV (base : Nat) : AV → AV
  | .agg cells => .agg (adopt1 ln base cells)
  | .own _ _ rows => .ref false base 0 (ln rows)
  | .ownp _ => .ptr base 0 0
  | v => v

def adoptT (base : Nat) : List AV → List AV
  | [] => []
  | v :: r => adoptV ln base v :: adoptT (base + 100) r

def adopt (base : Nat) : AV → AV
  | .tup vs => .tup (adoptT ln base vs)
  | v => adoptV ln base v

def objs1 (base : Nat) : List AV → List (Nat × Obj)
  | [] => []
  | .own s fl rows :: r => (base, .arr s fl rows) :: objs1 (base + 1) r
  | _ :: r => objs1 (base + 1) r

def objsV (base : Nat) : AV → List (Nat × Obj)
  | .agg cells => objs1 base cells
  | .own s fl rows => [(base, .arr s fl rows)]
  | .ownp cells => (base, .box (adopt1 ln (base + 1) cells)) :: objs1 (base + 1) cells
  | _ => []

def objsT (base : Nat) : List AV → List (Nat × Obj)
  | [] => []
  | v :: r => objsV ln base v ++ objsT (base + 100) r

def objsOf (base : Nat) : AV → List (Nat × Obj)
  | .tup vs => objsT ln base vs
  | v => objsV ln base v

def gl (k : Nat) : Nat := 1000 * (k + 1)

/-- Of something that is given: its names and theirs. -/
def flat1 (base : Nat) : Obj → List (Nat × Obj)
  | .box cells => (base, .box (adopt1 ln (base + 1) cells)) :: objs1 (base + 1) cells
  | .arr s fl rows => [(base, .arr s fl rows)]

def flats (k : Nat) : List Obj → List (Nat × Obj)
  | [] => []
  | o :: r => flat1 ln (gl k) o ++ flats (k + 1) r

def flatsO (k : Nat) : List (Option Obj) → List (Nat × Obj)
  | [] => []
  | some o :: r => flat1 ln (gl k) o ++ flatsO (k + 1) r
  | none :: r => flatsO (k + 1) r
end

def small1 : AV → Bool
  | .agg cells => nble cells.length 90
  | .ownp cells => nble cells.length 90
  | _ => true

/-- Few enough parts for their names. -/
def AV.small : AV → Bool
  | .tup vs => vs.all small1 && nble vs.length 40
  | v => small1 v

def Obj.small : Obj → Bool
  | .box cells => nble cells.length 90
  | .arr _ _ _ => true

/-- The names of what is given back where it lay. -/
def kept (os : List (Option Obj)) (id : Nat) : Bool := (List.range os.length).any fun k => nbeq id (gl k) && (match os[k]? with | some (some _) => true | _ => false)

def Env.only (E : Env) (q : Nat → Bool) : Env := { E with loc := fun id => if q id then E.loc id else none }

/-- What leads to still memory of the caller only where that is let. -/
def Env.cut (E' : Env) (al : Bool) (E : Env) : Env := { E' with S := fun b => E'.S b ∧ ((al = true ∧ E.S b) ∨ E.w.heap.size ≤ b) }

/-- A cell of an array without a name in it, and without a road to what is still where that is not let. -/
def AV.free (al : Bool) : AV → Prop
  | .int _ _ => True
  | .bool _ => True
  | .nilS => True
  | .emp => True
  | .own _ true _ => True
  | .ro rows => al = true ∨ rows = []
  | _ => False

def FreeRows (al : Bool) (rows : List (List AV)) : Prop := ∀ r ∈ rows, ∀ v ∈ r, v.free al

def rl : Nat := 500000

/-- The call of f with these values, of which some name the objects that are given, ends as R says of its value and of the objects. -/
def SoundM (P : Program) (f : FuncId) (al : Bool) (args : List AV) (objs : List Obj) (R : AV → List (Option Obj) → Prop) : Prop :=
  (∃ fn, P.funcs[f]? = some fn ∧ (fn.name == "runtime.NumGoroutine") = false ∧ fn.body.isNone = false) ∧
  ∀ (E : Env) (xs : Array Value), E.Wf → (∀ id L, E.loc id = some L → ((flats List.length 0 objs).map (·.1)).elem id = true) → xs.size = args.length →
    (∀ (j : Nat) (v : AV) (x : Value), args[j]? = some v → xs[j]? = some x → Rel E v x) → (∀ id o, lk (flats List.length 0 objs) id = some o → ORel E id o) →
    Calls P f xs E.w fun e w' => ∃ x v os E', e = .returned x ∧ E'.w = w' ∧ R v os ∧ v.small = true ∧ os.length = objs.length ∧ Fr (E.only (kept os)) E' ∧ E'.Wf ∧ Rel (E'.cut al E) (adopt List.length rl v) x ∧
      (∀ id o, (id, o) ∈ flatsO List.length 0 os ++ objsOf List.length rl v → ORel (E'.cut al E) id o ∧ (∀ s rows, o = .arr s false rows → FreeRows al rows))

/-- The call of f with these values, none of which it changes. -/
abbrev Sound (P : Program) (f : FuncId) (al : Bool) (args : List AV) (R : AV → Prop) : Prop := SoundM P f al args [] (fun v os => R v ∧ os = [])

theorem SoundM.mono {f : FuncId} {al : Bool} {args : List AV} {objs : List Obj} {R R' : AV → List (Option Obj) → Prop} (h : SoundM P f al args objs R) (hr : ∀ v os, R v os → R' v os) : SoundM P f al args objs R' :=
  ⟨h.1, fun E xs h1 h2 h3 h4 h5 => (h.2 E xs h1 h2 h3 h4 h5).mono fun e w' ⟨x, v, os, E', g1, g2, g3, g4⟩ => ⟨x, v, os, E', g1, g2, hr v os g3, g4⟩⟩

/-! ### What a state's value is to the caller -/

theorem FreeRows.noRefs {al : Bool} {rows : List (List AV)} (h : FreeRows al rows) : noRefs rows := fun r hr v hv => by
  have := h r hr v hv
  cases v <;> first | rfl | exact this.elim

def resCell (al : Bool) (st : St) (v r : AV) : Prop :=
  match v, r with
  | .int k n, r => r = .int k n
  | .bool b, r => r = .bool b
  | .nilS, .own _ _ rows => rows = []
  | .emp, .own _ _ rows => rows = []
  | .nilS, .ro rows => rows = []
  | .emp, .ro rows => rows = []
  | .nilS, .nilS => True
  | .emp, .emp => True
  | _, .undef => True
  | .ro rows, .ro rows' => rows' = rows ∧ (al = true ∨ rows = [])
  | .ref _ id off len, .own s fl rows' => match lk st.sto id with
    | some (.arr s' fl' rows) => (s' = s ∧ fl' = fl) ∧ (off + len ≤ rows.length ∧ rows' = (rows.drop off).take len) ∧ (match fl with | true => True | false => FreeRows al rows')
    | _ => False
  | _, _ => False

def resCells (al : Bool) (st : St) : List AV → List AV → Prop
  | [], [] => True
  | v :: vs, r :: rs => resCell al st v r ∧ resCells al st vs rs
  | _, _ => False

def res1 (al : Bool) (st : St) (v r : AV) : Prop :=
  match v with
  | .agg vs => match r with
    | .agg rs => resCells al st vs rs
    | _ => False
  | .ptr id 0 0 => match r with
    | .ownp rs => match lk st.sto id with
      | some (.box vs) => resCells al st vs rs
      | _ => False
    | _ => False
  | v => resCell al st v r

def res1s (al : Bool) (st : St) : List AV → List AV → Prop
  | [], [] => True
  | v :: vs, r :: rs => res1 al st v r ∧ res1s al st vs rs
  | _, _ => False

def resOk (al : Bool) (st : St) (v r : AV) : Prop :=
  match v with
  | .tup vs => match r with
    | .tup rs => res1s al st vs rs
    | _ => False
  | v => res1 al st v r

/-- What is given back. -/
def backOk (al : Bool) (st : St) (k : Nat) : List (Option Obj) → Prop
  | [] => True
  | none :: r => backOk al st (k + 1) r
  | some (.box cells) :: r => (match lk st.sto (gl k) with
    | some (.box vs) => resCells al st vs cells
    | _ => False) ∧ backOk al st (k + 1) r
  | some (.arr s fl rows) :: r => (match lk st.sto (gl k) with
    | some (.arr s' fl' rows') => (s' = s ∧ fl' = fl) ∧ rows = rows' ∧ (match fl with | true => True | false => FreeRows al rows)
    | _ => False) ∧ backOk al st (k + 1) r

/-- Where the names of a result stand. -/
def rho1 (base : Nat) : List AV → Ren
  | [] => []
  | .ref _ id off _ :: r => (base, (id, off)) :: rho1 (base + 1) r
  | _ :: r => rho1 (base + 1) r

def rhoV (st : St) (base : Nat) : AV → Ren
  | .agg cells => rho1 base cells
  | .ref _ id off _ => [(base, (id, off))]
  | .ptr id 0 0 => match lk st.sto id with
    | some (.box cells) => (base, (id, 0)) :: rho1 (base + 1) cells
    | _ => []
  | _ => []

def rhoT (st : St) (base : Nat) : List AV → Ren
  | [] => []
  | v :: r => rhoV st base v ++ rhoT st (base + 100) r

def rhoR (st : St) (base : Nat) : AV → Ren
  | .tup vs => rhoT st base vs
  | v => rhoV st base v

def rhoSeg (st : St) (k : Nat) : Ren :=
  match lk st.sto (gl k) with
  | some (.box cells) => (gl k, (gl k, 0)) :: rho1 (gl k + 1) cells
  | _ => [(gl k, (gl k, 0))]

def rhoO (st : St) (k : Nat) : List (Option Obj) → Ren
  | [] => []
  | none :: r => rhoO st (k + 1) r
  | some _ :: r => rhoSeg st k ++ rhoO st (k + 1) r

end Go.Proofs.Ytmbckmfihcojoaa.AM
