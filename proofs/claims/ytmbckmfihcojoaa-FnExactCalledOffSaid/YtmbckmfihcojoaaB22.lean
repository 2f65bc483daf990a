/- The abstract machine, part 22: loops by families of states; what an argument's being there tells. -/
import Derived.Test.YtmbckmfihcojoaaB21
namespace Go.Proofs.Ytmbckmfihcojoaa.AM
open Go Go.RowKit

set_option linter.unusedVariables false
set_option linter.unusedSimpArgs false

variable {P : Program} {T : Nat → Option TI}

/-! ### Loops -/

def dstsO : List Oper → List Nat
  | [] => []
  | o :: r => match o.dst with
    | some d => d :: dstsO r
    | none => dstsO r

/-- The slots that code writes. -/
def dsts : Code → List Nat
  | .seq a b => dsts a ++ dsts b
  | .cond _ a b => dsts a ++ dsts b
  | .block _ c => dsts c
  | .region _ ops _ => dstsO ops.toList
  | .loop c => dsts c
  | _ => []

def hasN (n : Nat) : List Nat → Bool
  | [] => false
  | m :: r => nbeq m n || hasN n r

def rmL {α : Type} (ks : List Nat) : List (Nat × α) → List (Nat × α)
  | [] => []
  | (k, v) :: r => bif hasN k ks then rmL ks r else (k, v) :: rmL ks r

/-- A state at a loop's head: what the loop writes is told anew. -/
def hav (s : St) (ds ks : List Nat) (ts : List (Nat × AV)) (os : List (Nat × Obj)) : St := { s with tmps := ts ++ rmL ds s.tmps, sto := os ++ rmL ks s.sto }

def idsOver (over : Ren) : List Nat → Ren
  | [] => over
  | k :: r => bif (lk over k).isSome then idsOver over r else idsOver ((k, (k, 0)) :: over) r

def lows : List Nat → List Nat
  | [] => []
  | u :: r => bif nblt u lab0 then u :: lows r else lows r

/-- Names stand, but for these. -/
def renOf (t : St) (over : Ren) : Ren := idsOver over (t.sto.map (·.1) ++ lows t.used)

/-- A state says no more than another: as the reckoning shows it. -/
structure Less (s t : St) : Prop where
  out : Weak s t

theorem Less.to (over : Ren) {s t : St} (hρ : ((renOf t over).ok && (renOf t over).low s.used && (renOf t over).all (fun p => t.used.elem p.1)) = true) (hn : t.nt = s.nt)
    (ht : lkAll t.tmps fun k v => lk s.tmps k = some (v.back (renOf t over)) ∧ v.fits (renOf t over) = true) (ho : lkAll t.sto fun i o => stoOk s (renOf t over) i o) : Less s t := by
  simp only [Bool.and_eq_true] at hρ
  exact ⟨Weak.to (renOf t over) hρ.1.1 hn hρ.1.2 hρ.2 ht ho⟩

theorem Less.refl (s : St) : Less s s := ⟨.refl s⟩
theorem Less.trans {s t u : St} (h : Less s t) (k : Less t u) : Less s u := ⟨h.out.trans k.out⟩

/-- Once more round the loop. -/
structure Again {ι : Type} (F : ι → St) (I : ι → Prop) (μ : ι → Nat) (i : ι) (s : St) : Prop where
  out : ∃ j, μ j < μ i ∧ I j ∧ Weak s (F j)

theorem Again.on {ι : Type} {F : ι → St} {I : ι → Prop} {μ : ι → Nat} {i : ι} {s : St} (j : ι) (h1 : μ j < μ i) (h2 : I j) (h3 : Less s (F j)) : Again F I μ i s := ⟨j, h1, h2, h3.out⟩

def loopVC {ι : Type} (F : ι → St) (I : ι → Prop) (μ : ι → Nat) (i : ι) (Q : Exit → St → Prop) (e : Exit) (s : St) : Prop :=
  match e with
  | .normal => Again F I μ i s
  | e => Q e s

theorem ALoop.ind {ι : Type} (F : ι → St) (I : ι → Prop) (μ : ι → Nat) (i₀ : ι) (htab : TabOk P T) (hm : P.follows .mixedOrders = true) {c : Code} {Q : Exit → St → Prop} {s : St} {A : Sy} (hA : A = sy) (hst : Less s (F i₀)) (h₀ : I i₀)
    (round : ∀ i, I i → vc A P T c (F i) (loopVC F I μ i Q)) : ALoop P c Q s := by
  subst hA
  refine ⟨awp_loop (fun n s => ∃ i, μ i = n ∧ I i ∧ s = F i) (μ i₀) (F i₀) hst.out ⟨i₀, rfl, h₀, rfl⟩ ?_⟩
  rintro n s' ⟨i, rfl, hi, rfl⟩
  refine awp_mono (vc_sound htab hm c _ _ (round i hi)) fun e s'' hq => ?_
  cases e with
  | normal =>
    obtain ⟨j, h1, h2, h3⟩ := hq.out
    exact ⟨μ j, F j, h1, ⟨j, rfl, h2, rfl⟩, h3⟩
  | _ => exact hq

/-- A loop: what it writes is told anew at its head, the rest stands. -/
theorem ALoop.go {ι : Type} (ts : ι → List (Nat × AV)) (ks : List Nat) (os : ι → List (Nat × Obj)) (I : ι → Prop) (μ : ι → Nat) (i₀ : ι) (htab : TabOk P T) (hm : P.follows .mixedOrders = true) {c : Code} {Q : Exit → St → Prop} {s : St} {A : Sy} (hA : A = sy)
    (h₀ : I i₀) (hst : Less s (hav s (dsts c) ks (ts i₀) (os i₀)))
    (round : ∀ i, I i → vc A P T c (hav s (dsts c) ks (ts i) (os i)) (loopVC (fun i => hav s (dsts c) ks (ts i) (os i)) I μ i Q)) : ALoop P c Q s :=
  ALoop.ind _ I μ i₀ htab hm hA hst h₀ round

theorem ALoop.pre {c : Code} {Q : Exit → St → Prop} {s s' : St} (h : Less s s') (k : ALoop P c Q s') : ALoop P c Q s :=
  ⟨awp_weak h.out k.out⟩

/-! ### Steps without code -/

theorem Sim.slot {E : Env} {s : St} {a : Act} (hs : Sim E s a) {t : Nat} {v v' : AV} (hv : lk s.tmps t = some v) (h : ∀ x, Rel E v x → Rel E v' x) : Sim E { s with tmps := (t, v') :: s.tmps } a := by
  refine ⟨hs.wf, hs.defers, hs.size, fun k u hu => ?_, hs.sto, hs.used, hs.keys⟩
  simp only [lk_cons] at hu
  by_cases he : t = k
  · subst he
    rw [if_pos rfl] at hu
    obtain rfl := Option.some.inj hu
    obtain ⟨x, hx, hr⟩ := hs.tmps t v hv
    exact ⟨x, hx, h x hr⟩
  · rw [if_neg he] at hu; exact hs.tmps k u hu

/-- A slot told with less. -/
theorem Less.slot {s : St} {t : Nat} {v v' : AV} (hv : lk s.tmps t = some v) (h : ∀ E a x, Sim E s a → Rel E v x → Rel E v' x) : Less s { s with tmps := (t, v') :: s.tmps } :=
  ⟨fun E a hs => ⟨E, rfl, Fr.refl E, hs.slot hv fun x hx => h E a x hs hx⟩⟩

/-- An empty slice in a slot as a part of a new empty array. -/
theorem Less.init (L sz : Nat) (fl : Bool) {s : St} {t : Nat} {v : AV} (hv : lk s.tmps t = some v) (h : v = .nilS ∨ v = .emp) (hu : s.used.elem L = false) :
    Less s { s with tmps := (t, .ref false L 0 0) :: s.tmps, sto := (L, .arr sz fl []) :: s.sto, used := L :: s.used } := by
  refine ⟨fun E a hs => ⟨E, rfl, Fr.refl E, ?_⟩⟩
  have hne : ∀ o, lk s.sto L = some o → False := fun o h => by have := hs.keys L o h; rw [hu] at this; cases this
  have hL : E.loc L = none := by
    cases hq : E.loc L with
    | none => rfl
    | some l => have := hs.used L l hq; rw [hu] at this; cases this
  have hs' : Sim E { s with sto := (L, .arr sz fl []) :: s.sto, used := L :: s.used } a := by
    refine ⟨hs.wf, hs.defers, hs.size, hs.tmps, fun id o h => ?_, fun id l h => ?_, fun id o h => ?_⟩
    · rw [lk_cons] at h
      by_cases he : L = id
      · subst he; rw [if_pos rfl] at h; obtain rfl := Option.some.inj h; exact .inl ⟨hL, rfl⟩
      · rw [if_neg he] at h; exact hs.sto id o h
    · have := hs.used id l h
      simp only [List.elem_iff] at this ⊢
      exact List.mem_cons_of_mem _ this
    · rw [lk_cons] at h
      by_cases he : L = id
      · subst he; simp
      · rw [if_neg he] at h
        have := hs.keys id o h
        simp only [List.elem_iff] at this ⊢
        exact List.mem_cons_of_mem _ this
  refine hs'.slot (t := t) (v := v) hv fun x hx => ?_
  rcases h with rfl | rfl
  · cases hx with
    | base _ _ h => cases h; exact .ref0 L 0 0 none rfl
  · cases hx with
    | base _ _ h => cases h; exact .ref0 L 0 0 _ rfl

end Go.Proofs.Ytmbckmfihcojoaa.AM
