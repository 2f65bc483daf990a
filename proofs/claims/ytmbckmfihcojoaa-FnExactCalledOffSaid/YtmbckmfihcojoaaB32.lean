/- The abstract machine, part 32: loops before which slots are forgotten. -/
import Derived.Test.YtmbckmfihcojoaaB31
namespace Go.Proofs.Ytmbckmfihcojoaa.AM
open Go Go.RowKit

set_option linter.unusedVariables false
set_option linter.unusedSimpArgs false

variable {P : Program} {T : Nat → Option TI} {A : Sy}

def forget (s : St) (fs : List Nat) : St := { s with tmps := rmL fs s.tmps }

theorem lk_rmL {α : Type} (fs : List Nat) : ∀ (l : List (Nat × α)) (k : Nat) (v : α), lk (rmL fs l) k = some v → lk l k = some v
  | [], k, v, h => by simp [rmL, lk] at h
  | (j, u) :: r, k, v, h => by
    unfold rmL at h
    cases hj : hasN j fs with
    | false =>
      rw [hj] at h
      simp only [cond_false, lk_cons] at h ⊢
      split at h
      · rename_i e; rw [if_pos e]; exact h
      · rename_i e; rw [if_neg e]; exact lk_rmL fs r k v h
    | true =>
      rw [hj] at h
      simp only [cond_true] at h
      have h1 := lk_rmL fs r k v h
      rw [lk_cons]
      by_cases e : j = k
      · exfalso
        subst e
        have hno : ∀ (r : List (Nat × α)), lk (rmL fs r) j = none := fun r => by
          induction r with
          | nil => rfl
          | cons p r ih =>
            obtain ⟨q, w⟩ := p
            unfold rmL
            cases hq : hasN q fs with
            | true => simpa using ih
            | false =>
              simp only [cond_false, lk_cons]
              by_cases e : q = j
              · subst e; rw [hj] at hq; cases hq
              · rw [if_neg e]; exact ih
        rw [hno] at h; cases h
      · rw [if_neg e]; exact h1

theorem Less.forget (s : St) (fs : List Nat) : Less s (AM.forget s fs) :=
  ⟨fun E a hs => ⟨E, rfl, Fr.refl E, ⟨hs.wf, hs.defers, hs.size, fun t v hv => hs.tmps t v (lk_rmL fs _ _ _ hv), hs.sto, hs.used, hs.keys⟩⟩⟩

/-- A loop, before which slots are forgotten. -/
theorem ALoop.goF {ι : Type} (ts : ι → List (Nat × AV)) (fs ks : List Nat) (os : ι → List (Nat × Obj)) (I : ι → Prop) (μ : ι → Nat) (i₀ : ι) (htab : TabOk P T) (hm : P.follows .mixedOrders = true) {c : Code} {Q : Exit → St → Prop} {s : St} {A : Sy} (hA : A = sy)
    (h₀ : I i₀) (hst : Less (AM.forget s fs) (havD (AM.forget s fs) (dsts c) ks (ts i₀) (os i₀)))
    (round : ∀ i, I i → Rnd (vc A P T c (havD (AM.forget s fs) (dsts c) ks (ts i) (os i)) (loopVC (fun i => havD (AM.forget s fs) (dsts c) ks (ts i) (os i)) I μ i Q))) : ALoop P c Q s :=
  .pre (Less.forget s fs) (ALoop.goS ts ks os I μ i₀ htab hm hA h₀ hst round)

end Go.Proofs.Ytmbckmfihcojoaa.AM
