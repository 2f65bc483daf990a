/- The abstract machine, part 31: loops whose rounds are kept shut until they are reckoned. -/
import Derived.Test.YtmbckmfihcojoaaB30
namespace Go.Proofs.Ytmbckmfihcojoaa.AM
open Go Go.RowKit

set_option linter.unusedVariables false
set_option linter.unusedSimpArgs false

variable {P : Program} {T : Nat → Option TI} {A : Sy}

/-- Kept shut. -/
structure Rnd (p : Prop) : Prop where
  out : p

/-- A loop: what it writes is told anew at its head, the rest stands. -/
theorem ALoop.goS {ι : Type} (ts : ι → List (Nat × AV)) (ks : List Nat) (os : ι → List (Nat × Obj)) (I : ι → Prop) (μ : ι → Nat) (i₀ : ι) (htab : TabOk P T) (hm : P.follows .mixedOrders = true) {c : Code} {Q : Exit → St → Prop} {s : St} {A : Sy} (hA : A = sy)
    (h₀ : I i₀) (hst : Less s (havD s (dsts c) ks (ts i₀) (os i₀)))
    (round : ∀ i, I i → Rnd (vc A P T c (havD s (dsts c) ks (ts i) (os i)) (loopVC (fun i => havD s (dsts c) ks (ts i) (os i)) I μ i Q))) : ALoop P c Q s :=
  ALoop.goD ts ks os I μ i₀ htab hm hA h₀ hst fun i hi => (round i hi).out

end Go.Proofs.Ytmbckmfihcojoaa.AM
