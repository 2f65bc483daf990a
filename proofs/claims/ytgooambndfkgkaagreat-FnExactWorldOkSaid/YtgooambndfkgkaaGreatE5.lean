/- Contracts: heaps joined and merged. (printed by ge5.py) -/
import Derived.Test.YtgooambndfkgkaaGreatE4
namespace Go.Proofs.YtgooambndfkgkaaGreat.AM
open Go Go.Proofs

set_option maxRecDepth 100000
set_option maxHeartbeats 4000000
set_option linter.unusedVariables false
set_option linter.unusedSimpArgs false

variable {P : Program} {A : Sy}

theorem joinR {d s n : Int} {a b : Heap} {la lb l : List Twig} (hb : b.flat = lb) (ha : a.flat = la) (h : a.rank < b.rank) (hn : 0 ≤ n ∧ n.toNat = lb.length) (hx : l = [⟨d, s, n⟩] ++ lb ++ la) : (Heap.join d s a b).flat = l := by
  rw [Heap.join, if_pos h, Heap.flat, hx, ← ha, ← hb]
  have := Heap.flat_len b
  rw [hb] at this
  have e : (b.size : Int) = n := by omega
  rw [e]; rfl

theorem joinL {d s n : Int} {a b : Heap} {la lb l : List Twig} (ha : a.flat = la) (hb : b.flat = lb) (h : ¬ a.rank < b.rank) (hn : 0 ≤ n ∧ n.toNat = la.length) (hx : l = [⟨d, s, n⟩] ++ la ++ lb) : (Heap.join d s a b).flat = l := by
  rw [Heap.join, if_neg h, Heap.flat, hx, ← ha, ← hb]
  have := Heap.flat_len a
  rw [ha] at this
  have e : (a.size : Int) = n := by omega
  rw [e]; rfl


theorem partsE_c (S : Se P A) {l : List Twig} {x : Twig} {r : List Twig} (hl : l = x :: r) (h0 : 0 ≤ x.lefts) (h1 : x.lefts.toNat ≤ r.length) : SoundM P 280 true [.ro (A.enc cTwig l)] []
    (fun v os => v = rPP A (r.take x.lefts.toNat, r.drop x.lefts.toNat) ∧ os = []) := by
  rw [hl]; exact parts_c S x r h0 h1

end Go.Proofs.YtgooambndfkgkaaGreat.AM
