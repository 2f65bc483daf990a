/- Timers remain few. (printed by gk4.py) -/
import Derived.Test.YtmbckmfihcojoaaE21
namespace Go.Proofs.Ytmbckmfihcojoaa.AM
open Go Go.Proofs

set_option maxRecDepth 100000
set_option maxHeartbeats 4000000
set_option linter.unusedVariables false
set_option linter.unusedSimpArgs false

variable {P : Program} {A : Sy}

theorem ok_few {t : Timers} (h : TimersOk t) : t.heap.length ≤ 1048576 ∧ t.list.length ≤ 1048576 := by
  have := h.2.2.1.1
  have := h.2.1
  omega

theorem zero_few : timers0.heap.length ≤ 1048576 ∧ timers0.list.length ≤ 1048576 := ⟨Nat.zero_le _, Nat.zero_le _⟩

theorem stopped_few (t : Timers) (q : Int) : (Stopped t q).1.heap.length ≤ 1048576 ∧ (Stopped t q).1.list.length ≤ 1048576 := by
  unfold Stopped; split
  · rename_i h; exact ok_few (stopT_ok q h)
  · exact zero_few
theorem armed_few (t : Timers) (d w h : Int) : (Armed t d w h).1.heap.length ≤ 1048576 ∧ (Armed t d w h).1.list.length ≤ 1048576 := by
  unfold Armed; split
  · rename_i hk; exact ok_few (armT_ok d w h hk)
  · exact zero_few
theorem reset_few (t : Timers) (q d : Int) : (Reset t q d).1.heap.length ≤ 1048576 ∧ (Reset t q d).1.list.length ≤ 1048576 := by
  unfold Reset; split
  · rename_i h; exact ok_few (resetT_ok q d h)
  · exact zero_few
theorem fired_few (t : Timers) (n : Int) : (Fired t n).1.heap.length ≤ 1048576 ∧ (Fired t n).1.list.length ≤ 1048576 := by
  unfold Fired; split
  · rename_i h; exact ok_few (fireT_ok n h)
  · exact zero_few
theorem forgotten_few (t : Timers) (q : Int) : (Forgotten t q).1.heap.length ≤ 1048576 ∧ (Forgotten t q).1.list.length ≤ 1048576 := by
  unfold Forgotten; split
  · rename_i h; exact ok_few (forgetT_ok q h)
  · exact zero_few

end Go.Proofs.Ytmbckmfihcojoaa.AM
