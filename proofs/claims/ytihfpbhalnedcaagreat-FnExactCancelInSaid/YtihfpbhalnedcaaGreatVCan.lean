/- CancelIn: plain. (printed by split_v.py) -/
import Derived.Test.YtihfpbhalnedcaaGreatV0
import Derived.Test.YtihfpbhalnedcaaGreatT4
set_option linter.unusedVariables false
set_option linter.unusedSimpArgs false
namespace Go.Proofs.YtihfpbhalnedcaaGreat.AM
open Go Go.Proofs

theorem eventsOk_append {t : List Node} {l : List Event} {e : Event} : EventsOk t (l ++ [e]) ↔ EventsOk t l /\ EvFits t l e := by
  constructor
  · intro h
    refine ⟨.of h.1 fun j x hx => ?_, ?_⟩
    · have hj := lt_of_get hx
      have := h.get (j := j) (x := x) (by rw [List.getElem?_append_left hj]; exact hx)
      rwa [List.take_append_of_le_length (by omega)] at this
    · have := h.get (j := l.length) (x := e) (by simp)
      rwa [List.take_append_of_le_length (Nat.le_refl _), List.take_length] at this
  · rintro ⟨h1, h2⟩
    refine .of h1.1 fun j x hx => ?_
    by_cases hj : j < l.length
    · rw [List.getElem?_append_left hj] at hx
      rw [List.take_append_of_le_length (by omega)]
      exact h1.get hx
    · have hl := lt_of_get hx
      rw [List.length_append] at hl
      have hj2 : j = l.length := by simp only [List.length_cons, List.length_nil] at hl; omega
      subst hj2
      rw [List.getElem?_append_right (Nat.le_refl _), Nat.sub_self] at hx
      cases Option.some.inj hx
      rw [List.take_append_of_le_length (Nat.le_refl _), List.take_length]
      exact h2

def CancelD (n err cause : Int) (w : World) : World × Bool :=
  if EvFits w.tree w.events ⟨n, err, cause, w.now⟩ /\ (Begin w.spread n).2 = true then ({ w with events := w.events ++ [⟨n, err, cause, w.now⟩], spread := (Begin w.spread n).1 }, true) else (w, false)

def LetGo (t : List Node) (l : List Event) (e : Event) : List Event × Bool := if EventsOk t l then (if EventsOk t (l ++ [e]) then (l ++ [e], true) else (l, false)) else ([], false)

theorem letGo_ok {t : List Node} {l : List Event} {e : Event} (h : EventsOk t l) : LetGo t l e = if EvFits t l e then (l ++ [e], true) else (l, false) := by
  unfold LetGo
  rw [if_pos h]
  by_cases he : EvFits t l e
  · rw [if_pos he, if_pos (eventsOk_append.2 ⟨h, he⟩)]
  · rw [if_neg he, if_neg (fun x => he (eventsOk_append.1 x).2)]

theorem cancelD_total (w : World) (n err cause : Int) : (CancelD n err cause w).1.total <= w.total + 200 := by
  unfold CancelD
  split
  · have : (Begin w.spread n).1.total <= w.spread.total + 1 := by
      unfold Begin
      split
      · simp only [Spread.total, List.length_append, List.length_cons, List.length_nil]; omega
      · show w.spread.total <= w.spread.total + 1
        omega
    simp only [World.total, List.length_append, List.length_cons, List.length_nil]
    omega
  · show w.total <= w.total + 200
    omega

end Go.Proofs.YtihfpbhalnedcaaGreat.AM
