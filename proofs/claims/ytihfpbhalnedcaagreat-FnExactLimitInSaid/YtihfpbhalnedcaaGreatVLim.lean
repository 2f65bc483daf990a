/- LimitIn: plain. (printed by split_v.py) -/
import Derived.Test.YtihfpbhalnedcaaGreatV0
set_option linter.unusedVariables false
set_option linter.unusedSimpArgs false
namespace Go.Proofs.YtihfpbhalnedcaaGreat.AM
open Go Go.Proofs

def LimitD (g limit : Int) (w : World) : World × Bool :=
  if 0 <= g then (match w.groups[g.toNat]? with
    | some x => if x.active = 0 then ({ w with groups := w.groups.set g.toNat { x with limit := limit } }, true) else (w, false)
    | none => (w, false)) else (w, false)

theorem sumBy_set {α : Type} {f : α -> Nat} : ∀ {l : List α} {i : Nat} {x y : α}, l[i]? = some x -> f y = f x -> sumBy f (l.set i y) = sumBy f l
  | a :: r, 0, x, y, hx, e => by
    simp only [List.getElem?_cons_zero, Option.some.injEq] at hx
    subst hx
    simp only [List.set_cons_zero, sumBy, e]
  | a :: r, i + 1, x, y, hx, e => by
    simp only [List.getElem?_cons_succ] at hx
    simp only [List.set_cons_succ, sumBy, sumBy_set hx e]
  | [], _, _, _, hx, _ => by simp at hx

theorem limitD_total (w : World) (g limit : Int) : (LimitD g limit w).1.total <= w.total + 200 := by
  have hid : w.total <= w.total + 200 := by omega
  unfold LimitD
  split
  · split
    · rename_i x hx
      split
      · simp only [World.total, List.length_set, sumBy_set (f := fun g : Group => g.waits.length) (y := { x with limit := limit }) hx rfl]
        omega
      · exact hid
    · exact hid
  · exact hid

end Go.Proofs.YtihfpbhalnedcaaGreat.AM
