/- AskIn: plain. (printed by split_v.py) -/
import Derived.Test.YtihfpbhalnedcaaGreatV0
set_option linter.unusedVariables false
set_option linter.unusedSimpArgs false
namespace Go.Proofs.YtihfpbhalnedcaaGreat.AM
open Go Go.Proofs

def sightOf (w : World) (n : Int) : Sight := ⟨n, (FirstE w.tree w.events n).1.err, (FirstE w.tree w.events n).1.cause, w.events.length⟩

def seenW (w : World) (n : Int) : World := { w with sights := if w.sights.length < 2000 then w.sights ++ [sightOf w n] else w.sights }

def AskD (n : Int) (w : World) : World × Bool := if 0 <= n /\ n.toNat < w.tree.length then (seenW w n, true) else (w, false)

def AskIn (w : World) (n : Int) : World × Int × Int :=
  if WorldOk w /\ 0 <= n /\ n.toNat < w.tree.length then (seenW w n, (FirstE w.tree w.events n).1.err, (FirstE w.tree w.events n).1.cause) else (if WorldOk w then w else world0, 0, 0)

theorem firstE_fits {t : List Node} {l : List Event} (h : EventsOk t l) (n : Int) : ((FirstE t l n).1.err = 1 /\ 0 <= (FirstE t l n).1.cause /\ (FirstE t l n).1.cause <= 999) ∨ (((FirstE t l n).1.err = 0 ∨ (FirstE t l n).1.err = 2) /\ (FirstE t l n).1.cause = 0) := by
  unfold FirstE
  split
  · rename_i e he
    have hm := List.mem_of_find?_eq_some he
    obtain ⟨j, hj⟩ := List.getElem?_of_mem hm
    obtain ⟨x, hx, hat⟩ := (h.get hj).1.2
    rcases hat with ⟨h1, h2, h3⟩ | ⟨h1, h2, h3, h4⟩
    · exact .inl ⟨h1, h3⟩
    · exact .inr ⟨.inr h1, h4⟩
  · exact .inr ⟨.inl rfl, rfl⟩

theorem seenW_ok {w : World} {n : Int} (h : WorldOk w) (hn : 0 <= n /\ n.toNat < w.tree.length) : WorldOk (seenW w n) := by
  unfold seenW
  by_cases hl : w.sights.length < 2000
  · rw [if_pos hl]
    exact h.withSight hl ⟨hn, ⟨Int.natCast_nonneg _, Int.le_refl _⟩, firstE_fits h.2.2.1 n⟩
  · rw [if_neg hl]; exact h

theorem askIn_asked (w : World) (n : Int) : AskIn w n = if (Asked w (AskD n)).2 = true then ((Asked w (AskD n)).1, (FirstE w.tree w.events n).1.err, (FirstE w.tree w.events n).1.cause) else ((Asked w (AskD n)).1, 0, 0) := by
  rw [asked_kept (fun h e => ?_)]
  · unfold AskIn
    by_cases h : WorldOk w
    · simp only [if_pos h]
      by_cases hc : 0 <= n /\ n.toNat < w.tree.length
      · rw [if_pos ⟨h, hc⟩]; simp only [AskD, if_pos hc, if_true]
      · rw [if_neg (fun e => hc e.2)]; simp only [AskD, if_neg hc, Bool.false_eq_true, if_false]
    · rw [if_neg (fun e => h e.1)]; simp only [if_neg h, Bool.false_eq_true, if_false]
  · unfold AskD at e ⊢
    split at e
    · rename_i hc
      rw [if_pos hc]; exact seenW_ok h hc
    · cases e

theorem askD_total (w : World) (n : Int) : (AskD n w).1.total <= w.total + 200 := by
  unfold AskD
  split
  · unfold seenW
    split
    · simp only [World.total, List.length_append, List.length_cons, List.length_nil]
      omega
    · simp only [World.total]; omega
  · show w.total <= w.total + 200
    omega

theorem askIn_one (w : World) (n : Int) : (AskIn w n).1 = (Asked w (AskD n)).1 := by
  rw [askIn_asked]
  split <;> rfl

end Go.Proofs.YtihfpbhalnedcaaGreat.AM
