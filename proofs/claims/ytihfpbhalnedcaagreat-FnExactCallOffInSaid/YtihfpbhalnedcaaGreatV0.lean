/- Requests of a world: plain. (printed by split_v.py) -/
import Derived.Test.YtihfpbhalnedcaaGreatW8
import Derived.Test.YtihfpbhalnedcaaGreatW10
set_option linter.unusedVariables false
set_option linter.unusedSimpArgs false
namespace Go.Proofs.YtihfpbhalnedcaaGreat.AM
open Go Go.Proofs

def Asked (w : World) (D : World -> World × Bool) : World × Bool :=
  if WorldOk w then (if (D w).2 = true /\ WorldOk (D w).1 then ((D w).1, true) else (w, false)) else (world0, false)

theorem asked_kept {w : World} {D : World -> World × Bool} (hk : WorldOk w -> (D w).2 = true -> WorldOk (D w).1) :
    Asked w D = if WorldOk w then (if (D w).2 = true then ((D w).1, true) else (w, false)) else (world0, false) := by
  unfold Asked
  split
  · rename_i h
    by_cases e : (D w).2 = true
    · rw [if_pos ⟨e, hk h e⟩, if_pos e]
    · rw [if_neg (fun x => e x.1), if_neg e]
  · rfl

theorem WorldOk.withAfters {w : World} (h : WorldOk w) {a : Afters} (ha : AftersOk a) (hn : ∀ x ∈ a.list, 0 <= x.node /\ x.node.toNat < w.tree.length) : WorldOk { w with afters := a } := by
  obtain ⟨h1, h2, h3, h4, h5, h6, h7, h8, h9, h10, h11, h12⟩ := h
  exact ⟨h1, h2, h3, h4, h5, h6, ⟨ha, hn⟩, h8, h9, h10, h11, h12⟩

theorem WorldOk.withTimers {w : World} (h : WorldOk w) {t : Timers} (ht : TimersOk t) (hf : ∀ x ∈ t.list, TimerFits w.tree w.tasks x) : WorldOk { w with timers := t } := by
  obtain ⟨h1, h2, h3, h4, h5, h6, h7, h8, h9, h10, h11, h12⟩ := h
  exact ⟨h1, h2, h3, h4, h5, ⟨ht, hf⟩, h7, h8, h9, h10, h11, h12⟩

theorem WorldOk.withSight {w : World} (h : WorldOk w) {s : Sight} (hl : w.sights.length < 2000) (hs : SightFits w.tree w.events s) : WorldOk { w with sights := w.sights ++ [s] } := by
  obtain ⟨h1, h2, h3, h4, h5, h6, h7, h8, h9, h10, h11, h12⟩ := h
  refine ⟨h1, h2, h3, h4, h5, h6, h7, h8, h9, ⟨?_, fun x hx => ?_⟩, h11, h12⟩
  · show (w.sights ++ [s]).length <= 2000
    rw [List.length_append]
    simp only [List.length_cons, List.length_nil]
    omega
  · rcases List.mem_append.1 hx with hx | hx
    · exact h10.2 x hx
    · rw [List.mem_singleton.1 hx]; exact hs

theorem pick_of {α : Type} {x y : α} {b : Bool} (h : b = false -> x = y) : (x, b) = if b = true then (x, true) else (y, false) := by
  cases b with
  | true => rfl
  | false => rw [h rfl]; rfl

def Either (old w : World) : World × Bool := if WorldOk w then (w, true) else (old, false)

theorem either_asked {w : World} {D : World -> World × Bool} (h : WorldOk w) (hd : (D w).2 = true) : Either w (D w).1 = Asked w D := by
  unfold Either Asked
  rw [if_pos h]
  by_cases hk : WorldOk (D w).1
  · rw [if_pos hk, if_pos ⟨hd, hk⟩]
  · rw [if_neg hk, if_neg (fun e => hk e.2)]

theorem asked_not {w : World} {D : World -> World × Bool} (h : WorldOk w) (hd : (D w).2 = false) : Asked w D = (w, false) := by
  unfold Asked
  rw [if_pos h, if_neg (fun e => by rw [hd] at e; cases e.1)]

theorem asked_bad {w : World} {D : World -> World × Bool} (h : ¬ WorldOk w) : Asked w D = (world0, false) := if_neg h

theorem world0_total : world0.total = 0 := by decide

theorem asked_total {w : World} {D : World -> World × Bool} (h0 : 0 <= w.total) (h : WorldOk w -> (D w).1.total <= w.total + 200) : (Asked w D).1.total <= w.total + 200 := by
  unfold Asked
  split
  · rename_i hw
    split
    · exact h hw
    · show w.total <= w.total + 200
      omega
  · show world0.total <= w.total + 200
    rw [world0_total]; omega

theorem few_asked {w x : World} {D : World -> World × Bool} (ht : w.total <= 1048576) (h0 : 0 <= w.total) (hd : WorldOk w -> (D w).1.total <= w.total + 200) (hx : x = (Asked w D).1) : x.total <= 2097152 := by
  have := asked_total h0 hd
  rw [hx]
  omega

def rWI (A : Sy) (x : World × Int) : AV := .tup [.agg (ownWorld A x.1), .int .i64 x.2]

def rWHB (A : Sy) (x : World × Handle × Bool) : AV := .tup [.agg (ownWorld A x.1), .agg (cHandle x.2.1), .bool x.2.2]

def rWII (A : Sy) (x : World × Int × Int) : AV := .tup [.agg (ownWorld A x.1), .int .i64 x.2.1, .int .i64 x.2.2]

end Go.Proofs.YtihfpbhalnedcaaGreat.AM
