/- AfterIn: plain. (printed by split_v.py) -/
import Derived.Test.YtihfpbhalnedcaaGreatV0
import Derived.Test.YtihfpbhalnedcaaGreatA4
set_option linter.unusedVariables false
set_option linter.unusedSimpArgs false
namespace Go.Proofs.YtihfpbhalnedcaaGreat.AM
open Go Go.Proofs

theorem pairwise_take {α : Type} {R : α -> α -> Prop} {l : List α} : (∀ (j : Nat) (x : α), l[j]? = some x -> ∀ y ∈ l.take j, R y x) ↔ l.Pairwise R := by
  rw [List.pairwise_iff_getElem]
  constructor
  · intro h i j hi hj hij
    refine h j l[j] (List.getElem?_eq_getElem hj) l[i] (List.mem_of_getElem? (i := i) ?_)
    rw [List.getElem?_take_of_lt hij, List.getElem?_eq_getElem hi]
  · intro h j x hx y hy
    obtain ⟨i, hi⟩ := List.getElem?_of_mem hy
    have hij : i < j := by
      have := lt_of_get hi
      simp at this; omega
    rw [List.getElem?_take_of_lt hij] at hi
    obtain ⟨h1, e1⟩ := List.getElem?_eq_some_iff.1 hi
    obtain ⟨h2, e2⟩ := List.getElem?_eq_some_iff.1 hx
    have := h i j h1 h2 hij
    rwa [e1, e2] at this

def AfterIs (s : Slots) (x : After) : Prop := Holds s x.handle /\ (0 <= x.node /\ x.node <= 59) /\ (0 <= x.func /\ x.func <= 99)

theorem aftersOk_iff {a : Afters} : AftersOk a ↔ SlotsOk a.slots /\ a.list.length = usedN a.slots.used /\ (∀ x ∈ a.list, AfterIs a.slots x) /\ a.list.Pairwise (fun x y => x.handle ≠ y.handle) := by
  constructor
  · intro h
    refine ⟨h.1, h.2.1, fun x hx => ?_, pairwise_take.1 fun j x hx y hy => (h.get hx).2.2.2 y hy⟩
    obtain ⟨j, hj⟩ := List.getElem?_of_mem hx
    have := h.get hj
    exact ⟨this.1, this.2.1, this.2.2.1⟩
  · rintro ⟨h1, h2, h3, h4⟩
    refine .of h1 h2 fun j x hx => ?_
    have h5 := h3 x (mem_at hx)
    exact ⟨h5.1, h5.2.1, h5.2.2, pairwise_take.2 h4 j x hx⟩

theorem usedN_set_true : ∀ {l : List Bool} {j : Nat}, l[j]? = some false -> usedN (l.set j true) = usedN l + 1
  | b :: r, 0, h => by
    simp only [List.getElem?_cons_zero, Option.some.injEq] at h
    subst h
    simp [usedN]
  | b :: r, j + 1, h => by
    have := usedN_set_true (l := r) (j := j) (by simpa using h)
    unfold usedN at this ⊢
    cases b <;> simp [this]

theorem take_cases (s : Slots) (hok : SlotsOk s) : (Take s).2.2 = false /\ Take s = (s, handle0, false) ∨ ∃ (j : Nat) (a : Int), s.used[j]? = some false /\ s.ages[j]? = some a /\ Take s = ({ s with used := s.used.set j true }, ⟨(j : Int), a⟩, true) := by
  unfold Take
  cases hf : firstFree s with
  | none => exact .inl ⟨rfl, rfl⟩
  | some j =>
    refine .inr ⟨j, ?_⟩
    have h1 := List.find?_range_eq_some.1 hf
    have h2 : isFree s j := by simpa using h1.1
    obtain ⟨a, ha⟩ : ∃ a, s.ages[j]? = some a := get_of_lt (by simpa using h1.2.1)
    exact ⟨a, h2.1, ha, by dsimp only; rw [ha]; rfl⟩

theorem register_ok {a : Afters} (h : AftersOk a) (node fn : Int) : AftersOk (Register a node fn).1 := by
  unfold Register
  split
  · rename_i hc
    obtain ⟨hn, ht⟩ := hc
    obtain ⟨h1, h2, h3, h4⟩ := aftersOk_iff.1 h
    rcases take_cases a.slots h1 with ⟨e, _⟩ | ⟨j, g, hu, hg, e⟩
    · rw [e] at ht; cases ht
    rw [e]
    have hj : j < a.slots.used.length := lt_of_get hu
    refine aftersOk_iff.2 ⟨⟨h1.1, by simpa using h1.2.1, h1.2.2⟩, ?_, fun x hx => ?_, ?_⟩
    · show (a.list ++ _).length = usedN (a.slots.used.set j true)
      rw [usedN_set_true hu, List.length_append, h2]
      rfl
    · rcases List.mem_append.1 hx with hx | hx
      · obtain ⟨k1, k2, k3⟩ := h3 x hx
        refine ⟨⟨k1.1, ?_, k1.2.2⟩, k2, k3⟩
        show (a.slots.used.set j true)[x.handle.slot.toNat]? = some true
        rw [List.getElem?_set]
        split
        · first | rfl | rw [if_pos (by omega)]
        · exact k1.2.1
      · rw [List.mem_singleton.1 hx]
        refine ⟨⟨⟨by simp [After.handle], ?_⟩, ?_, ?_⟩, hn.1, hn.2⟩
        · show ((j : Int)).toNat < a.slots.ages.length
          have := lt_of_get hg
          omega
        · show (a.slots.used.set j true)[((j : Int)).toNat]? = some true
          rw [Int.toNat_natCast, List.getElem?_set_self hj]
        · show a.slots.ages[((j : Int)).toNat]? = some g
          rw [Int.toNat_natCast]; exact hg
    · refine List.pairwise_append.2 ⟨h4, by simp, fun x hx y hy => ?_⟩
      rw [List.mem_singleton.1 hy]
      intro e2
      have k1 := (h3 x hx).1.2.1
      have e3 : x.handle.slot = (j : Int) := congrArg Handle.slot e2
      rw [e3, Int.toNat_natCast, hu] at k1
      cases k1
  · exact h

theorem queueIf_handle (node : Int) (x : After) : (queueIf node x).handle = x.handle := by unfold queueIf; split <;> rfl

theorem queueIf_node (node : Int) (x : After) : (queueIf node x).node = x.node := by unfold queueIf; split <;> rfl

theorem queueIf_func (node : Int) (x : After) : (queueIf node x).func = x.func := by unfold queueIf; split <;> rfl

theorem queue_ok {a : Afters} (h : AftersOk a) (node : Int) : AftersOk { a with list := a.list.map (queueIf node) } := by
  obtain ⟨h1, h2, h3, h4⟩ := aftersOk_iff.1 h
  refine aftersOk_iff.2 ⟨h1, by simpa using h2, fun x hx => ?_, ?_⟩
  · obtain ⟨y, hy, rfl⟩ := List.mem_map.1 hx
    obtain ⟨k1, k2, k3⟩ := h3 y hy
    exact ⟨by rw [queueIf_handle]; exact k1, by rw [queueIf_node]; exact k2, by rw [queueIf_func]; exact k3⟩
  · rw [List.pairwise_map]
    exact h4.imp fun hxy => by rw [queueIf_handle, queueIf_handle]; exact hxy

def afterA (w : World) (n fn : Int) : Afters := if w.spread.told[n.toNat]? = some true then { (Register w.afters n fn).1 with list := (Register w.afters n fn).1.list.map (queueIf n) } else (Register w.afters n fn).1

def AfterD (n fn : Int) (w : World) : World × Bool := if (0 <= n /\ n.toNat < w.tree.length) /\ (Register w.afters n fn).2.2 = true then ({ w with afters := afterA w n fn }, true) else (w, false)

def AfterIn (w : World) (n fn : Int) : World × Handle × Bool :=
  if WorldOk w then (if (0 <= n /\ n.toNat < w.tree.length) /\ (Register w.afters n fn).2.2 = true then ({ w with afters := afterA w n fn }, (Register w.afters n fn).2.1, true) else (w, handle0, false)) else (world0, handle0, false)

theorem register_list (a : Afters) (n fn : Int) : ∀ x ∈ (Register a n fn).1.list, x ∈ a.list ∨ x.node = n := by
  unfold Register
  split
  · intro x hx
    rcases List.mem_append.1 hx with hx | hx
    · exact .inl hx
    · rw [List.mem_singleton.1 hx]; exact .inr rfl
  · exact fun x hx => .inl hx

theorem after_kept {w : World} {n fn : Int} (h : WorldOk w) (he : (AfterD n fn w).2 = true) : WorldOk (AfterD n fn w).1 := by
  unfold AfterD at he ⊢
  split at he
  · rename_i hc
    rw [if_pos hc]
    have ha := h.2.2.2.2.2.2.1
    have hr := register_ok ha.1 n fn
    have hl : ∀ x ∈ (Register w.afters n fn).1.list, 0 <= x.node /\ x.node.toNat < w.tree.length := fun x hx => by
      rcases register_list _ _ _ x hx with hx | hx
      · exact ha.2 x hx
      · rw [hx]; exact hc.1
    refine h.withAfters ?_ ?_
    · unfold afterA
      split
      · exact queue_ok hr n
      · exact hr
    · unfold afterA
      split
      · intro x hx
        obtain ⟨y, hy, rfl⟩ := List.mem_map.1 hx
        rw [queueIf_node]
        exact hl y hy
      · exact hl
  · cases he

theorem afterIn_asked (w : World) (n fn : Int) : AfterIn w n fn = if (Asked w (AfterD n fn)).2 = true then ((Asked w (AfterD n fn)).1, (Register w.afters n fn).2.1, true) else ((Asked w (AfterD n fn)).1, handle0, false) := by
  rw [asked_kept (fun h e => after_kept h e)]
  unfold AfterIn
  by_cases h : WorldOk w
  · simp only [if_pos h]
    by_cases hc : (0 <= n /\ n.toNat < w.tree.length) /\ (Register w.afters n fn).2.2 = true
    · simp only [AfterD, if_pos hc, if_true]
    · simp only [AfterD, if_neg hc, Bool.false_eq_true, if_false]
  · simp only [if_neg h, Bool.false_eq_true, if_false]

theorem register_total (a : Afters) (n fn : Int) : (Register a n fn).1.total <= a.total + 1 := by
  unfold Register
  split
  · have := take_len a.slots
    simp only [Afters.total, List.length_append, List.length_cons, List.length_nil]
    omega
  · show a.total <= a.total + 1
    omega

theorem afterD_total (w : World) (n fn : Int) : (AfterD n fn w).1.total <= w.total + 200 := by
  unfold AfterD
  split
  · have h := register_total w.afters n fn
    have e : (afterA w n fn).total = (Register w.afters n fn).1.total := by
      unfold afterA
      split
      · simp only [Afters.total, List.length_map]
      · rfl
    simp only [World.total]
    rw [e]
    omega
  · show w.total <= w.total + 200
    omega

theorem afterIn_one (w : World) (n fn : Int) : (AfterIn w n fn).1 = (Asked w (AfterD n fn)).1 := by
  rw [afterIn_asked]
  split <;> rfl

end Go.Proofs.YtihfpbhalnedcaaGreat.AM
