/- CallOffIn: plain. (printed by split_v.py) -/
import Derived.Test.YtihfpbhalnedcaaGreatV0
import Derived.Test.YtihfpbhalnedcaaGreatA6
set_option linter.unusedVariables false
set_option linter.unusedSimpArgs false
namespace Go.Proofs.YtihfpbhalnedcaaGreat.AM
open Go Go.Proofs

theorem pairwise_take {α : Type} {R : α -> α -> Prop} {l : List α} : (∀ (j : Nat) (x : α), l[j]? = some x -> ∀ y ∈ l.take j, R y x) ↔ l.Pairwise R := by
  rw [List.pairwise_iff_getElem]
  constructor
  · intro h i j hi hj hij
    refine h j l[j] (List.getElem?_eq_getElem hj) l[i] (List.mem_of_getElem? (i := i) ?_)
    rw [List.getElem?_take_of_lt hij, List.getElem?_eq_getElem hi]
  · intro h j x hx y hy
    obtain ⟨i, hi⟩ := List.getElem?_of_mem hy
    have hij : i < j := by
      have := lt_of_get hi
      simp at this; omega
    rw [List.getElem?_take_of_lt hij] at hi
    obtain ⟨h1, e1⟩ := List.getElem?_eq_some_iff.1 hi
    obtain ⟨h2, e2⟩ := List.getElem?_eq_some_iff.1 hx
    have := h i j h1 h2 hij
    rwa [e1, e2] at this

def AfterIs (s : Slots) (x : After) : Prop := Holds s x.handle /\ (0 <= x.node /\ x.node <= 59) /\ (0 <= x.func /\ x.func <= 99)

theorem aftersOk_iff {a : Afters} : AftersOk a ↔ SlotsOk a.slots /\ a.list.length = usedN a.slots.used /\ (∀ x ∈ a.list, AfterIs a.slots x) /\ a.list.Pairwise (fun x y => x.handle ≠ y.handle) := by
  constructor
  · intro h
    refine ⟨h.1, h.2.1, fun x hx => ?_, pairwise_take.1 fun j x hx y hy => (h.get hx).2.2.2 y hy⟩
    obtain ⟨j, hj⟩ := List.getElem?_of_mem hx
    have := h.get hj
    exact ⟨this.1, this.2.1, this.2.2.1⟩
  · rintro ⟨h1, h2, h3, h4⟩
    refine .of h1 h2 fun j x hx => ?_
    have h5 := h3 x (mem_at hx)
    exact ⟨h5.1, h5.2.1, h5.2.2, pairwise_take.2 h4 j x hx⟩

theorem usedN_set_false : ∀ {l : List Bool} {j : Nat}, l[j]? = some true -> usedN (l.set j false) + 1 = usedN l
  | b :: r, 0, h => by
    simp only [List.getElem?_cons_zero, Option.some.injEq] at h
    subst h
    simp [usedN]
  | b :: r, j + 1, h => by
    have := usedN_set_false (l := r) (j := j) (by simpa using h)
    unfold usedN at this ⊢
    cases b <;> simp <;> omega

theorem remove_ok {a : Afters} (h : AftersOk a) (i : Nat) : AftersOk (Remove a i).1 /\ (∀ x ∈ (Remove a i).1.list, x ∈ a.list) /\ ((Remove a i).2 = false -> (Remove a i).1 = a) := by
  cases hx : a.list[i]? with
  | none => unfold Remove; rw [hx]; exact ⟨h, fun x hx => hx, fun _ => rfl⟩
  | some x =>
    rw [remove_some hx]
    split
    · rename_i hd
      obtain ⟨h1, h2, h3, h4⟩ := aftersOk_iff.1 h
      have hxm := mem_at hx
      obtain ⟨k1, k2, k3⟩ := h3 x hxm
      unfold Drop at hd ⊢
      split at hd
      · rename_i hc
        rw [if_pos hc]
        have hag := h1.2.2 x.handle.age (mem_at k1.2.2)
        refine ⟨aftersOk_iff.2 ⟨⟨by simpa using h1.1, by simpa using h1.2.1, fun b hb => ?_⟩, ?_, fun y hy => ?_, h4.sublist (List.eraseIdx_sublist ..)⟩, fun y hy => List.mem_of_mem_eraseIdx hy, fun e => by cases e⟩
        · rcases List.mem_or_eq_of_mem_set hb with hb | hb
          · exact h1.2.2 b hb
          · rw [hb]
            have := hc.2
            omega
        · show (a.list.eraseIdx i).length = usedN (a.slots.used.set x.handle.slot.toNat false)
          have e := usedN_set_false k1.2.1
          rw [List.length_eraseIdx_of_lt (lt_of_get hx)]
          omega
        · have hym := List.mem_of_mem_eraseIdx hy
          obtain ⟨g1, g2, g3⟩ := h3 y hym
          have hne : y.handle ≠ x.handle := by
            obtain ⟨j, hj, hjy⟩ := List.mem_eraseIdx_iff_getElem?.1 hy
            rcases Nat.lt_or_gt_of_ne hj with hl | hl
            · obtain ⟨p1, e1⟩ := List.getElem?_eq_some_iff.1 hjy
              obtain ⟨p2, e2⟩ := List.getElem?_eq_some_iff.1 hx
              have := List.pairwise_iff_getElem.1 h4 j i p1 p2 hl
              rwa [e1, e2] at this
            · obtain ⟨p1, e1⟩ := List.getElem?_eq_some_iff.1 hjy
              obtain ⟨p2, e2⟩ := List.getElem?_eq_some_iff.1 hx
              have := List.pairwise_iff_getElem.1 h4 i j p2 p1 hl
              rw [e1, e2] at this
              exact fun e => this e.symm
          have hsl : x.handle.slot.toNat ≠ y.handle.slot.toNat := fun e => by
            refine hne ?_
            have e1 := k1.2.2
            have e2 := g1.2.2
            rw [e, e2] at e1
            have e3 := Option.some.inj e1
            have e4 : y.handle.slot = x.handle.slot := by have := k1.1.1; have := g1.1.1; omega
            cases hx' : x.handle; cases hy' : y.handle
            simp only [hx', hy'] at e3 e4
            subst e3 e4; rfl
          refine ⟨⟨⟨g1.1.1, by simpa using g1.1.2⟩, ?_, ?_⟩, g2, g3⟩
          · show (a.slots.used.set x.handle.slot.toNat false)[y.handle.slot.toNat]? = some true
            rw [List.getElem?_set_ne hsl]; exact g1.2.1
          · show (a.slots.ages.set x.handle.slot.toNat (x.handle.age + 1))[y.handle.slot.toNat]? = some y.handle.age
            rw [List.getElem?_set_ne hsl]; exact g1.2.2
      · cases hd
    · exact ⟨h, fun x hx => hx, fun _ => rfl⟩

theorem callOff_ok {a : Afters} (h : AftersOk a) (hd : Handle) : AftersOk (CallOff a hd).1 /\ (∀ x ∈ (CallOff a hd).1.list, x ∈ a.list) /\ ((CallOff a hd).2 = false -> (CallOff a hd).1 = a) := by
  unfold CallOff
  split
  · split
    · exact remove_ok h _
    · exact ⟨h, fun x hx => hx, fun _ => rfl⟩
  · exact ⟨h, fun x hx => hx, fun _ => rfl⟩

def CallOffD (h : Handle) (w : World) : World × Bool := ({ w with afters := (CallOff w.afters h).1 }, (CallOff w.afters h).2)

def CallOffIn (w : World) (h : Handle) : World × Bool := if WorldOk w then ({ w with afters := (CallOff w.afters h).1 }, (CallOff w.afters h).2) else (world0, false)

theorem callOffIn_asked (w : World) (hd : Handle) : CallOffIn w hd = Asked w (CallOffD hd) := by
  rw [asked_kept (fun h e => ?_)]
  · unfold CallOffIn
    by_cases h : WorldOk w
    · have hc := callOff_ok h.2.2.2.2.2.2.1.1 hd
      simp only [if_pos h, CallOffD]
      exact pick_of fun e => by rw [hc.2.2 e]
    · simp only [if_neg h]
  · have ha := h.2.2.2.2.2.2.1
    have hc := callOff_ok ha.1 hd
    exact h.withAfters hc.1 (fun x hx => ha.2 x (hc.2.1 x hx))

theorem remove_total (a : Afters) (i : Nat) : (Remove a i).1.total <= a.total := by
  cases hx : a.list[i]? with
  | none => unfold Remove; rw [hx]; exact Int.le_refl _
  | some x =>
    rw [remove_some hx]
    split
    · unfold Drop
      split
      · simp only [Afters.total, List.length_set, List.length_eraseIdx_of_lt (lt_of_get hx)]
        omega
      · simp only [Afters.total, List.length_eraseIdx_of_lt (lt_of_get hx)]
        omega
    · exact Int.le_refl _

theorem callOffD_total (w : World) (hd : Handle) : (CallOffD hd w).1.total <= w.total + 200 := by
  have h : (CallOff w.afters hd).1.total <= w.afters.total := by
    unfold CallOff
    split
    · split
      · exact remove_total _ _
      · exact Int.le_refl _
    · exact Int.le_refl _
  simp only [CallOffD, World.total]
  omega

end Go.Proofs.YtihfpbhalnedcaaGreat.AM
