/- Readers of what the laws are given. (printed by genrows.py) -/
import Derived.Test.YtmbckmfihcojoaaD2
import Derived.Test.YtmbckmfihcojoaaBC
import Derived.Test.YtmbckmfihcojoaaRows
namespace Go.Proofs.Ytmbckmfihcojoaa
open Go Go.ChangeShapes Go.WideShapes Go.ChangeAt Go.RowKit Go.Proofs.Ytmbckmfihcojoaa.AM

set_option maxRecDepth 100000
set_option linter.unusedVariables false

theorem Am.own : ownKnob Try.prog.godebug = none := by kernel_rfl
theorem Am.laidOut : laidOutB Try.prog = true := by kernel_rfl

def Am.kt (t : Nat) : Prop := t = 2 ∨ t = 24 ∨ t = 4 ∨ t = 23 ∨ t = 40 ∨ t = 60 ∨ t = 109 ∨ t = 22 ∨ t = 26 ∨ t = 187 ∨ t = 41 ∨ t = 43 ∨ t = 209 ∨ t = 85 ∨ t = 211 ∨ t = 86 ∨ t = 88

theorem Am.kt_ok : ClosedT tab Am.kt := by
  rintro t (rfl | rfl | rfl | rfl | rfl | rfl | rfl | rfl | rfl | rfl | rfl | rfl | rfl | rfl | rfl | rfl | rfl)
  · exact ⟨_, rfl, rfl⟩
  · exact ⟨_, rfl, rfl, .inl rfl, _, rfl, by decide⟩
  · exact ⟨_, rfl, rfl⟩
  · exact ⟨_, rfl, rfl, .inr (.inr (.inl rfl)), _, rfl, by decide⟩
  · exact ⟨_, rfl, ⟨rfl, .inr (.inl rfl), _, rfl, ⟨rfl, .inr (.inr (.inr (.inl rfl))), _, rfl, rfl⟩⟩⟩
  · exact ⟨_, rfl, ⟨rfl, .inl rfl, _, rfl, ⟨rfl, .inl rfl, _, rfl, rfl⟩⟩⟩
  · exact ⟨_, rfl, ⟨rfl, .inl rfl, _, rfl, ⟨rfl, .inl rfl, _, rfl, ⟨rfl, .inl rfl, _, rfl, ⟨rfl, .inl rfl, _, rfl, ⟨rfl, .inl rfl, _, rfl, rfl⟩⟩⟩⟩⟩⟩
  · exact ⟨_, rfl, rfl, .inr (.inr (.inr (.inr (.inr (.inr (.inl rfl)))))), _, rfl, by decide⟩
  · exact ⟨_, rfl, ⟨rfl, .inr (.inr (.inr (.inl rfl))), _, rfl, ⟨rfl, .inr (.inl rfl), _, rfl, rfl⟩⟩⟩
  · exact ⟨_, rfl, ⟨rfl, .inr (.inr (.inr (.inr (.inr (.inl rfl))))), _, rfl, ⟨rfl, .inl rfl, _, rfl, ⟨rfl, .inl rfl, _, rfl, ⟨rfl, .inr (.inr (.inl rfl)), _, rfl, rfl⟩⟩⟩⟩⟩
  · exact ⟨_, rfl, rfl, .inr (.inr (.inr (.inr (.inr (.inr (.inr (.inr (.inr (.inl rfl))))))))), _, rfl, by decide⟩
  · exact ⟨_, rfl, ⟨rfl, .inr (.inr (.inr (.inr (.inl rfl)))), _, rfl, ⟨rfl, .inr (.inr (.inr (.inr (.inr (.inr (.inr (.inr (.inr (.inr (.inl rfl)))))))))), _, rfl, rfl⟩⟩⟩
  · exact ⟨_, rfl, ⟨rfl, .inl rfl, _, rfl, ⟨rfl, .inl rfl, _, rfl, ⟨rfl, .inl rfl, _, rfl, rfl⟩⟩⟩⟩
  · exact ⟨_, rfl, rfl, .inr (.inr (.inr (.inr (.inr (.inr (.inr (.inr (.inr (.inr (.inr (.inr (.inl rfl)))))))))))), _, rfl, by decide⟩
  · exact ⟨_, rfl, ⟨rfl, .inl rfl, _, rfl, ⟨rfl, .inl rfl, _, rfl, ⟨rfl, .inl rfl, _, rfl, ⟨rfl, .inl rfl, _, rfl, ⟨rfl, .inr (.inr (.inl rfl)), _, rfl, rfl⟩⟩⟩⟩⟩⟩
  · exact ⟨_, rfl, rfl, .inr (.inr (.inr (.inr (.inr (.inr (.inr (.inr (.inr (.inr (.inr (.inr (.inr (.inr (.inl rfl)))))))))))))), _, rfl, by decide⟩
  · exact ⟨_, rfl, ⟨rfl, .inr (.inr (.inr (.inr (.inr (.inr (.inr (.inr (.inr (.inr (.inr (.inr (.inr (.inl rfl))))))))))))), _, rfl, ⟨rfl, .inr (.inr (.inr (.inr (.inr (.inr (.inr (.inr (.inr (.inr (.inr (.inr (.inr (.inr (.inr (.inl rfl))))))))))))))), _, rfl, ⟨rfl, .inl rfl, _, rfl, rfl⟩⟩⟩⟩

theorem Am.int_sh {avs : List AV} (h : Shape tab 2 avs) : ∃ x : Int, avs = [.int .i64 x] := by
  obtain ⟨n, e⟩ := h.isInt rfl rfl
  exact ⟨n, e⟩

theorem Am.int_of {v : AV} (h : ArgOk tab 2 v) : ∃ x : Int, [v] = [.int .i64 x] := by
  obtain ⟨i, avs, hi, h, hv⟩ := h
  obtain rfl := Option.some.inj hi
  dsimp only at hv
  subst hv
  exact Am.int_sh h

theorem Am.S_Int64_sh {avs : List AV} (h : Shape tab 24 avs) : ∃ x : List Int, avs = [.ro (sy.enc cInt64 x)] := by
  obtain ⟨rows, e, hr⟩ := h.isSlice rfl rfl
  suffices ∀ {rows : List (List AV)}, (∀ r ∈ rows, Shape tab 2 r) → ∃ l : List Int, rows = sy.enc cInt64 l by
    obtain ⟨l, hl⟩ := this hr
    exact ⟨l, by rw [e, hl]⟩
  intro rows hr
  induction rows with
  | nil => exact ⟨[], rfl⟩
  | cons r rs ih =>
    obtain ⟨x, hx⟩ := Am.int_sh (hr r (by simp))
    obtain ⟨l, hl⟩ := ih fun r h => hr r (by simp [h])
    exact ⟨x :: l, by rw [hx, hl]; rfl⟩

theorem Am.S_Int64_of {v : AV} (h : ArgOk tab 24 v) : ∃ x : List Int, [v] = [.ro (sy.enc cInt64 x)] := by
  obtain ⟨i, avs, hi, h, hv⟩ := h
  obtain rfl := Option.some.inj hi
  dsimp only at hv
  subst hv
  exact Am.S_Int64_sh h

theorem Am.bool_sh {avs : List AV} (h : Shape tab 4 avs) : ∃ x : Bool, avs = [.bool x] := by
  obtain ⟨n, e⟩ := h.isBool rfl rfl
  exact ⟨n, e⟩

theorem Am.bool_of {v : AV} (h : ArgOk tab 4 v) : ∃ x : Bool, [v] = [.bool x] := by
  obtain ⟨i, avs, hi, h, hv⟩ := h
  obtain rfl := Option.some.inj hi
  dsimp only at hv
  subst hv
  exact Am.bool_sh h

theorem Am.S_Bool_sh {avs : List AV} (h : Shape tab 23 avs) : ∃ x : List Bool, avs = [.ro (sy.enc cBool x)] := by
  obtain ⟨rows, e, hr⟩ := h.isSlice rfl rfl
  suffices ∀ {rows : List (List AV)}, (∀ r ∈ rows, Shape tab 4 r) → ∃ l : List Bool, rows = sy.enc cBool l by
    obtain ⟨l, hl⟩ := this hr
    exact ⟨l, by rw [e, hl]⟩
  intro rows hr
  induction rows with
  | nil => exact ⟨[], rfl⟩
  | cons r rs ih =>
    obtain ⟨x, hx⟩ := Am.bool_sh (hr r (by simp))
    obtain ⟨l, hl⟩ := ih fun r h => hr r (by simp [h])
    exact ⟨x :: l, by rw [hx, hl]; rfl⟩

theorem Am.S_Bool_of {v : AV} (h : ArgOk tab 23 v) : ∃ x : List Bool, [v] = [.ro (sy.enc cBool x)] := by
  obtain ⟨i, avs, hi, h, hv⟩ := h
  obtain rfl := Option.some.inj hi
  dsimp only at hv
  subst hv
  exact Am.S_Bool_sh h

theorem Am.Slots_sh {avs : List AV} (h : Shape tab 40 avs) : ∃ x : AM.Slots, avs = roSlots sy x := by
  have k0 := h.isStruct rfl rfl
  obtain ⟨a1, b1, e1, h1, k1⟩ := k0.un
  obtain ⟨a2, b2, e2, h2, k2⟩ := k1.un
  obtain ⟨n1, f1⟩ := Am.S_Int64_sh h1
  obtain ⟨n2, f2⟩ := Am.S_Bool_sh h2
  have e3 := k2.done
  rw [e1, e2, f1, f2, e3]
  exact ⟨⟨n1, n2⟩, rfl⟩

theorem Am.Slots_of {v : AV} (h : ArgOk tab 40 v) : ∃ x : AM.Slots, v = .agg (roSlots sy x) := by
  obtain ⟨i, avs, hi, h, hv⟩ := h
  obtain rfl := Option.some.inj hi
  dsimp only at hv
  subst hv
  obtain ⟨x, e⟩ := Am.Slots_sh h
  exact ⟨x, by rw [e]⟩

theorem Am.Handle_sh {avs : List AV} (h : Shape tab 60 avs) : ∃ x : AM.Handle, avs = cHandle x := by
  have k0 := h.isStruct rfl rfl
  obtain ⟨a1, b1, e1, h1, k1⟩ := k0.un
  obtain ⟨a2, b2, e2, h2, k2⟩ := k1.un
  obtain ⟨n1, f1⟩ := Am.int_sh h1
  obtain ⟨n2, f2⟩ := Am.int_sh h2
  have e3 := k2.done
  rw [e1, e2, f1, f2, e3]
  exact ⟨⟨n1, n2⟩, rfl⟩

theorem Am.Handle_of {v : AV} (h : ArgOk tab 60 v) : ∃ x : AM.Handle, v = .agg (cHandle x) := by
  obtain ⟨i, avs, hi, h, hv⟩ := h
  obtain rfl := Option.some.inj hi
  dsimp only at hv
  subst hv
  obtain ⟨x, e⟩ := Am.Handle_sh h
  exact ⟨x, by rw [e]⟩

theorem Am.Node_sh {avs : List AV} (h : Shape tab 109 avs) : ∃ x : AM.Node, avs = cNode x := by
  have k0 := h.isStruct rfl rfl
  obtain ⟨a1, b1, e1, h1, k1⟩ := k0.un
  obtain ⟨a2, b2, e2, h2, k2⟩ := k1.un
  obtain ⟨a3, b3, e3, h3, k3⟩ := k2.un
  obtain ⟨a4, b4, e4, h4, k4⟩ := k3.un
  obtain ⟨a5, b5, e5, h5, k5⟩ := k4.un
  obtain ⟨n1, f1⟩ := Am.int_sh h1
  obtain ⟨n2, f2⟩ := Am.int_sh h2
  obtain ⟨n3, f3⟩ := Am.int_sh h3
  obtain ⟨n4, f4⟩ := Am.int_sh h4
  obtain ⟨n5, f5⟩ := Am.int_sh h5
  have e6 := k5.done
  rw [e1, e2, e3, e4, e5, f1, f2, f3, f4, f5, e6]
  exact ⟨⟨n1, n2, n3, n4, n5⟩, rfl⟩

theorem Am.Node_of {v : AV} (h : ArgOk tab 109 v) : ∃ x : AM.Node, v = .agg (cNode x) := by
  obtain ⟨i, avs, hi, h, hv⟩ := h
  obtain rfl := Option.some.inj hi
  dsimp only at hv
  subst hv
  obtain ⟨x, e⟩ := Am.Node_sh h
  exact ⟨x, by rw [e]⟩

theorem Am.S_Node_sh {avs : List AV} (h : Shape tab 22 avs) : ∃ x : List AM.Node, avs = [.ro (sy.enc cNode x)] := by
  obtain ⟨rows, e, hr⟩ := h.isSlice rfl rfl
  suffices ∀ {rows : List (List AV)}, (∀ r ∈ rows, Shape tab 109 r) → ∃ l : List AM.Node, rows = sy.enc cNode l by
    obtain ⟨l, hl⟩ := this hr
    exact ⟨l, by rw [e, hl]⟩
  intro rows hr
  induction rows with
  | nil => exact ⟨[], rfl⟩
  | cons r rs ih =>
    obtain ⟨x, hx⟩ := Am.Node_sh (hr r (by simp))
    obtain ⟨l, hl⟩ := ih fun r h => hr r (by simp [h])
    exact ⟨x :: l, by rw [hx, hl]; rfl⟩

theorem Am.S_Node_of {v : AV} (h : ArgOk tab 22 v) : ∃ x : List AM.Node, [v] = [.ro (sy.enc cNode x)] := by
  obtain ⟨i, avs, hi, h, hv⟩ := h
  obtain rfl := Option.some.inj hi
  dsimp only at hv
  subst hv
  exact Am.S_Node_sh h

theorem Am.Spread_sh {avs : List AV} (h : Shape tab 26 avs) : ∃ x : AM.Spread, avs = roSpread sy x := by
  have k0 := h.isStruct rfl rfl
  obtain ⟨a1, b1, e1, h1, k1⟩ := k0.un
  obtain ⟨a2, b2, e2, h2, k2⟩ := k1.un
  obtain ⟨n1, f1⟩ := Am.S_Bool_sh h1
  obtain ⟨n2, f2⟩ := Am.S_Int64_sh h2
  have e3 := k2.done
  rw [e1, e2, f1, f2, e3]
  exact ⟨⟨n1, n2⟩, rfl⟩

theorem Am.Spread_of {v : AV} (h : ArgOk tab 26 v) : ∃ x : AM.Spread, v = .agg (roSpread sy x) := by
  obtain ⟨i, avs, hi, h, hv⟩ := h
  obtain rfl := Option.some.inj hi
  dsimp only at hv
  subst hv
  obtain ⟨x, e⟩ := Am.Spread_sh h
  exact ⟨x, by rw [e]⟩

theorem Am.After_sh {avs : List AV} (h : Shape tab 187 avs) : ∃ x : AM.After, avs = cAfter x := by
  have k0 := h.isStruct rfl rfl
  obtain ⟨a1, b1, e1, h1, k1⟩ := k0.un
  obtain ⟨a2, b2, e2, h2, k2⟩ := k1.un
  obtain ⟨a3, b3, e3, h3, k3⟩ := k2.un
  obtain ⟨a4, b4, e4, h4, k4⟩ := k3.un
  obtain ⟨n1, f1⟩ := Am.Handle_sh h1
  obtain ⟨n2, f2⟩ := Am.int_sh h2
  obtain ⟨n3, f3⟩ := Am.int_sh h3
  obtain ⟨n4, f4⟩ := Am.bool_sh h4
  have e5 := k4.done
  rw [e1, e2, e3, e4, f1, f2, f3, f4, e5]
  exact ⟨⟨n1.slot, n1.age, n2, n3, n4⟩, rfl⟩

theorem Am.After_of {v : AV} (h : ArgOk tab 187 v) : ∃ x : AM.After, v = .agg (cAfter x) := by
  obtain ⟨i, avs, hi, h, hv⟩ := h
  obtain rfl := Option.some.inj hi
  dsimp only at hv
  subst hv
  obtain ⟨x, e⟩ := Am.After_sh h
  exact ⟨x, by rw [e]⟩

theorem Am.S_After_sh {avs : List AV} (h : Shape tab 41 avs) : ∃ x : List AM.After, avs = [.ro (sy.enc cAfter x)] := by
  obtain ⟨rows, e, hr⟩ := h.isSlice rfl rfl
  suffices ∀ {rows : List (List AV)}, (∀ r ∈ rows, Shape tab 187 r) → ∃ l : List AM.After, rows = sy.enc cAfter l by
    obtain ⟨l, hl⟩ := this hr
    exact ⟨l, by rw [e, hl]⟩
  intro rows hr
  induction rows with
  | nil => exact ⟨[], rfl⟩
  | cons r rs ih =>
    obtain ⟨x, hx⟩ := Am.After_sh (hr r (by simp))
    obtain ⟨l, hl⟩ := ih fun r h => hr r (by simp [h])
    exact ⟨x :: l, by rw [hx, hl]; rfl⟩

theorem Am.S_After_of {v : AV} (h : ArgOk tab 41 v) : ∃ x : List AM.After, [v] = [.ro (sy.enc cAfter x)] := by
  obtain ⟨i, avs, hi, h, hv⟩ := h
  obtain rfl := Option.some.inj hi
  dsimp only at hv
  subst hv
  exact Am.S_After_sh h

theorem Am.Afters_sh {avs : List AV} (h : Shape tab 43 avs) : ∃ x : AM.Afters, avs = roAfters sy x := by
  have k0 := h.isStruct rfl rfl
  obtain ⟨a1, b1, e1, h1, k1⟩ := k0.un
  obtain ⟨a2, b2, e2, h2, k2⟩ := k1.un
  obtain ⟨n1, f1⟩ := Am.Slots_sh h1
  obtain ⟨n2, f2⟩ := Am.S_After_sh h2
  have e3 := k2.done
  rw [e1, e2, f1, f2, e3]
  exact ⟨⟨n1, n2⟩, rfl⟩

theorem Am.Afters_of {v : AV} (h : ArgOk tab 43 v) : ∃ x : AM.Afters, v = .agg (roAfters sy x) := by
  obtain ⟨i, avs, hi, h, hv⟩ := h
  obtain rfl := Option.some.inj hi
  dsimp only at hv
  subst hv
  obtain ⟨x, e⟩ := Am.Afters_sh h
  exact ⟨x, by rw [e]⟩

theorem Am.Twig_sh {avs : List AV} (h : Shape tab 209 avs) : ∃ x : AM.Twig, avs = cTwig x := by
  have k0 := h.isStruct rfl rfl
  obtain ⟨a1, b1, e1, h1, k1⟩ := k0.un
  obtain ⟨a2, b2, e2, h2, k2⟩ := k1.un
  obtain ⟨a3, b3, e3, h3, k3⟩ := k2.un
  obtain ⟨n1, f1⟩ := Am.int_sh h1
  obtain ⟨n2, f2⟩ := Am.int_sh h2
  obtain ⟨n3, f3⟩ := Am.int_sh h3
  have e4 := k3.done
  rw [e1, e2, e3, f1, f2, f3, e4]
  exact ⟨⟨n1, n2, n3⟩, rfl⟩

theorem Am.Twig_of {v : AV} (h : ArgOk tab 209 v) : ∃ x : AM.Twig, v = .agg (cTwig x) := by
  obtain ⟨i, avs, hi, h, hv⟩ := h
  obtain rfl := Option.some.inj hi
  dsimp only at hv
  subst hv
  obtain ⟨x, e⟩ := Am.Twig_sh h
  exact ⟨x, by rw [e]⟩

theorem Am.S_Twig_sh {avs : List AV} (h : Shape tab 85 avs) : ∃ x : List AM.Twig, avs = [.ro (sy.enc cTwig x)] := by
  obtain ⟨rows, e, hr⟩ := h.isSlice rfl rfl
  suffices ∀ {rows : List (List AV)}, (∀ r ∈ rows, Shape tab 209 r) → ∃ l : List AM.Twig, rows = sy.enc cTwig l by
    obtain ⟨l, hl⟩ := this hr
    exact ⟨l, by rw [e, hl]⟩
  intro rows hr
  induction rows with
  | nil => exact ⟨[], rfl⟩
  | cons r rs ih =>
    obtain ⟨x, hx⟩ := Am.Twig_sh (hr r (by simp))
    obtain ⟨l, hl⟩ := ih fun r h => hr r (by simp [h])
    exact ⟨x :: l, by rw [hx, hl]; rfl⟩

theorem Am.S_Twig_of {v : AV} (h : ArgOk tab 85 v) : ∃ x : List AM.Twig, [v] = [.ro (sy.enc cTwig x)] := by
  obtain ⟨i, avs, hi, h, hv⟩ := h
  obtain rfl := Option.some.inj hi
  dsimp only at hv
  subst hv
  exact Am.S_Twig_sh h

theorem Am.Timer_sh {avs : List AV} (h : Shape tab 211 avs) : ∃ x : AM.Timer, avs = cTimer x := by
  have k0 := h.isStruct rfl rfl
  obtain ⟨a1, b1, e1, h1, k1⟩ := k0.un
  obtain ⟨a2, b2, e2, h2, k2⟩ := k1.un
  obtain ⟨a3, b3, e3, h3, k3⟩ := k2.un
  obtain ⟨a4, b4, e4, h4, k4⟩ := k3.un
  obtain ⟨a5, b5, e5, h5, k5⟩ := k4.un
  obtain ⟨n1, f1⟩ := Am.int_sh h1
  obtain ⟨n2, f2⟩ := Am.int_sh h2
  obtain ⟨n3, f3⟩ := Am.int_sh h3
  obtain ⟨n4, f4⟩ := Am.int_sh h4
  obtain ⟨n5, f5⟩ := Am.bool_sh h5
  have e6 := k5.done
  rw [e1, e2, e3, e4, e5, f1, f2, f3, f4, f5, e6]
  exact ⟨⟨n1, n2, n3, n4, n5⟩, rfl⟩

theorem Am.Timer_of {v : AV} (h : ArgOk tab 211 v) : ∃ x : AM.Timer, v = .agg (cTimer x) := by
  obtain ⟨i, avs, hi, h, hv⟩ := h
  obtain rfl := Option.some.inj hi
  dsimp only at hv
  subst hv
  obtain ⟨x, e⟩ := Am.Timer_sh h
  exact ⟨x, by rw [e]⟩

theorem Am.S_Timer_sh {avs : List AV} (h : Shape tab 86 avs) : ∃ x : List AM.Timer, avs = [.ro (sy.enc cTimer x)] := by
  obtain ⟨rows, e, hr⟩ := h.isSlice rfl rfl
  suffices ∀ {rows : List (List AV)}, (∀ r ∈ rows, Shape tab 211 r) → ∃ l : List AM.Timer, rows = sy.enc cTimer l by
    obtain ⟨l, hl⟩ := this hr
    exact ⟨l, by rw [e, hl]⟩
  intro rows hr
  induction rows with
  | nil => exact ⟨[], rfl⟩
  | cons r rs ih =>
    obtain ⟨x, hx⟩ := Am.Timer_sh (hr r (by simp))
    obtain ⟨l, hl⟩ := ih fun r h => hr r (by simp [h])
    exact ⟨x :: l, by rw [hx, hl]; rfl⟩

theorem Am.S_Timer_of {v : AV} (h : ArgOk tab 86 v) : ∃ x : List AM.Timer, [v] = [.ro (sy.enc cTimer x)] := by
  obtain ⟨i, avs, hi, h, hv⟩ := h
  obtain rfl := Option.some.inj hi
  dsimp only at hv
  subst hv
  exact Am.S_Timer_sh h

theorem Am.Timers_sh {avs : List AV} (h : Shape tab 88 avs) : ∃ x : AM.Timers, avs = roTimers sy x := by
  have k0 := h.isStruct rfl rfl
  obtain ⟨a1, b1, e1, h1, k1⟩ := k0.un
  obtain ⟨a2, b2, e2, h2, k2⟩ := k1.un
  obtain ⟨a3, b3, e3, h3, k3⟩ := k2.un
  obtain ⟨n1, f1⟩ := Am.S_Twig_sh h1
  obtain ⟨n2, f2⟩ := Am.S_Timer_sh h2
  obtain ⟨n3, f3⟩ := Am.int_sh h3
  have e4 := k3.done
  rw [e1, e2, e3, f1, f2, f3, e4]
  exact ⟨⟨n1, n2, n3⟩, rfl⟩

theorem Am.Timers_of {v : AV} (h : ArgOk tab 88 v) : ∃ x : AM.Timers, v = .agg (roTimers sy x) := by
  obtain ⟨i, avs, hi, h, hv⟩ := h
  obtain rfl := Option.some.inj hi
  dsimp only at hv
  subst hv
  obtain ⟨x, e⟩ := Am.Timers_sh h
  exact ⟨x, by rw [e]⟩

end Go.Proofs.Ytmbckmfihcojoaa
