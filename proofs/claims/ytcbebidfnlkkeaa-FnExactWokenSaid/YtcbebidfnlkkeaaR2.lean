/- Readers of what the laws are given. (printed by genrows.py) -/
import Derived.Test.YtcbebidfnlkkeaaD2
import Derived.Test.YtcbebidfnlkkeaaB26
import Derived.Test.YtcbebidfnlkkeaaRows
namespace Go.Proofs.Ytcbebidfnlkkeaa
open Go Go.ChangeShapes Go.WideShapes Go.ChangeAt Go.RowKit Go.Proofs.Ytcbebidfnlkkeaa.AM

set_option maxRecDepth 100000
set_option linter.unusedVariables false

theorem Am.own : ownKnob Try.prog.godebug = none := by kernel_rfl
theorem Am.laidOut : laidOutB Try.prog = true := by kernel_rfl

def Am.kt (t : Nat) : Prop := t = 2 ∨ t = 22 ∨ t = 4 ∨ t = 23 ∨ t = 25 ∨ t = 50 ∨ t = 109 ∨ t = 37 ∨ t = 39 ∨ t = 114 ∨ t = 55

theorem Am.kt_ok : ClosedT tab Am.kt := by
  rintro t (rfl | rfl | rfl | rfl | rfl | rfl | rfl | rfl | rfl | rfl | rfl)
  · exact ⟨_, rfl, rfl⟩
  · exact ⟨_, rfl, rfl, .inl rfl, _, rfl, by decide⟩
  · exact ⟨_, rfl, rfl⟩
  · exact ⟨_, rfl, rfl, .inr (.inr (.inl rfl)), _, rfl, by decide⟩
  · exact ⟨_, rfl, ⟨rfl, .inr (.inl rfl), _, rfl, ⟨rfl, .inr (.inr (.inr (.inl rfl))), _, rfl, rfl⟩⟩⟩
  · exact ⟨_, rfl, ⟨rfl, .inl rfl, _, rfl, ⟨rfl, .inl rfl, _, rfl, rfl⟩⟩⟩
  · exact ⟨_, rfl, ⟨rfl, .inl rfl, _, rfl, ⟨rfl, .inl rfl, _, rfl, ⟨rfl, .inl rfl, _, rfl, ⟨rfl, .inl rfl, _, rfl, ⟨rfl, .inl rfl, _, rfl, rfl⟩⟩⟩⟩⟩⟩
  · exact ⟨_, rfl, rfl, .inr (.inr (.inr (.inr (.inr (.inr (.inl rfl)))))), _, rfl, by decide⟩
  · exact ⟨_, rfl, ⟨rfl, .inr (.inr (.inr (.inl rfl))), _, rfl, ⟨rfl, .inr (.inl rfl), _, rfl, rfl⟩⟩⟩
  · exact ⟨_, rfl, ⟨rfl, .inl rfl, _, rfl, ⟨rfl, .inl rfl, _, rfl, ⟨rfl, .inl rfl, _, rfl, ⟨rfl, .inl rfl, _, rfl, ⟨rfl, .inl rfl, _, rfl, ⟨rfl, .inl rfl, _, rfl, ⟨rfl, .inl rfl, _, rfl, ⟨rfl, .inl rfl, _, rfl, ⟨rfl, .inl rfl, _, rfl, rfl⟩⟩⟩⟩⟩⟩⟩⟩⟩⟩
  · exact ⟨_, rfl, rfl, .inr (.inr (.inr (.inr (.inr (.inr (.inr (.inr (.inr (.inl rfl))))))))), _, rfl, by decide⟩

theorem Am.int_sh {avs : List AV} (h : Shape tab 2 avs) : ∃ x : Int, avs = [.int .i64 x] := by
  obtain ⟨n, e⟩ := h.isInt rfl rfl
  exact ⟨n, e⟩

theorem Am.int_of {v : AV} (h : ArgOk tab 2 v) : ∃ x : Int, [v] = [.int .i64 x] := by
  obtain ⟨i, avs, hi, h, hv⟩ := h
  obtain rfl := Option.some.inj hi
  dsimp only at hv
  subst hv
  exact Am.int_sh h

theorem Am.S_Int64_sh {avs : List AV} (h : Shape tab 22 avs) : ∃ x : List Int, avs = [.ro (sy.enc cInt64 x)] := by
  obtain ⟨rows, e, hr⟩ := h.isSlice rfl rfl
  suffices ∀ {rows : List (List AV)}, (∀ r ∈ rows, Shape tab 2 r) → ∃ l : List Int, rows = sy.enc cInt64 l by
    obtain ⟨l, hl⟩ := this hr
    exact ⟨l, by rw [e, hl]⟩
  intro rows hr
  induction rows with
  | nil => exact ⟨[], rfl⟩
  | cons r rs ih =>
    obtain ⟨x, hx⟩ := Am.int_sh (hr r (by simp))
    obtain ⟨l, hl⟩ := ih fun r h => hr r (by simp [h])
    exact ⟨x :: l, by rw [hx, hl]; rfl⟩

theorem Am.S_Int64_of {v : AV} (h : ArgOk tab 22 v) : ∃ x : List Int, [v] = [.ro (sy.enc cInt64 x)] := by
  obtain ⟨i, avs, hi, h, hv⟩ := h
  obtain rfl := Option.some.inj hi
  dsimp only at hv
  subst hv
  exact Am.S_Int64_sh h

theorem Am.bool_sh {avs : List AV} (h : Shape tab 4 avs) : ∃ x : Bool, avs = [.bool x] := by
  obtain ⟨n, e⟩ := h.isBool rfl rfl
  exact ⟨n, e⟩

theorem Am.bool_of {v : AV} (h : ArgOk tab 4 v) : ∃ x : Bool, [v] = [.bool x] := by
  obtain ⟨i, avs, hi, h, hv⟩ := h
  obtain rfl := Option.some.inj hi
  dsimp only at hv
  subst hv
  exact Am.bool_sh h

theorem Am.S_Bool_sh {avs : List AV} (h : Shape tab 23 avs) : ∃ x : List Bool, avs = [.ro (sy.enc cBool x)] := by
  obtain ⟨rows, e, hr⟩ := h.isSlice rfl rfl
  suffices ∀ {rows : List (List AV)}, (∀ r ∈ rows, Shape tab 4 r) → ∃ l : List Bool, rows = sy.enc cBool l by
    obtain ⟨l, hl⟩ := this hr
    exact ⟨l, by rw [e, hl]⟩
  intro rows hr
  induction rows with
  | nil => exact ⟨[], rfl⟩
  | cons r rs ih =>
    obtain ⟨x, hx⟩ := Am.bool_sh (hr r (by simp))
    obtain ⟨l, hl⟩ := ih fun r h => hr r (by simp [h])
    exact ⟨x :: l, by rw [hx, hl]; rfl⟩

theorem Am.S_Bool_of {v : AV} (h : ArgOk tab 23 v) : ∃ x : List Bool, [v] = [.ro (sy.enc cBool x)] := by
  obtain ⟨i, avs, hi, h, hv⟩ := h
  obtain rfl := Option.some.inj hi
  dsimp only at hv
  subst hv
  exact Am.S_Bool_sh h

theorem Am.Slots_sh {avs : List AV} (h : Shape tab 25 avs) : ∃ x : AM.Slots, avs = roSlots sy x := by
  have k0 := h.isStruct rfl rfl
  obtain ⟨a1, b1, e1, h1, k1⟩ := k0.un
  obtain ⟨a2, b2, e2, h2, k2⟩ := k1.un
  obtain ⟨n1, f1⟩ := Am.S_Int64_sh h1
  obtain ⟨n2, f2⟩ := Am.S_Bool_sh h2
  have e3 := k2.done
  rw [e1, e2, f1, f2, e3]
  exact ⟨⟨n1, n2⟩, rfl⟩

theorem Am.Slots_of {v : AV} (h : ArgOk tab 25 v) : ∃ x : AM.Slots, v = .agg (roSlots sy x) := by
  obtain ⟨i, avs, hi, h, hv⟩ := h
  obtain rfl := Option.some.inj hi
  dsimp only at hv
  subst hv
  obtain ⟨x, e⟩ := Am.Slots_sh h
  exact ⟨x, by rw [e]⟩

theorem Am.Handle_sh {avs : List AV} (h : Shape tab 50 avs) : ∃ x : AM.Handle, avs = cHandle x := by
  have k0 := h.isStruct rfl rfl
  obtain ⟨a1, b1, e1, h1, k1⟩ := k0.un
  obtain ⟨a2, b2, e2, h2, k2⟩ := k1.un
  obtain ⟨n1, f1⟩ := Am.int_sh h1
  obtain ⟨n2, f2⟩ := Am.int_sh h2
  have e3 := k2.done
  rw [e1, e2, f1, f2, e3]
  exact ⟨⟨n1, n2⟩, rfl⟩

theorem Am.Handle_of {v : AV} (h : ArgOk tab 50 v) : ∃ x : AM.Handle, v = .agg (cHandle x) := by
  obtain ⟨i, avs, hi, h, hv⟩ := h
  obtain rfl := Option.some.inj hi
  dsimp only at hv
  subst hv
  obtain ⟨x, e⟩ := Am.Handle_sh h
  exact ⟨x, by rw [e]⟩

theorem Am.Node_sh {avs : List AV} (h : Shape tab 109 avs) : ∃ x : AM.Node, avs = cNode x := by
  have k0 := h.isStruct rfl rfl
  obtain ⟨a1, b1, e1, h1, k1⟩ := k0.un
  obtain ⟨a2, b2, e2, h2, k2⟩ := k1.un
  obtain ⟨a3, b3, e3, h3, k3⟩ := k2.un
  obtain ⟨a4, b4, e4, h4, k4⟩ := k3.un
  obtain ⟨a5, b5, e5, h5, k5⟩ := k4.un
  obtain ⟨n1, f1⟩ := Am.int_sh h1
  obtain ⟨n2, f2⟩ := Am.int_sh h2
  obtain ⟨n3, f3⟩ := Am.int_sh h3
  obtain ⟨n4, f4⟩ := Am.int_sh h4
  obtain ⟨n5, f5⟩ := Am.int_sh h5
  have e6 := k5.done
  rw [e1, e2, e3, e4, e5, f1, f2, f3, f4, f5, e6]
  exact ⟨⟨n1, n2, n3, n4, n5⟩, rfl⟩

theorem Am.Node_of {v : AV} (h : ArgOk tab 109 v) : ∃ x : AM.Node, v = .agg (cNode x) := by
  obtain ⟨i, avs, hi, h, hv⟩ := h
  obtain rfl := Option.some.inj hi
  dsimp only at hv
  subst hv
  obtain ⟨x, e⟩ := Am.Node_sh h
  exact ⟨x, by rw [e]⟩

theorem Am.S_Node_sh {avs : List AV} (h : Shape tab 37 avs) : ∃ x : List AM.Node, avs = [.ro (sy.enc cNode x)] := by
  obtain ⟨rows, e, hr⟩ := h.isSlice rfl rfl
  suffices ∀ {rows : List (List AV)}, (∀ r ∈ rows, Shape tab 109 r) → ∃ l : List AM.Node, rows = sy.enc cNode l by
    obtain ⟨l, hl⟩ := this hr
    exact ⟨l, by rw [e, hl]⟩
  intro rows hr
  induction rows with
  | nil => exact ⟨[], rfl⟩
  | cons r rs ih =>
    obtain ⟨x, hx⟩ := Am.Node_sh (hr r (by simp))
    obtain ⟨l, hl⟩ := ih fun r h => hr r (by simp [h])
    exact ⟨x :: l, by rw [hx, hl]; rfl⟩

theorem Am.S_Node_of {v : AV} (h : ArgOk tab 37 v) : ∃ x : List AM.Node, [v] = [.ro (sy.enc cNode x)] := by
  obtain ⟨i, avs, hi, h, hv⟩ := h
  obtain rfl := Option.some.inj hi
  dsimp only at hv
  subst hv
  exact Am.S_Node_sh h

theorem Am.Spread_sh {avs : List AV} (h : Shape tab 39 avs) : ∃ x : AM.Spread, avs = roSpread sy x := by
  have k0 := h.isStruct rfl rfl
  obtain ⟨a1, b1, e1, h1, k1⟩ := k0.un
  obtain ⟨a2, b2, e2, h2, k2⟩ := k1.un
  obtain ⟨n1, f1⟩ := Am.S_Bool_sh h1
  obtain ⟨n2, f2⟩ := Am.S_Int64_sh h2
  have e3 := k2.done
  rw [e1, e2, f1, f2, e3]
  exact ⟨⟨n1, n2⟩, rfl⟩

theorem Am.Spread_of {v : AV} (h : ArgOk tab 39 v) : ∃ x : AM.Spread, v = .agg (roSpread sy x) := by
  obtain ⟨i, avs, hi, h, hv⟩ := h
  obtain rfl := Option.some.inj hi
  dsimp only at hv
  subst hv
  obtain ⟨x, e⟩ := Am.Spread_sh h
  exact ⟨x, by rw [e]⟩

theorem Am.Task_sh {avs : List AV} (h : Shape tab 114 avs) : ∃ x : AM.Task, avs = cTask x := by
  have k0 := h.isStruct rfl rfl
  obtain ⟨a1, b1, e1, h1, k1⟩ := k0.un
  obtain ⟨a2, b2, e2, h2, k2⟩ := k1.un
  obtain ⟨a3, b3, e3, h3, k3⟩ := k2.un
  obtain ⟨a4, b4, e4, h4, k4⟩ := k3.un
  obtain ⟨a5, b5, e5, h5, k5⟩ := k4.un
  obtain ⟨a6, b6, e6, h6, k6⟩ := k5.un
  obtain ⟨a7, b7, e7, h7, k7⟩ := k6.un
  obtain ⟨a8, b8, e8, h8, k8⟩ := k7.un
  obtain ⟨a9, b9, e9, h9, k9⟩ := k8.un
  obtain ⟨n1, f1⟩ := Am.int_sh h1
  obtain ⟨n2, f2⟩ := Am.int_sh h2
  obtain ⟨n3, f3⟩ := Am.int_sh h3
  obtain ⟨n4, f4⟩ := Am.int_sh h4
  obtain ⟨n5, f5⟩ := Am.int_sh h5
  obtain ⟨n6, f6⟩ := Am.int_sh h6
  obtain ⟨n7, f7⟩ := Am.int_sh h7
  obtain ⟨n8, f8⟩ := Am.int_sh h8
  obtain ⟨n9, f9⟩ := Am.int_sh h9
  have e10 := k9.done
  rw [e1, e2, e3, e4, e5, e6, e7, e8, e9, f1, f2, f3, f4, f5, f6, f7, f8, f9, e10]
  exact ⟨⟨n1, n2, n3, n4, n5, n6, n7, n8, n9⟩, rfl⟩

theorem Am.Task_of {v : AV} (h : ArgOk tab 114 v) : ∃ x : AM.Task, v = .agg (cTask x) := by
  obtain ⟨i, avs, hi, h, hv⟩ := h
  obtain rfl := Option.some.inj hi
  dsimp only at hv
  subst hv
  obtain ⟨x, e⟩ := Am.Task_sh h
  exact ⟨x, by rw [e]⟩

theorem Am.S_Task_sh {avs : List AV} (h : Shape tab 55 avs) : ∃ x : List AM.Task, avs = [.ro (sy.enc cTask x)] := by
  obtain ⟨rows, e, hr⟩ := h.isSlice rfl rfl
  suffices ∀ {rows : List (List AV)}, (∀ r ∈ rows, Shape tab 114 r) → ∃ l : List AM.Task, rows = sy.enc cTask l by
    obtain ⟨l, hl⟩ := this hr
    exact ⟨l, by rw [e, hl]⟩
  intro rows hr
  induction rows with
  | nil => exact ⟨[], rfl⟩
  | cons r rs ih =>
    obtain ⟨x, hx⟩ := Am.Task_sh (hr r (by simp))
    obtain ⟨l, hl⟩ := ih fun r h => hr r (by simp [h])
    exact ⟨x :: l, by rw [hx, hl]; rfl⟩

theorem Am.S_Task_of {v : AV} (h : ArgOk tab 55 v) : ∃ x : List AM.Task, [v] = [.ro (sy.enc cTask x)] := by
  obtain ⟨i, avs, hi, h, hv⟩ := h
  obtain rfl := Option.some.inj hi
  dsimp only at hv
  subst hv
  exact Am.S_Task_sh h

end Go.Proofs.Ytcbebidfnlkkeaa
