/- Readers of what the laws are given. (printed by genrows.py) -/
import Derived.Test.YtihfpbhalnedcaaGreatDA
import Derived.Test.YtihfpbhalnedcaaGreatBC
import Derived.Test.YtihfpbhalnedcaaGreatRows
set_option linter.unusedVariables false
set_option linter.unusedSimpArgs false
namespace Go.Proofs.YtihfpbhalnedcaaGreat
open Go Go.ChangeShapes Go.WideShapes Go.ChangeAt Go.RowKit Go.Proofs.YtihfpbhalnedcaaGreat.AM

set_option maxRecDepth 100000

theorem Am.own : ownKnob Tryz.prog.godebug = none := by kernel_rfl
theorem Am.laidOut : laidOutB Tryz.prog = true := by kernel_rfl
theorem band {a b : Bool} (h1 : a = true) (h2 : b = true) : (a && b) = true := by rw [h1, h2]; rfl

def Am.kt (t : Nat) : Prop := t = 2 ∨ t = 261 ∨ t = 163 ∨ t = 22 ∨ t = 184 ∨ t = 23 ∨ t = 188 ∨ t = 24 ∨ t = 4 ∨ t = 25 ∨ t = 26 ∨ t = 28 ∨ t = 265 ∨ t = 29 ∨ t = 267 ∨ t = 30 ∨ t = 32 ∨ t = 34 ∨ t = 73 ∨ t = 270 ∨ t = 35 ∨ t = 37 ∨ t = 195 ∨ t = 38 ∨ t = 170 ∨ t = 39 ∨ t = 200 ∨ t = 40 ∨ t = 42

theorem Am.kt_ok : ClosedT tab Am.kt := by
  rintro t (rfl | rfl | rfl | rfl | rfl | rfl | rfl | rfl | rfl | rfl | rfl | rfl | rfl | rfl | rfl | rfl | rfl | rfl | rfl | rfl | rfl | rfl | rfl | rfl | rfl | rfl | rfl | rfl | rfl)
  · exact ⟨_, rfl, rfl⟩
  · exact ⟨_, rfl, ⟨rfl, .inl rfl, _, rfl, ⟨rfl, .inl rfl, _, rfl, ⟨rfl, .inl rfl, _, rfl, rfl⟩⟩⟩⟩
  · exact ⟨_, rfl, rfl, .inr (.inl rfl), _, rfl, by decide⟩
  · exact ⟨_, rfl, rfl, .inr (.inr (.inl rfl)), _, rfl, by decide⟩
  · exact ⟨_, rfl, ⟨rfl, .inl rfl, _, rfl, ⟨rfl, .inl rfl, _, rfl, ⟨rfl, .inl rfl, _, rfl, ⟨rfl, .inl rfl, _, rfl, ⟨rfl, .inl rfl, _, rfl, rfl⟩⟩⟩⟩⟩⟩
  · exact ⟨_, rfl, rfl, .inr (.inr (.inr (.inr (.inl rfl)))), _, rfl, by decide⟩
  · exact ⟨_, rfl, ⟨rfl, .inl rfl, _, rfl, ⟨rfl, .inl rfl, _, rfl, ⟨rfl, .inl rfl, _, rfl, ⟨rfl, .inl rfl, _, rfl, rfl⟩⟩⟩⟩⟩
  · exact ⟨_, rfl, rfl, .inr (.inr (.inr (.inr (.inr (.inr (.inl rfl)))))), _, rfl, by decide⟩
  · exact ⟨_, rfl, rfl⟩
  · exact ⟨_, rfl, rfl, .inr (.inr (.inr (.inr (.inr (.inr (.inr (.inr (.inl rfl)))))))), _, rfl, by decide⟩
  · exact ⟨_, rfl, rfl, .inl rfl, _, rfl, by decide⟩
  · exact ⟨_, rfl, ⟨rfl, .inr (.inr (.inr (.inr (.inr (.inr (.inr (.inr (.inr (.inl rfl))))))))), _, rfl, ⟨rfl, .inr (.inr (.inr (.inr (.inr (.inr (.inr (.inr (.inr (.inr (.inl rfl)))))))))), _, rfl, rfl⟩⟩⟩
  · exact ⟨_, rfl, ⟨rfl, .inl rfl, _, rfl, ⟨rfl, .inl rfl, _, rfl, ⟨rfl, .inl rfl, _, rfl, rfl⟩⟩⟩⟩
  · exact ⟨_, rfl, rfl, .inr (.inr (.inr (.inr (.inr (.inr (.inr (.inr (.inr (.inr (.inr (.inr (.inl rfl)))))))))))), _, rfl, by decide⟩
  · exact ⟨_, rfl, ⟨rfl, .inl rfl, _, rfl, ⟨rfl, .inl rfl, _, rfl, ⟨rfl, .inl rfl, _, rfl, ⟨rfl, .inl rfl, _, rfl, ⟨rfl, .inr (.inr (.inr (.inr (.inr (.inr (.inr (.inr (.inl rfl)))))))), _, rfl, rfl⟩⟩⟩⟩⟩⟩
  · exact ⟨_, rfl, rfl, .inr (.inr (.inr (.inr (.inr (.inr (.inr (.inr (.inr (.inr (.inr (.inr (.inr (.inr (.inl rfl)))))))))))))), _, rfl, by decide⟩
  · exact ⟨_, rfl, ⟨rfl, .inr (.inr (.inr (.inr (.inr (.inr (.inr (.inr (.inr (.inr (.inr (.inr (.inr (.inl rfl))))))))))))), _, rfl, ⟨rfl, .inr (.inr (.inr (.inr (.inr (.inr (.inr (.inr (.inr (.inr (.inr (.inr (.inr (.inr (.inr (.inl rfl))))))))))))))), _, rfl, ⟨rfl, .inl rfl, _, rfl, rfl⟩⟩⟩⟩
  · exact ⟨_, rfl, ⟨rfl, .inr (.inr (.inr (.inr (.inr (.inr (.inr (.inr (.inr (.inr (.inl rfl)))))))))), _, rfl, ⟨rfl, .inr (.inr (.inr (.inr (.inr (.inr (.inr (.inr (.inr (.inl rfl))))))))), _, rfl, rfl⟩⟩⟩
  · exact ⟨_, rfl, ⟨rfl, .inl rfl, _, rfl, ⟨rfl, .inl rfl, _, rfl, rfl⟩⟩⟩
  · exact ⟨_, rfl, ⟨rfl, .inr (.inr (.inr (.inr (.inr (.inr (.inr (.inr (.inr (.inr (.inr (.inr (.inr (.inr (.inr (.inr (.inr (.inr (.inl rfl)))))))))))))))))), _, rfl, ⟨rfl, .inl rfl, _, rfl, ⟨rfl, .inl rfl, _, rfl, ⟨rfl, .inr (.inr (.inr (.inr (.inr (.inr (.inr (.inr (.inl rfl)))))))), _, rfl, rfl⟩⟩⟩⟩⟩
  · exact ⟨_, rfl, rfl, .inr (.inr (.inr (.inr (.inr (.inr (.inr (.inr (.inr (.inr (.inr (.inr (.inr (.inr (.inr (.inr (.inr (.inr (.inr (.inl rfl))))))))))))))))))), _, rfl, by decide⟩
  · exact ⟨_, rfl, ⟨rfl, .inr (.inr (.inr (.inr (.inr (.inr (.inr (.inr (.inr (.inr (.inr (.inr (.inr (.inr (.inr (.inr (.inr (.inl rfl))))))))))))))))), _, rfl, ⟨rfl, .inr (.inr (.inr (.inr (.inr (.inr (.inr (.inr (.inr (.inr (.inr (.inr (.inr (.inr (.inr (.inr (.inr (.inr (.inr (.inr (.inl rfl)))))))))))))))))))), _, rfl, rfl⟩⟩⟩
  · exact ⟨_, rfl, ⟨rfl, .inl rfl, _, rfl, ⟨rfl, .inl rfl, _, rfl, ⟨rfl, .inl rfl, _, rfl, ⟨rfl, .inl rfl, _, rfl, ⟨rfl, .inl rfl, _, rfl, ⟨rfl, .inl rfl, _, rfl, ⟨rfl, .inl rfl, _, rfl, ⟨rfl, .inl rfl, _, rfl, ⟨rfl, .inl rfl, _, rfl, rfl⟩⟩⟩⟩⟩⟩⟩⟩⟩⟩
  · exact ⟨_, rfl, rfl, .inr (.inr (.inr (.inr (.inr (.inr (.inr (.inr (.inr (.inr (.inr (.inr (.inr (.inr (.inr (.inr (.inr (.inr (.inr (.inr (.inr (.inr (.inl rfl)))))))))))))))))))))), _, rfl, by decide⟩
  · exact ⟨_, rfl, ⟨rfl, .inl rfl, _, rfl, ⟨rfl, .inl rfl, _, rfl, ⟨rfl, .inl rfl, _, rfl, ⟨rfl, .inr (.inr (.inr (.inr (.inr (.inr (.inr (.inr (.inr (.inr (.inl rfl)))))))))), _, rfl, ⟨rfl, .inl rfl, _, rfl, rfl⟩⟩⟩⟩⟩⟩
  · exact ⟨_, rfl, rfl, .inr (.inr (.inr (.inr (.inr (.inr (.inr (.inr (.inr (.inr (.inr (.inr (.inr (.inr (.inr (.inr (.inr (.inr (.inr (.inr (.inr (.inr (.inr (.inr (.inl rfl)))))))))))))))))))))))), _, rfl, by decide⟩
  · exact ⟨_, rfl, ⟨rfl, .inl rfl, _, rfl, ⟨rfl, .inl rfl, _, rfl, ⟨rfl, .inl rfl, _, rfl, ⟨rfl, .inl rfl, _, rfl, rfl⟩⟩⟩⟩⟩
  · exact ⟨_, rfl, rfl, .inr (.inr (.inr (.inr (.inr (.inr (.inr (.inr (.inr (.inr (.inr (.inr (.inr (.inr (.inr (.inr (.inr (.inr (.inr (.inr (.inr (.inr (.inr (.inr (.inr (.inr (.inl rfl)))))))))))))))))))))))))), _, rfl, by decide⟩
  · exact ⟨_, rfl, ⟨rfl, .inl rfl, _, rfl, ⟨rfl, .inr (.inr (.inr (.inl rfl))), _, rfl, ⟨rfl, .inr (.inr (.inr (.inr (.inr (.inl rfl))))), _, rfl, ⟨rfl, .inr (.inr (.inr (.inr (.inr (.inr (.inr (.inl rfl))))))), _, rfl, ⟨rfl, .inr (.inr (.inr (.inr (.inr (.inr (.inr (.inr (.inr (.inr (.inr (.inl rfl))))))))))), _, rfl, ⟨rfl, .inr (.inr (.inr (.inr (.inr (.inr (.inr (.inr (.inr (.inr (.inr (.inr (.inr (.inr (.inr (.inr (.inl rfl)))))))))))))))), _, rfl, ⟨rfl, .inr (.inr (.inr (.inr (.inr (.inr (.inr (.inr (.inr (.inr (.inr (.inr (.inr (.inr (.inr (.inr (.inr (.inr (.inr (.inr (.inr (.inl rfl))))))))))))))))))))), _, rfl, ⟨rfl, .inr (.inr (.inr (.inr (.inr (.inr (.inr (.inr (.inr (.inr (.inr (.inr (.inr (.inr (.inr (.inr (.inr (.inr (.inr (.inr (.inr (.inr (.inr (.inl rfl))))))))))))))))))))))), _, rfl, ⟨rfl, .inr (.inr (.inr (.inr (.inr (.inr (.inr (.inr (.inr (.inr (.inr (.inr (.inr (.inr (.inr (.inr (.inr (.inr (.inr (.inr (.inr (.inr (.inr (.inr (.inr (.inl rfl))))))))))))))))))))))))), _, rfl, ⟨rfl, .inr (.inr (.inr (.inr (.inr (.inr (.inr (.inr (.inr (.inr (.inr (.inr (.inr (.inr (.inr (.inr (.inr (.inr (.inr (.inr (.inr (.inr (.inr (.inr (.inr (.inr (.inr (.inl rfl))))))))))))))))))))))))))), _, rfl, ⟨rfl, .inr (.inr (.inr (.inr (.inr (.inr (.inr (.inr (.inr (.inr (.inl rfl)))))))))), _, rfl, ⟨rfl, .inr (.inr (.inr (.inr (.inr (.inr (.inr (.inr (.inr (.inr (.inl rfl)))))))))), _, rfl, rfl⟩⟩⟩⟩⟩⟩⟩⟩⟩⟩⟩⟩⟩

theorem Am.int_sh {avs : List AV} (h : Shape tab 2 avs) : ∃ x : Int, avs = [.int .i64 x] := by
  obtain ⟨n, e⟩ := h.isInt rfl rfl
  exact ⟨n, e⟩

theorem Am.int_of {v : AV} (h : ArgOk tab 2 v) : ∃ x : Int, [v] = [.int .i64 x] := by
  obtain ⟨i, avs, hi, h, hv⟩ := h
  obtain rfl := Option.some.inj hi
  dsimp only at hv
  subst hv
  exact Am.int_sh h

theorem Am.Ins_sh {avs : List AV} (h : Shape tab 261 avs) : ∃ x : AM.Ins, avs = cIns x := by
  have k0 := h.isStruct rfl rfl
  obtain ⟨a1, b1, e1, h1, k1⟩ := k0.un
  obtain ⟨a2, b2, e2, h2, k2⟩ := k1.un
  obtain ⟨a3, b3, e3, h3, k3⟩ := k2.un
  obtain ⟨n1, f1⟩ := Am.int_sh h1
  obtain ⟨n2, f2⟩ := Am.int_sh h2
  obtain ⟨n3, f3⟩ := Am.int_sh h3
  have e4 := k3.done
  rw [e1, e2, e3, f1, f2, f3, e4]
  exact ⟨⟨n1, n2, n3⟩, rfl⟩

theorem Am.Ins_of {v : AV} (h : ArgOk tab 261 v) : ∃ x : AM.Ins, v = .agg (cIns x) := by
  obtain ⟨i, avs, hi, h, hv⟩ := h
  obtain rfl := Option.some.inj hi
  dsimp only at hv
  subst hv
  obtain ⟨x, e⟩ := Am.Ins_sh h
  exact ⟨x, by rw [e]⟩

theorem Am.S_Ins_sh {avs : List AV} (h : Shape tab 163 avs) : ∃ x : List AM.Ins, avs = [.ro (sy.enc cIns x)] := by
  obtain ⟨rows, e, hr⟩ := h.isSlice rfl rfl
  suffices ∀ {rows : List (List AV)}, (∀ r ∈ rows, Shape tab 261 r) -> ∃ l : List AM.Ins, rows = sy.enc cIns l by
    obtain ⟨l, hl⟩ := this hr
    exact ⟨l, by rw [e, hl]⟩
  intro rows hr
  induction rows with
  | nil => exact ⟨[], rfl⟩
  | cons r rs ih =>
    obtain ⟨x, hx⟩ := Am.Ins_sh (hr r (by simp))
    obtain ⟨l, hl⟩ := ih fun r h => hr r (by simp [h])
    exact ⟨x :: l, by rw [hx, hl]; rfl⟩

theorem Am.S_Ins_of {v : AV} (h : ArgOk tab 163 v) : ∃ x : List AM.Ins, [v] = [.ro (sy.enc cIns x)] := by
  obtain ⟨i, avs, hi, h, hv⟩ := h
  obtain rfl := Option.some.inj hi
  dsimp only at hv
  subst hv
  exact Am.S_Ins_sh h

theorem Am.S_S_Ins_sh {avs : List AV} (h : Shape tab 22 avs) : ∃ x : List (List AM.Ins), avs = [.ro (sy.enc (roProg sy) x)] := by
  obtain ⟨rows, e, hr⟩ := h.isSlice rfl rfl
  suffices ∀ {rows : List (List AV)}, (∀ r ∈ rows, Shape tab 163 r) -> ∃ l : List (List AM.Ins), rows = sy.enc (roProg sy) l by
    obtain ⟨l, hl⟩ := this hr
    exact ⟨l, by rw [e, hl]⟩
  intro rows hr
  induction rows with
  | nil => exact ⟨[], rfl⟩
  | cons r rs ih =>
    obtain ⟨x, hx⟩ := Am.S_Ins_sh (hr r (by simp))
    obtain ⟨l, hl⟩ := ih fun r h => hr r (by simp [h])
    exact ⟨x :: l, by rw [hx, hl]; rfl⟩

theorem Am.S_S_Ins_of {v : AV} (h : ArgOk tab 22 v) : ∃ x : List (List AM.Ins), [v] = [.ro (sy.enc (roProg sy) x)] := by
  obtain ⟨i, avs, hi, h, hv⟩ := h
  obtain rfl := Option.some.inj hi
  dsimp only at hv
  subst hv
  exact Am.S_S_Ins_sh h

theorem Am.Node_sh {avs : List AV} (h : Shape tab 184 avs) : ∃ x : AM.Node, avs = cNode x := by
  have k0 := h.isStruct rfl rfl
  obtain ⟨a1, b1, e1, h1, k1⟩ := k0.un
  obtain ⟨a2, b2, e2, h2, k2⟩ := k1.un
  obtain ⟨a3, b3, e3, h3, k3⟩ := k2.un
  obtain ⟨a4, b4, e4, h4, k4⟩ := k3.un
  obtain ⟨a5, b5, e5, h5, k5⟩ := k4.un
  obtain ⟨n1, f1⟩ := Am.int_sh h1
  obtain ⟨n2, f2⟩ := Am.int_sh h2
  obtain ⟨n3, f3⟩ := Am.int_sh h3
  obtain ⟨n4, f4⟩ := Am.int_sh h4
  obtain ⟨n5, f5⟩ := Am.int_sh h5
  have e6 := k5.done
  rw [e1, e2, e3, e4, e5, f1, f2, f3, f4, f5, e6]
  exact ⟨⟨n1, n2, n3, n4, n5⟩, rfl⟩

theorem Am.Node_of {v : AV} (h : ArgOk tab 184 v) : ∃ x : AM.Node, v = .agg (cNode x) := by
  obtain ⟨i, avs, hi, h, hv⟩ := h
  obtain rfl := Option.some.inj hi
  dsimp only at hv
  subst hv
  obtain ⟨x, e⟩ := Am.Node_sh h
  exact ⟨x, by rw [e]⟩

theorem Am.S_Node_sh {avs : List AV} (h : Shape tab 23 avs) : ∃ x : List AM.Node, avs = [.ro (sy.enc cNode x)] := by
  obtain ⟨rows, e, hr⟩ := h.isSlice rfl rfl
  suffices ∀ {rows : List (List AV)}, (∀ r ∈ rows, Shape tab 184 r) -> ∃ l : List AM.Node, rows = sy.enc cNode l by
    obtain ⟨l, hl⟩ := this hr
    exact ⟨l, by rw [e, hl]⟩
  intro rows hr
  induction rows with
  | nil => exact ⟨[], rfl⟩
  | cons r rs ih =>
    obtain ⟨x, hx⟩ := Am.Node_sh (hr r (by simp))
    obtain ⟨l, hl⟩ := ih fun r h => hr r (by simp [h])
    exact ⟨x :: l, by rw [hx, hl]; rfl⟩

theorem Am.S_Node_of {v : AV} (h : ArgOk tab 23 v) : ∃ x : List AM.Node, [v] = [.ro (sy.enc cNode x)] := by
  obtain ⟨i, avs, hi, h, hv⟩ := h
  obtain rfl := Option.some.inj hi
  dsimp only at hv
  subst hv
  exact Am.S_Node_sh h

theorem Am.Event_sh {avs : List AV} (h : Shape tab 188 avs) : ∃ x : AM.Event, avs = cEvent x := by
  have k0 := h.isStruct rfl rfl
  obtain ⟨a1, b1, e1, h1, k1⟩ := k0.un
  obtain ⟨a2, b2, e2, h2, k2⟩ := k1.un
  obtain ⟨a3, b3, e3, h3, k3⟩ := k2.un
  obtain ⟨a4, b4, e4, h4, k4⟩ := k3.un
  obtain ⟨n1, f1⟩ := Am.int_sh h1
  obtain ⟨n2, f2⟩ := Am.int_sh h2
  obtain ⟨n3, f3⟩ := Am.int_sh h3
  obtain ⟨n4, f4⟩ := Am.int_sh h4
  have e5 := k4.done
  rw [e1, e2, e3, e4, f1, f2, f3, f4, e5]
  exact ⟨⟨n1, n2, n3, n4⟩, rfl⟩

theorem Am.Event_of {v : AV} (h : ArgOk tab 188 v) : ∃ x : AM.Event, v = .agg (cEvent x) := by
  obtain ⟨i, avs, hi, h, hv⟩ := h
  obtain rfl := Option.some.inj hi
  dsimp only at hv
  subst hv
  obtain ⟨x, e⟩ := Am.Event_sh h
  exact ⟨x, by rw [e]⟩

theorem Am.S_Event_sh {avs : List AV} (h : Shape tab 24 avs) : ∃ x : List AM.Event, avs = [.ro (sy.enc cEvent x)] := by
  obtain ⟨rows, e, hr⟩ := h.isSlice rfl rfl
  suffices ∀ {rows : List (List AV)}, (∀ r ∈ rows, Shape tab 188 r) -> ∃ l : List AM.Event, rows = sy.enc cEvent l by
    obtain ⟨l, hl⟩ := this hr
    exact ⟨l, by rw [e, hl]⟩
  intro rows hr
  induction rows with
  | nil => exact ⟨[], rfl⟩
  | cons r rs ih =>
    obtain ⟨x, hx⟩ := Am.Event_sh (hr r (by simp))
    obtain ⟨l, hl⟩ := ih fun r h => hr r (by simp [h])
    exact ⟨x :: l, by rw [hx, hl]; rfl⟩

theorem Am.S_Event_of {v : AV} (h : ArgOk tab 24 v) : ∃ x : List AM.Event, [v] = [.ro (sy.enc cEvent x)] := by
  obtain ⟨i, avs, hi, h, hv⟩ := h
  obtain rfl := Option.some.inj hi
  dsimp only at hv
  subst hv
  exact Am.S_Event_sh h

theorem Am.bool_sh {avs : List AV} (h : Shape tab 4 avs) : ∃ x : Bool, avs = [.bool x] := by
  obtain ⟨n, e⟩ := h.isBool rfl rfl
  exact ⟨n, e⟩

theorem Am.bool_of {v : AV} (h : ArgOk tab 4 v) : ∃ x : Bool, [v] = [.bool x] := by
  obtain ⟨i, avs, hi, h, hv⟩ := h
  obtain rfl := Option.some.inj hi
  dsimp only at hv
  subst hv
  exact Am.bool_sh h

theorem Am.S_Bool_sh {avs : List AV} (h : Shape tab 25 avs) : ∃ x : List Bool, avs = [.ro (sy.enc cBool x)] := by
  obtain ⟨rows, e, hr⟩ := h.isSlice rfl rfl
  suffices ∀ {rows : List (List AV)}, (∀ r ∈ rows, Shape tab 4 r) -> ∃ l : List Bool, rows = sy.enc cBool l by
    obtain ⟨l, hl⟩ := this hr
    exact ⟨l, by rw [e, hl]⟩
  intro rows hr
  induction rows with
  | nil => exact ⟨[], rfl⟩
  | cons r rs ih =>
    obtain ⟨x, hx⟩ := Am.bool_sh (hr r (by simp))
    obtain ⟨l, hl⟩ := ih fun r h => hr r (by simp [h])
    exact ⟨x :: l, by rw [hx, hl]; rfl⟩

theorem Am.S_Bool_of {v : AV} (h : ArgOk tab 25 v) : ∃ x : List Bool, [v] = [.ro (sy.enc cBool x)] := by
  obtain ⟨i, avs, hi, h, hv⟩ := h
  obtain rfl := Option.some.inj hi
  dsimp only at hv
  subst hv
  exact Am.S_Bool_sh h

theorem Am.S_Int64_sh {avs : List AV} (h : Shape tab 26 avs) : ∃ x : List Int, avs = [.ro (sy.enc cInt64 x)] := by
  obtain ⟨rows, e, hr⟩ := h.isSlice rfl rfl
  suffices ∀ {rows : List (List AV)}, (∀ r ∈ rows, Shape tab 2 r) -> ∃ l : List Int, rows = sy.enc cInt64 l by
    obtain ⟨l, hl⟩ := this hr
    exact ⟨l, by rw [e, hl]⟩
  intro rows hr
  induction rows with
  | nil => exact ⟨[], rfl⟩
  | cons r rs ih =>
    obtain ⟨x, hx⟩ := Am.int_sh (hr r (by simp))
    obtain ⟨l, hl⟩ := ih fun r h => hr r (by simp [h])
    exact ⟨x :: l, by rw [hx, hl]; rfl⟩

theorem Am.S_Int64_of {v : AV} (h : ArgOk tab 26 v) : ∃ x : List Int, [v] = [.ro (sy.enc cInt64 x)] := by
  obtain ⟨i, avs, hi, h, hv⟩ := h
  obtain rfl := Option.some.inj hi
  dsimp only at hv
  subst hv
  exact Am.S_Int64_sh h

theorem Am.Spread_sh {avs : List AV} (h : Shape tab 28 avs) : ∃ x : AM.Spread, avs = roSpread sy x := by
  have k0 := h.isStruct rfl rfl
  obtain ⟨a1, b1, e1, h1, k1⟩ := k0.un
  obtain ⟨a2, b2, e2, h2, k2⟩ := k1.un
  obtain ⟨n1, f1⟩ := Am.S_Bool_sh h1
  obtain ⟨n2, f2⟩ := Am.S_Int64_sh h2
  have e3 := k2.done
  rw [e1, e2, f1, f2, e3]
  exact ⟨⟨n1, n2⟩, rfl⟩

theorem Am.Spread_of {v : AV} (h : ArgOk tab 28 v) : ∃ x : AM.Spread, v = .agg (roSpread sy x) := by
  obtain ⟨i, avs, hi, h, hv⟩ := h
  obtain rfl := Option.some.inj hi
  dsimp only at hv
  subst hv
  obtain ⟨x, e⟩ := Am.Spread_sh h
  exact ⟨x, by rw [e]⟩

theorem Am.Twig_sh {avs : List AV} (h : Shape tab 265 avs) : ∃ x : AM.Twig, avs = cTwig x := by
  have k0 := h.isStruct rfl rfl
  obtain ⟨a1, b1, e1, h1, k1⟩ := k0.un
  obtain ⟨a2, b2, e2, h2, k2⟩ := k1.un
  obtain ⟨a3, b3, e3, h3, k3⟩ := k2.un
  obtain ⟨n1, f1⟩ := Am.int_sh h1
  obtain ⟨n2, f2⟩ := Am.int_sh h2
  obtain ⟨n3, f3⟩ := Am.int_sh h3
  have e4 := k3.done
  rw [e1, e2, e3, f1, f2, f3, e4]
  exact ⟨⟨n1, n2, n3⟩, rfl⟩

theorem Am.Twig_of {v : AV} (h : ArgOk tab 265 v) : ∃ x : AM.Twig, v = .agg (cTwig x) := by
  obtain ⟨i, avs, hi, h, hv⟩ := h
  obtain rfl := Option.some.inj hi
  dsimp only at hv
  subst hv
  obtain ⟨x, e⟩ := Am.Twig_sh h
  exact ⟨x, by rw [e]⟩

theorem Am.S_Twig_sh {avs : List AV} (h : Shape tab 29 avs) : ∃ x : List AM.Twig, avs = [.ro (sy.enc cTwig x)] := by
  obtain ⟨rows, e, hr⟩ := h.isSlice rfl rfl
  suffices ∀ {rows : List (List AV)}, (∀ r ∈ rows, Shape tab 265 r) -> ∃ l : List AM.Twig, rows = sy.enc cTwig l by
    obtain ⟨l, hl⟩ := this hr
    exact ⟨l, by rw [e, hl]⟩
  intro rows hr
  induction rows with
  | nil => exact ⟨[], rfl⟩
  | cons r rs ih =>
    obtain ⟨x, hx⟩ := Am.Twig_sh (hr r (by simp))
    obtain ⟨l, hl⟩ := ih fun r h => hr r (by simp [h])
    exact ⟨x :: l, by rw [hx, hl]; rfl⟩

theorem Am.S_Twig_of {v : AV} (h : ArgOk tab 29 v) : ∃ x : List AM.Twig, [v] = [.ro (sy.enc cTwig x)] := by
  obtain ⟨i, avs, hi, h, hv⟩ := h
  obtain rfl := Option.some.inj hi
  dsimp only at hv
  subst hv
  exact Am.S_Twig_sh h

theorem Am.Timer_sh {avs : List AV} (h : Shape tab 267 avs) : ∃ x : AM.Timer, avs = cTimer x := by
  have k0 := h.isStruct rfl rfl
  obtain ⟨a1, b1, e1, h1, k1⟩ := k0.un
  obtain ⟨a2, b2, e2, h2, k2⟩ := k1.un
  obtain ⟨a3, b3, e3, h3, k3⟩ := k2.un
  obtain ⟨a4, b4, e4, h4, k4⟩ := k3.un
  obtain ⟨a5, b5, e5, h5, k5⟩ := k4.un
  obtain ⟨n1, f1⟩ := Am.int_sh h1
  obtain ⟨n2, f2⟩ := Am.int_sh h2
  obtain ⟨n3, f3⟩ := Am.int_sh h3
  obtain ⟨n4, f4⟩ := Am.int_sh h4
  obtain ⟨n5, f5⟩ := Am.bool_sh h5
  have e6 := k5.done
  rw [e1, e2, e3, e4, e5, f1, f2, f3, f4, f5, e6]
  exact ⟨⟨n1, n2, n3, n4, n5⟩, rfl⟩

theorem Am.Timer_of {v : AV} (h : ArgOk tab 267 v) : ∃ x : AM.Timer, v = .agg (cTimer x) := by
  obtain ⟨i, avs, hi, h, hv⟩ := h
  obtain rfl := Option.some.inj hi
  dsimp only at hv
  subst hv
  obtain ⟨x, e⟩ := Am.Timer_sh h
  exact ⟨x, by rw [e]⟩

theorem Am.S_Timer_sh {avs : List AV} (h : Shape tab 30 avs) : ∃ x : List AM.Timer, avs = [.ro (sy.enc cTimer x)] := by
  obtain ⟨rows, e, hr⟩ := h.isSlice rfl rfl
  suffices ∀ {rows : List (List AV)}, (∀ r ∈ rows, Shape tab 267 r) -> ∃ l : List AM.Timer, rows = sy.enc cTimer l by
    obtain ⟨l, hl⟩ := this hr
    exact ⟨l, by rw [e, hl]⟩
  intro rows hr
  induction rows with
  | nil => exact ⟨[], rfl⟩
  | cons r rs ih =>
    obtain ⟨x, hx⟩ := Am.Timer_sh (hr r (by simp))
    obtain ⟨l, hl⟩ := ih fun r h => hr r (by simp [h])
    exact ⟨x :: l, by rw [hx, hl]; rfl⟩

theorem Am.S_Timer_of {v : AV} (h : ArgOk tab 30 v) : ∃ x : List AM.Timer, [v] = [.ro (sy.enc cTimer x)] := by
  obtain ⟨i, avs, hi, h, hv⟩ := h
  obtain rfl := Option.some.inj hi
  dsimp only at hv
  subst hv
  exact Am.S_Timer_sh h

theorem Am.Timers_sh {avs : List AV} (h : Shape tab 32 avs) : ∃ x : AM.Timers, avs = roTimers sy x := by
  have k0 := h.isStruct rfl rfl
  obtain ⟨a1, b1, e1, h1, k1⟩ := k0.un
  obtain ⟨a2, b2, e2, h2, k2⟩ := k1.un
  obtain ⟨a3, b3, e3, h3, k3⟩ := k2.un
  obtain ⟨n1, f1⟩ := Am.S_Twig_sh h1
  obtain ⟨n2, f2⟩ := Am.S_Timer_sh h2
  obtain ⟨n3, f3⟩ := Am.int_sh h3
  have e4 := k3.done
  rw [e1, e2, e3, f1, f2, f3, e4]
  exact ⟨⟨n1, n2, n3⟩, rfl⟩

theorem Am.Timers_of {v : AV} (h : ArgOk tab 32 v) : ∃ x : AM.Timers, v = .agg (roTimers sy x) := by
  obtain ⟨i, avs, hi, h, hv⟩ := h
  obtain rfl := Option.some.inj hi
  dsimp only at hv
  subst hv
  obtain ⟨x, e⟩ := Am.Timers_sh h
  exact ⟨x, by rw [e]⟩

theorem Am.Slots_sh {avs : List AV} (h : Shape tab 34 avs) : ∃ x : AM.Slots, avs = roSlots sy x := by
  have k0 := h.isStruct rfl rfl
  obtain ⟨a1, b1, e1, h1, k1⟩ := k0.un
  obtain ⟨a2, b2, e2, h2, k2⟩ := k1.un
  obtain ⟨n1, f1⟩ := Am.S_Int64_sh h1
  obtain ⟨n2, f2⟩ := Am.S_Bool_sh h2
  have e3 := k2.done
  rw [e1, e2, f1, f2, e3]
  exact ⟨⟨n1, n2⟩, rfl⟩

theorem Am.Slots_of {v : AV} (h : ArgOk tab 34 v) : ∃ x : AM.Slots, v = .agg (roSlots sy x) := by
  obtain ⟨i, avs, hi, h, hv⟩ := h
  obtain rfl := Option.some.inj hi
  dsimp only at hv
  subst hv
  obtain ⟨x, e⟩ := Am.Slots_sh h
  exact ⟨x, by rw [e]⟩

theorem Am.Handle_sh {avs : List AV} (h : Shape tab 73 avs) : ∃ x : AM.Handle, avs = cHandle x := by
  have k0 := h.isStruct rfl rfl
  obtain ⟨a1, b1, e1, h1, k1⟩ := k0.un
  obtain ⟨a2, b2, e2, h2, k2⟩ := k1.un
  obtain ⟨n1, f1⟩ := Am.int_sh h1
  obtain ⟨n2, f2⟩ := Am.int_sh h2
  have e3 := k2.done
  rw [e1, e2, f1, f2, e3]
  exact ⟨⟨n1, n2⟩, rfl⟩

theorem Am.Handle_of {v : AV} (h : ArgOk tab 73 v) : ∃ x : AM.Handle, v = .agg (cHandle x) := by
  obtain ⟨i, avs, hi, h, hv⟩ := h
  obtain rfl := Option.some.inj hi
  dsimp only at hv
  subst hv
  obtain ⟨x, e⟩ := Am.Handle_sh h
  exact ⟨x, by rw [e]⟩

theorem Am.After_sh {avs : List AV} (h : Shape tab 270 avs) : ∃ x : AM.After, avs = cAfter x := by
  have k0 := h.isStruct rfl rfl
  obtain ⟨a1, b1, e1, h1, k1⟩ := k0.un
  obtain ⟨a2, b2, e2, h2, k2⟩ := k1.un
  obtain ⟨a3, b3, e3, h3, k3⟩ := k2.un
  obtain ⟨a4, b4, e4, h4, k4⟩ := k3.un
  obtain ⟨n1, f1⟩ := Am.Handle_sh h1
  obtain ⟨n2, f2⟩ := Am.int_sh h2
  obtain ⟨n3, f3⟩ := Am.int_sh h3
  obtain ⟨n4, f4⟩ := Am.bool_sh h4
  have e5 := k4.done
  rw [e1, e2, e3, e4, f1, f2, f3, f4, e5]
  exact ⟨⟨n1.slot, n1.age, n2, n3, n4⟩, rfl⟩

theorem Am.After_of {v : AV} (h : ArgOk tab 270 v) : ∃ x : AM.After, v = .agg (cAfter x) := by
  obtain ⟨i, avs, hi, h, hv⟩ := h
  obtain rfl := Option.some.inj hi
  dsimp only at hv
  subst hv
  obtain ⟨x, e⟩ := Am.After_sh h
  exact ⟨x, by rw [e]⟩

theorem Am.S_After_sh {avs : List AV} (h : Shape tab 35 avs) : ∃ x : List AM.After, avs = [.ro (sy.enc cAfter x)] := by
  obtain ⟨rows, e, hr⟩ := h.isSlice rfl rfl
  suffices ∀ {rows : List (List AV)}, (∀ r ∈ rows, Shape tab 270 r) -> ∃ l : List AM.After, rows = sy.enc cAfter l by
    obtain ⟨l, hl⟩ := this hr
    exact ⟨l, by rw [e, hl]⟩
  intro rows hr
  induction rows with
  | nil => exact ⟨[], rfl⟩
  | cons r rs ih =>
    obtain ⟨x, hx⟩ := Am.After_sh (hr r (by simp))
    obtain ⟨l, hl⟩ := ih fun r h => hr r (by simp [h])
    exact ⟨x :: l, by rw [hx, hl]; rfl⟩

theorem Am.S_After_of {v : AV} (h : ArgOk tab 35 v) : ∃ x : List AM.After, [v] = [.ro (sy.enc cAfter x)] := by
  obtain ⟨i, avs, hi, h, hv⟩ := h
  obtain rfl := Option.some.inj hi
  dsimp only at hv
  subst hv
  exact Am.S_After_sh h

theorem Am.Afters_sh {avs : List AV} (h : Shape tab 37 avs) : ∃ x : AM.Afters, avs = roAfters sy x := by
  have k0 := h.isStruct rfl rfl
  obtain ⟨a1, b1, e1, h1, k1⟩ := k0.un
  obtain ⟨a2, b2, e2, h2, k2⟩ := k1.un
  obtain ⟨n1, f1⟩ := Am.Slots_sh h1
  obtain ⟨n2, f2⟩ := Am.S_After_sh h2
  have e3 := k2.done
  rw [e1, e2, f1, f2, e3]
  exact ⟨⟨n1, n2⟩, rfl⟩

theorem Am.Afters_of {v : AV} (h : ArgOk tab 37 v) : ∃ x : AM.Afters, v = .agg (roAfters sy x) := by
  obtain ⟨i, avs, hi, h, hv⟩ := h
  obtain rfl := Option.some.inj hi
  dsimp only at hv
  subst hv
  obtain ⟨x, e⟩ := Am.Afters_sh h
  exact ⟨x, by rw [e]⟩

theorem Am.Task_sh {avs : List AV} (h : Shape tab 195 avs) : ∃ x : AM.Task, avs = cTask x := by
  have k0 := h.isStruct rfl rfl
  obtain ⟨a1, b1, e1, h1, k1⟩ := k0.un
  obtain ⟨a2, b2, e2, h2, k2⟩ := k1.un
  obtain ⟨a3, b3, e3, h3, k3⟩ := k2.un
  obtain ⟨a4, b4, e4, h4, k4⟩ := k3.un
  obtain ⟨a5, b5, e5, h5, k5⟩ := k4.un
  obtain ⟨a6, b6, e6, h6, k6⟩ := k5.un
  obtain ⟨a7, b7, e7, h7, k7⟩ := k6.un
  obtain ⟨a8, b8, e8, h8, k8⟩ := k7.un
  obtain ⟨a9, b9, e9, h9, k9⟩ := k8.un
  obtain ⟨n1, f1⟩ := Am.int_sh h1
  obtain ⟨n2, f2⟩ := Am.int_sh h2
  obtain ⟨n3, f3⟩ := Am.int_sh h3
  obtain ⟨n4, f4⟩ := Am.int_sh h4
  obtain ⟨n5, f5⟩ := Am.int_sh h5
  obtain ⟨n6, f6⟩ := Am.int_sh h6
  obtain ⟨n7, f7⟩ := Am.int_sh h7
  obtain ⟨n8, f8⟩ := Am.int_sh h8
  obtain ⟨n9, f9⟩ := Am.int_sh h9
  have e10 := k9.done
  rw [e1, e2, e3, e4, e5, e6, e7, e8, e9, f1, f2, f3, f4, f5, f6, f7, f8, f9, e10]
  exact ⟨⟨n1, n2, n3, n4, n5, n6, n7, n8, n9⟩, rfl⟩

theorem Am.Task_of {v : AV} (h : ArgOk tab 195 v) : ∃ x : AM.Task, v = .agg (cTask x) := by
  obtain ⟨i, avs, hi, h, hv⟩ := h
  obtain rfl := Option.some.inj hi
  dsimp only at hv
  subst hv
  obtain ⟨x, e⟩ := Am.Task_sh h
  exact ⟨x, by rw [e]⟩

theorem Am.S_Task_sh {avs : List AV} (h : Shape tab 38 avs) : ∃ x : List AM.Task, avs = [.ro (sy.enc cTask x)] := by
  obtain ⟨rows, e, hr⟩ := h.isSlice rfl rfl
  suffices ∀ {rows : List (List AV)}, (∀ r ∈ rows, Shape tab 195 r) -> ∃ l : List AM.Task, rows = sy.enc cTask l by
    obtain ⟨l, hl⟩ := this hr
    exact ⟨l, by rw [e, hl]⟩
  intro rows hr
  induction rows with
  | nil => exact ⟨[], rfl⟩
  | cons r rs ih =>
    obtain ⟨x, hx⟩ := Am.Task_sh (hr r (by simp))
    obtain ⟨l, hl⟩ := ih fun r h => hr r (by simp [h])
    exact ⟨x :: l, by rw [hx, hl]; rfl⟩

theorem Am.S_Task_of {v : AV} (h : ArgOk tab 38 v) : ∃ x : List AM.Task, [v] = [.ro (sy.enc cTask x)] := by
  obtain ⟨i, avs, hi, h, hv⟩ := h
  obtain rfl := Option.some.inj hi
  dsimp only at hv
  subst hv
  exact Am.S_Task_sh h

theorem Am.Group_sh {avs : List AV} (h : Shape tab 170 avs) : ∃ x : AM.Group, avs = roGroup sy x := by
  have k0 := h.isStruct rfl rfl
  obtain ⟨a1, b1, e1, h1, k1⟩ := k0.un
  obtain ⟨a2, b2, e2, h2, k2⟩ := k1.un
  obtain ⟨a3, b3, e3, h3, k3⟩ := k2.un
  obtain ⟨a4, b4, e4, h4, k4⟩ := k3.un
  obtain ⟨a5, b5, e5, h5, k5⟩ := k4.un
  obtain ⟨n1, f1⟩ := Am.int_sh h1
  obtain ⟨n2, f2⟩ := Am.int_sh h2
  obtain ⟨n3, f3⟩ := Am.int_sh h3
  obtain ⟨n4, f4⟩ := Am.S_Int64_sh h4
  obtain ⟨n5, f5⟩ := Am.int_sh h5
  have e6 := k5.done
  rw [e1, e2, e3, e4, e5, f1, f2, f3, f4, f5, e6]
  exact ⟨⟨n1, n2, n3, n4, n5⟩, rfl⟩

theorem Am.Group_of {v : AV} (h : ArgOk tab 170 v) : ∃ x : AM.Group, v = .agg (roGroup sy x) := by
  obtain ⟨i, avs, hi, h, hv⟩ := h
  obtain rfl := Option.some.inj hi
  dsimp only at hv
  subst hv
  obtain ⟨x, e⟩ := Am.Group_sh h
  exact ⟨x, by rw [e]⟩

theorem Am.S_Group_sh {avs : List AV} (h : Shape tab 39 avs) : ∃ x : List AM.Group, avs = [.ro (sy.enc (roGroup sy) x)] := by
  obtain ⟨rows, e, hr⟩ := h.isSlice rfl rfl
  suffices ∀ {rows : List (List AV)}, (∀ r ∈ rows, Shape tab 170 r) -> ∃ l : List AM.Group, rows = sy.enc (roGroup sy) l by
    obtain ⟨l, hl⟩ := this hr
    exact ⟨l, by rw [e, hl]⟩
  intro rows hr
  induction rows with
  | nil => exact ⟨[], rfl⟩
  | cons r rs ih =>
    obtain ⟨x, hx⟩ := Am.Group_sh (hr r (by simp))
    obtain ⟨l, hl⟩ := ih fun r h => hr r (by simp [h])
    exact ⟨x :: l, by rw [hx, hl]; rfl⟩

theorem Am.S_Group_of {v : AV} (h : ArgOk tab 39 v) : ∃ x : List AM.Group, [v] = [.ro (sy.enc (roGroup sy) x)] := by
  obtain ⟨i, avs, hi, h, hv⟩ := h
  obtain rfl := Option.some.inj hi
  dsimp only at hv
  subst hv
  exact Am.S_Group_sh h

theorem Am.Sight_sh {avs : List AV} (h : Shape tab 200 avs) : ∃ x : AM.Sight, avs = cSight x := by
  have k0 := h.isStruct rfl rfl
  obtain ⟨a1, b1, e1, h1, k1⟩ := k0.un
  obtain ⟨a2, b2, e2, h2, k2⟩ := k1.un
  obtain ⟨a3, b3, e3, h3, k3⟩ := k2.un
  obtain ⟨a4, b4, e4, h4, k4⟩ := k3.un
  obtain ⟨n1, f1⟩ := Am.int_sh h1
  obtain ⟨n2, f2⟩ := Am.int_sh h2
  obtain ⟨n3, f3⟩ := Am.int_sh h3
  obtain ⟨n4, f4⟩ := Am.int_sh h4
  have e5 := k4.done
  rw [e1, e2, e3, e4, f1, f2, f3, f4, e5]
  exact ⟨⟨n1, n2, n3, n4⟩, rfl⟩

theorem Am.Sight_of {v : AV} (h : ArgOk tab 200 v) : ∃ x : AM.Sight, v = .agg (cSight x) := by
  obtain ⟨i, avs, hi, h, hv⟩ := h
  obtain rfl := Option.some.inj hi
  dsimp only at hv
  subst hv
  obtain ⟨x, e⟩ := Am.Sight_sh h
  exact ⟨x, by rw [e]⟩

theorem Am.S_Sight_sh {avs : List AV} (h : Shape tab 40 avs) : ∃ x : List AM.Sight, avs = [.ro (sy.enc cSight x)] := by
  obtain ⟨rows, e, hr⟩ := h.isSlice rfl rfl
  suffices ∀ {rows : List (List AV)}, (∀ r ∈ rows, Shape tab 200 r) -> ∃ l : List AM.Sight, rows = sy.enc cSight l by
    obtain ⟨l, hl⟩ := this hr
    exact ⟨l, by rw [e, hl]⟩
  intro rows hr
  induction rows with
  | nil => exact ⟨[], rfl⟩
  | cons r rs ih =>
    obtain ⟨x, hx⟩ := Am.Sight_sh (hr r (by simp))
    obtain ⟨l, hl⟩ := ih fun r h => hr r (by simp [h])
    exact ⟨x :: l, by rw [hx, hl]; rfl⟩

theorem Am.S_Sight_of {v : AV} (h : ArgOk tab 40 v) : ∃ x : List AM.Sight, [v] = [.ro (sy.enc cSight x)] := by
  obtain ⟨i, avs, hi, h, hv⟩ := h
  obtain rfl := Option.some.inj hi
  dsimp only at hv
  subst hv
  exact Am.S_Sight_sh h

theorem Am.World_sh {avs : List AV} (h : Shape tab 42 avs) : ∃ x : AM.World, avs = roWorld sy x := by
  have k0 := h.isStruct rfl rfl
  obtain ⟨a1, b1, e1, h1, k1⟩ := k0.un
  obtain ⟨a2, b2, e2, h2, k2⟩ := k1.un
  obtain ⟨a3, b3, e3, h3, k3⟩ := k2.un
  obtain ⟨a4, b4, e4, h4, k4⟩ := k3.un
  obtain ⟨a5, b5, e5, h5, k5⟩ := k4.un
  obtain ⟨a6, b6, e6, h6, k6⟩ := k5.un
  obtain ⟨a7, b7, e7, h7, k7⟩ := k6.un
  obtain ⟨a8, b8, e8, h8, k8⟩ := k7.un
  obtain ⟨a9, b9, e9, h9, k9⟩ := k8.un
  obtain ⟨a10, b10, e10, h10, k10⟩ := k9.un
  obtain ⟨a11, b11, e11, h11, k11⟩ := k10.un
  obtain ⟨a12, b12, e12, h12, k12⟩ := k11.un
  obtain ⟨n1, f1⟩ := Am.int_sh h1
  obtain ⟨n2, f2⟩ := Am.S_S_Ins_sh h2
  obtain ⟨n3, f3⟩ := Am.S_Node_sh h3
  obtain ⟨n4, f4⟩ := Am.S_Event_sh h4
  obtain ⟨n5, f5⟩ := Am.Spread_sh h5
  obtain ⟨n6, f6⟩ := Am.Timers_sh h6
  obtain ⟨n7, f7⟩ := Am.Afters_sh h7
  obtain ⟨n8, f8⟩ := Am.S_Task_sh h8
  obtain ⟨n9, f9⟩ := Am.S_Group_sh h9
  obtain ⟨n10, f10⟩ := Am.S_Sight_sh h10
  obtain ⟨n11, f11⟩ := Am.S_Int64_sh h11
  obtain ⟨n12, f12⟩ := Am.S_Int64_sh h12
  have e13 := k12.done
  rw [e1, e2, e3, e4, e5, e6, e7, e8, e9, e10, e11, e12, f1, f2, f3, f4, f5, f6, f7, f8, f9, f10, f11, f12, e13]
  exact ⟨⟨n1, n2, n3, n4, n5, n6, n7, n8, n9, n10, n11, n12⟩, rfl⟩

theorem Am.World_of {v : AV} (h : ArgOk tab 42 v) : ∃ x : AM.World, v = .agg (roWorld sy x) := by
  obtain ⟨i, avs, hi, h, hv⟩ := h
  obtain rfl := Option.some.inj hi
  dsimp only at hv
  subst hv
  obtain ⟨x, e⟩ := Am.World_sh h
  exact ⟨x, by rw [e]⟩

end Go.Proofs.YtihfpbhalnedcaaGreat
