/- Readers of what the laws are given. (printed by genrows.py) -/
import Derived.Test.YtgooambndfkgkaaGreatDA
import Derived.Test.YtgooambndfkgkaaGreatDX1
import Derived.Test.YtgooambndfkgkaaGreatBC
import Derived.Test.YtgooambndfkgkaaGreatRows
namespace Go.Proofs.YtgooambndfkgkaaGreat
open Go Go.ChangeShapes Go.WideShapes Go.ChangeAt Go.RowKit Go.Proofs.YtgooambndfkgkaaGreat.AM

set_option maxRecDepth 100000
set_option linter.unusedVariables false

theorem Am.own : ownKnob Tryz.prog.godebug = none := by kernel_rfl
theorem Am.laidOut : laidOutB Tryz.prog = true := by kernel_rfl
theorem band {a b : Bool} (h1 : a = true) (h2 : b = true) : (a && b) = true := by rw [h1, h2]; rfl

def Am.kt (t : Nat) : Prop := t = 5 ∨ t = 22

theorem Am.kt_ok : ClosedT tab Am.kt := by
  rintro t (rfl | rfl)
  · exact ⟨_, rfl, rfl⟩
  · exact ⟨_, rfl, rfl, .inl rfl, _, rfl, by decide⟩

theorem Am.byte_sh {avs : List AV} (h : Shape tab 5 avs) : ∃ x : Int, avs = [.int .u8 x] := by
  obtain ⟨n, e⟩ := h.isInt rfl rfl
  exact ⟨n, e⟩

theorem Am.byte_of {v : AV} (h : ArgOk tab 5 v) : ∃ x : Int, [v] = [.int .u8 x] := by
  obtain ⟨i, avs, hi, h, hv⟩ := h
  obtain rfl := Option.some.inj hi
  dsimp only at hv
  subst hv
  exact Am.byte_sh h

theorem Am.S_Byte_sh {avs : List AV} (h : Shape tab 22 avs) : ∃ x : List Int, avs = [.ro (sy.enc cByte x)] := by
  obtain ⟨rows, e, hr⟩ := h.isSlice rfl rfl
  suffices ∀ {rows : List (List AV)}, (∀ r ∈ rows, Shape tab 5 r) → ∃ l : List Int, rows = sy.enc cByte l by
    obtain ⟨l, hl⟩ := this hr
    exact ⟨l, by rw [e, hl]⟩
  intro rows hr
  induction rows with
  | nil => exact ⟨[], rfl⟩
  | cons r rs ih =>
    obtain ⟨x, hx⟩ := Am.byte_sh (hr r (by simp))
    obtain ⟨l, hl⟩ := ih fun r h => hr r (by simp [h])
    exact ⟨x :: l, by rw [hx, hl]; rfl⟩

theorem Am.S_Byte_of {v : AV} (h : ArgOk tab 22 v) : ∃ x : List Int, [v] = [.ro (sy.enc cByte x)] := by
  obtain ⟨i, avs, hi, h, hv⟩ := h
  obtain rfl := Option.some.inj hi
  dsimp only at hv
  subst hv
  exact Am.S_Byte_sh h

end Go.Proofs.YtgooambndfkgkaaGreat
