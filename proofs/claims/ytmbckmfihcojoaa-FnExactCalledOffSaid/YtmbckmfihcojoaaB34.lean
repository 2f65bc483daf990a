/- The abstract machine, part 34: appending in place; cutting up to the capacity. -/
import Derived.Test.YtmbckmfihcojoaaB33
namespace Go.Proofs.Ytmbckmfihcojoaa.AM
open Go Go.RowKit

set_option linter.unusedVariables false
set_option linter.unusedSimpArgs false

variable {P : Program} {T : Nat → Option TI} {A : Sy}

theorem CutRef.goP {p : Bool} {off len s size : Nat} {rows : List (List AV)} {l h : Int} {K : Bool → Nat → Nat → Prop} (hs : s = size) (h0 : 0 ≤ l) (h1 : l ≤ h) (h2 : h ≤ len) (hr : off + len ≤ rows.length)
    (hk : ∀ p' off' len', p' = ((p || decide (0 < len)) && decide (off + l.toNat < rows.length)) → off' = off + l.toNat → len' = (h - l).toNat → K p' off' len') : CutRef p off len s size rows l h K :=
  ⟨⟨h0, h1, .inl h2⟩, hr, hs, hk _ _ _ rfl rfl rfl⟩

theorem CutRef.cap {p : Bool} {off len s size : Nat} {rows : List (List AV)} {l h : Int} {K : Bool → Nat → Nat → Prop} (hs : s = size) (hp : p = true) (h0 : 0 ≤ l) (h1 : l ≤ h) (h2 : h ≤ ((rows.length - off : Nat) : Int)) (hr : off + len ≤ rows.length)
    (hk : ∀ p' off' len', off' = off + l.toNat → len' = (h - l).toNat → K p' off' len') : CutRef p off len s size rows l h K :=
  ⟨⟨h0, h1, .inr ⟨hp, h2⟩⟩, hr, hs, hk _ _ _ rfl rfl⟩

theorem AppRef.inPlace (C : Cx P T A) {α : Type} {f : α → List AV} {l m : List α} {kd : SK} {fl p : Bool} {off len s size bytes : Nat} {K : Bool → Nat → List (List AV) → Prop} (hs : s = size) (hp : Plain f) (hsz : ∀ x, (f x).length = size) (hpp : p = true ∨ 0 < len) (hl : off + len + m.length ≤ l.length)
    (h : ∀ (n : Nat) (l' : List α), n = len + m.length → l' = l.take (off + len) ++ m ++ l.drop (off + len + m.length) → K true n (A.enc f l')) : AppRef kd fl p off len s size bytes (A.enc f l) (A.enc f m) K := by
  refine ⟨hs, lays_plain hp kd fl C m, fun r hr => ?_, .inr ⟨hpp, by rw [C.lenE', C.lenE']; exact hl, ?_⟩⟩
  · rw [C.enc] at hr
    obtain ⟨x, _, rfl⟩ := List.mem_map.1 hr
    exact hsz x
  · have := h _ _ rfl rfl
    rw [C.lenE', setMany, C.lenE']
    rw [C.enc] at this ⊢
    rw [C.enc]
    rw [List.map_append, List.map_append, List.map_take, List.map_drop] at this
    exact this

end Go.Proofs.Ytmbckmfihcojoaa.AM
