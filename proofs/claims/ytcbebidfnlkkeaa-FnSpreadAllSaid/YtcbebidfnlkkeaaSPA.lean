/- Spreads step by step: what they weigh. (printed by gsa.py) -/
import Derived.Test.YtcbebidfnlkkeaaT5
namespace Go.Proofs.Ytcbebidfnlkkeaa.AM
open Go Go.Proofs

set_option linter.unusedVariables false
set_option linter.unusedSimpArgs false

theorem idxFrom_count {α : Type} (p : α → Bool) : ∀ (l : List α) (k : Int), (idxFrom p l k).length = l.countP p
  | [], k => rfl
  | x :: l, k => by
    have := idxFrom_count p l (k + 1)
    simp only [idxFrom, List.countP_cons]
    split <;> simp_all

theorem kids_count (t : List Node) (k : Int) : (Kids t k).length = t.countP (fun x => decide (x.up = k)) := idxFrom_count _ t 0

theorem count_split (k : Int) : ∀ t : List Node, t.countP (fun x => decide (x.up = k)) + t.countP (fun x => decide (k + 1 ≤ x.up)) = t.countP (fun x => decide (k ≤ x.up))
  | [] => rfl
  | x :: t => by
    have := count_split k t
    simp only [List.countP_cons, decide_eq_true_eq]
    split <;> split <;> split <;> omega

def loadFrom (t : List Node) : List Bool → Int → Nat
  | [], _ => 0
  | b :: r, k => (if b = true then 0 else (Below t k).length) + loadFrom t r (k + 1)

theorem load_le (t : List Node) : ∀ (r : List Bool) (k : Int), loadFrom t r k ≤ t.countP (fun x => decide (k ≤ x.up))
  | [], k => Nat.zero_le _
  | b :: r, k => by
    have h1 := load_le t r (k + 1)
    have h2 := count_split k t
    have h3 : (Below t k).length ≤ (Kids t k).length := List.length_filter_le _ _
    rw [kids_count] at h3
    simp only [loadFrom]
    split <;> omega

theorem load_set (t : List Node) : ∀ (r : List Bool) (k : Int) (i : Nat), r[i]? = some false → loadFrom t (r.set i true) k + (Below t (k + i)).length = loadFrom t r k
  | [], k, i, h => by simp at h
  | b :: r, k, 0, h => by
    simp only [List.getElem?_cons_zero, Option.some.injEq] at h
    subst h
    simp [loadFrom]; omega
  | b :: r, k, i + 1, h => by
    simp only [List.getElem?_cons_succ] at h
    have := load_set t r (k + 1) i h
    have e : k + 1 + (i : Int) = k + ((i + 1 : Nat) : Int) := by omega
    rw [e] at this
    simp only [List.set_cons_succ, loadFrom]
    omega

def phi (t : List Node) (s : Spread) : Nat := s.work.length + loadFrom t s.told 0

theorem phi_le {t : List Node} {s : Spread} (h : SpreadOk t s) : phi t s ≤ 300 := by
  have h1 := load_le t s.told 0
  have h2 := List.countP_le_length (p := fun x : Node => decide ((0 : Int) ≤ x.up)) (l := t)
  have h3 := h.2.2.1
  have h4 := h.1.1
  unfold phi; omega

theorem phi_step {t : List Node} {s : Spread} (h : SpreadOk t s) (hg : (Step t s).2.2 = true) : phi t (Step t s).1 + 1 = phi t s := by
  obtain ⟨ht, h1, h2, h3⟩ := h
  unfold Step at hg ⊢
  split at hg
  · cases hg
  · rename_i n w hw
    obtain ⟨hn0, hnt⟩ := h3 n (by rw [hw]; simp)
    obtain ⟨b, hb⟩ : ∃ b, s.told[n.toNat]? = some b := get_of_lt (by omega)
    split at hg
    · rename_i htold
      rw [if_pos htold]
      simp only [phi, hw, List.length_cons]; omega
    · rename_i htold
      split at hg
      · cases hg
      · rename_i hle
        rw [if_neg htold, if_neg hle]
        have hbf : b = false := by cases b <;> simp_all
        subst hbf
        have hl := load_set t s.told 0 n.toNat hb
        rw [show (0 : Int) + (n.toNat : Int) = n by omega] at hl
        simp only [phi, hw, List.length_append, List.length_cons]
        omega

def Stuck (t : List Node) (s : Spread) : Prop := s.work ≠ [] ∧ (Step t s).2.2 = false

theorem step_next {t : List Node} {s : Spread} (h : SpreadOk t s) {i : Nat} (hw : s.work ≠ []) (hi : phi t s + i ≤ 300 ∨ Stuck t s) : phi t (Step t s).1 + (i + 1) ≤ 300 ∨ Stuck t (Step t s).1 := by
  cases hg : (Step t s).2.2 with
  | true =>
    rcases hi with hi | hi
    · have := phi_step h hg
      exact .inl (by omega)
    · rw [hi.2] at hg; cases hg
  | false =>
    rw [step_stay hg]
    exact .inr ⟨hw, hg⟩

theorem step_none {t : List Node} {s : Spread} (hw : s.work = []) : (Step t s).1 = s := by
  unfold Step; rw [hw]

theorem step_told {t : List Node} {s : Spread} (h : SpreadOk t s) {m : Int} (h0 : 0 ≤ m) (hm : m.toNat < t.length) : ∃ b0 b1, s.told[m.toNat]? = some b0 ∧ (Step t s).1.told[m.toNat]? = some b1 ∧ (b0 = true → b1 = true ∧ m ≠ (Step t s).2.1) ∧ (b0 = false → (b1 = true ↔ m = (Step t s).2.1)) := by
  obtain ⟨ht, h1, h2, h3⟩ := h
  obtain ⟨b0, hb0⟩ : ∃ b, s.told[m.toNat]? = some b := get_of_lt (by omega)
  unfold Step
  split
  · exact ⟨b0, b0, hb0, hb0, fun e => ⟨e, by dsimp only; omega⟩, fun e => ⟨fun q => (by rw [e] at q; cases q), fun q => absurd q (by dsimp only; omega)⟩⟩
  · rename_i n w hw
    obtain ⟨hn0, hnt⟩ := h3 n (by rw [hw]; simp)
    split
    · exact ⟨b0, b0, hb0, hb0, fun e => ⟨e, by dsimp only; omega⟩, fun e => ⟨fun q => (by rw [e] at q; cases q), fun q => absurd q (by dsimp only; omega)⟩⟩
    · rename_i htold
      split
      · exact ⟨b0, b0, hb0, hb0, fun e => ⟨e, by dsimp only; omega⟩, fun e => ⟨fun q => (by rw [e] at q; cases q), fun q => absurd q (by dsimp only; omega)⟩⟩
      · by_cases hmn : m = n
        · subst hmn
          refine ⟨b0, true, hb0, ?_, fun e => ?_, fun e => ⟨fun _ => rfl, fun _ => rfl⟩⟩
          · dsimp only; rw [List.getElem?_set_self (by omega)]
          · subst e; exact absurd hb0 htold
        · refine ⟨b0, b0, hb0, ?_, fun e => ⟨e, hmn⟩, fun e => ⟨fun q => ?_, fun q => absurd q hmn⟩⟩
          · dsimp only; rw [List.getElem?_set_ne (by omega)]; exact hb0
          · rw [e] at q; cases q

theorem begun_ok {t : List Node} {s : Spread} (h : SpreadOk t s) (n : Int) : SpreadOk t (Begun t s n).1 := by
  unfold Begun
  rw [if_pos h]
  obtain ⟨ht, h1, h2, h3⟩ := h
  unfold Begin
  split
  · rename_i hc
    refine ⟨ht, h1, ?_, fun m hm => ?_⟩
    · dsimp only; rw [List.length_append]; simp only [List.length_cons, List.length_nil]; omega
    · rcases List.mem_append.1 hm with hm | hm
      · exact h3 m hm
      · rw [List.mem_singleton.1 hm]
        omega
  · exact ⟨ht, h1, h2, h3⟩

theorem sstep_ok {t : List Node} {s : Spread} (h : SpreadOk t s) : SpreadOk t (SpreadStep t s).1 := by
  unfold SpreadStep; rw [if_pos h]; exact step_ok h

end Go.Proofs.Ytcbebidfnlkkeaa.AM
