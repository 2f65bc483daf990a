/- Plain lists: what holds of the elements before a place. -/
import Derived.Test.YtgooambndfkgkaaGreatD2
namespace Go.Proofs.YtgooambndfkgkaaGreat.AM

set_option linter.unusedVariables false

/-- So it is with the elements before a place. -/
def Upto {α : Type} (p : Nat → α → Prop) (l : List α) (i : Int) : Prop := ∀ (j : Nat) (x : α), (j : Int) < i → l[j]? = some x → p j x

theorem Upto.zero {α : Type} {p : Nat → α → Prop} {l : List α} : Upto p l 0 := fun j x h _ => by omega
theorem Upto.next {α : Type} {p : Nat → α → Prop} {l : List α} {i i' : Int} {x : α} (h : Upto p l i) (h0 : 0 ≤ i) (hx : l[i.toNat]? = some x) (hp : p i.toNat x) (hi : i' = i + 1) : Upto p l i' := fun j y hj hy => by
  by_cases e : (j : Int) < i
  · exact h j y e hy
  · obtain rfl : j = i.toNat := by omega
    rw [hx] at hy
    exact Option.some.inj hy ▸ hp
theorem Upto.all {α : Type} {p : Nat → α → Prop} {l : List α} {i : Int} (h : Upto p l i) (hi : (l.length : Int) ≤ i) : ∀ j x, l[j]? = some x → p j x := fun j x hx => by
  have := (List.getElem?_eq_some_iff.1 hx).1
  exact h j x (by omega) hx
theorem Upto.mem {α : Type} {p : α → Prop} {l : List α} {i : Int} (h : Upto (fun _ x => p x) l i) (hi : (l.length : Int) ≤ i) : ∀ x ∈ l, p x := fun x hx => by
  obtain ⟨j, hj⟩ := List.getElem?_of_mem hx
  exact h.all hi j x hj

theorem mem_at {α : Type} {l : List α} {j : Nat} {x : α} (h : l[j]? = some x) : x ∈ l := List.mem_of_getElem? h

theorem take_next {α : Type} {l : List α} {i : Nat} {x : α} (h : l[i]? = some x) : l.take (i + 1) = l.take i ++ [x] := by
  rw [List.take_add_one, h]; rfl

theorem nodup_take {l : List Int} : (∀ j x, l[j]? = some x → x ∉ l.take j) ↔ l.Nodup := by
  constructor
  · intro h
    suffices ∀ n, (l.take n).Nodup by simpa using this l.length
    intro n
    induction n with
    | zero => simp
    | succ n ih =>
      cases hx : l[n]? with
      | none => rw [List.take_add_one, hx]; simpa using ih
      | some x =>
        rw [take_next hx]
        refine List.nodup_append.2 ⟨ih, by simp, fun a ha b hb e => ?_⟩
        simp at hb; subst hb; subst e
        exact h n _ hx ha
  · intro h j x hx hm
    have hj := (List.getElem?_eq_some_iff.1 hx).1
    rw [← List.take_append_drop j l] at h
    obtain ⟨_, _, h3⟩ := List.nodup_append.1 h
    refine h3 _ hm _ ?_ rfl
    rw [List.drop_eq_getElem_cons hj, (List.getElem?_eq_some_iff.1 hx).2]
    exact List.mem_cons_self ..

theorem not_mem_take_next {α : Type} {l : List α} {i : Int} {x n : α} (h : n ∉ l.take i.toNat) (h0 : 0 ≤ i) (hx : l[i.toNat]? = some x) (hn : x ≠ n) {i' : Int} (hi : i' = i + 1) : n ∉ l.take i'.toNat := by
  rw [show i'.toNat = i.toNat + 1 by omega, take_next hx]
  intro hm
  rcases List.mem_append.1 hm with hm | hm
  · exact h hm
  · simp at hm; exact hn hm.symm

theorem take_all {α : Type} {l : List α} {i : Int} (h : (l.length : Int) ≤ i) : l.take i.toNat = l := List.take_of_length_le (by omega)

/-- The places of the elements that are so. -/
def idxFrom {α : Type} (p : α → Bool) : List α → Int → List Int
  | [], _ => []
  | x :: r, i => if p x then i :: idxFrom p r (i + 1) else idxFrom p r (i + 1)
def idxs {α : Type} (p : α → Bool) (l : List α) : List Int := idxFrom p l 0

theorem idxFrom_append {α : Type} (p : α → Bool) : ∀ (l m : List α) (i : Int), idxFrom p (l ++ m) i = idxFrom p l i ++ idxFrom p m (i + l.length)
  | [], m, i => by simp [idxFrom]
  | x :: r, m, i => by
    have := idxFrom_append p r m (i + 1)
    have e : i + ((x :: r).length : Int) = i + 1 + r.length := by simp; omega
    simp only [List.cons_append, idxFrom, this, e]
    split <;> simp

theorem idxs_next {α : Type} {p : α → Bool} {l : List α} {i : Int} {x : α} (h0 : 0 ≤ i) (hx : l[i.toNat]? = some x) {i' : Int} (hi : i' = i + 1) : idxs p (l.take i'.toNat) = if p x then idxs p (l.take i.toNat) ++ [i] else idxs p (l.take i.toNat) := by
  have hlt := (List.getElem?_eq_some_iff.1 hx).1
  rw [show i'.toNat = i.toNat + 1 by omega, take_next hx, idxs, idxFrom_append]
  have e : (0 : Int) + ((l.take i.toNat).length : Int) = i := by rw [List.length_take_of_le (Nat.le_of_lt hlt)]; omega
  rw [e]
  simp only [idxFrom, idxs]
  split <;> simp

theorem idxFrom_len {α : Type} (p : α → Bool) : ∀ (l : List α) (i : Int), (idxFrom p l i).length ≤ l.length
  | [], _ => Nat.le_refl _
  | x :: r, i => by
    have := idxFrom_len p r (i + 1)
    simp only [idxFrom]
    split <;> simp <;> omega

theorem idxs_len {α : Type} (p : α → Bool) (l : List α) : (idxs p l).length ≤ l.length := idxFrom_len p l 0

theorem idxFrom_mem {α : Type} (p : α → Bool) : ∀ (l : List α) (i n : Int), n ∈ idxFrom p l i ↔ i ≤ n ∧ ∃ x, l[(n - i).toNat]? = some x ∧ p x = true
  | [], i, n => by simp [idxFrom]
  | x :: r, i, n => by
    have ih := idxFrom_mem p r (i + 1) n
    have step : i + 1 ≤ n → (x :: r)[(n - i).toNat]? = r[(n - (i + 1)).toNat]? := fun h => by
      rw [show (n - i).toNat = (n - (i + 1)).toNat + 1 by omega]; simp
    simp only [idxFrom]
    by_cases hn : i = n
    · subst hn
      by_cases hp : p x = true
      · simp [hp]
      · rw [if_neg hp, ih]
        constructor
        · rintro ⟨h, _⟩; omega
        · rintro ⟨_, y, hy, hpy⟩; simp at hy; subst hy; exact absurd hpy hp
    · have : n ∈ (if p x = true then i :: idxFrom p r (i + 1) else idxFrom p r (i + 1)) ↔ n ∈ idxFrom p r (i + 1) := by
        split
        · simp [show n ≠ i from fun e => hn e.symm]
        · rfl
      rw [this, ih]
      constructor
      · rintro ⟨h, y, hy, hp⟩; exact ⟨by omega, y, by rw [step h]; exact hy, hp⟩
      · rintro ⟨h, y, hy, hp⟩; exact ⟨by omega, y, by rw [← step (by omega)]; exact hy, hp⟩

theorem idxs_mem {α : Type} {p : α → Bool} {l : List α} {n : Int} : n ∈ idxs p l ↔ 0 ≤ n ∧ ∃ x, l[n.toNat]? = some x ∧ p x = true := by
  rw [idxs, idxFrom_mem, show n - 0 = n by omega]

theorem idxFrom_ge {α : Type} {p : α → Bool} {l : List α} {i n : Int} (h : n ∈ idxFrom p l i) : i ≤ n := ((idxFrom_mem p l i n).1 h).1

theorem idxFrom_nodup {α : Type} (p : α → Bool) : ∀ (l : List α) (i : Int), (idxFrom p l i).Nodup
  | [], _ => by simp [idxFrom]
  | x :: r, i => by
    simp only [idxFrom]
    split
    · refine List.nodup_cons.2 ⟨fun h => ?_, idxFrom_nodup p r (i + 1)⟩
      have := idxFrom_ge h
      omega
    · exact idxFrom_nodup p r (i + 1)

theorem idxs_nodup {α : Type} (p : α → Bool) (l : List α) : (idxs p l).Nodup := idxFrom_nodup p l 0

end Go.Proofs.YtgooambndfkgkaaGreat.AM
