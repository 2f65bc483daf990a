/- Plain lists: what holds of the elements before a place. -/
import Derived.Test.YtmpbmfhlkhonkaaD2
namespace Go.Proofs.Ytmpbmfhlkhonkaa.AM

set_option linter.unusedVariables false

/-- So it is with the elements before a place. -/
def Upto {α : Type} (p : Nat → α → Prop) (l : List α) (i : Int) : Prop := ∀ (j : Nat) (x : α), (j : Int) < i → l[j]? = some x → p j x

theorem Upto.zero {α : Type} {p : Nat → α → Prop} {l : List α} : Upto p l 0 := fun j x h _ => by omega
theorem Upto.next {α : Type} {p : Nat → α → Prop} {l : List α} {i i' : Int} {x : α} (h : Upto p l i) (h0 : 0 ≤ i) (hx : l[i.toNat]? = some x) (hp : p i.toNat x) (hi : i' = i + 1) : Upto p l i' := fun j y hj hy => by
  by_cases e : (j : Int) < i
  · exact h j y e hy
  · obtain rfl : j = i.toNat := by omega
    rw [hx] at hy
    exact Option.some.inj hy ▸ hp
theorem Upto.all {α : Type} {p : Nat → α → Prop} {l : List α} {i : Int} (h : Upto p l i) (hi : (l.length : Int) ≤ i) : ∀ j x, l[j]? = some x → p j x := fun j x hx => by
  have := (List.getElem?_eq_some_iff.1 hx).1
  exact h j x (by omega) hx
theorem Upto.mem {α : Type} {p : α → Prop} {l : List α} {i : Int} (h : Upto (fun _ x => p x) l i) (hi : (l.length : Int) ≤ i) : ∀ x ∈ l, p x := fun x hx => by
  obtain ⟨j, hj⟩ := List.getElem?_of_mem hx
  exact h.all hi j x hj

theorem mem_at {α : Type} {l : List α} {j : Nat} {x : α} (h : l[j]? = some x) : x ∈ l := List.mem_of_getElem? h

theorem take_next {α : Type} {l : List α} {i : Nat} {x : α} (h : l[i]? = some x) : l.take (i + 1) = l.take i ++ [x] := by
  rw [List.take_add_one, h]; rfl

theorem nodup_take {l : List Int} : (∀ j x, l[j]? = some x → x ∉ l.take j) ↔ l.Nodup := by
  constructor
  · intro h
    suffices ∀ n, (l.take n).Nodup by simpa using this l.length
    intro n
    induction n with
    | zero => simp
    | succ n ih =>
      cases hx : l[n]? with
      | none => rw [List.take_add_one, hx]; simpa using ih
      | some x =>
        rw [take_next hx]
        refine List.nodup_append.2 ⟨ih, by simp, fun a ha b hb e => ?_⟩
        simp at hb; subst hb; subst e
        exact h n _ hx ha
  · intro h j x hx hm
    have hj := (List.getElem?_eq_some_iff.1 hx).1
    rw [← List.take_append_drop j l] at h
    obtain ⟨_, _, h3⟩ := List.nodup_append.1 h
    refine h3 _ hm _ ?_ rfl
    rw [List.drop_eq_getElem_cons hj, (List.getElem?_eq_some_iff.1 hx).2]
    exact List.mem_cons_self ..

theorem not_mem_take_next {α : Type} {l : List α} {i : Int} {x n : α} (h : n ∉ l.take i.toNat) (h0 : 0 ≤ i) (hx : l[i.toNat]? = some x) (hn : x ≠ n) {i' : Int} (hi : i' = i + 1) : n ∉ l.take i'.toNat := by
  rw [show i'.toNat = i.toNat + 1 by omega, take_next hx]
  intro hm
  rcases List.mem_append.1 hm with hm | hm
  · exact h hm
  · simp at hm; exact hn hm.symm

theorem take_all {α : Type} {l : List α} {i : Int} (h : (l.length : Int) ≤ i) : l.take i.toNat = l := List.take_of_length_le (by omega)

end Go.Proofs.Ytmpbmfhlkhonkaa.AM
