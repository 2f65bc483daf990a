/- Handles taken and dropped: plain law. -/
import Derived.Test.YtmpbmfhlkhonkaaQ2
namespace Go.Proofs.Ytmpbmfhlkhonkaa.AM
open Go Go.Proofs

set_option linter.unusedVariables false
set_option linter.unusedSimpArgs false

def usedN (l : List Bool) : Nat := (l.filter id).length
theorem usedN_le (l : List Bool) : usedN l ≤ l.length := List.length_filter_le _ _

theorem usedN_next {l : List Bool} {i i' : Int} {b : Bool} (h0 : 0 ≤ i) (hb : l[i.toNat]? = some b) (hi : i' = i + 1) : usedN (l.take i'.toNat) = usedN (l.take i.toNat) + (if b then 1 else 0) := by
  rw [show i'.toNat = i.toNat + 1 by omega, take_next hb, usedN, List.filter_append]
  cases b <;> simp [usedN]

theorem usedN_set : ∀ {l : List Bool} {i : Nat} {b c : Bool}, l[i]? = some b → usedN (l.set i c) + (if b = true then 1 else 0) = usedN l + (if c = true then 1 else 0)
  | [], i, b, c, h => by simp at h
  | z :: l, 0, b, c, h => by
    simp only [List.getElem?_cons_zero, Option.some.injEq] at h
    subst h
    cases z <;> cases c <;> simp [usedN]
  | z :: l, i + 1, b, c, h => by
    simp only [List.getElem?_cons_succ] at h
    have := usedN_set (c := c) h
    simp only [List.set_cons_succ, usedN, List.filter_cons] at this ⊢
    split <;> (try simp only [List.length_cons]) <;> omega

theorem usedN_all {l : List Bool} (h : ∀ b ∈ l, b = true) : usedN l = l.length := by
  unfold usedN
  rw [List.filter_eq_self.2 (fun b hb => by simp [h b hb])]

/-- What the law keeps. -/
def HI (s : Slots) (n : Nat) (held gone : List Handle) (i : Nat) : Prop :=
  SlotsOk s ∧ s.ages.length = n ∧ (∀ a ∈ s.ages, a ≤ i) ∧ (held.map (·.slot)).Nodup ∧ (∀ h ∈ held, Holds s h) ∧ usedN s.used = held.length ∧
  ∀ g ∈ gone, ∃ a, 0 ≤ g.slot ∧ s.ages[g.slot.toNat]? = some a ∧ g.age < a

theorem HI.next {s : Slots} {n : Nat} {held gone : List Handle} {i : Nat} (h : HI s n held gone i) : HI s n held gone (i + 1) :=
  ⟨h.1, h.2.1, fun a ha => by have := h.2.2.1 a ha; omega, h.2.2.2⟩

theorem HI.take {s : Slots} {n : Nat} {held gone : List Handle} {i : Nat} (h : HI s n held gone i) (hi : i < 1000000) :
    (held.length < n ∧ (Take s).2.2 = true ∧ HI (Take s).1 n (held ++ [(Take s).2.1]) gone i) ∨ (n ≤ held.length ∧ (Take s).2.2 = false ∧ (Take s).1 = s) := by
  obtain ⟨h1, h2, h3, h4, h5, h6, h7⟩ := h
  obtain ⟨g1, g2, g3⟩ := h1
  cases hf : firstFree s with
  | some j =>
    have e : Take s = ({ s with used := s.used.set j true }, ⟨j, s.ages[j]?.getD 0⟩, true) := by unfold Take; rw [hf]
    have hj := List.find?_range_eq_some.1 hf
    have hjl : j < s.ages.length := by simpa using hj.2.1
    have hfree : isFree s j := by simpa using hj.1
    have hset := usedN_set (c := true) hfree.1
    have hle := usedN_le (s.used.set j true)
    simp only [List.length_set, Bool.false_eq_true, if_false, if_true] at hset hle
    refine .inl ⟨by omega, by rw [e], ?_⟩
    rw [e]
    have hne : ∀ x ∈ held, x.slot ≠ (j : Int) := fun x hx hq => by
      have := (h5 x hx).2.1
      rw [hq] at this
      simp only [Int.toNat_natCast] at this
      rw [hfree.1] at this; cases this
    have hag : s.ages[j]? = some (s.ages[j]?.getD 0) := by rw [List.getElem?_eq_getElem hjl]; rfl
    refine ⟨⟨g1, by simpa using g2, g3⟩, h2, h3, ?_, fun x hx => ?_, ?_, h7⟩
    · rw [List.map_append]
      refine List.nodup_append.2 ⟨h4, by simp, fun a ha b hb => ?_⟩
      obtain ⟨x, hx, rfl⟩ := List.mem_map.1 ha
      have hb' : b = (j : Int) := by simpa using hb
      rw [hb']; exact hne x hx
    · rcases List.mem_append.1 hx with hx | hx
      · obtain ⟨a1, a2, a3⟩ := h5 x hx
        have := hne x hx
        refine ⟨a1, ?_, a3⟩
        dsimp only
        rw [List.getElem?_set_ne (by omega)]; exact a2
      · rw [List.mem_singleton.1 hx]
        refine ⟨⟨by dsimp only; omega, by dsimp only; omega⟩, ?_, ?_⟩
        · dsimp only; simp only [Int.toNat_natCast]
          rw [List.getElem?_set_self (by omega)]
        · dsimp only; simp only [Int.toNat_natCast]; exact hag
    · rw [List.length_append]; dsimp only; simp only [List.length_cons, List.length_nil]; omega
  | none =>
    have e : Take s = (s, handle0, false) := by unfold Take; rw [hf]
    refine .inr ⟨?_, by rw [e], by rw [e]⟩
    have hall : ∀ b ∈ s.used, b = true := fun b hb => by
      obtain ⟨j, hj⟩ := List.getElem?_of_mem hb
      have hjl := (List.getElem?_eq_some_iff.1 hj).1
      have hn := List.find?_range_eq_none.1 hf j (by omega)
      have hnf : ¬ isFree s j := by simpa using hn
      cases b with
      | true => rfl
      | false =>
        refine absurd ⟨hj, fun ha => ?_⟩ hnf
        have := h3 _ (List.mem_of_getElem? ha)
        omega
    have := usedN_all hall
    omega

theorem HI.drop {s : Slots} {n : Nat} {held gone : List Handle} {i : Nat} (h : HI s n held gone i) (hi : i < 1000000) {k : Nat} {x : Handle} (hk : held[k]? = some x) :
    (Drop s x).2 = true ∧ SlotsOk (Drop s x).1 ∧ (Drop (Drop s x).1 x).2 = false ∧ HI (Drop s x).1 n (held.eraseIdx k) (gone ++ [x]) (i + 1) := by
  obtain ⟨h1, h2, h3, h4, h5, h6, h7⟩ := h
  obtain ⟨g1, g2, g3⟩ := h1
  have hxm := List.mem_of_getElem? hk
  obtain ⟨⟨a1, a1'⟩, a2, a3⟩ := h5 x hxm
  have hage := h3 _ (List.mem_of_getElem? a3)
  have e : Drop s x = (⟨s.ages.set x.slot.toNat (x.age + 1), s.used.set x.slot.toNat false⟩, true) := if_pos ⟨⟨⟨a1, a1'⟩, a2, a3⟩, by omega⟩
  have hset := usedN_set (c := false) a2
  simp only [Bool.false_eq_true, if_false, if_true] at hset
  have hkl := (List.getElem?_eq_some_iff.1 hk).1
  have hmem : ∀ a ∈ s.ages.set x.slot.toNat (x.age + 1), a ∈ s.ages ∨ a = x.age + 1 := fun a ha => List.mem_or_eq_of_mem_set ha
  have hx0 : 0 ≤ x.age := (g3 _ (List.mem_of_getElem? a3)).1
  have hok : SlotsOk ⟨s.ages.set x.slot.toNat (x.age + 1), s.used.set x.slot.toNat false⟩ := by
    refine ⟨by simpa using g1, by simpa using g2, fun a ha => ?_⟩
    rcases hmem a ha with ha | rfl
    · exact g3 a ha
    · omega
  have hne : ∀ y ∈ held.eraseIdx k, y.slot ≠ x.slot := fun y hy hq => by
    obtain ⟨j, hj, hyj⟩ := List.mem_eraseIdx_iff_getElem?.1 hy
    have hjl := (List.getElem?_eq_some_iff.1 hyj).1
    have hn := List.pairwise_iff_getElem.1 h4
    have hyv : held[j] = y := by rw [List.getElem?_eq_getElem hjl] at hyj; exact Option.some.inj hyj
    have hxv : held[k] = x := by rw [List.getElem?_eq_getElem hkl] at hk; exact Option.some.inj hk
    rcases Nat.lt_or_ge j k with hjk | hjk
    · refine hn j k (by simpa using hjl) (by simpa using hkl) hjk ?_
      rw [List.getElem_map, List.getElem_map, hyv, hxv, hq]
    · refine hn k j (by simpa using hkl) (by simpa using hjl) (by omega) ?_
      rw [List.getElem_map, List.getElem_map, hyv, hxv, hq]
  rw [e]
  refine ⟨rfl, hok, ?_, hok, by simpa using h2, fun a ha => ?_, ?_, fun y hy => ?_, ?_, fun g hg => ?_⟩
  · have : ¬ (Holds ⟨s.ages.set x.slot.toNat (x.age + 1), s.used.set x.slot.toNat false⟩ x ∧ x.age ≠ 1000000) := fun hc => by
      have := hc.1.2.1
      dsimp only at this
      rw [List.getElem?_set_self (by omega)] at this
      cases this
    unfold Drop
    rw [if_neg this]
  · rcases hmem a ha with ha | rfl
    · have := h3 a ha; omega
    · omega
  · exact h4.sublist ((List.eraseIdx_sublist held k).map _)
  · obtain ⟨b1, b2, b3⟩ := h5 y (List.mem_of_mem_eraseIdx hy)
    have := hne y hy
    refine ⟨by simpa using b1, ?_, ?_⟩
    · dsimp only; rw [List.getElem?_set_ne (by omega)]; exact b2
    · dsimp only; rw [List.getElem?_set_ne (by omega)]; exact b3
  · rw [List.length_eraseIdx_of_lt hkl]; dsimp only; omega
  · rcases List.mem_append.1 hg with hg | hg
    · obtain ⟨a, c1, c2, c3⟩ := h7 g hg
      by_cases hq : g.slot.toNat = x.slot.toNat
      · refine ⟨x.age + 1, c1, ?_, ?_⟩
        · dsimp only; rw [hq, List.getElem?_set_self (by omega)]
        · rw [hq, a3] at c2
          cases c2; omega
      · refine ⟨a, c1, ?_, c3⟩
        dsimp only; rw [List.getElem?_set_ne (fun e => hq e.symm)]; exact c2
    · rw [List.mem_singleton.1 hg]
      refine ⟨x.age + 1, a1, ?_, by omega⟩
      dsimp only; rw [List.getElem?_set_self (by omega)]

/-- What is gone is held no more. -/
theorem HI.gone {s : Slots} {n : Nat} {held gone : List Handle} {i : Nat} (h : HI s n held gone i) {g : Handle} (hg : g ∈ gone) : ¬ Holds s g := fun hc => by
  obtain ⟨a, c1, c2, c3⟩ := h.2.2.2.2.2.2 g hg
  rw [hc.2.2] at c2
  cases c2; omega

theorem HI.zero (n : Nat) (hn : 1 ≤ n ∧ n ≤ 64) : HI ⟨List.replicate n 0, List.replicate n false⟩ n [] [] 0 := by
  refine ⟨⟨by simpa using hn, by simp, fun a ha => ?_⟩, by simp, fun a ha => ?_, by simp, by simp, ?_, by simp⟩
  · rw [List.eq_of_mem_replicate ha]; decide
  · rw [List.eq_of_mem_replicate ha]; decide
  · unfold usedN
    rw [List.filter_eq_nil_iff.2 (fun b hb => by rw [List.eq_of_mem_replicate hb]; simp)]; rfl

end Go.Proofs.Ytmpbmfhlkhonkaa.AM
