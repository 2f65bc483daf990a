/- The firing of timers: plain law. -/
import Derived.Test.YtmbckmfihcojoaaE16
namespace Go.Proofs.Ytmbckmfihcojoaa.AM
open Go Go.Proofs

set_option linter.unusedVariables false
set_option linter.unusedSimpArgs false

/-- It comes before. -/
def Bef (d s : Int) (k : Int × Int) : Prop := d < k.1 ∨ d = k.1 ∧ s < k.2

theorem above_all {d s : Int} : ∀ {h : Heap}, h.ok → Heap.above d s h → ∀ k ∈ h.keys, Bef d s k
  | .nil, _, _, k, hk => by simp [Heap.keys] at hk
  | .node d' s' l r, hok, ha, k, hk => by
    simp only [Heap.keys, List.mem_cons, List.mem_append] at hk
    simp only [Heap.above] at ha
    rcases hk with rfl | hk | hk
    · exact ha
    · have := above_all hok.1 (Heap.above_trans ha hok.2.2.2.1) k hk
      exact this
    · exact above_all hok.2.1 (Heap.above_trans ha hok.2.2.2.2) k hk

/-- The first of a heap comes before all others. -/
theorem first_least {l : List Twig} {w : Twig} {r : List Twig} (h : Heap.Is l) (hw : l = w :: r) : ∀ y ∈ l, (y.due = w.due ∧ y.seq = w.seq) ∨ Bef w.due w.seq (y.due, y.seq) := by
  obtain ⟨t, hok, hf⟩ := h
  obtain ⟨a, b, rfl, g1, g2, g3, g4⟩ := Heap.flat_cons (hf.trans hw)
  intro y hy
  have hk : (y.due, y.seq) ∈ (Heap.node w.due w.seq a b).keys := by
    rw [Heap.keys_flat, hf]; exact List.mem_map.2 ⟨y, hy, rfl⟩
  simp only [Heap.keys, List.mem_cons, List.mem_append, Prod.mk.injEq] at hk
  rcases hk with hk | hk | hk
  · exact .inl hk
  · exact .inr (above_all hok.1 hok.2.2.2.1 _ hk)
  · exact .inr (above_all hok.2.1 hok.2.2.2.2 _ hk)

/-- What the law keeps of timers. -/
def FI (t : Timers) (due : List Int) (live : List Bool) : Prop :=
  TimersOk t ∧ t.next = due.length ∧ t.list.length = due.length ∧ live.length = due.length ∧ (∀ d ∈ due, 0 ≤ d ∧ d ≤ 8) ∧
  ∀ (k : Nat) (x : Timer), t.list[k]? = some x → x.seq = k ∧ due[k]? = some x.due ∧ live[k]? = some x.armed

theorem FI.idx {t : Timers} {due : List Int} {live : List Bool} (h : FI t due live) {k : Nat} (hk : k < due.length) : timIdx t.list k = k := by
  obtain ⟨h1, h2, h3, h4, h5, h6⟩ := h
  obtain ⟨x, hx⟩ : ∃ x, t.list[k]? = some x := ⟨_, List.getElem?_eq_getElem (by omega)⟩
  have hq := (h6 k x hx).1
  have h0 := timIdx_mem (List.mem_of_getElem? hx)
  rw [hq] at h0
  obtain ⟨y, hy, hyq⟩ := timIdx_some h0
  have := (h6 _ y hy).1
  omega

theorem FI.arm {t : Timers} {due : List Int} {live : List Bool} (h : FI t due live) (hl : due.length < 60) {v : Int} (hv : 0 ≤ v ∧ v ≤ 8) :
    (armT t v 2 3).2 = due.length ∧ (armT t v 2 3).1.list.length = due.length + 1 ∧ FI (armT t v 2 3).1 (due ++ [v]) (live ++ [true]) := by
  have hok := armT_ok v 2 3 h.1
  obtain ⟨h1, h2, h3, h4, h5, h6⟩ := h
  have e : armT t v 2 3 = (⟨putL t.heap v t.next, t.list ++ [⟨t.next, v, 2, 3, true⟩], t.next + 1⟩, t.next) := by
    refine if_neg fun hc => ?_
    rcases hc with hc | hc | hc | hc
    · omega
    · omega
    · exact hc ⟨by decide, by decide⟩
    · exact hc ⟨by decide, by decide⟩
  rw [e] at hok ⊢
  refine ⟨h2, by dsimp only; rw [List.length_append, h3]; rfl, hok, by dsimp only; rw [List.length_append, h2]; simp, by dsimp only; rw [List.length_append, List.length_append, h3]; rfl, by rw [List.length_append, List.length_append, h4]; rfl, fun d hd => ?_, fun k x hx => ?_⟩
  · rcases List.mem_append.1 hd with hd | hd
    · exact h5 d hd
    · rw [List.mem_singleton.1 hd]; exact hv
  · dsimp only at hx
    rcases Nat.lt_or_ge k t.list.length with hk | hk
    · rw [List.getElem?_append_left hk] at hx
      obtain ⟨g1, g2, g3⟩ := h6 k x hx
      exact ⟨g1, by rw [List.getElem?_append_left (by omega)]; exact g2, by rw [List.getElem?_append_left (by omega)]; exact g3⟩
    · rw [List.getElem?_append_right hk] at hx
      have hk2 : k = t.list.length := by
        have := (List.getElem?_eq_some_iff.1 hx).1
        simp at this; omega
      subst hk2
      simp only [Nat.sub_self, List.getElem?_cons_zero, Option.some.injEq] at hx
      subst hx
      refine ⟨by dsimp only; omega, ?_, ?_⟩
      · rw [List.getElem?_append_right (by omega), h3]; simp
      · rw [List.getElem?_append_right (by omega), h3, h4]; simp

theorem FI.stop {t : Timers} {due : List Int} {live : List Bool} (h : FI t due live) {k : Nat} (hk : k < due.length) :
    live[k]? = some (stopT t k).2 ∧ FI (stopT t k).1 due (live.set k false) := by
  have hok := stopT_ok k h.1
  have hlen := stopT_len t k
  have hnext := stopT_next t k
  have hi := h.idx hk
  have hoff := stopT_off (t := t) (q := k) (by omega)
  obtain ⟨h1, h2, h3, h4, h5, h6⟩ := h
  rw [hi] at hoff
  simp only [Int.toNat_natCast] at hoff
  obtain ⟨z, hz, hzq, hza⟩ := hoff
  obtain ⟨x, hx⟩ : ∃ x, t.list[k]? = some x := ⟨_, List.getElem?_eq_getElem (by omega)⟩
  obtain ⟨g1, g2, g3⟩ := h6 k x hx
  have hother : ∀ (j : Nat) (y : Timer), (stopT t k).1.list[j]? = some y → j ≠ k → t.list[j]? = some y := fun j y hy hj => by
    rcases stop_cases t k with e | ⟨x', h0, hx', hq, ha, e⟩
    · rw [e] at hy; exact hy
    · rw [e] at hy
      dsimp only at hy
      rw [hi] at hy
      simp only [Int.toNat_natCast] at hy
      rw [List.getElem?_set_ne (fun e => hj e.symm)] at hy; exact hy
  have hsame : z.due = x.due ∧ (stopT t k).2 = x.armed := by
    rcases stop_cases t k with e | ⟨x', h0, hx', hq, ha, e⟩
    · rw [e] at hz ⊢
      dsimp only at hz
      rw [hx] at hz; cases hz
      exact ⟨rfl, hza.symm⟩
    · rw [e] at hz ⊢
      dsimp only at hz
      rw [hi] at hz hx'
      simp only [Int.toNat_natCast] at hz hx'
      rw [hx] at hx'; cases hx'
      rw [List.getElem?_set_self (by omega)] at hz
      cases hz
      exact ⟨rfl, ha.symm⟩
  refine ⟨by rw [g3, hsame.2], hok, by rw [hnext]; exact h2, by rw [hlen]; exact h3, by rw [List.length_set]; exact h4, h5, fun j y hy => ?_⟩
  by_cases hj : j = k
  · subst hj
    rw [hz] at hy; cases hy
    refine ⟨by omega, by rw [g2, hsame.1], ?_⟩
    rw [List.getElem?_set_self (by omega), hza]
  · obtain ⟨e1, e2, e3⟩ := h6 j y (hother j y hy hj)
    exact ⟨e1, e2, by rw [List.getElem?_set_ne (fun e => hj e.symm)]; exact e3⟩

/-- The first of the heap, told by the law's own rows. -/
theorem FI.first {t : Timers} {due : List Int} {live : List Bool} (h : FI t due live) {w : Twig} {r : List Twig} (hw : t.heap = w :: r) :
    ∃ k : Nat, k < due.length ∧ w.seq = k ∧ timIdx t.list w.seq = k ∧ t.list[k]? = some ⟨k, w.due, (t.list[k]?.map (·.what)).getD 0, (t.list[k]?.map (·.whom)).getD 0, true⟩ ∧ live[k]? = some true ∧ due[k]? = some w.due := by
  obtain ⟨h0, x, hx, hq, ha, hd⟩ := first_in h.1 hw
  obtain ⟨h1, h2, h3, h4, h5, h6⟩ := h
  obtain ⟨g1, g2, g3⟩ := h6 _ x hx
  have hk := (List.getElem?_eq_some_iff.1 hx).1
  refine ⟨(timIdx t.list w.seq).toNat, by omega, by omega, by omega, ?_, by rw [g3, ha], by rw [g2, hd]⟩
  rw [hx]
  obtain ⟨xs, xd, xw, xh, xa⟩ := x
  dsimp only at g1 ha hd
  simp only [Option.map_some, Option.getD_some, Option.some.injEq, Timer.mk.injEq]
  exact ⟨g1, hd, trivial, trivial, ha⟩

/-- Every live one is in the heap. -/
theorem FI.live {t : Timers} {due : List Int} {live : List Bool} (h : FI t due live) {k : Nat} (hk : live[k]? = some true) : ∃ w ∈ t.heap, w.seq = k ∧ due[k]? = some w.due := by
  have hlt := (List.getElem?_eq_some_iff.1 hk).1
  obtain ⟨x, hx⟩ : ∃ x, t.list[k]? = some x := ⟨_, List.getElem?_eq_getElem (by have := h.2.2.1; have := h.2.2.2.1; omega)⟩
  obtain ⟨g1, g2, g3⟩ := h.2.2.2.2.2 k x hx
  rw [hk] at g3
  have ha : x.armed = true := (Option.some.inj g3).symm
  have hm := armed_in h.1 (List.mem_of_getElem? hx) ha
  obtain ⟨w, hw, hq⟩ := List.mem_map.1 hm
  obtain ⟨z, hz, e1, e2, e3⟩ := h.1.2.2.2.2.2.2 w hw
  have : z = x := asc_eq h.1.2.2.2.2.1 hz (List.mem_of_getElem? hx) (by omega)
  subst this
  exact ⟨w, hw, by omega, by rw [g2, e3]⟩

/-- If none is live, the heap is empty. -/
theorem FI.none {t : Timers} {due : List Int} {live : List Bool} (h : FI t due live) (hn : ∀ k : Nat, live[k]? ≠ some true) : t.heap = [] := by
  cases hh : t.heap with
  | nil => rfl
  | cons w r =>
    obtain ⟨k, _, _, _, _, hl, _⟩ := h.first hh
    exact absurd hl (hn k)

/-- All in the heap come after this. -/
def AfterAll (d s : Int) (l : List Twig) : Prop := ∀ w ∈ l, Bef d s (w.due, w.seq)

theorem after_stop {t : Timers} {w : Twig} {r : List Twig} (h : TimersOk t) (hw : t.heap = w :: r) : AfterAll w.due w.seq (stopT t w.seq).1.heap := fun y hy => by
  have hh := h.2.2.1
  rcases stop_cases t w.seq with e | ⟨x, h0, hx, hq, ha, e⟩
  · have := stopT_gone (q := w.seq) h
    rw [e, hw] at this
    exact absurd (by simp) this
  · rw [e] at hy
    obtain ⟨hne, z, hz, e1, e2⟩ := withoutL_mem hh hy
    rcases first_least hh.2.2 hw z hz with ⟨g1, g2⟩ | g
    · omega
    · rw [e1, e2] at g; exact g

/-- Those that remain when nothing more is due. -/
theorem FI.late {t : Timers} {due : List Int} {live : List Bool} {now : Int} (h : FI t due live) (hf : (fireT t now).2.2 = false) (k : Nat) (hk : live[k]? = some true) : ∃ d, due[k]? = some d ∧ now < d := by
  obtain ⟨w, hw, hq, hd⟩ := h.live hk
  refine ⟨w.due, hd, ?_⟩
  cases hh : t.heap with
  | nil => rw [hh] at hw; cases hw
  | cons v r =>
    obtain ⟨j, hj, hvq, hji, hjx, hjl, hjd⟩ := h.first hh
    have hv8 := h.2.2.2.2.1 v.due (List.mem_of_getElem? hjd)
    have hnd : ¬ (v.due ≤ now ∧ v.due ≠ 9223372036854775807) := fun hc => by
      unfold fireT at hf
      rw [hh] at hf
      dsimp only at hf
      rw [if_pos hc, hji] at hf
      simp only [Int.toNat_natCast] at hf
      rw [hjx] at hf
      exact absurd hf (by simp)
    have hvn : now < v.due := by
      by_cases hc : v.due ≤ now
      · exact absurd ⟨hc, by omega⟩ hnd
      · omega
    rcases first_least h.1.2.2.1.2.2 hh w hw with ⟨g1, g2⟩ | g
    · omega
    · rcases g with g | g
      · dsimp only at g; omega
      · dsimp only at g; omega

/-- One is fired. -/
theorem FI.fire {t : Timers} {due : List Int} {live : List Bool} {now : Int} (h : FI t due live) (hf : (fireT t now).2.2 = true) :
    ∃ k : Nat, (fireT t now).2.1.seq = k ∧ k < due.length ∧ live[k]? = some true ∧ due[k]? = some (fireT t now).2.1.due ∧ (fireT t now).2.1.due ≤ now ∧ FI (fireT t now).1 due (live.set k false) ∧
      AfterAll (fireT t now).2.1.due (fireT t now).2.1.seq (fireT t now).1.heap ∧ (∀ ld ls, AfterAll ld ls t.heap → Bef ld ls ((fireT t now).2.1.due, (fireT t now).2.1.seq)) ∧ (fireT t now).1.heap.length < t.heap.length := by
  cases hh : t.heap with
  | nil =>
    unfold fireT at hf
    rw [hh] at hf
    exact absurd hf (by simp)
  | cons w r =>
    obtain ⟨k, hk, hwq, hki, hkx, hkl, hkd⟩ := h.first hh
    by_cases hc : w.due ≤ now ∧ w.due ≠ 9223372036854775807
    · obtain ⟨wt, wh, hkx⟩ : ∃ a b, t.list[k]? = some ⟨k, w.due, a, b, true⟩ := ⟨_, _, hkx⟩
      have e : fireT t now = ((stopT t w.seq).1, ⟨k, w.due, wt, wh, true⟩, true) := by
        unfold fireT
        rw [hh]
        dsimp only
        rw [if_pos hc, hki]
        simp only [Int.toNat_natCast]
        rw [hkx]
      have ha := after_stop h.1 hh
      have hs := (h.stop hk).2
      have hlen : (stopT t w.seq).1.heap.length < t.heap.length := by
        rcases stop_cases t w.seq with e2 | ⟨x, h0, hx, hq, hxa, e2⟩
        · have := stopT_gone (q := w.seq) h.1
          rw [e2, hh] at this
          exact absurd (by simp) this
        · rw [e2]
          have := withoutL_len (q := w.seq) h.1.2.2.1.2.2 (by rw [hh]; simp)
          dsimp only
          omega
      rw [hh] at hlen
      rw [e]
      dsimp only
      rw [← hwq] at hs ⊢
      refine ⟨k, hwq, hk, hkl, hkd, hc.1, hs, ha, fun ld ls hal => ?_, hlen⟩
      exact hal w List.mem_cons_self
    · unfold fireT at hf
      rw [hh] at hf
      dsimp only at hf
      rw [if_neg hc] at hf
      exact absurd hf (by simp)

end Go.Proofs.Ytmbckmfihcojoaa.AM
