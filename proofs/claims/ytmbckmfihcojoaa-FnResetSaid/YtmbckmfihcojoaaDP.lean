/- Timers reset and forgotten: plain law. (printed by gdz.py) -/
import Derived.Test.YtmbckmfihcojoaaE16
namespace Go.Proofs.Ytmbckmfihcojoaa.AM
open Go Go.Proofs

set_option linter.unusedVariables false
set_option linter.unusedSimpArgs false

def nextDueT (t : Timers) : Int := match t.heap with
  | [] => 9223372036854775807
  | w :: _ => w.due

theorem again_list (t : Timers) (q due p : Int) : timIdx (againT t q due).list p = timIdx t.list p ∧ (againT t q due).list.length = t.list.length := by
  unfold againT
  split
  · rename_i h0
    obtain ⟨x, hx, hq⟩ := timIdx_some h0
    rw [hx]
    exact ⟨timIdx_set (y := { x with due := due, armed := true }) hx rfl p, by simp⟩
  · exact ⟨rfl, rfl⟩

theorem above_le {d s : Int} : ∀ {h : Heap}, h.ok → Heap.above d s h → ∀ k ∈ h.keys, d ≤ k.1
  | .nil, _, _, k, hk => by simp [Heap.keys] at hk
  | .node d' s' l r, hok, ha, k, hk => by
    simp only [Heap.keys, List.mem_cons, List.mem_append] at hk
    have ha2 := ha
    simp only [Heap.above] at ha2
    rcases hk with rfl | hk | hk
    · dsimp only; omega
    · exact above_le hok.1 (Heap.above_trans ha2 hok.2.2.2.1) k hk
    · exact above_le hok.2.1 (Heap.above_trans ha2 hok.2.2.2.2) k hk

theorem put_first {l : List Twig} {d s : Int} (h : HeapOk (putL l d s)) : ∃ w r, putL l d s = w :: r ∧ w.due ≤ d := by
  obtain ⟨t, hok, hf⟩ := h.2.2
  have hk : (d, s) ∈ t.keys := by
    have e : t = Heap.merge (heapOf l) (.node d s .nil .nil) := Heap.flat_inj hf
    rw [e, Heap.mem_keys_merge]
    exact .inr (by simp [Heap.keys])
  cases t with
  | nil => simp [Heap.keys] at hk
  | node d' s' a b =>
    refine ⟨⟨d', s', (a.size : Int)⟩, a.flat ++ b.flat, by rw [← hf]; rfl, ?_⟩
    simp only [Heap.keys, List.mem_cons, List.mem_append, Prod.mk.injEq] at hk
    rcases hk with hk | hk | hk
    · dsimp only; omega
    · exact above_le hok.1 hok.2.2.2.1 _ hk
    · exact above_le hok.2.1 hok.2.2.2.2 _ hk

theorem forget_zero (s : Int) : (Forgotten timers0 s).2 = false := by
  have hok : TimersOk timers0 := ⟨by decide, by decide, ⟨by decide, by simp [timers0], ⟨.nil, trivial, rfl⟩⟩, by simp [timers0], by simp [timers0], by decide, by simp [timers0]⟩
  unfold Forgotten
  rw [if_pos hok]
  unfold forgetT
  rw [if_neg (by simp [timers0, timIdx])]

theorem reset_law (t : Timers) (s d : Int) :
    (Forgotten (Reset t s d).1 s).2 = (Forgotten t s).2 ∧ ((Forgotten t s).2 = false → (Reset t s d).2 = false) ∧
    ((Forgotten t s).2 = true → TimersOk (Reset t s d).1 ∧ TimersOk (Forgotten (Reset t s d).1 s).1 ∧ (Forgotten (Reset t s d).1 s).1.list.length + 1 = t.list.length ∧ nextDueT (Reset t s d).1 ≤ d) := by
  by_cases hok : TimersOk t
  · have e1 : Reset t s d = resetT t s d := if_pos hok
    have hx := resetT_ok s d hok
    have e2 : Forgotten t s = forgetT t s := if_pos hok
    have e3 : Forgotten (resetT t s d).1 s = forgetT (resetT t s d).1 s := if_pos hx
    have hl := again_list (stopT t s).1 s d s
    have hl1 : timIdx (resetT t s d).1.list s = timIdx t.list s := hl.1.trans (stopT_idx t s s)
    have hl2 : (resetT t s d).1.list.length = t.list.length := hl.2.trans (stopT_len t s)
    rw [e1, e2, e3]
    by_cases h0 : 0 ≤ timIdx t.list s
    · have f1 : (forgetT t s).2 = true := by unfold forgetT; rw [if_pos h0]
      have f2 : forgetT (resetT t s d).1 s = (⟨(stopT (resetT t s d).1 s).1.heap, (stopT (resetT t s d).1 s).1.list.eraseIdx (timIdx (resetT t s d).1.list s).toNat, (resetT t s d).1.next⟩, true) := by
        unfold forgetT; rw [if_pos (by rw [hl1]; exact h0)]
      have f3 := forgetT_ok s hx
      refine ⟨by rw [f1, f2], fun h => (by rw [f1] at h; cases h), fun _ => ⟨hx, f3, ?_, ?_⟩⟩
      · rw [f2]
        dsimp only
        obtain ⟨z, hz, _⟩ := timIdx_some h0
        have hlt := (List.getElem?_eq_some_iff.1 hz).1
        rw [List.length_eraseIdx_of_lt (by rw [stopT_len, hl1, hl2]; exact hlt), stopT_len, hl2]
        omega
      · have hs0 : 0 ≤ timIdx (stopT t s).1.list s := by rw [stopT_idx]; exact h0
        obtain ⟨z, hz, _⟩ := timIdx_some hs0
        have e4 : (resetT t s d).1.heap = putL (stopT t s).1.heap d s := by
          unfold resetT againT
          dsimp only
          rw [if_pos hs0, hz]
        have hh := hx.2.2.1
        rw [e4] at hh
        obtain ⟨w, r, hw, hd⟩ := put_first hh
        unfold nextDueT
        rw [e4, hw]
        exact hd
    · have f1 : (forgetT t s).2 = false := by unfold forgetT; rw [if_neg h0]
      have f2 : (forgetT (resetT t s d).1 s).2 = false := by unfold forgetT; rw [if_neg (by rw [hl1]; exact h0)]
      refine ⟨by rw [f1, f2], fun _ => ?_, fun h => (by rw [f1] at h; cases h)⟩
      unfold resetT
      dsimp only
      unfold stopT
      rw [if_neg h0]
  · have e1 : Reset t s d = (timers0, false) := if_neg hok
    have e2 : Forgotten t s = (timers0, false) := if_neg hok
    rw [e1, e2]
    exact ⟨forget_zero s, fun _ => rfl, fun h => (by cases h)⟩

def Few (t : Timers) : Prop := t.heap.length ≤ 64 ∧ t.list.length ≤ 64 ∧ 0 ≤ t.next ∧ t.next ≤ 1000000
theorem ok_Few {t : Timers} (h : TimersOk t) : Few t := ⟨h.2.2.1.1, h.2.1, h.1.1, h.1.2⟩
theorem zero_Few : Few timers0 := ⟨Nat.zero_le _, Nat.zero_le _, Int.le_refl _, by decide⟩
theorem stopped_Few (t : Timers) (q : Int) : Few (Stopped t q).1 := by
  unfold Stopped; split
  · rename_i h; exact ok_Few (stopT_ok q h)
  · exact zero_Few
theorem armed_Few (t : Timers) (d w h : Int) : Few (Armed t d w h).1 := by
  unfold Armed; split
  · rename_i hk; exact ok_Few (armT_ok d w h hk)
  · exact zero_Few
theorem reset_Few (t : Timers) (q d : Int) : Few (Reset t q d).1 := by
  unfold Reset; split
  · rename_i h; exact ok_Few (resetT_ok q d h)
  · exact zero_Few
theorem fired_Few (t : Timers) (n : Int) : Few (Fired t n).1 := by
  unfold Fired; split
  · rename_i h; exact ok_Few (fireT_ok n h)
  · exact zero_Few
theorem forgotten_Few (t : Timers) (q : Int) : Few (Forgotten t q).1 := by
  unfold Forgotten; split
  · rename_i h; exact ok_Few (forgetT_ok q h)
  · exact zero_Few

end Go.Proofs.Ytmbckmfihcojoaa.AM
