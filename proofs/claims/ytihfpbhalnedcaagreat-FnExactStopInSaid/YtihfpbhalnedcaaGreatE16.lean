/- Timers remain valid: plain lemmas. -/
import Derived.Test.YtihfpbhalnedcaaGreatEB
set_option linter.unusedVariables false
set_option linter.unusedSimpArgs false
namespace Go.Proofs.YtihfpbhalnedcaaGreat.AM
open Go Go.Proofs

namespace Heap

def keys : Heap -> List (Int × Int)
  | nil => []
  | node d s l r => (d, s) :: (l.keys ++ r.keys)

theorem keys_flat (h : Heap) : h.keys = h.flat.map (fun x => (x.due, x.seq)) := by
  induction h with
  | nil => rfl
  | node d s l r ihl ihr => simp [keys, flat, ihl, ihr]

theorem mem_keys_join {d s : Int} {a b : Heap} {k : Int × Int} : k ∈ (join d s a b).keys ↔ k = (d, s) ∨ k ∈ a.keys ∨ k ∈ b.keys := by
  unfold join; split <;> simp only [keys, List.mem_cons, List.mem_append]
  constructor <;> rintro (h | h | h) <;> simp [h]

theorem mem_keys_merge {k : Int × Int} : ∀ (a b : Heap), k ∈ (merge a b).keys ↔ k ∈ a.keys ∨ k ∈ b.keys
  | nil, b => by simp [merge, keys]
  | node d s l r, nil => by simp [merge, keys]
  | node d s l r, node d' s' l' r' => by
    rw [merge]
    split
    · rw [mem_keys_join, mem_keys_merge r' (node d s l r)]; simp only [keys, List.mem_cons, List.mem_append]
      constructor
      · rintro (h | h | h | h | h) <;> simp [h]
      · rintro ((h | h | h) | (h | h | h)) <;> simp [h]
    · rw [mem_keys_join, mem_keys_merge r (node d' s' l' r')]; simp only [keys, List.mem_cons, List.mem_append]
      constructor
      · rintro (h | h | h | h | h) <;> simp [h]
      · rintro ((h | h | h) | (h | h | h)) <;> simp [h]
termination_by a b => a.size + b.size
decreasing_by all_goals simp only [size]; omega

theorem mem_keys_without {q : Int} {k : Int × Int} : ∀ {h : Heap}, k ∈ (h.without q).keys -> k ∈ h.keys
  | nil, hk => by simp [without, keys] at hk
  | node d s l r, hk => by
    simp only [without] at hk
    split at hk
    · rw [mem_keys_merge] at hk
      simp only [keys, List.mem_cons, List.mem_append]; exact .inr hk
    · split at hk
      · rw [mem_keys_join] at hk
        simp only [keys, List.mem_cons, List.mem_append]
        rcases hk with hk | hk | hk
        · exact .inl hk
        · exact .inr (.inl (mem_keys_without hk))
        · exact .inr (.inr hk)
      · rw [mem_keys_join] at hk
        simp only [keys, List.mem_cons, List.mem_append]
        rcases hk with hk | hk | hk
        · exact .inl hk
        · exact .inr (.inl hk)
        · exact .inr (.inr (mem_keys_without hk))

theorem without_gone {q : Int} {h : Heap} (hok : h.ok) (hn : h.seqs.Nodup) : q ∉ (h.without q).seqs := by
  by_cases hq : q ∈ h.seqs
  · intro hm
    have h1 := without_count q q h hq
    have h2 := List.nodup_iff_count.1 hn q
    have h3 := List.count_pos_iff.2 hm
    rw [if_pos rfl] at h1
    omega
  · rw [without_none hok hq]; exact hq

end Heap

theorem mem_keys {l : List Twig} (h : Heap.Is l) {x : Twig} : (x.due, x.seq) ∈ (heapOf l).keys ↔ ∃ y ∈ l, y.due = x.due /\ y.seq = x.seq := by
  rw [Heap.keys_flat, (heapOf_is h).2, List.mem_map]
  simp only [Prod.mk.injEq]

theorem mem_flat {t : Heap} {x : Twig} (h : x ∈ t.flat) : (x.due, x.seq) ∈ t.keys := by
  rw [Heap.keys_flat]; exact List.mem_map.2 ⟨x, h, rfl⟩

theorem withoutL_ok {l : List Twig} (q : Int) (h : HeapOk l) : HeapOk (withoutL l q) := by
  obtain ⟨h1, h2, h3⟩ := h
  obtain ⟨hok, hf⟩ := heapOf_is h3
  have hn : (heapOf l).seqs.Nodup := by rw [heapOf_seqs h3]; exact h2
  refine ⟨?_, ?_, ⟨_, Heap.without_ok hok hn, rfl⟩⟩
  · unfold withoutL
    rw [Heap.flat_len]
    have h4 : (heapOf l).size = l.length := by rw [<- Heap.flat_len, hf]
    by_cases hq : q ∈ (heapOf l).seqs
    · have := Heap.without_size hq; omega
    · rw [Heap.without_none hok hq]; omega
  · unfold withoutL
    rw [<- Heap.seqs_flat]
    exact Heap.without_nodup hok hn

theorem withoutL_len {l : List Twig} {q : Int} (h : Heap.Is l) (hq : q ∈ l.map (·.seq)) : (withoutL l q).length + 1 = l.length := by
  obtain ⟨hok, hf⟩ := heapOf_is h
  unfold withoutL
  rw [Heap.flat_len, Heap.without_size (by rw [heapOf_seqs h]; exact hq), <- Heap.flat_len, hf]

theorem withoutL_mem {l : List Twig} {q : Int} (h : HeapOk l) {x : Twig} (hx : x ∈ withoutL l q) : x.seq ≠ q /\ ∃ y ∈ l, y.due = x.due /\ y.seq = x.seq := by
  obtain ⟨h1, h2, h3⟩ := h
  obtain ⟨hok, hf⟩ := heapOf_is h3
  have hn : (heapOf l).seqs.Nodup := by rw [heapOf_seqs h3]; exact h2
  refine ⟨fun e => Heap.without_gone hok hn (q := q) ?_, (mem_keys h3).1 (Heap.mem_keys_without (mem_flat hx))⟩
  rw [Heap.seqs_flat]
  exact List.mem_map.2 ⟨x, hx, e⟩

theorem apart_one {t : Heap} {d s : Int} (h : s ∉ t.seqs) : Heap.apart t (.node d s .nil .nil) := fun x hx hx' => by
  simp only [Heap.seqs, List.append_nil, List.mem_singleton] at hx'
  exact h (hx' ▸ hx)

theorem one_ok (d s : Int) : (Heap.node d s .nil .nil).ok := ⟨trivial, trivial, Nat.le_refl _, trivial, trivial⟩

theorem putL_len {l : List Twig} {d s : Int} (h : Heap.Is l) : (putL l d s).length = l.length + 1 := by
  obtain ⟨hok, hf⟩ := heapOf_is h
  unfold putL
  rw [Heap.flat_len, Heap.merge_size, <- Heap.flat_len (heapOf l), hf]; rfl

theorem putL_ok {l : List Twig} {d s : Int} (h : HeapOk l) (hs : s ∉ l.map (·.seq)) (hl : l.length < 64) : HeapOk (putL l d s) := by
  obtain ⟨h1, h2, h3⟩ := h
  obtain ⟨hok, hf⟩ := heapOf_is h3
  have hn : (heapOf l).seqs.Nodup := by rw [heapOf_seqs h3]; exact h2
  have hs' : s ∉ (heapOf l).seqs := by rw [heapOf_seqs h3]; exact hs
  refine ⟨by rw [putL_len h3]; omega, ?_, ⟨_, Heap.merge_ok hok (one_ok d s) (apart_one hs'), rfl⟩⟩
  unfold putL
  rw [<- Heap.seqs_flat]
  refine List.nodup_iff_count.2 fun x => ?_
  rw [Heap.merge_count]
  have h4 := List.nodup_iff_count.1 hn x
  simp only [Heap.seqs, List.append_nil, List.count_cons, List.count_nil]
  by_cases e : s = x
  · subst e
    have := List.count_eq_zero.2 hs'
    simp; omega
  · simp [e]; omega

theorem putL_mem {l : List Twig} {d s : Int} (h : Heap.Is l) {x : Twig} (hx : x ∈ putL l d s) : x.due = d /\ x.seq = s ∨ ∃ y ∈ l, y.due = x.due /\ y.seq = x.seq := by
  have h1 := mem_flat hx
  rw [Heap.mem_keys_merge] at h1
  rcases h1 with h1 | h1
  · exact .inr ((mem_keys h).1 h1)
  · simp only [Heap.keys, List.append_nil, List.mem_singleton, Prod.mk.injEq] at h1
    exact .inl h1

theorem set_map_seq {l : List Timer} {i : Nat} {x y : Timer} (hx : l[i]? = some x) (e : y.seq = x.seq) : (l.set i y).map (·.seq) = l.map (·.seq) := by
  obtain ⟨hl, hg⟩ := List.getElem?_eq_some_iff.1 hx
  refine List.ext_getElem (by simp) fun j h1 h2 => ?_
  simp only [List.getElem_map, List.getElem_set]
  split
  · rename_i hij; subst hij; rw [e, <- hg]
  · rfl

theorem pairwise_set {l : List Timer} {i : Nat} {x y : Timer} (hx : l[i]? = some x) (e : y.seq = x.seq) (hp : l.Pairwise (fun x y => x.seq < y.seq)) : (l.set i y).Pairwise (fun x y => x.seq < y.seq) := by
  have h1 : (l.map (·.seq)).Pairwise (· < ·) := List.pairwise_map.2 hp
  rw [<- set_map_seq hx e] at h1
  exact List.pairwise_map.1 h1

theorem armedN_set : ∀ {l : List Timer} {i : Nat} {x y : Timer}, l[i]? = some x -> armedN (l.set i y) + (if x.armed = true then 1 else 0) = armedN l + (if y.armed = true then 1 else 0)
  | [], i, x, y, h => by simp at h
  | z :: l, 0, x, y, h => by
    simp only [List.getElem?_cons_zero, Option.some.injEq] at h
    subst h
    simp only [List.set_cons_zero, armedN, List.filter_cons]
    by_cases hz : z.armed = true <;> by_cases hy : y.armed = true <;> simp [hz, hy]
  | z :: l, i + 1, x, y, h => by
    simp only [List.getElem?_cons_succ] at h
    have := armedN_set (y := y) h
    simp only [List.set_cons_succ, armedN, List.filter_cons] at this ⊢
    split <;> (try simp only [List.length_cons]) <;> omega

theorem mem_set_other {l : List Timer} {i : Nat} {x y z : Timer} (hx : l[i]? = some x) (hz : z ∈ l) (hne : z.seq ≠ x.seq) : z ∈ l.set i y := by
  obtain ⟨j, hj⟩ := List.getElem?_of_mem hz
  have hij : i ≠ j := fun e => hne (by subst e; rw [hj] at hx; cases hx; rfl)
  refine List.mem_of_getElem? (i := j) ?_
  rw [List.getElem?_set_ne hij]; exact hj

theorem stop_cases (t : Timers) (q : Int) : (stopT t q = (t, false)) ∨ ∃ x, 0 <= timIdx t.list q /\ t.list[(timIdx t.list q).toNat]? = some x /\ x.seq = q /\ x.armed = true /\
    stopT t q = (⟨withoutL t.heap q, t.list.set (timIdx t.list q).toNat { x with armed := false }, t.next⟩, true) := by
  by_cases h : 0 <= timIdx t.list q
  · obtain ⟨x, hx, e⟩ := timIdx_some h
    by_cases ha : x.armed = true
    · refine .inr ⟨x, h, hx, e, ha, ?_⟩
      unfold stopT; rw [if_pos h, hx]; exact if_pos ha
    · refine .inl ?_
      unfold stopT; rw [if_pos h, hx]; exact if_neg ha
  · exact .inl (if_neg h)

theorem stopT_ok {t : Timers} (q : Int) (h : TimersOk t) : TimersOk (stopT t q).1 := by
  rcases stop_cases t q with e | ⟨x, h0, hx, hq, ha, e⟩
  · rw [e]; exact h
  · rw [e]
    obtain ⟨h1, h2, h3, h4, h5, h6, h7⟩ := h
    have hxm := List.mem_of_getElem? hx
    have hqm : q ∈ t.heap.map (·.seq) := hq ▸ armed_in ⟨h1, h2, h3, h4, h5, h6, h7⟩ hxm ha
    refine ⟨h1, by simpa using h2, withoutL_ok q h3, fun y hy => ?_, pairwise_set hx rfl h5, ?_, fun w hw => ?_⟩
    · rcases List.mem_or_eq_of_mem_set hy with hy | rfl
      · exact h4 y hy
      · exact h4 x hxm
    · have g1 := armedN_set (y := { x with armed := false }) hx
      have g2 := withoutL_len h3.2.2 hqm
      rw [if_pos ha] at g1
      dsimp only at g1 ⊢
      simp only [Bool.false_eq_true, if_false] at g1
      omega
    · obtain ⟨hne, y, hy, e1, e2⟩ := withoutL_mem h3 hw
      obtain ⟨z, hz, g1, g2, g3⟩ := h7 y hy
      exact ⟨z, mem_set_other hx hz (by omega), by omega, g2, by omega⟩

theorem stopT_gone {t : Timers} {q : Int} (h : TimersOk t) : q ∉ (stopT t q).1.heap.map (·.seq) := by
  rcases stop_cases t q with e | ⟨x, h0, hx, hq, ha, e⟩
  · rw [e]
    intro hm
    obtain ⟨w, hw, e1⟩ := List.mem_map.1 hm
    obtain ⟨z, hz, g1, g2, g3⟩ := h.2.2.2.2.2.2 w hw
    have g4 := timIdx_mem hz
    rw [g1, e1] at g4
    obtain ⟨x, hx, hq⟩ := timIdx_some g4
    have : z = x := asc_eq h.2.2.2.2.1 hz (List.mem_of_getElem? hx) (by omega)
    unfold stopT at e
    rw [if_pos g4, hx] at e
    dsimp only at e
    rw [if_pos (this ▸ g2)] at e
    exact absurd (congrArg Prod.snd e) (by simp)
  · rw [e]
    intro hm
    obtain ⟨w, hw, e1⟩ := List.mem_map.1 hm
    exact (withoutL_mem h.2.2.1 hw).1 e1

def timer0 : Timer := ⟨0, 0, 0, 0, false⟩
def fireT (t : Timers) (now : Int) : Timers × Timer × Bool :=
  match t.heap with
  | [] => (t, timer0, false)
  | w :: _ => if w.due <= now /\ w.due ≠ 9223372036854775807 then
      match t.list[(timIdx t.list w.seq).toNat]? with
      | some x => ((stopT t w.seq).1, x, true)
      | none => (t, timer0, false)
    else (t, timer0, false)
def Fired (t : Timers) (now : Int) : Timers × Timer × Bool := if TimersOk t then fireT t now else (timers0, timer0, false)

theorem armT_ok {t : Timers} (due what whom : Int) (h : TimersOk t) : TimersOk (armT t due what whom).1 := by
  unfold armT
  split
  · exact h
  · rename_i hc
    obtain ⟨h1, h2, h3, h4, h5, h6, h7⟩ := h
    have hc1 : t.list.length ≠ 64 := fun e => hc (.inl e)
    have hc2 : t.next ≠ 1000000 := fun e => hc (.inr (.inl e))
    have hc3 : 0 <= what /\ what <= 2 := Classical.byContradiction fun e => hc (.inr (.inr (.inl e)))
    have hc4 : 0 <= whom /\ whom <= 99 := Classical.byContradiction fun e => hc (.inr (.inr (.inr e)))
    have hg : t.next ∉ t.heap.map (·.seq) := fun hm => by
      obtain ⟨w, hw, e1⟩ := List.mem_map.1 hm
      obtain ⟨z, hz, g1, g2, g3⟩ := h7 w hw
      have := (h4 z hz).1.2
      omega
    have hle := armedN_le t.list
    refine ⟨⟨by dsimp only; omega, by dsimp only; omega⟩, ?_, putL_ok h3 hg (by omega), fun y hy => ?_, ?_, ?_, fun w hw => ?_⟩
    · dsimp only
      rw [List.length_append]; simp; omega
    · rcases List.mem_append.1 hy with hy | hy
      · obtain ⟨⟨g1, g2⟩, g3, g4⟩ := h4 y hy
        exact ⟨⟨g1, by dsimp only; omega⟩, g3, g4⟩
      · rw [List.mem_singleton.1 hy]
        exact ⟨⟨h1.1, by dsimp only; omega⟩, hc3, hc4⟩
    · refine List.pairwise_append.2 ⟨h5, by simp, fun a ha b hb => ?_⟩
      rw [List.mem_singleton.1 hb]
      exact (h4 a ha).1.2
    · dsimp only
      rw [putL_len h3.2.2, <- h6]
      simp [armedN]
    · rcases putL_mem h3.2.2 hw with ⟨e1, e2⟩ | ⟨y, hy, e1, e2⟩
      · exact ⟨_, List.mem_append_right _ (List.mem_singleton.2 rfl), by dsimp only; omega, rfl, by dsimp only; omega⟩
      · obtain ⟨z, hz, g1, g2, g3⟩ := h7 y hy
        exact ⟨z, List.mem_append_left _ hz, by omega, g2, by omega⟩

end Go.Proofs.YtihfpbhalnedcaaGreat.AM
