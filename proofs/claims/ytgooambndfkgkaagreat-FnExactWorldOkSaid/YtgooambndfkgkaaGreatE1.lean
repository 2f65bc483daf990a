/- Plain heaps: leftist heaps as trees and as rows. -/
import Derived.Test.YtgooambndfkgkaaGreatPL
namespace Go.Proofs.YtgooambndfkgkaaGreat.AM

set_option linter.unusedVariables false

inductive Heap where
  | nil
  | node (due seq : Int) (l r : Heap)
  deriving DecidableEq

namespace Heap

def size : Heap → Nat
  | nil => 0
  | node _ _ l r => 1 + l.size + r.size

def flat : Heap → List Twig
  | nil => []
  | node d s l r => ⟨d, s, (l.size : Int)⟩ :: (l.flat ++ r.flat)

def rank : Heap → Nat
  | nil => 0
  | node _ _ _ r => 1 + r.rank

/-- It stands ahead of a heap's root. -/
def above (d s : Int) : Heap → Prop
  | nil => True
  | node d' s' _ _ => d < d' ∨ d = d' ∧ s < s'

instance (d s : Int) (h : Heap) : Decidable (above d s h) := by cases h <;> unfold above <;> infer_instance

def ok : Heap → Prop
  | nil => True
  | node d s l r => l.ok ∧ r.ok ∧ r.rank ≤ l.rank ∧ above d s l ∧ above d s r

instance decOk : (h : Heap) → Decidable h.ok
  | nil => .isTrue trivial
  | node d s l r =>
    have := decOk l
    have := decOk r
    by unfold ok; infer_instance

theorem flat_len (h : Heap) : h.flat.length = h.size := by
  induction h with
  | nil => rfl
  | node d s l r ihl ihr => simp [flat, size, ihl, ihr]; omega

theorem flat_nil {h : Heap} (e : h.flat = []) : h = nil := by
  cases h with
  | nil => rfl
  | node d s l r => simp [flat] at e

theorem flat_left (l r : Heap) : (l.flat ++ r.flat).take l.size = l.flat := by rw [← flat_len l]; simp
theorem flat_right (l r : Heap) : (l.flat ++ r.flat).drop l.size = r.flat := by rw [← flat_len l]; simp

/-- The rows tell the tree. -/
theorem flat_inj : ∀ {a b : Heap}, a.flat = b.flat → a = b
  | nil, b, h => (flat_nil h.symm).symm
  | node d s l r, nil, h => by simp [flat] at h
  | node d s l r, node d' s' l' r', h => by
    simp only [flat, List.cons.injEq, Twig.mk.injEq] at h
    obtain ⟨⟨h1, h2, h3⟩, h4⟩ := h
    have h3 : l.size = l'.size := by omega
    have e1 : l.flat = l'.flat := by rw [← flat_left l r, h4, h3, flat_left]
    have e2 : r.flat = r'.flat := by rw [← flat_right l r, h4, h3, flat_right]
    rw [h1, h2, flat_inj e1, flat_inj e2]

/-- The tree of rows, if they are a heap. -/
def parse : Nat → List Twig → Option Heap
  | 0, _ => none
  | _ + 1, [] => some nil
  | n + 1, x :: r => if 0 ≤ x.lefts ∧ x.lefts.toNat ≤ r.length then
      match parse n (r.take x.lefts.toNat), parse n (r.drop x.lefts.toNat) with
      | some a, some b => if (node x.due x.seq a b).ok then some (node x.due x.seq a b) else none
      | _, _ => none
    else none

theorem parse_flat : ∀ (n : Nat) {h : Heap}, h.ok → h.size < n → parse n h.flat = some h
  | 0, h, _, hn => by omega
  | n + 1, nil, _, _ => rfl
  | n + 1, node d s l r, hok, hn => by
    simp only [size] at hn
    simp only [flat, parse]
    rw [if_pos ⟨by omega, by simp [flat_len]⟩]
    have hl : ((l.size : Int)).toNat = l.size := by omega
    rw [hl, flat_left, flat_right, parse_flat n hok.1 (by omega), parse_flat n hok.2.1 (by omega)]
    exact if_pos hok

theorem parse_some : ∀ (n : Nat) {rows : List Twig} {h : Heap}, parse n rows = some h → h.ok ∧ h.flat = rows
  | 0, rows, h, e => by cases e
  | n + 1, [], h, e => by cases e; exact ⟨trivial, rfl⟩
  | n + 1, x :: r, h, e => by
    simp only [parse] at e
    split at e
    · rename_i hx
      split at e
      · rename_i a b ha hb
        split at e
        · rename_i hok
          cases e
          obtain ⟨_, ea⟩ := parse_some n ha
          obtain ⟨_, eb⟩ := parse_some n hb
          refine ⟨hok, ?_⟩
          have hs : a.size = x.lefts.toNat := by rw [← flat_len, ea]; simp; omega
          simp only [flat, ea, eb, List.take_append_drop, hs]
          congr 1
          cases x; simp; dsimp only at hx; omega
        · cases e
      · cases e
    · cases e

def Is (rows : List Twig) : Prop := ∃ h : Heap, h.ok ∧ h.flat = rows
instance (rows : List Twig) : Decidable (Is rows) := decidable_of_iff ((parse (rows.length + 1) rows).isSome = true) ⟨fun e => by
    obtain ⟨h, hh⟩ := Option.isSome_iff_exists.1 e
    exact ⟨h, parse_some _ hh⟩, fun ⟨h, hok, e⟩ => by rw [← e, parse_flat _ hok (by rw [flat_len]; omega)]; rfl⟩

def join (d s : Int) (a b : Heap) : Heap := if a.rank < b.rank then node d s b a else node d s a b

def top : Heap → Int × Int
  | nil => (0, 0)
  | node d s _ _ => (d, s)

/-- The union: the root that stands ahead is the root. -/
def merge : Heap → Heap → Heap
  | nil, b => b
  | node d s l r, nil => node d s l r
  | node d s l r, node d' s' l' r' => if d' < d ∨ d' = d ∧ s' < s then join d' s' l' (merge r' (node d s l r)) else join d s l (merge r (node d' s' l' r'))
termination_by a b => a.size + b.size
decreasing_by all_goals simp only [size]; omega

theorem join_size (d s : Int) (a b : Heap) : (join d s a b).size = 1 + a.size + b.size := by
  unfold join; split <;> simp only [size] <;> omega

theorem merge_size : ∀ (a b : Heap), (merge a b).size = a.size + b.size
  | nil, b => by simp [merge, size]
  | node d s l r, nil => by simp [merge, size]
  | node d s l r, node d' s' l' r' => by
    rw [merge]
    split
    · rw [join_size, merge_size r' (node d s l r)]; simp only [size]; omega
    · rw [join_size, merge_size r (node d' s' l' r')]; simp only [size]; omega
termination_by a b => a.size + b.size
decreasing_by all_goals simp only [size]; omega

/-- The Seqs. -/
def seqs : Heap → List Int
  | nil => []
  | node _ s l r => s :: (l.seqs ++ r.seqs)

theorem seqs_flat (h : Heap) : h.seqs = h.flat.map (·.seq) := by
  induction h with
  | nil => rfl
  | node d s l r ihl ihr => simp [seqs, flat, ihl, ihr]

theorem join_seqs (d s : Int) (a b : Heap) (x : Int) : (join d s a b).seqs.count x = (s :: (a.seqs ++ b.seqs)).count x := by
  unfold join; split <;> simp only [seqs, List.count_cons, List.count_append] <;> omega

theorem merge_count (x : Int) : ∀ (a b : Heap), (merge a b).seqs.count x = a.seqs.count x + b.seqs.count x
  | nil, b => by simp [merge, seqs]
  | node d s l r, nil => by simp [merge, seqs]
  | node d s l r, node d' s' l' r' => by
    rw [merge]
    split
    · rw [join_seqs]; simp only [List.count_cons, List.count_append]; rw [merge_count x r' (node d s l r)]; simp only [seqs, List.count_cons, List.count_append]; omega
    · rw [join_seqs]; simp only [List.count_cons, List.count_append]; rw [merge_count x r (node d' s' l' r')]; simp only [seqs, List.count_cons, List.count_append]; omega
termination_by a b => a.size + b.size
decreasing_by all_goals simp only [size]; omega

theorem join_ok {d s : Int} {a b : Heap} (ha : a.ok) (hb : b.ok) (h1 : above d s a) (h2 : above d s b) : (join d s a b).ok := by
  unfold join; split
  · exact ⟨hb, ha, by omega, h2, h1⟩
  · exact ⟨ha, hb, by omega, h1, h2⟩

theorem join_above {d s d' s' : Int} {a b : Heap} (h : d < d' ∨ d = d' ∧ s < s') : above d s (join d' s' a b) := by
  unfold join; split <;> exact h

/-- No Seq in common. -/
def apart (a b : Heap) : Prop := ∀ x ∈ a.seqs, x ∉ b.seqs

theorem merge_above {d s : Int} : ∀ {a b : Heap}, above d s a → above d s b → above d s (merge a b)
  | nil, b, _, h => by rw [merge]; exact h
  | node _ _ _ _, nil, h, _ => by rw [merge]; exact h
  | node d1 s1 l r, node d2 s2 l' r', h1, h2 => by
    rw [merge]; split
    · exact join_above h2
    · exact join_above h1

theorem merge_ok : ∀ {a b : Heap}, a.ok → b.ok → apart a b → (merge a b).ok
  | nil, b, _, h, _ => by rw [merge]; exact h
  | node _ _ _ _, nil, h, _, _ => by rw [merge]; exact h
  | node d s l r, node d' s' l' r', h1, h2, hap => by
    have hne : s ≠ s' := fun e => hap s (by simp [seqs]) (by simp [seqs, e])
    rw [merge]
    split
    · rename_i h
      refine join_ok h2.1 (merge_ok h2.2.1 h1 fun x hx hx' => hap x hx' (by simp [seqs, hx])) h2.2.2.2.1 (merge_above h2.2.2.2.2 h)
    · rename_i h
      refine join_ok h1.1 (merge_ok h1.2.1 h2 fun x hx => hap x (by simp [seqs, hx])) h1.2.2.2.1 (merge_above h1.2.2.2.2 ?_)
      show d < d' ∨ d = d' ∧ s < s'
      omega
termination_by a b => a.size + b.size
decreasing_by all_goals simp only [size]; omega

/-- Without the one with this Seq. -/
def without (q : Int) : Heap → Heap
  | nil => nil
  | node d s l r => if s = q then merge l r else if q ∈ l.seqs then join d s (without q l) r else join d s l (without q r)

theorem without_count (q x : Int) : ∀ (h : Heap), q ∈ h.seqs → (h.without q).seqs.count x + (if x = q then 1 else 0) = h.seqs.count x
  | nil, hq => by simp [seqs] at hq
  | node d s l r, hq => by
    simp only [without]
    split
    · rename_i e
      rw [merge_count]; subst e
      simp only [seqs, List.count_cons, List.count_append]
      by_cases hx : x = s
      · subst hx; first | (simp; done) | (simp; omega)
      · have : ¬ s = x := fun e => hx e.symm
        simp [hx, this]
    · rename_i hs
      split
      · rename_i hl
        rw [join_seqs]
        have := without_count q x l hl
        simp only [seqs, List.count_cons, List.count_append]; omega
      · rename_i hl
        have hr : q ∈ r.seqs := by
          simp only [seqs, List.mem_cons, List.mem_append] at hq
          rcases hq with h | h | h
          · exact absurd h.symm hs
          · exact absurd h hl
          · exact h
        rw [join_seqs]
        have := without_count q x r hr
        simp only [seqs, List.count_cons, List.count_append]; omega

theorem without_mem {q x : Int} {h : Heap} (hx : x ∈ (h.without q).seqs) : x ∈ h.seqs := by
  induction h with
  | nil => simp [without, seqs] at hx
  | node d s l r ihl ihr =>
    simp only [without] at hx
    split at hx
    · have : 0 < (merge l r).seqs.count x := List.count_pos_iff.2 hx
      rw [merge_count] at this
      simp only [seqs, List.mem_cons, List.mem_append]
      rcases Nat.eq_zero_or_pos (l.seqs.count x) with h | h
      · exact .inr (.inr (List.count_pos_iff.1 (by omega)))
      · exact .inr (.inl (List.count_pos_iff.1 h))
    · split at hx
      · have : 0 < (join d s (l.without q) r).seqs.count x := List.count_pos_iff.2 hx
        rw [join_seqs] at this
        have := List.count_pos_iff.1 this
        simp only [seqs, List.mem_cons, List.mem_append] at this ⊢
        rcases this with h | h | h
        · exact .inl h
        · exact .inr (.inl (ihl h))
        · exact .inr (.inr h)
      · have : 0 < (join d s l (r.without q)).seqs.count x := List.count_pos_iff.2 hx
        rw [join_seqs] at this
        have := List.count_pos_iff.1 this
        simp only [seqs, List.mem_cons, List.mem_append] at this ⊢
        rcases this with h | h | h
        · exact .inl h
        · exact .inr (.inl h)
        · exact .inr (.inr (ihr h))

theorem above_trans {d s d' s' : Int} {h : Heap} (h1 : d < d' ∨ d = d' ∧ s < s') (h2 : above d' s' h) : above d s h := by
  cases h with
  | nil => trivial
  | node d2 s2 l r => simp only [above] at h2 ⊢; omega

theorem without_above {q d s : Int} : ∀ {h : Heap}, h.ok → above d s h → above d s (h.without q)
  | nil, _, h => h
  | node d' s' l r, hok, h => by
    simp only [without]
    split
    · exact merge_above (above_trans h hok.2.2.2.1) (above_trans h hok.2.2.2.2)
    · split <;> exact join_above h

theorem without_ok {q : Int} : ∀ {h : Heap}, h.ok → h.seqs.Nodup → (h.without q).ok
  | nil, _, _ => trivial
  | node d s l r, hok, hn => by
    simp only [seqs, List.nodup_cons, List.nodup_append] at hn
    obtain ⟨_, hl, hr, hap⟩ := hn
    simp only [without]
    split
    · exact merge_ok hok.1 hok.2.1 fun x hx hx' => hap x hx x hx' rfl
    · split
      · exact join_ok (without_ok hok.1 hl) hok.2.1 (without_above hok.1 hok.2.2.2.1) hok.2.2.2.2
      · exact join_ok hok.1 (without_ok hok.2.1 hr) hok.2.2.2.1 (without_above hok.2.1 hok.2.2.2.2)

/-- What is not there is not taken away. -/
theorem without_none {q : Int} : ∀ {h : Heap}, h.ok → q ∉ h.seqs → h.without q = h
  | nil, _, _ => rfl
  | node d s l r, hok, hq => by
    simp only [seqs, List.mem_cons, List.mem_append, not_or] at hq
    simp only [without]
    rw [if_neg (fun e => hq.1 e.symm), if_neg hq.2.1, without_none hok.2.1 hq.2.2, join, if_neg (by have := hok.2.2.1; omega)]

theorem without_nodup {q : Int} {h : Heap} (hok : h.ok) (hn : h.seqs.Nodup) : (h.without q).seqs.Nodup := by
  by_cases hq : q ∈ h.seqs
  · refine List.nodup_iff_count.2 fun x => ?_
    have h1 := without_count q x h hq
    have h2 := List.nodup_iff_count.1 hn x
    omega
  · rw [without_none hok hq]; exact hn

end Heap

end Go.Proofs.YtgooambndfkgkaaGreat.AM
