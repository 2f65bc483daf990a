import Derived.Test.YtihfpbhalnedcaaGreatDA
import Derived.Test.YtihfpbhalnedcaaGreatHA
import Derived.Test.YtihfpbhalnedcaaGreatBC
/- In one: E1 E2 E3 E4 E5 E6 E7 E8 -/
set_option linter.unusedVariables false
set_option linter.unusedSimpArgs false
namespace Go.Proofs.YtihfpbhalnedcaaGreat.AM

inductive Heap where
  | nil
  | node (due seq : Int) (l r : Heap)
  deriving DecidableEq

namespace Heap

def size : Heap -> Nat
  | nil => 0
  | node _ _ l r => 1 + l.size + r.size

def flat : Heap -> List Twig
  | nil => []
  | node d s l r => ⟨d, s, (l.size : Int)⟩ :: (l.flat ++ r.flat)

def rank : Heap -> Nat
  | nil => 0
  | node _ _ _ r => 1 + r.rank

def above (d s : Int) : Heap -> Prop
  | nil => True
  | node d' s' _ _ => d < d' ∨ d = d' /\ s < s'

instance (d s : Int) (h : Heap) : Decidable (above d s h) := by cases h <;> unfold above <;> infer_instance

def ok : Heap -> Prop
  | nil => True
  | node d s l r => l.ok /\ r.ok /\ r.rank <= l.rank /\ above d s l /\ above d s r

instance decOk : (h : Heap) -> Decidable h.ok
  | nil => .isTrue trivial
  | node d s l r =>
    have := decOk l
    have := decOk r
    by unfold ok; infer_instance

theorem flat_len (h : Heap) : h.flat.length = h.size := by
  induction h with
  | nil => rfl
  | node d s l r ihl ihr => simp [flat, size, ihl, ihr]; omega

theorem flat_nil {h : Heap} (e : h.flat = []) : h = nil := by
  cases h with
  | nil => rfl
  | node d s l r => simp [flat] at e

theorem flat_left (l r : Heap) : (l.flat ++ r.flat).take l.size = l.flat := by rw [<- flat_len l]; simp
theorem flat_right (l r : Heap) : (l.flat ++ r.flat).drop l.size = r.flat := by rw [<- flat_len l]; simp

theorem flat_inj : ∀ {a b : Heap}, a.flat = b.flat -> a = b
  | nil, b, h => (flat_nil h.symm).symm
  | node d s l r, nil, h => by simp [flat] at h
  | node d s l r, node d' s' l' r', h => by
    simp only [flat, List.cons.injEq, Twig.mk.injEq] at h
    obtain ⟨⟨h1, h2, h3⟩, h4⟩ := h
    have h3 : l.size = l'.size := by omega
    have e1 : l.flat = l'.flat := by rw [<- flat_left l r, h4, h3, flat_left]
    have e2 : r.flat = r'.flat := by rw [<- flat_right l r, h4, h3, flat_right]
    rw [h1, h2, flat_inj e1, flat_inj e2]

def parse : Nat -> List Twig -> Option Heap
  | 0, _ => none
  | _ + 1, [] => some nil
  | n + 1, x :: r => if 0 <= x.lefts /\ x.lefts.toNat <= r.length then
      match parse n (r.take x.lefts.toNat), parse n (r.drop x.lefts.toNat) with
      | some a, some b => if (node x.due x.seq a b).ok then some (node x.due x.seq a b) else none
      | _, _ => none
    else none

theorem parse_flat : ∀ (n : Nat) {h : Heap}, h.ok -> h.size < n -> parse n h.flat = some h
  | 0, h, _, hn => by omega
  | n + 1, nil, _, _ => rfl
  | n + 1, node d s l r, hok, hn => by
    simp only [size] at hn
    simp only [flat, parse]
    rw [if_pos ⟨by omega, by simp [flat_len]⟩]
    have hl : ((l.size : Int)).toNat = l.size := by omega
    rw [hl, flat_left, flat_right, parse_flat n hok.1 (by omega), parse_flat n hok.2.1 (by omega)]
    exact if_pos hok

theorem parse_some : ∀ (n : Nat) {rows : List Twig} {h : Heap}, parse n rows = some h -> h.ok /\ h.flat = rows
  | 0, rows, h, e => by cases e
  | n + 1, [], h, e => by cases e; exact ⟨trivial, rfl⟩
  | n + 1, x :: r, h, e => by
    simp only [parse] at e
    split at e
    · rename_i hx
      split at e
      · rename_i a b ha hb
        split at e
        · rename_i hok
          cases e
          obtain ⟨_, ea⟩ := parse_some n ha
          obtain ⟨_, eb⟩ := parse_some n hb
          refine ⟨hok, ?_⟩
          have hs : a.size = x.lefts.toNat := by rw [<- flat_len, ea]; simp; omega
          simp only [flat, ea, eb, List.take_append_drop, hs]
          congr 1
          cases x; simp; dsimp only at hx; omega
        · cases e
      · cases e
    · cases e

def Is (rows : List Twig) : Prop := ∃ h : Heap, h.ok /\ h.flat = rows
instance (rows : List Twig) : Decidable (Is rows) := decidable_of_iff ((parse (rows.length + 1) rows).isSome = true) ⟨fun e => by
    obtain ⟨h, hh⟩ := Option.isSome_iff_exists.1 e
    exact ⟨h, parse_some _ hh⟩, fun ⟨h, hok, e⟩ => by rw [<- e, parse_flat _ hok (by rw [flat_len]; omega)]; rfl⟩

def join (d s : Int) (a b : Heap) : Heap := if a.rank < b.rank then node d s b a else node d s a b

def merge : Heap -> Heap -> Heap
  | nil, b => b
  | node d s l r, nil => node d s l r
  | node d s l r, node d' s' l' r' => if d' < d ∨ d' = d /\ s' < s then join d' s' l' (merge r' (node d s l r)) else join d s l (merge r (node d' s' l' r'))
termination_by a b => a.size + b.size
decreasing_by all_goals simp only [size]; omega

theorem join_size (d s : Int) (a b : Heap) : (join d s a b).size = 1 + a.size + b.size := by
  unfold join; split <;> simp only [size] <;> omega

theorem merge_size : ∀ (a b : Heap), (merge a b).size = a.size + b.size
  | nil, b => by simp [merge, size]
  | node d s l r, nil => by simp [merge, size]
  | node d s l r, node d' s' l' r' => by
    rw [merge]
    split
    · rw [join_size, merge_size r' (node d s l r)]; simp only [size]; omega
    · rw [join_size, merge_size r (node d' s' l' r')]; simp only [size]; omega
termination_by a b => a.size + b.size
decreasing_by all_goals simp only [size]; omega

def seqs : Heap -> List Int
  | nil => []
  | node _ s l r => s :: (l.seqs ++ r.seqs)

theorem seqs_flat (h : Heap) : h.seqs = h.flat.map (·.seq) := by
  induction h with
  | nil => rfl
  | node d s l r ihl ihr => simp [seqs, flat, ihl, ihr]

theorem join_seqs (d s : Int) (a b : Heap) (x : Int) : (join d s a b).seqs.count x = (s :: (a.seqs ++ b.seqs)).count x := by
  unfold join; split <;> simp only [seqs, List.count_cons, List.count_append] <;> omega

theorem merge_count (x : Int) : ∀ (a b : Heap), (merge a b).seqs.count x = a.seqs.count x + b.seqs.count x
  | nil, b => by simp [merge, seqs]
  | node d s l r, nil => by simp [merge, seqs]
  | node d s l r, node d' s' l' r' => by
    rw [merge]
    split
    · rw [join_seqs]; simp only [List.count_cons, List.count_append]; rw [merge_count x r' (node d s l r)]; simp only [seqs, List.count_cons, List.count_append]; omega
    · rw [join_seqs]; simp only [List.count_cons, List.count_append]; rw [merge_count x r (node d' s' l' r')]; simp only [seqs, List.count_cons, List.count_append]; omega
termination_by a b => a.size + b.size
decreasing_by all_goals simp only [size]; omega

theorem join_ok {d s : Int} {a b : Heap} (ha : a.ok) (hb : b.ok) (h1 : above d s a) (h2 : above d s b) : (join d s a b).ok := by
  unfold join; split
  · exact ⟨hb, ha, by omega, h2, h1⟩
  · exact ⟨ha, hb, by omega, h1, h2⟩

theorem join_above {d s d' s' : Int} {a b : Heap} (h : d < d' ∨ d = d' /\ s < s') : above d s (join d' s' a b) := by
  unfold join; split <;> exact h

def apart (a b : Heap) : Prop := ∀ x ∈ a.seqs, x ∉ b.seqs

theorem merge_above {d s : Int} : ∀ {a b : Heap}, above d s a -> above d s b -> above d s (merge a b)
  | nil, b, _, h => by rw [merge]; exact h
  | node _ _ _ _, nil, h, _ => by rw [merge]; exact h
  | node d1 s1 l r, node d2 s2 l' r', h1, h2 => by
    rw [merge]; split
    · exact join_above h2
    · exact join_above h1

theorem merge_ok : ∀ {a b : Heap}, a.ok -> b.ok -> apart a b -> (merge a b).ok
  | nil, b, _, h, _ => by rw [merge]; exact h
  | node _ _ _ _, nil, h, _, _ => by rw [merge]; exact h
  | node d s l r, node d' s' l' r', h1, h2, hap => by
    have hne : s ≠ s' := fun e => hap s (by simp [seqs]) (by simp [seqs, e])
    rw [merge]
    split
    · rename_i h
      refine join_ok h2.1 (merge_ok h2.2.1 h1 fun x hx hx' => hap x hx' (by simp [seqs, hx])) h2.2.2.2.1 (merge_above h2.2.2.2.2 h)
    · rename_i h
      refine join_ok h1.1 (merge_ok h1.2.1 h2 fun x hx => hap x (by simp [seqs, hx])) h1.2.2.2.1 (merge_above h1.2.2.2.2 ?_)
      show d < d' ∨ d = d' /\ s < s'
      omega
termination_by a b => a.size + b.size
decreasing_by all_goals simp only [size]; omega

def without (q : Int) : Heap -> Heap
  | nil => nil
  | node d s l r => if s = q then merge l r else if q ∈ l.seqs then join d s (without q l) r else join d s l (without q r)

theorem without_count (q x : Int) : ∀ (h : Heap), q ∈ h.seqs -> (h.without q).seqs.count x + (if x = q then 1 else 0) = h.seqs.count x
  | nil, hq => by simp [seqs] at hq
  | node d s l r, hq => by
    simp only [without]
    split
    · rename_i e
      rw [merge_count]; subst e
      simp only [seqs, List.count_cons, List.count_append]
      by_cases hx : x = s
      · subst hx; first | (simp; done) | (simp; omega)
      · have : ¬ s = x := fun e => hx e.symm
        simp [hx, this]
    · rename_i hs
      split
      · rename_i hl
        rw [join_seqs]
        have := without_count q x l hl
        simp only [seqs, List.count_cons, List.count_append]; omega
      · rename_i hl
        have hr : q ∈ r.seqs := by
          simp only [seqs, List.mem_cons, List.mem_append] at hq
          rcases hq with h | h | h
          · exact absurd h.symm hs
          · exact absurd h hl
          · exact h
        rw [join_seqs]
        have := without_count q x r hr
        simp only [seqs, List.count_cons, List.count_append]; omega

theorem above_trans {d s d' s' : Int} {h : Heap} (h1 : d < d' ∨ d = d' /\ s < s') (h2 : above d' s' h) : above d s h := by
  cases h with
  | nil => trivial
  | node d2 s2 l r => simp only [above] at h2 ⊢; omega

theorem without_above {q d s : Int} : ∀ {h : Heap}, h.ok -> above d s h -> above d s (h.without q)
  | nil, _, h => h
  | node d' s' l r, hok, h => by
    simp only [without]
    split
    · exact merge_above (above_trans h hok.2.2.2.1) (above_trans h hok.2.2.2.2)
    · split <;> exact join_above h

theorem without_ok {q : Int} : ∀ {h : Heap}, h.ok -> h.seqs.Nodup -> (h.without q).ok
  | nil, _, _ => trivial
  | node d s l r, hok, hn => by
    simp only [seqs, List.nodup_cons, List.nodup_append] at hn
    obtain ⟨_, hl, hr, hap⟩ := hn
    simp only [without]
    split
    · exact merge_ok hok.1 hok.2.1 fun x hx hx' => hap x hx x hx' rfl
    · split
      · exact join_ok (without_ok hok.1 hl) hok.2.1 (without_above hok.1 hok.2.2.2.1) hok.2.2.2.2
      · exact join_ok hok.1 (without_ok hok.2.1 hr) hok.2.2.2.1 (without_above hok.2.1 hok.2.2.2.2)

theorem without_none {q : Int} : ∀ {h : Heap}, h.ok -> q ∉ h.seqs -> h.without q = h
  | nil, _, _ => rfl
  | node d s l r, hok, hq => by
    simp only [seqs, List.mem_cons, List.mem_append, not_or] at hq
    simp only [without]
    rw [if_neg (fun e => hq.1 e.symm), if_neg hq.2.1, without_none hok.2.1 hq.2.2, join, if_neg (by have := hok.2.2.1; omega)]

theorem without_nodup {q : Int} {h : Heap} (hok : h.ok) (hn : h.seqs.Nodup) : (h.without q).seqs.Nodup := by
  by_cases hq : q ∈ h.seqs
  · refine List.nodup_iff_count.2 fun x => ?_
    have h1 := without_count q x h hq
    have h2 := List.nodup_iff_count.1 hn x
    omega
  · rw [without_none hok hq]; exact hn

end Heap

end Go.Proofs.YtihfpbhalnedcaaGreat.AM

namespace Go.Proofs.YtihfpbhalnedcaaGreat.AM
open Go Go.Proofs

set_option maxRecDepth 100000
set_option maxHeartbeats 4000000

variable {P : Program} {A : Sy}

theorem plainTwig : Plain cTwig := fun _ => rfl
def rTwig (A : Sy) (l : List Twig) : AV := .own 3 true (A.enc cTwig l)

theorem cloneTwig_c (S : Se P A) (l : List Twig) (hb : l.length <= 4294967296) : Is1 P 324 [.ro (A.enc cTwig l)] (rTwig A l) := by
  refine S.cx.by (S.prog ▸ Tryz.func324) rfl rfl rfl rfl (fun hv ho => ?_)
  cbv
  refine NilT.ro S.cx (fun h => ?_) ?_ <;> cbv
  · subst h
    exact Done.isA (r := rTwig A) (x := []) (rfl)
  · refine AppNew.enc S.cx plainTwig (.inr (.inr trivial)) (fun _ => rfl) (by simp only [maxBytes]; omega) (fun n hn => ?_); cbv
    exact Done.isA (r := rTwig A) (x := l) (rfl)

theorem sizeTwig_c (S : Se P A) (l : List Twig) : Nums P 342 [.ro (A.enc cTwig l)] (fun n => 0 <= n /\ n.toNat = l.length) := by
  refine S.cx.by (S.prog ▸ Tryz.func342) rfl rfl rfl rfl (fun hv ho => ?_)
  cbv
  refine LenR.nat S.cx (fun N hN hm => ?_); cbv
  exact Done.num hN

theorem indexFuncTwig1_c (S : Se P A) (F : FuncId) (c1 : List AV) (q : Twig -> Prop) (hF : ∀ x : Twig, Tests P F [.agg (cTwig x), .rptr c1] (q x)) (l : List Twig) : Nums P 339 [.ro (A.enc cTwig l), .fn F [] [.rptr c1]] (fun r => 0 <= r /\ (∃ x, l[r.toNat]? = some x /\ q x) /\ Upto (fun _ x => ¬ q x) l r ∨ r = -1 /\ ∀ x ∈ l, ¬ q x) := by
  refine S.cx.by (S.prog ▸ Tryz.func339) rfl rfl rfl rfl (fun hv ho => ?_)
  cbv
  refine LenR.nat S.cx (fun N hN hm => ?_); cbv
  refine ALoop.goD (ι := Int) (fun i => [(8, .int .i64 i)]) [] (fun i => []) (fun i => 0 <= i /\ Upto (fun _ x => ¬ q x) l i) (fun i => (l.length - i).toNat) (0) S.cx.tab S.cx.mix S.eq ?_ ?_ ?_
  · exact ⟨Int.le_refl _, .zero⟩
  · (cbv; exact Less.toA [])
  · rintro i ⟨h0, hu⟩
    cbv
    refine Test.lss (fun h => ?_) (fun h => ?_) <;> cbv
    · refine ElemRo.enc S.cx (fun _ => rfl) (by lia) (by lia) (fun x hx => ?_); cbv
      refine ACall.testX (dp := false) (hF x) .go rfl (fun h2 => ?_) (fun h2 => ?_) <;> cbv
      · exact Done.num (.inl ⟨h0, ⟨x, hx, h2⟩, hu⟩)
      · refine Arith.go (by lia) (fun i' hi' => ?_); cbv
        refine Again.on i' (by lia) ⟨by lia, hu.next h0 hx h2 hi'⟩ ?_
        (cbv; exact Less.toA [])
    · exact Done.num (.inr ⟨rfl, hu.mem (by lia)⟩)

theorem SoundM.knownH {f : FuncId} {args : List AV} {p : Int -> Prop} {e : Int} (h : Nums P f args p) (hu : ∀ n, p n -> n = e) : Is1 P f args (.int .i64 e) :=
  h.mono fun v os ⟨⟨n, hn, hv⟩, ho⟩ => ⟨by rw [<- hu n hn]; exact hv, ho⟩

def cmp3 (a b : Int) : Int := if a < b then -1 else if b < a then 1 else 0
def cmpT (a b : Twig) : Int := if cmp3 a.due b.due ≠ 0 then cmp3 a.due b.due else cmp3 a.seq b.seq
theorem cmpT_neg (a b : Twig) : cmpT a b < 0 ↔ (a.due < b.due ∨ a.due = b.due /\ a.seq < b.seq) := by
  unfold cmpT cmp3
  repeat' split
  all_goals omega

theorem isNaN_c (S : Se P A) (n : Int) : Is1 P 366 [.int .i64 n] (.bool false) := by
  refine S.cx.by (S.prog ▸ Tryz.func366) rfl rfl rfl rfl (fun hv ho => ?_)
  cbv
  refine Test.neq (fun h => ?_) (fun h => ?_) <;> cbv
  · exact absurd rfl h
  · exact Done.to (.bool false) [] rfl rfl trivial ⟨rfl, rfl⟩

theorem compare_c (S : Se P A) (a b : Int) : Is1 P 364 [.int .i64 a, .int .i64 b] (.int .i64 (cmp3 a b)) := by
  refine S.cx.by (S.prog ▸ Tryz.func364) rfl rfl rfl rfl (fun hv ho => ?_)
  cbv
  refine ACall.fn (dp := false) (isNaN_c S a) .go ⟨rfl, ?_⟩; cbv
  refine ACall.fn (dp := false) (isNaN_c S b) .go ⟨rfl, ?_⟩; cbv
  refine Test.lss (fun h => ?_) (fun h => ?_) <;> cbv
  · exact Done.to (.int .i64 (-1)) [] rfl rfl trivial ⟨by rw [cmp3, if_pos h], rfl⟩
  refine Test.gtr (fun h2 => ?_) (fun h2 => ?_) <;> cbv
  · exact Done.to (.int .i64 1) [] rfl rfl trivial ⟨by rw [cmp3, if_neg (by omega), if_pos h2], rfl⟩
  · exact Done.to (.int .i64 0) [] rfl rfl trivial ⟨by rw [cmp3, if_neg (by omega), if_neg (by omega)], rfl⟩

theorem or2_c (S : Se P A) (a b : Int) : Is1 P 363 [.ro [[.int .i64 a], [.int .i64 b]], ] (.int .i64 (if a ≠ 0 then a else b)) := by
  have e : [[AV.int .i64 a], [AV.int .i64 b]] = A.enc cInt64 [a, b] := by rw [S.cx.enc]; rfl
  rw [e]
  refine S.cx.by (S.prog ▸ Tryz.func363) rfl rfl rfl rfl (fun hv ho => ?_)
  cbv
  refine LenR.nat S.cx (fun N hN hm => ?_); cbv
  have hN2 : N = 2 := by simp at hN; omega
  refine ALoop.goS (ι := Int) (fun i => [(8, .int .i64 i)]) [] (fun i => []) (fun i => 0 <= i /\ (0 < i -> a = 0) /\ (1 < i -> b = 0)) (fun i => (2 - i).toNat) (0) S.cx.tab S.cx.mix S.eq ?_ ?_ ?_
  · exact ⟨Int.le_refl _, fun h => by omega, fun h => by omega⟩
  · (cbv; exact Less.toA [])
  rintro i ⟨h0, ha, hb⟩
  refine Rnd.mk ?_; cbv
  refine Test.lss (fun h => ?_) (fun h => ?_) <;> cbv
  · rcases (show i = 0 ∨ i = 1 by omega) with rfl | rfl
    · refine ElemRo.at S.cx (x := a) rfl (by decide) rfl ?_; cbv
      refine Test.neq (fun h2 => ?_) (fun h2 => ?_) <;> cbv
      · exact Done.to (.int .i64 a) [] rfl rfl trivial ⟨by rw [if_pos h2], rfl⟩
      · refine Arith.go (by lia) (fun i' hi' => ?_); cbv
        replace hi' : i' = 0 + 1 := hi'
        refine Again.on i' (by lia) ⟨by lia, fun _ => h2, fun h => by omega⟩ ?_
        (cbv; exact Less.toA [])
    · refine ElemRo.at S.cx (x := b) rfl (by decide) rfl ?_; cbv
      have ha := ha (by decide)
      refine Test.neq (fun h2 => ?_) (fun h2 => ?_) <;> cbv
      · exact Done.to (.int .i64 b) [] rfl rfl trivial ⟨by rw [if_neg (fun e => e ha)], rfl⟩
      · refine Arith.go (by lia) (fun i' hi' => ?_); cbv
        replace hi' : i' = 1 + 1 := hi'
        refine Again.on i' (by lia) ⟨by lia, fun _ => ha, fun _ => h2⟩ ?_
        (cbv; exact Less.toA [])
  · have ha := ha (by omega)
    have hb := hb (by omega)
    exact Done.to (.int .i64 0) [] rfl rfl trivial ⟨by rw [if_neg (fun e => e ha), hb], rfl⟩

theorem twigCompare_c (S : Se P A) (d1 s1 l1 d2 s2 l2 : Int) : Is1 P 338 [.agg (cTwig ⟨d1, s1, l1⟩), .agg (cTwig ⟨d2, s2, l2⟩)] (.int .i64 (cmpT ⟨d1, s1, l1⟩ ⟨d2, s2, l2⟩)) := by
  refine S.cx.by (S.prog ▸ Tryz.func338) rfl rfl rfl rfl (fun hv ho => ?_)
  cbv
  try (refine Drawn.mk ⟨by kernel_rfl, fun _ => ?_⟩)
  refine ACall.int (dp := false) (compare_c S d1 d2) .go rfl (fun x hx => ?_); cbv
  refine ACall.int (dp := false) (compare_c S s1 s2) .go rfl (fun y hy => ?_); cbv
  refine ACall.int (dp := false) (or2_c S x y) .go rfl (fun z hz => ?_); cbv
  exact Done.to (.int .i64 z) [] rfl rfl trivial ⟨by rw [hz, hx, hy]; rfl, rfl⟩

def rPP (A : Sy) (p : List Twig × List Twig) : AV := .tup [.ro (A.enc cTwig p.1), .ro (A.enc cTwig p.2)]

theorem parts_c (S : Se P A) (x : Twig) (r : List Twig) (h0 : 0 <= x.lefts) (h1 : x.lefts.toNat <= r.length) : SoundM P 279 true [.ro (A.enc cTwig (x :: r))] []
    (fun v os => v = rPP A (r.take x.lefts.toNat, r.drop x.lefts.toNat) /\ os = []) := by
  obtain ⟨l, hl⟩ : ∃ l, l = x :: r := ⟨_, rfl⟩
  have hll : l.length = r.length + 1 := by rw [hl]; rfl
  rw [<- hl]
  obtain ⟨k, hk⟩ : ∃ k, k = x.lefts := ⟨_, rfl⟩
  rw [<- hk] at h0 h1 ⊢
  refine S.cx.by (S.prog ▸ Tryz.func279) rfl rfl rfl rfl (fun hv ho => ?_)
  cbv
  have hlen : l.length <= 9223372036854775807 := by
    have h1 := AV.real.len (hv _ (List.mem_singleton.2 rfl))
    rw [S.cx.lenE'] at h1; simp only [maxLen] at h1; omega
  refine ElemRo.at S.cx (x := x) rfl (by decide) (by rw [hl]; rfl) ?_
  obtain ⟨xd, xs, xl⟩ := x
  dsimp only at hk
  subst hk
  cbv
  refine Arith.go (by lia) (fun n hn => ?_); replace hn : n = 1 + k := hn; cbv
  try (refine Drawn.mk ⟨by kernel_rfl, fun _ => ?_⟩)
  refine CutRo.enc S.cx (fun _ => rfl) (by decide) (by lia) (by lia) (fun a ha => ?_); cbv
  refine CutRoE.enc S.cx (fun _ => rfl) (by lia) (by lia) (fun b hb => ?_); cbv
  refine Done.to (rPP A (a, b)) [] rfl ⟨⟨rfl, .inl rfl⟩, ⟨rfl, .inl rfl⟩, trivial⟩ trivial ⟨?_, rfl⟩
  have e1 : a = r.take k.toNat := by rw [ha, hl, show n.toNat = k.toNat + 1 by omega]; rfl
  have e2 : b = r.drop k.toNat := by rw [hb, hl, show n.toNat = k.toNat + 1 by omega]; rfl
  rw [e1, e2]

theorem Heap.flat_cons {t : Heap} {x : Twig} {r : List Twig} (h : t.flat = x :: r) : ∃ a b, t = .node x.due x.seq a b /\ x.lefts = (a.size : Int) /\ a.flat = r.take x.lefts.toNat /\ b.flat = r.drop x.lefts.toNat /\ x.lefts.toNat <= r.length := by
  cases t with
  | nil => cases h
  | node d s a b =>
    simp only [flat, List.cons.injEq] at h
    obtain ⟨h1, h2⟩ := h
    subst h1
    have e : ((a.size : Int)).toNat = a.size := by omega
    refine ⟨a, b, rfl, rfl, ?_, ?_, ?_⟩
    · dsimp only; rw [e, <- h2, flat_left]
    · dsimp only; rw [e, <- h2, flat_right]
    · dsimp only; rw [e, <- h2]; simp [flat_len]

theorem Heap.is_cons {x : Twig} {r : List Twig} : Heap.Is (x :: r) ↔ (0 <= x.lefts /\ x.lefts.toNat <= r.length) /\ ∃ a b : Heap, a.ok /\ b.ok /\ a.flat = r.take x.lefts.toNat /\ b.flat = r.drop x.lefts.toNat /\ b.rank <= a.rank /\ above x.due x.seq a /\ above x.due x.seq b := by
  constructor
  · rintro ⟨t, hok, hf⟩
    obtain ⟨a, b, rfl, h1, h2, h3, h4⟩ := flat_cons hf
    exact ⟨⟨by omega, h4⟩, a, b, hok.1, hok.2.1, h2, h3, hok.2.2.1, hok.2.2.2.1, hok.2.2.2.2⟩
  · rintro ⟨⟨h0, h1⟩, a, b, ha, hb, ea, eb, hr, hla, hlb⟩
    have hs : a.size = x.lefts.toNat := by rw [<- flat_len, ea]; simp; omega
    refine ⟨.node x.due x.seq a b, ⟨ha, hb, hr, hla, hlb⟩, ?_⟩
    simp only [flat, ea, eb, List.take_append_drop, hs]
    congr 1
    cases x; simp; dsimp only at h0; omega

theorem Heap.above_cons {t : Heap} {y : Twig} {r : List Twig} {d s : Int} (h : t.flat = y :: r) : above d s t ↔ (d < y.due ∨ d = y.due /\ s < y.seq) := by
  obtain ⟨a, b, rfl, _⟩ := flat_cons h
  exact Iff.rfl

theorem rank_c (S : Se P A) (t : Heap) (l : List Twig) (hl : t.flat = l) (hb : l.length <= 4294967296) : Is1 P 341 [.ro (A.enc cTwig l)] (.int .i64 (t.rank : Int)) := by
  refine SoundM.knownH (p := fun n => 0 <= n /\ n.toNat = t.rank) ?_ (fun n h => by omega)
  have hrb : ∀ t : Heap, t.rank <= t.size := fun t => by
    induction t with
    | nil => exact Nat.le_refl _
    | node d s a b iha ihb => simp only [Heap.rank, Heap.size]; omega
  refine S.cx.by (S.prog ▸ Tryz.func341) rfl rfl rfl rfl (fun hv ho => ?_)
  cbv
  refine ALoop.goF (ι := List Twig × Int) (fun i => [(0, .ro (A.enc cTwig i.1)), (3, .int .i64 i.2)]) [1] [] (fun i => []) (fun i => 0 <= i.2 /\ i.1.length <= 4294967296 /\ i.2 <= 4294967296 /\ ∃ u : Heap, u.flat = i.1 /\ i.2.toNat + u.rank = t.rank /\ i.2.toNat + u.size <= t.size) (fun i => i.1.length) (l, 0) S.cx.tab S.cx.mix S.eq ?_ ?_ ?_
  · exact ⟨Int.le_refl _, hb, by dsimp only; omega, t, hl, by simp, by simp⟩
  · (cbv; exact Less.toA [])
  rintro ⟨m, n⟩ ⟨h0, hmb, hn4, hu⟩
  dsimp only at h0 hmb hn4 hu
  obtain ⟨u, hu, hr, hsz⟩ := hu
  have htl : t.size <= 4294967296 := by rw [<- Heap.flat_len, hl]; exact hb
  refine Rnd.mk ?_; cbv
  refine LenR.nat S.cx (fun N hN hm => ?_); cbv
  refine Test.gtr (fun h => ?_) (fun h => ?_) <;> cbv
  · obtain ⟨x, r, hm2⟩ : ∃ x r, m = x :: r := by
      cases m with
      | nil => simp at hN; omega
      | cons x r => exact ⟨x, r, rfl⟩
    obtain ⟨a, b, hu2, hx, ha, hb2, hle⟩ := Heap.flat_cons (hu.trans hm2)
    rw [hm2]
    refine ACall.valN (r := rPP A) (os := fun _ => []) (dp := false) S.cx (parts_c S x r (by omega) hle) .go rfl (fun ln hln x hx => ⟨rfl, ?_⟩)
    obtain ⟨left, right⟩ := x
    cbv
    have hright : right = r.drop x.lefts.toNat := by
      have e : (⟨left, right⟩ : List Twig × List Twig) = (r.take x.lefts.toNat, r.drop x.lefts.toNat) := by assumption
      exact congrArg (·.2) e
    have hsu : u.size = 1 + a.size + b.size := by rw [hu2]; rfl
    have hru : u.rank = 1 + b.rank := by rw [hu2]; rfl
    refine Arith.go (by lia) (fun n' hn' => ?_); replace hn' : n' = n + 1 := hn'; cbv
    have hrl : right.length < m.length := by rw [hright, hm2]; simp; omega
    refine Again.on (right, n') (by show right.length < (x :: r).length; rw [<- hm2]; exact hrl) ⟨by dsimp only; lia, by dsimp only; omega, by dsimp only; omega, b, by dsimp only; rw [hb2, hright], by dsimp only; omega, by dsimp only; omega⟩ ?_
    (cbv; exact Less.toA [])
  · have hm2 : m = [] := List.length_eq_zero_iff.1 (by omega)
    have hu0 : u = .nil := Heap.flat_nil (hu.trans hm2)
    exact Done.num ⟨h0, by rw [hu0] at hr; simpa [Heap.rank] using hr⟩

theorem isHeap_step (S : Se P A) (h : List Twig) (hb : h.length <= 4294967296) (ih : ∀ h' : List Twig, h'.length < h.length -> Tests P 353 [.ro (A.enc cTwig h')] (Heap.Is h')) : Tests P 353 [.ro (A.enc cTwig h)] (Heap.Is h) := by
  refine S.cx.by (S.prog ▸ Tryz.func353) rfl rfl rfl rfl (fun hv ho => ?_)
  cbv
  refine LenR.nat S.cx (fun N hN hm => ?_); cbv
  refine Test.eql (fun h1 => ?_) (fun h1 => ?_) <;> cbv
  · exact Done.yes ⟨.nil, trivial, (List.length_eq_zero_iff.1 (by omega)).symm⟩
  obtain ⟨x, r, hh⟩ : ∃ x r, h = x :: r := by
    cases h with
    | nil => simp at hN; omega
    | cons x r => exact ⟨x, r, rfl⟩
  have hr : h.length = r.length + 1 := by rw [hh]; rfl
  have hx0 : h[(0 : Int).toNat]? = some x := by rw [hh]; rfl
  try (refine Drawn.mk ⟨by kernel_rfl, fun _ => ?_⟩)
  refine ElemRo.at S.cx (x := x) rfl (by decide) hx0 ?_; cbv
  refine ACall.int (dp := false) (SoundM.knownH (e := (h.length : Int)) (sizeTwig_c S h) (fun n h => by omega)) .go rfl (fun M hM => ?_); cbv
  replace hM : 0 <= M /\ M.toNat = h.length := by lia
  refine Arith.go (by lia) (fun z hz => ?_); replace hz : z = M - 1 := hz; cbv
  refine ACall.testD (dp := false) (within_c S x.lefts 0 z) .go rfl (fun h2 => ?_) (fun h2 => ?_) <;> cbv
  rotate_left
  · exact Done.no (fun e => h2 (by rw [hh] at e; have := (Heap.is_cons.1 e).1; omega))
  have hx1 : 0 <= x.lefts := h2.1
  have hx2 : x.lefts.toNat <= r.length := by omega
  have hk : ∀ {p : Prop}, (∀ a b : Heap, a.ok -> b.ok -> a.flat = r.take x.lefts.toNat -> b.flat = r.drop x.lefts.toNat -> b.rank <= a.rank -> Heap.above x.due x.seq a -> Heap.above x.due x.seq b -> p) -> Heap.Is h -> p := fun f e => by
    rw [hh] at e
    obtain ⟨_, a, b, g1, g2, g3, g4, g5, g6, g7⟩ := Heap.is_cons.1 e
    exact f a b g1 g2 g3 g4 g5 g6 g7
  rw [hh]
  refine ACall.valN (r := rPP A) (os := fun _ => []) (dp := false) S.cx (parts_c S x r hx1 hx2) .go rfl (fun ln hln x hx => ⟨rfl, ?_⟩)
  obtain ⟨left, right⟩ := x
  cbv
  have hlr : (⟨left, right⟩ : List Twig × List Twig) = (r.take x.lefts.toNat, r.drop x.lefts.toNat) := by assumption
  injection hlr with hl hrr
  have hll : left.length < h.length := by rw [hl, hr]; simp; omega
  have hrl : right.length < h.length := by rw [hrr, hr]; simp; omega
  refine ACall.testD (dp := false) (ih left hll) .go rfl (fun h3 => ?_) (fun h3 => ?_) <;> cbv
  rotate_left
  · exact Done.no (hh ▸ hk fun a b g1 g2 g3 g4 g5 g6 g7 => h3 ⟨a, g1, g3.trans hl.symm⟩)
  refine ACall.testD (dp := false) (ih right hrl) .go rfl (fun h4 => ?_) (fun h4 => ?_) <;> cbv
  rotate_left
  · exact Done.no (hh ▸ hk fun a b g1 g2 g3 g4 g5 g6 g7 => h4 ⟨b, g2, g4.trans hrr.symm⟩)
  obtain ⟨a, ha, hal⟩ := h3
  obtain ⟨b, hbk, hbr⟩ := h4
  have hk2 : ∀ {p : Prop}, (b.rank <= a.rank -> Heap.above x.due x.seq a -> Heap.above x.due x.seq b -> p) -> Heap.Is h -> p := fun f => hk fun a' b' g1 g2 g3 g4 g5 g6 g7 => by
    have e1 : a' = a := Heap.flat_inj (g3.trans (hl.symm.trans hal.symm))
    have e2 : b' = b := Heap.flat_inj (g4.trans (hrr.symm.trans hbr.symm))
    rw [e1] at g5 g6; rw [e2] at g5 g7
    exact f g5 g6 g7
  have hyes : b.rank <= a.rank -> Heap.above x.due x.seq a -> Heap.above x.due x.seq b -> Heap.Is h := fun g1 g2 g3 => by
    rw [hh]
    exact Heap.is_cons.2 ⟨⟨hx1, hx2⟩, a, b, ha, hbk, hal.trans hl, hbr.trans hrr, g1, g2, g3⟩
  refine ACall.int (dp := false) (rank_c S a left hal (by omega)) .go rfl (fun ra hra => ?_); cbv
  refine ACall.int (dp := false) (rank_c S b right hbr (by omega)) .go rfl (fun rb hrb => ?_); cbv
  refine Test.lss (fun h5 => ?_) (fun h5 => ?_) <;> cbv
  · exact Done.no (hh ▸ hk2 fun g1 _ _ => by lia)
  have hrk : b.rank <= a.rank := by lia
  have hx3 : (x :: r)[(0 : Int).toNat]? = some x := rfl
  have habl : left = [] -> Heap.above x.due x.seq a := fun e => by
    have : a = .nil := Heap.flat_nil (hal.trans e)
    rw [this]; trivial
  have habr : right = [] -> Heap.above x.due x.seq b := fun e => by
    have : b = .nil := Heap.flat_nil (hbr.trans e)
    rw [this]; trivial
  have h10 : right.length <= 9223372036854775807 := by omega
  have hR : Heap.above x.due x.seq a -> True := fun _ => trivial
  try (refine Drawn.mk ⟨by kernel_rfl, fun _ => ?_⟩)
  refine LenR.natD S.cx (by omega) (fun L hL => ?_); cbv
  refine Test.eql (fun h6 => ?_) (fun h6 => ?_) <;> cbv
  · have hA := habl (List.length_eq_zero_iff.1 (by omega))
    refine LenR.natD S.cx h10 (fun R hR => ?_); cbv
    refine Test.eql (fun h7 => ?_) (fun h7 => ?_) <;> cbv
    · exact Done.yes (hh ▸ hyes hrk hA (habr (List.length_eq_zero_iff.1 (by omega))))
    obtain ⟨z, rr, hz⟩ : ∃ z rr, right = z :: rr := by
      cases right with
      | nil => simp at hR; omega
      | cons z rr => exact ⟨z, rr, rfl⟩
    refine ElemRo.at S.cx (x := x) rfl (by decide) hx3 ?_; cbv
    refine ElemRo.at S.cx (x := z) rfl (by decide) (by rw [hz]; rfl) ?_; cbv
    refine ACall.int (dp := false) (twigCompare_c S x.due x.seq x.lefts z.due z.seq z.lefts) .go rfl (fun c hc => ?_); cbv
    have hci := cmpT_neg x z
    rw [show cmpT x z = c from hc.symm] at hci
    refine Test.lss (fun h8 => ?_) (fun h8 => ?_) <;> cbv
    · exact Done.yes (hh ▸ hyes hrk hA ((Heap.above_cons (hbr.trans hz)).2 (hci.1 h8)))
    · exact Done.no (hh ▸ hk2 fun _ _ g3 => by have := hci.2 ((Heap.above_cons (hbr.trans hz)).1 g3); omega)
  obtain ⟨y, ll, hy⟩ : ∃ y ll, left = y :: ll := by
    cases left with
    | nil => simp at hL; omega
    | cons y ll => exact ⟨y, ll, rfl⟩
  refine ElemRo.at S.cx (x := x) rfl (by decide) hx3 ?_; cbv
  refine ElemRo.at S.cx (x := y) rfl (by decide) (by rw [hy]; rfl) ?_; cbv
  refine ACall.int (dp := false) (twigCompare_c S x.due x.seq x.lefts y.due y.seq y.lefts) .go rfl (fun c hc => ?_); cbv
  have hci := cmpT_neg x y
  rw [show cmpT x y = c from hc.symm] at hci
  refine Test.lss (fun h8 => ?_) (fun h8 => ?_) <;> cbv
  rotate_left
  · exact Done.no (hh ▸ hk2 fun _ g2 _ => by have := hci.2 ((Heap.above_cons (hal.trans hy)).1 g2); omega)
  have hA := (Heap.above_cons (hal.trans hy)).2 (hci.1 h8)
  refine LenR.natD S.cx h10 (fun R hR => ?_); cbv
  refine Test.eql (fun h7 => ?_) (fun h7 => ?_) <;> cbv
  · exact Done.yes (hh ▸ hyes hrk hA (habr (List.length_eq_zero_iff.1 (by omega))))
  obtain ⟨z, rr, hz⟩ : ∃ z rr, right = z :: rr := by
    cases right with
    | nil => simp at hR; omega
    | cons z rr => exact ⟨z, rr, rfl⟩
  refine ElemRo.at S.cx (x := x) rfl (by decide) hx3 ?_; cbv
  refine ElemRo.at S.cx (x := z) rfl (by decide) (by rw [hz]; rfl) ?_; cbv
  refine ACall.int (dp := false) (twigCompare_c S x.due x.seq x.lefts z.due z.seq z.lefts) .go rfl (fun c2 hc2 => ?_); cbv
  have hci2 := cmpT_neg x z
  rw [show cmpT x z = c2 from hc2.symm] at hci2
  refine Test.lss (fun h9 => ?_) (fun h9 => ?_) <;> cbv
  · exact Done.yes (hh ▸ hyes hrk hA ((Heap.above_cons (hbr.trans hz)).2 (hci2.1 h9)))
  · exact Done.no (hh ▸ hk2 fun _ _ g3 => by have := hci2.2 ((Heap.above_cons (hbr.trans hz)).1 g3); omega)

theorem isHeap_c (S : Se P A) (h : List Twig) (hb : h.length <= 4294967296) : Tests P 353 [.ro (A.enc cTwig h)] (Heap.Is h) := by
  obtain ⟨n, hn⟩ : ∃ n, h.length = n := ⟨_, rfl⟩
  induction n using Nat.strongRecOn generalizing h with
  | _ n ih => exact isHeap_step S h hb fun h' hl => ih h'.length (by omega) h' (by omega) rfl

end Go.Proofs.YtihfpbhalnedcaaGreat.AM

namespace Go.Proofs.YtihfpbhalnedcaaGreat.AM
open Go Go.Proofs

set_option maxRecDepth 100000
set_option maxHeartbeats 4000000

variable {P : Program} {A : Sy}

theorem resPart2 {T : Nat -> Option TI} (C : Cx P T A) {al : Bool} {st : St} {p : Bool} {id s : Nat} {α : Type} {f : α -> List AV} {rows : List (List AV)} (hq : lk st.sto id = some (.arr s true rows)) : resOk al st (.ref p id 0 0) (.own s true (A.enc f ([] : List α))) := by
  show resCell al st (.ref p id 0 0) (.own s true (A.enc f ([] : List α)))
  simp only [resCell, hq]
  exact ⟨⟨trivial, trivial⟩, ⟨Nat.zero_le _, by rw [C.enc]; rfl⟩, trivial⟩

theorem AOp.appendMakeN (lab : Nat) {T : Nat -> Option TI} {o : Oper} {st : St} {K : AV -> Dl -> Prop} {t ti e : Nat} {i j i2 : TI} {x y : Operand} {k k' : IntKind} {n : Int} {us : List AV} (h : TabOk P T) (hti : T t = some i) (hd : i.desc = .slice e) (hj : T e = some j) (hpos : 0 < j.size) (hby : 0 < j.bytes)
    (ht2 : T ti = some i2) (hd2 : i2.desc = .int k)
    (ho : o.op = .call { callee := .builtin .append, args := #[x, y], argTypes := #[t, ti] }) (hu : st.used.elem lab = false) (hx : st.ev x = .nilS) (hy : st.ev y = .int k' n) (h0 : 0 < n) (hb : n.toNat * j.bytes <= maxBytes) (hz : cellsOf j.flat j.zero = some us)
    (hk : ∀ (N : Nat) (rows : List (List AV)), N = n.toNat -> rows.length = N -> K (.ref false lab 0 N) ⟨[(lab, some (.arr j.size j.flat rows))], [lab], []⟩) : AOp P o st K :=
  .appendMake lab h hti hd hj hpos hby ht2 hd2 ho hu hx hy h0 hb hz (hk _ _ rfl (List.length_replicate ..))

theorem growTwig_c (S : Se P A) (n : Int) (hn : n <= 4294967296) (h0 : 0 <= n) : Is1 P 365 [.nilS, .int .i64 n] (rTwig A []) := by
  refine S.cx.by (S.prog ▸ Tryz.func365) rfl rfl rfl rfl (fun hv ho => ?_)
  cbv
  refine Test.lss (fun h => ?_) (fun h => ?_) <;> cbv
  · exfalso; omega
  refine Arith.go (by decide) (fun z hz => ?_); replace hz : z = 0 - 0 := hz; cbv
  refine Arith.go (by lia) (fun m hm => ?_); replace hm : m = n - z := hm; cbv
  refine Test.gtr (fun h1 => ?_) (fun h1 => ?_) <;> cbv
  rotate_left
  · exact Done.isA (r := rTwig A) (x := []) (rfl)
  refine ⟨⟨⟨rfl, rfl⟩⟩, ?_⟩
  refine AOp.appendMakeN 6050000 S.cx.tab rfl rfl rfl (by decide) (by decide) rfl rfl rfl rfl rfl rfl h1 (by simp only [maxBytes]; omega) rfl (fun N rows hN hrows => ?_); cbv
  refine CutRef.go rfl (by decide) (by decide) (by lia) (by omega) (fun p' off' len' hoff hlen => ?_)
  have e1 : off' = 0 := by rw [hoff]; rfl
  have e2 : len' = 0 := by rw [hlen]; rfl
  subst e1 e2
  cbv
  refine Done.to (rTwig A []) [] rfl ?_ trivial ⟨rfl, rfl⟩
  exact resPart2 S.cx rfl

end Go.Proofs.YtihfpbhalnedcaaGreat.AM

namespace Go.Proofs.YtihfpbhalnedcaaGreat.AM
open Go Go.Proofs

set_option maxRecDepth 100000
set_option maxHeartbeats 4000000

variable {P : Program} {A : Sy}

theorem LenR.three {x y z : List AV} {K : Int -> Prop} (h : K 3) : LenR false [x, y, z] K := ⟨nofun, fun _ => h⟩
theorem ElemRo.lit {rows : List (List AV)} {size : Nat} {n : Int} {K : List AV -> Prop} (r : List AV) (h0 : 0 <= n) (h : rows[n.toNat]? = some r) (hs : r.length = size) (hk : K r) : ElemRo rows size n K := ⟨⟨h0, r, h, hs, hk⟩⟩

theorem concatTwig_c (S : Se P A) (a b c : List Twig) (ha : a.length <= 1073741824) (hb : b.length <= 1073741824) (hc : c.length <= 1073741824) : Is1 P 343 [.ro [[.ro (A.enc cTwig a)], [.ro (A.enc cTwig b)], [.ro (A.enc cTwig c)]]] (rTwig A (a ++ b ++ c)) := by
  refine S.cx.by (S.prog ▸ Tryz.func343) rfl rfl rfl rfl (fun hv ho => ?_)
  cbv
  refine LenR.three ?_
  cbv
  refine ALoop.goS (ι := Int × Int) (fun i => [(11, .int .i64 i.1), (3, .int .i64 i.2)]) [] (fun i => []) (fun i => 0 <= i.2 /\ ((i.1 = 0 /\ i.2 = 0) ∨ (i.1 = 1 /\ i.2.toNat = a.length) ∨ (i.1 = 2 /\ i.2.toNat = a.length + b.length) ∨ (i.1 = 3 /\ i.2.toNat = a.length + b.length + c.length))) (fun i => (3 - i.1).toNat) (0, 0) S.cx.tab S.cx.mix S.eq ?_ ?_ ?_
  · exact ⟨Int.le_refl _, .inl ⟨rfl, rfl⟩⟩
  · (cbv; exact Less.toA [])
  intro x hk
  obtain ⟨i, s⟩ := x
  dsimp only at hk
  refine Rnd.mk ?_; cbv
  refine Test.lss (fun h => ?_) (fun h => ?_) <;> cbv
  · have hel : ∃ m : List Twig, m.length <= 1073741824 /\ 0 <= i /\ s.toNat <= 2147483648 /\ [[AV.ro (A.enc cTwig a)], [AV.ro (A.enc cTwig b)], [AV.ro (A.enc cTwig c)]][i.toNat]? = some [AV.ro (A.enc cTwig m)] /\ (∀ s' : Int, 0 <= s' /\ s'.toNat = s.toNat + m.length -> 0 <= s' /\ ((i + 1 = 0 /\ s' = 0) ∨ (i + 1 = 1 /\ s'.toNat = a.length) ∨ (i + 1 = 2 /\ s'.toNat = a.length + b.length) ∨ (i + 1 = 3 /\ s'.toNat = a.length + b.length + c.length))) := by
      obtain ⟨h0, hk⟩ := hk
      rcases hk with ⟨rfl, rfl⟩ | ⟨rfl, hk⟩ | ⟨rfl, hk⟩ | ⟨rfl, hk⟩
      · exact ⟨a, ha, by decide, by decide, rfl, fun s' hs => ⟨hs.1, .inr (.inl ⟨rfl, by rw [hs.2]; simp⟩)⟩⟩
      · exact ⟨b, hb, by decide, by omega, rfl, fun s' hs => ⟨hs.1, .inr (.inr (.inl ⟨rfl, by rw [hs.2, hk]⟩))⟩⟩
      · exact ⟨c, hc, by decide, by omega, rfl, fun s' hs => ⟨hs.1, .inr (.inr (.inr ⟨rfl, by rw [hs.2, hk]⟩))⟩⟩
      · exact absurd h (by decide)
    obtain ⟨m, hm, hi0, hs0, hel, hnext⟩ := hel
    have hs1 := hk.1
    clear hk
    refine ElemRo.lit _ hi0 hel rfl ?_
    clear hel
    cbv
    refine LenR.nat S.cx (fun N hN hx => ?_); cbv
    refine Arith.go (by lia) (fun s2 hs2 => ?_); cbv
    refine Test.lss (fun hneg => ?_) (fun hneg => ?_) <;> cbv
    · exfalso; lia
    refine Arith.go (by lia) (fun i' hi' => ?_); cbv
    replace hi' : i' = i + 1 := hi'
    have hnx := hnext s2 ⟨by lia, by lia⟩
    rw [<- hi'] at hnx
    refine Again.on (i', s2) (by dsimp only; lia) hnx ?_
    (cbv; exact Less.toA [])
  have hs : 0 <= s /\ s.toNat = a.length + b.length + c.length := by
    obtain ⟨h0, hk⟩ := hk
    rcases hk with ⟨rfl, rfl⟩ | ⟨rfl, hk⟩ | ⟨rfl, hk⟩ | ⟨rfl, hk⟩
    · exact absurd h (by decide)
    · exact absurd h (by decide)
    · exact absurd h (by decide)
    · exact ⟨h0, hk⟩
  clear hk
  refine ACall.valN (r := rTwig A) (os := fun _ => []) (dp := false) S.cx (growTwig_c S s (by omega) hs.1) .go rfl (fun ln hln l0 hx => ⟨rfl, ?_⟩)
  cbv
  have hN0 := hln cTwig l0
  generalize ln (A.enc cTwig l0) = N0 at hN0 ⊢
  refine LenR.three ?_
  cbv
  refine ALoop.goF (ι := Int × List Twig × Nat) (fun i => [(27, .int .i64 i.1), (6, .ref false 10010000 0 i.2.2)]) [24] [10010000] (fun i => [(10010000, .arr 3 true (A.enc cTwig i.2.1))]) (fun i => i.2.2 = i.2.1.length /\ ((i.1 = 0 /\ i.2.1 = []) ∨ (i.1 = 1 /\ i.2.1 = a) ∨ (i.1 = 2 /\ i.2.1 = a ++ b) ∨ (i.1 = 3 /\ i.2.1 = a ++ b ++ c))) (fun i => (3 - i.1).toNat) (0, l0, N0) S.cx.tab S.cx.mix S.eq ?_ ?_ ?_
  · exact ⟨hN0, .inl ⟨rfl, hx⟩⟩
  · (cbv; exact Less.toA [])
  intro x hk
  obtain ⟨i, l, n⟩ := x
  dsimp only at hk
  refine Rnd.mk ?_; cbv
  refine Test.lss (fun h1 => ?_) (fun h1 => ?_) <;> cbv
  · have hel : ∃ m : List Twig, m.length <= 1073741824 /\ 0 <= i /\ l.length <= 2147483648 /\ [[AV.ro (A.enc cTwig a)], [AV.ro (A.enc cTwig b)], [AV.ro (A.enc cTwig c)]][i.toNat]? = some [AV.ro (A.enc cTwig m)] /\ ((i + 1 = 0 /\ l ++ m = []) ∨ (i + 1 = 1 /\ l ++ m = a) ∨ (i + 1 = 2 /\ l ++ m = a ++ b) ∨ (i + 1 = 3 /\ l ++ m = a ++ b ++ c)) := by
      obtain ⟨h0, hk⟩ := hk
      rcases hk with ⟨rfl, rfl⟩ | ⟨rfl, rfl⟩ | ⟨rfl, rfl⟩ | ⟨rfl, hk⟩
      · exact ⟨a, ha, by decide, by simp, rfl, .inr (.inl ⟨rfl, rfl⟩)⟩
      · exact ⟨b, hb, by decide, by omega, rfl, .inr (.inr (.inl ⟨rfl, rfl⟩))⟩
      · exact ⟨c, hc, by decide, by simp; omega, rfl, .inr (.inr (.inr ⟨rfl, rfl⟩))⟩
      · exact absurd h1 (by decide)
    obtain ⟨m, hm, hi0, hl0, hel, hnext⟩ := hel
    have hn := hk.1
    clear hk
    refine ElemRo.lit _ hi0 hel rfl ?_
    clear hel
    cbv
    refine AppRef.pushAll S.cx hn rfl plainTwig (fun _ => rfl) (by simp only [maxBytes]; omega) (fun n' l' hl' hn' => ?_); cbv
    refine Arith.go (by lia) (fun i' hi' => ?_); cbv
    replace hi' : i' = i + 1 := hi'
    rw [<- hi', <- hl'] at hnext
    refine Again.on (i', l', n') (by dsimp only; lia) ⟨hn', hnext⟩ ?_
    (cbv; exact Less.toA [(10010000, (14020000, 0))])
  have hl : l = a ++ b ++ c := by
    obtain ⟨h0, hk⟩ := hk
    rcases hk with ⟨rfl, rfl⟩ | ⟨rfl, hk⟩ | ⟨rfl, hk⟩ | ⟨rfl, hk⟩
    · exact absurd h1 (by decide)
    · exact absurd h1 (by decide)
    · exact absurd h1 (by decide)
    · exact hk
  have hn := hk.1
  clear hk
  exact Done.isA (r := rTwig A) (x := l) (hl.symm)

end Go.Proofs.YtihfpbhalnedcaaGreat.AM

namespace Go.Proofs.YtihfpbhalnedcaaGreat.AM
open Go Go.Proofs

set_option maxRecDepth 100000
set_option maxHeartbeats 4000000

variable {P : Program} {A : Sy}

theorem joinR {d s n : Int} {a b : Heap} {la lb l : List Twig} (hb : b.flat = lb) (ha : a.flat = la) (h : a.rank < b.rank) (hn : 0 <= n /\ n.toNat = lb.length) (hx : l = [⟨d, s, n⟩] ++ lb ++ la) : (Heap.join d s a b).flat = l := by
  rw [Heap.join, if_pos h, Heap.flat, hx, <- ha, <- hb]
  have := Heap.flat_len b
  rw [hb] at this
  have e : (b.size : Int) = n := by omega
  rw [e]; rfl

theorem joinL {d s n : Int} {a b : Heap} {la lb l : List Twig} (ha : a.flat = la) (hb : b.flat = lb) (h : ¬ a.rank < b.rank) (hn : 0 <= n /\ n.toNat = la.length) (hx : l = [⟨d, s, n⟩] ++ la ++ lb) : (Heap.join d s a b).flat = l := by
  rw [Heap.join, if_neg h, Heap.flat, hx, <- ha, <- hb]
  have := Heap.flat_len a
  rw [ha] at this
  have e : (a.size : Int) = n := by omega
  rw [e]; rfl

theorem joined_c (S : Se P A) (d s l0 : Int) (a b : Heap) (la lb : List Twig) (ha : a.flat = la) (hb : b.flat = lb) (hal : la.length <= 1073741824) (hbl : lb.length <= 1073741824) : Is1 P 282 [.agg (cTwig ⟨d, s, l0⟩), .ro (A.enc cTwig la), .ro (A.enc cTwig lb)] (rTwig A (Heap.join d s a b).flat) := by
  refine S.cx.by (S.prog ▸ Tryz.func282) rfl rfl rfl rfl (fun hv ho => ?_)
  cbv
  refine ACall.int (dp := false) (rank_c S a la ha (by omega)) .go rfl (fun x hx => ?_); cbv
  refine ACall.int (dp := false) (rank_c S b lb hb (by omega)) .go rfl (fun y hy => ?_); cbv
  refine Test.lss (fun h => ?_) (fun h => ?_) <;> cbv
  · refine ACall.num (dp := false) (sizeTwig_c S lb) .go (fun n hn => ?_); cbv
    refine ACall.valN (r := rTwig A) (os := fun _ => []) (dp := true) S.cx (concatTwig_c S [⟨d, s, n⟩] lb la (by simp) (by omega) (by omega)) ⟨rfl, ?_, ?_⟩ rfl (fun ln hln l hx => ⟨rfl, ?_⟩)
    · refine ⟨⟨rfl, ⟨Nat.le_refl _, .inr ⟨rfl, ⟨⟨rfl, Nat.le_refl _, ?_⟩, trivial⟩, ⟨rfl, trivial⟩, ⟨rfl, trivial⟩, trivial⟩⟩⟩, trivial⟩
      rw [S.cx.enc]; rfl
    · repeat' (first | exact trivial | exact rfl | exact Nat.le_refl _ | exact S.ga | exact S.gb ‹_› | exact S.gc ‹_› | exact S.gd | exact S.ge | exact S.gf ‹_› | exact S.gg ‹_› | exact S.gh | exact .inl rfl | exact S.gi ‹_› | exact S.gj ‹_› | exact S.gk | exact S.gl | refine ⟨?_, ?_⟩)
    cbv
    have hN := hln cTwig l
    generalize ln (A.enc cTwig l) = N at hN ⊢
    exact Done.isA (r := rTwig A) (x := l) (joinR hb ha (by lia) ⟨hn.1, hn.2⟩ hx)
  · refine ACall.num (dp := false) (sizeTwig_c S la) .go (fun n hn => ?_); cbv
    refine ACall.valN (r := rTwig A) (os := fun _ => []) (dp := true) S.cx (concatTwig_c S [⟨d, s, n⟩] la lb (by simp) (by omega) (by omega)) ⟨rfl, ?_, ?_⟩ rfl (fun ln hln l hx => ⟨rfl, ?_⟩)
    · refine ⟨⟨rfl, ⟨Nat.le_refl _, .inr ⟨rfl, ⟨⟨rfl, Nat.le_refl _, ?_⟩, trivial⟩, ⟨rfl, trivial⟩, ⟨rfl, trivial⟩, trivial⟩⟩⟩, trivial⟩
      rw [S.cx.enc]; rfl
    · repeat' (first | exact trivial | exact rfl | exact Nat.le_refl _ | exact S.ga | exact S.gb ‹_› | exact S.gc ‹_› | exact S.gd | exact S.ge | exact S.gf ‹_› | exact S.gg ‹_› | exact S.gh | exact .inl rfl | exact S.gi ‹_› | exact S.gj ‹_› | exact S.gk | exact S.gl | refine ⟨?_, ?_⟩)
    cbv
    have hN := hln cTwig l
    generalize ln (A.enc cTwig l) = N at hN ⊢
    exact Done.isA (r := rTwig A) (x := l) (joinL ha hb (by lia) ⟨hn.1, hn.2⟩ hx)

theorem partsE_c (S : Se P A) {l : List Twig} {x : Twig} {r : List Twig} (hl : l = x :: r) (h0 : 0 <= x.lefts) (h1 : x.lefts.toNat <= r.length) : SoundM P 279 true [.ro (A.enc cTwig l)] []
    (fun v os => v = rPP A (r.take x.lefts.toNat, r.drop x.lefts.toNat) /\ os = []) := by
  rw [hl]; exact parts_c S x r h0 h1

theorem merge_step (S : Se P A) (a b : Heap) (la lb : List Twig) (ha : a.flat = la) (hb : b.flat = lb) (hal : la.length + lb.length <= 1073741824)
    (ih : ∀ (a' b' : Heap) (la' lb' : List Twig), a'.flat = la' -> b'.flat = lb' -> la'.length + lb'.length <= 1073741824 -> a'.size + b'.size < a.size + b.size -> Is1 P 280 [.ro (A.enc cTwig la'), .ro (A.enc cTwig lb')] (rTwig A (Heap.merge a' b').flat)) : Is1 P 280 [.ro (A.enc cTwig la), .ro (A.enc cTwig lb)] (rTwig A (Heap.merge a b).flat) := by
  refine S.cx.by (S.prog ▸ Tryz.func280) rfl rfl rfl rfl (fun hv ho => ?_)
  cbv
  refine LenR.nat S.cx (fun N hN hm => ?_); cbv
  refine Test.eql (fun h1 => ?_) (fun h1 => ?_) <;> cbv
  · have e : a = .nil := Heap.flat_nil (ha.trans (List.length_eq_zero_iff.1 (by omega)))
    refine ACall.valN (r := rTwig A) (os := fun _ => []) (dp := false) S.cx (cloneTwig_c S lb (by omega)) .go rfl (fun ln hln l hx => ⟨rfl, ?_⟩)
    cbv
    have hM := hln cTwig l
    generalize ln (A.enc cTwig l) = M at hM ⊢
    exact Done.isA (r := rTwig A) (x := l) (by rw [e, Heap.merge, hx, hb])
  refine LenR.nat S.cx (fun M hM hm2 => ?_); cbv
  refine Test.eql (fun h2 => ?_) (fun h2 => ?_) <;> cbv
  · have e : b = .nil := Heap.flat_nil (hb.trans (List.length_eq_zero_iff.1 (by omega)))
    refine ACall.valN (r := rTwig A) (os := fun _ => []) (dp := false) S.cx (cloneTwig_c S la (by omega)) .go rfl (fun ln hln l hx => ⟨rfl, ?_⟩)
    cbv
    have hK := hln cTwig l
    generalize ln (A.enc cTwig l) = K at hK ⊢
    exact Done.isA (r := rTwig A) (x := l) (by rw [e, hx, <- ha]; cases a <;> rw [Heap.merge])
  obtain ⟨x, r, hxr⟩ : ∃ x r, la = x :: r := by
    cases la with
    | nil => simp at hN; omega
    | cons x r => exact ⟨x, r, rfl⟩
  obtain ⟨y, q, hyq⟩ : ∃ y q, lb = y :: q := by
    cases lb with
    | nil => simp at hM; omega
    | cons y q => exact ⟨y, q, rfl⟩
  obtain ⟨al, ar, hae, hal1, hal2, hal3, hal4⟩ := Heap.flat_cons (ha.trans hxr)
  obtain ⟨bl, br, hbe, hbl1, hbl2, hbl3, hbl4⟩ := Heap.flat_cons (hb.trans hyq)
  have hra : la.length = r.length + 1 := by rw [hxr]; rfl
  have hrb : lb.length = q.length + 1 := by rw [hyq]; rfl
  have hx0 : la[(0 : Int).toNat]? = some x := by rw [hxr]; rfl
  have hy0 : lb[(0 : Int).toNat]? = some y := by rw [hyq]; rfl
  try (refine Drawn.mk ⟨by kernel_rfl, fun _ => ?_⟩)
  refine ElemRo.at S.cx (x := y) rfl (by decide) hy0 ?_; cbv
  refine ElemRo.at S.cx (x := x) rfl (by decide) hx0 ?_; cbv
  refine ACall.int (dp := false) (twigCompare_c S y.due y.seq y.lefts x.due x.seq x.lefts) .go rfl (fun c hc => ?_); cbv
  have hci := cmpT_neg y x
  rw [show cmpT y x = c from hc.symm] at hci
  refine Test.lss (fun h3 => ?_) (fun h3 => ?_) <;> cbv
  · have h4 := hci.1 h3
    refine ACall.valN (r := rPP A) (os := fun _ => []) (dp := false) S.cx (partsE_c S hyq (by lia) hbl4) ⟨rfl, (by repeat' (first | exact trivial | exact rfl | exact Nat.le_refl _ | exact S.ga | exact S.gb ‹_› | exact S.gc ‹_› | exact S.gd | exact S.ge | exact S.gf ‹_› | exact S.gg ‹_› | exact S.gh | exact .inl rfl | exact S.gi ‹_› | exact S.gj ‹_› | exact S.gk | exact S.gl | refine ⟨?_, ?_⟩)), (by repeat' (first | exact trivial | exact rfl | exact Nat.le_refl _ | exact S.ga | exact S.gb ‹_› | exact S.gc ‹_› | exact S.gd | exact S.ge | exact S.gf ‹_› | exact S.gg ‹_› | exact S.gh | exact .inl rfl | exact S.gi ‹_› | exact S.gj ‹_› | exact S.gk | exact S.gl | refine ⟨?_, ?_⟩))⟩ rfl (fun ln hln x' hx => ⟨rfl, ?_⟩)
    obtain ⟨ll, lr⟩ := x'
    simp only [Prod.mk.injEq] at hx
    obtain ⟨hl1, hl2⟩ := hx
    cbv
    try (refine Drawn.mk ⟨by kernel_rfl, fun _ => ?_⟩)
    refine ElemRo.at S.cx (x := y) rfl (by decide) hy0 ?_; cbv
    have hlr : lr.length <= q.length := by rw [hl2]; simp
    have hll : ll.length <= q.length := by rw [hl1]; simp; omega
    have hsz : br.size + a.size < a.size + b.size := by rw [hbe, Heap.size]; omega
    refine ACall.valN (r := rTwig A) (os := fun _ => []) (dp := false) S.cx (ih br a lr la (hbl3.trans hl2.symm) ha (by omega) hsz) .go rfl (fun ln hln l1 hx => ⟨rfl, ?_⟩)
    cbv
    have hM1 := hln cTwig l1
    generalize ln (A.enc cTwig l1) = M1 at hM1 ⊢
    have hl1b : l1.length <= 1073741824 := by
      rw [hx, Heap.flat_len, Heap.merge_size, <- Heap.flat_len br, <- Heap.flat_len a, hbl3, ha, <- hl2]; omega
    refine ACall.valN (r := rTwig A) (os := fun _ => []) (dp := false) S.cx (joined_c S y.due y.seq y.lefts bl (Heap.merge br a) ll l1 (hbl2.trans hl1.symm) hx.symm (by omega) hl1b) .go rfl (fun ln hln l2 hx => ⟨rfl, ?_⟩)
    cbv
    have hM2 := hln cTwig l2
    generalize ln (A.enc cTwig l2) = M2 at hM2 ⊢
    exact Done.isA (r := rTwig A) (x := l2) (by rw [hx, hae, hbe, Heap.merge, if_pos h4])
  · have h4 : ¬ (y.due < x.due ∨ y.due = x.due /\ y.seq < x.seq) := fun e => by have := hci.2 e; omega
    refine ACall.valN (r := rPP A) (os := fun _ => []) (dp := false) S.cx (partsE_c S hxr (by lia) hal4) ⟨rfl, (by repeat' (first | exact trivial | exact rfl | exact Nat.le_refl _ | exact S.ga | exact S.gb ‹_› | exact S.gc ‹_› | exact S.gd | exact S.ge | exact S.gf ‹_› | exact S.gg ‹_› | exact S.gh | exact .inl rfl | exact S.gi ‹_› | exact S.gj ‹_› | exact S.gk | exact S.gl | refine ⟨?_, ?_⟩)), (by repeat' (first | exact trivial | exact rfl | exact Nat.le_refl _ | exact S.ga | exact S.gb ‹_› | exact S.gc ‹_› | exact S.gd | exact S.ge | exact S.gf ‹_› | exact S.gg ‹_› | exact S.gh | exact .inl rfl | exact S.gi ‹_› | exact S.gj ‹_› | exact S.gk | exact S.gl | refine ⟨?_, ?_⟩))⟩ rfl (fun ln hln x' hx => ⟨rfl, ?_⟩)
    obtain ⟨ll, lr⟩ := x'
    simp only [Prod.mk.injEq] at hx
    obtain ⟨hl1, hl2⟩ := hx
    cbv
    try (refine Drawn.mk ⟨by kernel_rfl, fun _ => ?_⟩)
    refine ElemRo.at S.cx (x := x) rfl (by decide) hx0 ?_; cbv
    have hlr : lr.length <= r.length := by rw [hl2]; simp
    have hll : ll.length <= r.length := by rw [hl1]; simp; omega
    have hsz : ar.size + b.size < a.size + b.size := by rw [hae, Heap.size]; omega
    refine ACall.valN (r := rTwig A) (os := fun _ => []) (dp := false) S.cx (ih ar b lr lb (hal3.trans hl2.symm) hb (by omega) hsz) .go rfl (fun ln hln l1 hx => ⟨rfl, ?_⟩)
    cbv
    have hM1 := hln cTwig l1
    generalize ln (A.enc cTwig l1) = M1 at hM1 ⊢
    have hl1b : l1.length <= 1073741824 := by
      rw [hx, Heap.flat_len, Heap.merge_size, <- Heap.flat_len ar, <- Heap.flat_len b, hal3, hb, <- hl2]; omega
    refine ACall.valN (r := rTwig A) (os := fun _ => []) (dp := false) S.cx (joined_c S x.due x.seq x.lefts al (Heap.merge ar b) ll l1 (hal2.trans hl1.symm) hx.symm (by omega) hl1b) .go rfl (fun ln hln l2 hx => ⟨rfl, ?_⟩)
    cbv
    have hM2 := hln cTwig l2
    generalize ln (A.enc cTwig l2) = M2 at hM2 ⊢
    exact Done.isA (r := rTwig A) (x := l2) (by rw [hx, hae, hbe, Heap.merge, if_neg h4])

theorem merge_c (S : Se P A) (a b : Heap) (la lb : List Twig) (ha : a.flat = la) (hb : b.flat = lb) (hal : la.length + lb.length <= 1073741824) : Is1 P 280 [.ro (A.enc cTwig la), .ro (A.enc cTwig lb)] (rTwig A (Heap.merge a b).flat) := by
  obtain ⟨n, hn⟩ : ∃ n, a.size + b.size = n := ⟨_, rfl⟩
  induction n using Nat.strongRecOn generalizing a b la lb with
  | _ n ih => exact merge_step S a b la lb ha hb hal fun a' b' la' lb' h1 h2 h3 h4 => ih (a'.size + b'.size) (by omega) a' b' la' lb' h1 h2 h3 rfl

end Go.Proofs.YtihfpbhalnedcaaGreat.AM

namespace Go.Proofs.YtihfpbhalnedcaaGreat.AM
open Go Go.Proofs

set_option maxRecDepth 100000
set_option maxHeartbeats 4000000

variable {P : Program} {A : Sy}

theorem seqAt1_c (S : Se P A) (q : Int) (x : Twig) : Tests P 340 [.agg (cTwig x), .rptr [.int .i64 q]] (x.seq = q) := by
  refine S.cx.by (S.prog ▸ Tryz.func340) rfl rfl rfl rfl (fun hv ho => ?_)
  cbv
  refine Test.eql (fun h => ?_) (fun h => ?_) <;> cbv
  · exact Done.yes h
  · exact Done.no h

def seqIdx (l : List Twig) (q : Int) : Int := match l.findIdx? (fun x => decide (x.seq = q)) with
  | some k => (k : Int)
  | none => -1

theorem seqIdx_le (l : List Twig) (q : Int) : 0 <= seqIdx l q ↔ q ∈ l.map (·.seq) := by
  unfold seqIdx
  split
  · rename_i k hk
    obtain ⟨h, h1, _⟩ := List.findIdx?_eq_some_iff_getElem.1 hk
    exact ⟨fun _ => List.mem_map.2 ⟨_, List.getElem_mem h, of_decide_eq_true h1⟩, fun _ => Int.natCast_nonneg _⟩
  · rename_i hk
    refine ⟨fun h => absurd h (by decide), fun h => ?_⟩
    obtain ⟨x, hx, e⟩ := List.mem_map.1 h
    have := List.findIdx?_eq_none_iff.1 hk x hx
    exact absurd e (of_decide_eq_false this)

theorem seqAt_c (S : Se P A) (l : List Twig) (q : Int) : Is1 P 281 [.ro (A.enc cTwig l), .int .i64 q] (.int .i64 (seqIdx l q)) := by
  refine SoundM.knownH (p := fun r => 0 <= r /\ (∃ x, l[r.toNat]? = some x /\ x.seq = q) /\ Upto (fun _ x => ¬ x.seq = q) l r ∨ r = -1 /\ ∀ x ∈ l, ¬ x.seq = q) ?_ (fun n h => ?_)
  rotate_left
  · rcases h with ⟨h0, ⟨x, hx, hq⟩, hu⟩ | ⟨rfl, h⟩
    · have : l.findIdx? (fun x => decide (x.seq = q)) = some n.toNat := by
        obtain ⟨hl, hg⟩ := List.getElem?_eq_some_iff.1 hx
        refine List.findIdx?_eq_some_iff_getElem.2 ⟨hl, by simp [hg, hq], fun j hj => ?_⟩
        have := hu j l[j] (by omega) (List.getElem?_eq_getElem (by omega))
        simpa using this
      unfold seqIdx; rw [this]; dsimp only; omega
    · have : l.findIdx? (fun x => decide (x.seq = q)) = none := List.findIdx?_eq_none_iff.2 fun x hx => decide_eq_false (h x hx)
      unfold seqIdx; rw [this]
  refine S.cx.by (S.prog ▸ Tryz.func281) rfl rfl rfl rfl (fun hv ho => ?_)
  cbv
  refine ACall.num (dp := false) (indexFuncTwig1_c S _ _ _ (seqAt1_c S q) l) .go (fun r hr => ?_); cbv
  exact Done.num hr

end Go.Proofs.YtihfpbhalnedcaaGreat.AM

namespace Go.Proofs.YtihfpbhalnedcaaGreat.AM
open Go Go.Proofs

set_option maxRecDepth 100000
set_option maxHeartbeats 4000000

variable {P : Program} {A : Sy}

theorem Heap.without_size {q : Int} : ∀ {h : Heap}, q ∈ h.seqs -> (h.without q).size + 1 = h.size
  | .nil, hq => by simp [Heap.seqs] at hq
  | .node d s l r, hq => by
    simp only [Heap.without]
    split
    · rw [Heap.merge_size]; simp only [Heap.size]; omega
    · rename_i hs
      split
      · rename_i hl
        have := Heap.without_size hl
        rw [Heap.join_size]; simp only [Heap.size]; omega
      · rename_i hl
        have hr : q ∈ r.seqs := by
          rw [Heap.seqs] at hq
          rcases List.mem_cons.1 hq with e | e
          · exact absurd e.symm hs
          · rcases List.mem_append.1 e with e | e
            · exact absurd e hl
            · exact e
        have := Heap.without_size hr
        rw [Heap.join_size]; simp only [Heap.size]; omega

def HeapOk (l : List Twig) : Prop := l.length <= 64 /\ (l.map (·.seq)).Nodup /\ Heap.Is l
instance (l : List Twig) : Decidable (HeapOk l) := by unfold HeapOk; infer_instance

theorem nodup_next {l : List Twig} {i i' : Int} {x : Twig} (h0 : 0 <= i) (hx : l[i.toNat]? = some x) (hn : ((l.take i.toNat).map (·.seq)).Nodup) (hi : i' = i + 1) (hm : x.seq ∉ (l.take i.toNat).map (·.seq)) : ((l.take i'.toNat).map (·.seq)).Nodup := by
  rw [show i'.toNat = i.toNat + 1 by omega, take_next hx, List.map_append]
  refine List.nodup_append.2 ⟨hn, by simp, fun a ha b hb e => hm ?_⟩
  have : b = x.seq := by simpa using hb
  rw [<- this, <- e]; exact ha

theorem nodup_not {l : List Twig} {i : Int} {x : Twig} (h0 : 0 <= i) (hx : l[i.toNat]? = some x) (hm : x.seq ∈ (l.take i.toNat).map (·.seq)) : ¬ (l.map (·.seq)).Nodup := fun hn => by
  have h1 : ((l.take (i.toNat + 1)).map (·.seq)).Nodup := by
    rw [List.map_take]
    exact hn.sublist (List.take_sublist _ _)
  rw [take_next hx, List.map_append] at h1
  exact (List.nodup_append.1 h1).2.2 _ hm _ (by simp) rfl

theorem implHeapOk_c (S : Se P A) (l : List Twig) : Tests P 298 [.ro (A.enc cTwig l)] (HeapOk l) := by
  refine S.cx.by (S.prog ▸ Tryz.func298) rfl rfl rfl rfl (fun hv ho => ?_)
  cbv
  refine LenR.nat S.cx (fun N hN hm => ?_); cbv
  refine Test.gtr (fun h => ?_) (fun h => ?_) <;> cbv
  · exact Done.no fun e => by have := e.1; lia
  have hl64 : l.length <= 64 := by lia
  refine LenR.nat S.cx (fun M hM hm2 => ?_); cbv
  refine ALoop.goS (ι := Int) (fun i => [(10, .int .i64 i)]) [] (fun i => []) (fun i => 0 <= i /\ ((l.take i.toNat).map (·.seq)).Nodup) (fun i => (l.length - i).toNat) (0) S.cx.tab S.cx.mix S.eq ?_ ?_ ?_
  · exact ⟨Int.le_refl _, by simp⟩
  · (cbv; exact Less.toA [])
  intro i hk
  obtain ⟨h0, hn⟩ := hk
  refine Rnd.mk ?_; cbv
  refine Test.lss (fun h1 => ?_) (fun h1 => ?_) <;> cbv
  rotate_left
  · have hnd : (l.map (·.seq)).Nodup := by
      rw [take_all (by lia)] at hn; exact hn
    refine ACall.testD (dp := false) (isHeap_c S l (by omega)) .go rfl (fun h2 => ?_) (fun h2 => ?_) <;> cbv
    · exact Done.yes ⟨hl64, hnd, h2⟩
    · exact Done.no fun e => h2 e.2.2
  refine ElemRo.enc S.cx (fun _ => rfl) (by lia) (by lia) (fun x hx => ?_); cbv
  try (refine Drawn.mk ⟨by kernel_rfl, fun _ => ?_⟩)
  refine CutRo.enc S.cx (fun _ => rfl) (by decide) (by lia) (by lia) (fun a ha => ?_); cbv
  have ha' : a = l.take i.toNat := by rw [ha]; rfl
  refine ACall.int (dp := false) (seqAt_c S a x.seq) .go rfl (fun r hr => ?_); cbv
  have hri := seqIdx_le a x.seq
  rw [<- hr, ha'] at hri
  refine Test.geq (fun h2 => ?_) (fun h2 => ?_) <;> cbv
  · exact Done.no fun e => nodup_not h0 hx (hri.1 (by omega)) e.2.1
  refine Arith.go (by lia) (fun i' hi' => ?_); cbv
  refine Again.on i' (by lia) ⟨by lia, nodup_next h0 hx hn hi' (fun e => by have := hri.2 e; omega)⟩ ?_
  (cbv; exact Less.toA [])

theorem put_c (S : Se P A) (t : Heap) (l : List Twig) (hl : t.flat = l) (hb : l.length <= 1000000) (due seq : Int) : Is1 P 211 [.ro (A.enc cTwig l), .int .i64 due, .int .i64 seq] (rTwig A (Heap.merge t (.node due seq .nil .nil)).flat) := by
  refine S.cx.by (S.prog ▸ Tryz.func211) rfl rfl rfl rfl (fun hv ho => ?_)
  cbv
  refine ACall.valN (r := rTwig A) (os := fun _ => []) (dp := false) S.cx (merge_c S t (.node due seq .nil .nil) l [⟨due, seq, 0⟩] hl rfl (by simp; omega)) ⟨rfl, ⟨rfl, ⟨rfl, Nat.le_refl _, ?_⟩, trivial⟩, (by repeat' (first | exact trivial | exact rfl | exact Nat.le_refl _ | exact S.ga | exact S.gb ‹_› | exact S.gc ‹_› | exact S.gd | exact S.ge | exact S.gf ‹_› | exact S.gg ‹_› | exact S.gh | exact .inl rfl | exact S.gi ‹_› | exact S.gj ‹_› | exact S.gk | exact S.gl | refine ⟨?_, ?_⟩))⟩ rfl (fun ln hln l2 hx => ⟨rfl, ?_⟩)
  · exact S.cx.enc cTwig [⟨due, seq, 0⟩]
  cbv
  have hM := hln cTwig l2
  generalize ln (A.enc cTwig l2) = M at hM ⊢
  exact Done.isA (r := rTwig A) (x := l2) (hx.symm)

theorem without_step (S : Se P A) (t : Heap) (l : List Twig) (q : Int) (hl : t.flat = l) (hq : q ∈ t.seqs) (hb : l.length <= 1000000)
    (ih : ∀ (t' : Heap) (l' : List Twig), t'.flat = l' -> q ∈ t'.seqs -> l'.length <= 1000000 -> t'.size < t.size -> Is1 P 207 [.ro (A.enc cTwig l'), .int .i64 q] (rTwig A (t'.without q).flat)) : Is1 P 207 [.ro (A.enc cTwig l), .int .i64 q] (rTwig A (t.without q).flat) := by
  obtain ⟨x, r, hxr⟩ : ∃ x r, l = x :: r := by
    cases l with
    | nil => rw [Heap.flat_nil hl] at hq; simp [Heap.seqs] at hq
    | cons x r => exact ⟨x, r, rfl⟩
  obtain ⟨a, b, hte, h1, h2, h3, h4⟩ := Heap.flat_cons (hl.trans hxr)
  have hx0 : l[(0 : Int).toNat]? = some x := by rw [hxr]; rfl
  have hlen : l.length = r.length + 1 := by rw [hxr]; rfl
  refine S.cx.by (S.prog ▸ Tryz.func207) rfl rfl rfl rfl (fun hv ho => ?_)
  cbv
  refine ACall.valN (r := rPP A) (os := fun _ => []) (dp := false) S.cx (partsE_c S hxr (by lia) h4) ⟨rfl, (by repeat' (first | exact trivial | exact rfl | exact Nat.le_refl _ | exact S.ga | exact S.gb ‹_› | exact S.gc ‹_› | exact S.gd | exact S.ge | exact S.gf ‹_› | exact S.gg ‹_› | exact S.gh | exact .inl rfl | exact S.gi ‹_› | exact S.gj ‹_› | exact S.gk | exact S.gl | refine ⟨?_, ?_⟩)), (by repeat' (first | exact trivial | exact rfl | exact Nat.le_refl _ | exact S.ga | exact S.gb ‹_› | exact S.gc ‹_› | exact S.gd | exact S.ge | exact S.gf ‹_› | exact S.gg ‹_› | exact S.gh | exact .inl rfl | exact S.gi ‹_› | exact S.gj ‹_› | exact S.gk | exact S.gl | refine ⟨?_, ?_⟩))⟩ rfl (fun ln hln x' hx => ⟨rfl, ?_⟩)
  obtain ⟨ll, lr⟩ := x'
  simp only [Prod.mk.injEq] at hx
  obtain ⟨hl1, hl2⟩ := hx
  have hal : a.flat = ll := h2.trans hl1.symm
  have hbl : b.flat = lr := h3.trans hl2.symm
  have hlr : lr.length <= r.length := by rw [hl2]; simp
  have hll : ll.length <= r.length := by rw [hl1]; simp; omega
  have hlb : ll.length + lr.length = r.length := by rw [hl1, hl2]; simp; omega
  have hsa : a.size < t.size := by rw [hte, Heap.size]; omega
  have hsb : b.size < t.size := by rw [hte, Heap.size]; omega
  cbv
  refine ElemRo.at S.cx (x := x) rfl (by decide) hx0 ?_; cbv
  refine Test.eql (fun h5 => ?_) (fun h5 => ?_) <;> cbv
  · refine ACall.valN (r := rTwig A) (os := fun _ => []) (dp := false) S.cx (merge_c S a b ll lr hal hbl (by omega)) .go rfl (fun ln hln l1 hx => ⟨rfl, ?_⟩)
    cbv
    have hM1 := hln cTwig l1
    generalize ln (A.enc cTwig l1) = M1 at hM1 ⊢
    exact Done.isA (r := rTwig A) (x := l1) (by rw [hx, hte, Heap.without, if_pos h5])
  refine ACall.int (dp := false) (seqAt_c S ll q) .go rfl (fun k hk => ?_); cbv
  have hki := seqIdx_le ll q
  rw [<- hk, <- hal, <- Heap.seqs_flat] at hki
  refine Test.geq (fun h6 => ?_) (fun h6 => ?_) <;> cbv
  · have hqa := hki.1 (by omega)
    refine ACall.valN (r := rTwig A) (os := fun _ => []) (dp := false) S.cx (ih a ll hal hqa (by omega) hsa) .go rfl (fun ln hln l1 hx => ⟨rfl, ?_⟩)
    cbv
    have hM1 := hln cTwig l1
    generalize ln (A.enc cTwig l1) = M1 at hM1 ⊢
    have hl1b : l1.length <= 1000000 := by
      rw [hx, Heap.flat_len]
      have := Heap.without_size hqa
      have := Heap.flat_len a
      rw [hal] at this
      omega
    refine ElemRo.at S.cx (x := x) rfl (by decide) hx0 ?_; cbv
    have hx1 := hx.symm
    refine ACall.valN (r := rTwig A) (os := fun _ => []) (dp := false) S.cx (joined_c S x.due x.seq x.lefts (a.without q) b l1 lr hx1 hbl (by omega) (by omega)) .go rfl (fun ln hln l2 hx => ⟨rfl, ?_⟩)
    cbv
    have hM2 := hln cTwig l2
    generalize ln (A.enc cTwig l2) = M2 at hM2 ⊢
    exact Done.isA (r := rTwig A) (x := l2) (by rw [hx, hte, Heap.without, if_neg h5, if_pos hqa])
  · have hqa : q ∉ a.seqs := fun e => by have := hki.2 e; omega
    have hqb : q ∈ b.seqs := by
      rw [hte, Heap.seqs] at hq
      rcases List.mem_cons.1 hq with e | e
      · exact absurd e.symm h5
      · rcases List.mem_append.1 e with e | e
        · exact absurd e hqa
        · exact e
    refine ACall.valN (r := rTwig A) (os := fun _ => []) (dp := false) S.cx (ih b lr hbl hqb (by omega) hsb) .go rfl (fun ln hln l1 hx => ⟨rfl, ?_⟩)
    cbv
    have hM1 := hln cTwig l1
    generalize ln (A.enc cTwig l1) = M1 at hM1 ⊢
    have hl1b : l1.length <= 1000000 := by
      rw [hx, Heap.flat_len]
      have := Heap.without_size hqb
      have := Heap.flat_len b
      rw [hbl] at this
      omega
    refine ElemRo.at S.cx (x := x) rfl (by decide) hx0 ?_; cbv
    have hx1 := hx.symm
    refine ACall.valN (r := rTwig A) (os := fun _ => []) (dp := false) S.cx (joined_c S x.due x.seq x.lefts a (b.without q) ll l1 hal hx1 (by omega) (by omega)) .go rfl (fun ln hln l2 hx => ⟨rfl, ?_⟩)
    cbv
    have hM2 := hln cTwig l2
    generalize ln (A.enc cTwig l2) = M2 at hM2 ⊢
    exact Done.isA (r := rTwig A) (x := l2) (by rw [hx, hte, Heap.without, if_neg h5, if_neg hqa])

theorem without_c (S : Se P A) (t : Heap) (l : List Twig) (q : Int) (hl : t.flat = l) (hq : q ∈ t.seqs) (hb : l.length <= 1000000) : Is1 P 207 [.ro (A.enc cTwig l), .int .i64 q] (rTwig A (t.without q).flat) := by
  obtain ⟨n, hn⟩ : ∃ n, t.size = n := ⟨_, rfl⟩
  induction n using Nat.strongRecOn generalizing t l with
  | _ n ih => exact without_step S t l q hl hq hb fun t' l' h1 h2 h3 h4 => ih t'.size (by omega) t' l' h1 h2 h3 rfl

end Go.Proofs.YtihfpbhalnedcaaGreat.AM

namespace Go.Proofs.YtihfpbhalnedcaaGreat.AM
open Go Go.Proofs

set_option maxRecDepth 100000
set_option maxHeartbeats 4000000

variable {P : Program} {A : Sy}

theorem containsFuncTwig1_c (S : Se P A) (F : FuncId) (c1 : List AV) (q : Twig -> Prop) (hF : ∀ x : Twig, Tests P F [.agg (cTwig x), .rptr c1] (q x)) (l : List Twig) : Tests P 299 [.ro (A.enc cTwig l), .fn F [] [.rptr c1]] (∃ x ∈ l, q x) := by
  refine S.cx.by (S.prog ▸ Tryz.func299) rfl rfl rfl rfl (fun hv ho => ?_)
  cbv
  refine ACall.num (dp := false) (indexFuncTwig1_c S F c1 q hF l) .go (fun r hr => ?_); cbv
  refine Test.geq (fun h => ?_) (fun h => ?_) <;> cbv
  · refine Done.yes ?_
    rcases hr with ⟨_, ⟨x, hx, hq⟩, _⟩ | ⟨rfl, _⟩
    · exact ⟨x, mem_at hx, hq⟩
    · exact absurd h (by decide)
  · refine Done.no fun ⟨x, hx, hq⟩ => ?_
    rcases hr with ⟨h0, _⟩ | ⟨_, hr⟩
    · lia
    · exact hr x hx hq

theorem indexFuncTimer1_c (S : Se P A) (F : FuncId) (c1 : List AV) (q : Timer -> Prop) (hF : ∀ x : Timer, Tests P F [.agg (cTimer x), .rptr c1] (q x)) (l : List Timer) : Nums P 277 [.ro (A.enc cTimer l), .fn F [] [.rptr c1]] (fun r => 0 <= r /\ (∃ x, l[r.toNat]? = some x /\ q x) /\ Upto (fun _ x => ¬ q x) l r ∨ r = -1 /\ ∀ x ∈ l, ¬ q x) := by
  refine S.cx.by (S.prog ▸ Tryz.func277) rfl rfl rfl rfl (fun hv ho => ?_)
  cbv
  refine LenR.nat S.cx (fun N hN hm => ?_); cbv
  refine ALoop.goD (ι := Int) (fun i => [(8, .int .i64 i)]) [] (fun i => []) (fun i => 0 <= i /\ Upto (fun _ x => ¬ q x) l i) (fun i => (l.length - i).toNat) (0) S.cx.tab S.cx.mix S.eq ?_ ?_ ?_
  · exact ⟨Int.le_refl _, .zero⟩
  · (cbv; exact Less.toA [])
  · rintro i ⟨h0, hu⟩
    cbv
    refine Test.lss (fun h => ?_) (fun h => ?_) <;> cbv
    · refine ElemRo.enc S.cx (fun _ => rfl) (by lia) (by lia) (fun x hx => ?_); cbv
      refine ACall.testX (dp := false) (hF x) .go rfl (fun h2 => ?_) (fun h2 => ?_) <;> cbv
      · exact Done.num (.inl ⟨h0, ⟨x, hx, h2⟩, hu⟩)
      · refine Arith.go (by lia) (fun i' hi' => ?_); cbv
        refine Again.on i' (by lia) ⟨by lia, hu.next h0 hx h2 hi'⟩ ?_
        (cbv; exact Less.toA [])
    · exact Done.num (.inr ⟨rfl, hu.mem (by lia)⟩)

theorem timAt1_c (S : Se P A) (q : Int) (x : Timer) : Tests P 278 [.agg (cTimer x), .rptr [.int .i64 q]] (x.seq = q) := by
  refine S.cx.by (S.prog ▸ Tryz.func278) rfl rfl rfl rfl (fun hv ho => ?_)
  cbv
  refine Test.eql (fun h => ?_) (fun h => ?_) <;> cbv
  · exact Done.yes h
  · exact Done.no h

def timIdx (l : List Timer) (q : Int) : Int := match l.findIdx? (fun x => decide (x.seq = q)) with
  | some k => (k : Int)
  | none => -1

theorem timIdx_none {l : List Timer} {q : Int} (h : timIdx l q < 0) : ∀ x ∈ l, x.seq ≠ q := by
  unfold timIdx at h
  split at h
  · omega
  · rename_i hk
    exact fun x hx e => absurd e (of_decide_eq_false (List.findIdx?_eq_none_iff.1 hk x hx))

theorem timIdx_some {l : List Timer} {q : Int} (h : 0 <= timIdx l q) : ∃ x, l[(timIdx l q).toNat]? = some x /\ x.seq = q := by
  unfold timIdx at h ⊢
  split at h
  · rename_i k hk
    obtain ⟨hl, h1, _⟩ := List.findIdx?_eq_some_iff_getElem.1 hk
    exact ⟨l[k], List.getElem?_eq_getElem hl, of_decide_eq_true h1⟩
  · exact absurd h (by decide)

theorem timIdx_mem {l : List Timer} {x : Timer} (hx : x ∈ l) : 0 <= timIdx l x.seq := by
  rcases Int.lt_or_le (timIdx l x.seq) 0 with h | h
  · exact absurd rfl (timIdx_none h x hx)
  · exact h

theorem timAt_c (S : Se P A) (heap : List Twig) (list : List Timer) (next q : Int) : Is1 P 206 [.agg (roTimers A ⟨heap, list, next⟩), .int .i64 q] (.int .i64 (timIdx list q)) := by
  refine SoundM.knownH (p := fun r => 0 <= r /\ (∃ x, list[r.toNat]? = some x /\ x.seq = q) /\ Upto (fun _ x => ¬ x.seq = q) list r ∨ r = -1 /\ ∀ x ∈ list, ¬ x.seq = q) ?_ (fun n h => ?_)
  rotate_left
  · rcases h with ⟨h0, ⟨x, hx, hq⟩, hu⟩ | ⟨rfl, h⟩
    · have : list.findIdx? (fun x => decide (x.seq = q)) = some n.toNat := by
        obtain ⟨hl, hg⟩ := List.getElem?_eq_some_iff.1 hx
        refine List.findIdx?_eq_some_iff_getElem.2 ⟨hl, by simp [hg, hq], fun j hj => ?_⟩
        have := hu j list[j] (by omega) (List.getElem?_eq_getElem (by omega))
        simpa using this
      unfold timIdx; rw [this]; dsimp only; omega
    · have : list.findIdx? (fun x => decide (x.seq = q)) = none := List.findIdx?_eq_none_iff.2 fun x hx => decide_eq_false (h x hx)
      unfold timIdx; rw [this]
  refine S.cx.by (S.prog ▸ Tryz.func206) rfl rfl rfl rfl (fun hv ho => ?_)
  cbv
  refine ACall.num (dp := false) (indexFuncTimer1_c S _ _ _ (timAt1_c S q) list) .go (fun r hr => ?_); cbv
  exact Done.num hr

def Timer.ok (x : Timer) (next : Int) : Prop := (0 <= x.seq /\ x.seq < next) /\ (0 <= x.what /\ x.what <= 2) /\ (0 <= x.whom /\ x.whom <= 99)
instance (x : Timer) (n : Int) : Decidable (x.ok n) := by unfold Timer.ok; infer_instance

def armedN (l : List Timer) : Nat := (l.filter (·.armed)).length

def Held (list : List Timer) (h : Twig) : Prop := ∃ x ∈ list, x.seq = h.seq /\ x.armed = true /\ x.due = h.due
instance (l : List Timer) (h : Twig) : Decidable (Held l h) := by unfold Held; infer_instance

def TimersOk (t : Timers) : Prop :=
  (0 <= t.next /\ t.next <= 1000000) /\ t.list.length <= 64 /\ HeapOk t.heap /\ (∀ x ∈ t.list, x.ok t.next) /\ t.list.Pairwise (fun x y => x.seq < y.seq) /\ armedN t.list = t.heap.length /\ ∀ h ∈ t.heap, Held t.list h
instance (t : Timers) : Decidable (TimersOk t) := by unfold TimersOk; infer_instance

theorem armedN_next {l : List Timer} {i i' : Int} {x : Timer} (h0 : 0 <= i) (hx : l[i.toNat]? = some x) (hi : i' = i + 1) : armedN (l.take i'.toNat) = armedN (l.take i.toNat) + (if x.armed then 1 else 0) := by
  rw [show i'.toNat = i.toNat + 1 by omega, take_next hx, armedN, List.filter_append]
  cases h : x.armed <;> simp [armedN, h]

theorem armedN_le (l : List Timer) : armedN l <= l.length := List.length_filter_le _ _

theorem asc_eq {l : List Timer} (hd : l.Pairwise (fun x y => x.seq < y.seq)) {x y : Timer} (hx : x ∈ l) (hy : y ∈ l) (e : x.seq = y.seq) : x = y := by
  induction hd with
  | nil => cases hx
  | cons h _ ih =>
    rcases List.mem_cons.1 hx with rfl | hx'
    · rcases List.mem_cons.1 hy with rfl | hy'
      · rfl
      · have := h _ hy'; omega
    · rcases List.mem_cons.1 hy with rfl | hy'
      · have := h _ hx'; omega
      · exact ih hx' hy'

theorem asc_at {l : List Timer} (hd : l.Pairwise (fun x y => x.seq < y.seq)) {i : Nat} {x y : Timer} (hx : x ∈ l.take i) (hy : l[i]? = some y) : x.seq < y.seq := by
  have h1 := hd.sublist (List.take_sublist (i + 1) l)
  rw [take_next hy] at h1
  exact (List.pairwise_append.1 h1).2.2 x hx y (List.mem_singleton.2 rfl)

theorem timersOk1_c (S : Se P A) (heap : List Twig) (list : List Timer) (next : Int) (hd : list.Pairwise (fun x y => x.seq < y.seq)) (x : Twig) : Tests P 300 [.agg (cTwig x), .rptr (roTimers A ⟨heap, list, next⟩)] (¬ Held list x) := by
  obtain ⟨d, q, n⟩ := x
  refine S.cx.by (S.prog ▸ Tryz.func300) rfl rfl rfl rfl (fun hv ho => ?_)
  cbv
  refine ACall.int (dp := false) (timAt_c S heap list next q) .go rfl (fun r hr => ?_); cbv
  have hne := @timIdx_none list q
  have hso := @timIdx_some list q
  rw [<- hr] at hne hso
  try (refine Drawn.mk ⟨by kernel_rfl, fun _ => ?_⟩)
  refine Test.lss (fun h1 => ?_) (fun h1 => ?_) <;> cbv
  · exact Done.yes fun ⟨y, hy, e, _⟩ => hne h1 y hy e
  obtain ⟨⟨ys, yd, yw, yh, ya⟩, hy, he⟩ := hso (by omega)
  have hym := mem_at hy
  dsimp only at he
  refine ElemRo.at S.cx (x := (⟨ys, yd, yw, yh, ya⟩ : Timer)) rfl (by omega) hy ?_; cbv
  cases ya <;> cbv
  · refine Done.yes fun ⟨z, hz, e, ha, _⟩ => ?_
    rw [asc_eq hd hz hym (e.trans he.symm)] at ha
    cases ha
  refine ElemRo.at S.cx (x := (⟨ys, yd, yw, yh, true⟩ : Timer)) rfl (by omega) hy ?_; cbv
  refine Test.neq (fun h2 => ?_) (fun h2 => ?_) <;> cbv
  · refine Done.yes fun ⟨z, hz, e, ha, hd2⟩ => ?_
    rw [asc_eq hd hz hym (e.trans he.symm)] at hd2
    exact h2 hd2
  · exact Done.no fun e => e ⟨_, hym, he, rfl, h2⟩

theorem implTimersOk_c (S : Se P A) (heap : List Twig) (list : List Timer) (next : Int) : Tests P 230 [.agg (roTimers A ⟨heap, list, next⟩)] (TimersOk ⟨heap, list, next⟩) := by
  refine S.cx.by (S.prog ▸ Tryz.func230) rfl rfl rfl rfl (fun hv ho => ?_)
  cbv
  refine ACall.testD (dp := false) (within_c S next 0 1000000) .go rfl (fun h1 => ?_) (fun h1 => ?_) <;> cbv
  rotate_left
  · exact Done.no fun e => h1 e.1
  refine LenR.nat S.cx (fun N hN hm => ?_); cbv
  refine Test.gtr (fun h2 => ?_) (fun h2 => ?_) <;> cbv
  · exact Done.no fun e => by have := e.2.1; dsimp only at this; lia
  have hl64 : list.length <= 64 := by lia
  refine ACall.testD (dp := false) (implHeapOk_c S heap) .go rfl (fun h3 => ?_) (fun h3 => ?_) <;> cbv
  rotate_left
  · exact Done.no fun e => h3 e.2.2.1
  refine LenR.nat S.cx (fun M hM hm2 => ?_); cbv
  refine ALoop.goS (ι := Int × Int × Int) (fun i => [(26, .int .i64 i.1), (3, .int .i64 i.2.1), (4, .int .i64 i.2.2)]) [] (fun i => []) (fun i => 0 <= i.1 /\ (∀ x ∈ list.take i.1.toNat, x.ok next /\ x.seq <= i.2.1) /\ (list.take i.1.toNat).Pairwise (fun x y => x.seq < y.seq) /\ -1 <= i.2.1 /\ (i.2.1 = -1 ∨ ∃ y ∈ list.take i.1.toNat, y.seq = i.2.1) /\ 0 <= i.2.2 /\ i.2.2.toNat = armedN (list.take i.1.toNat)) (fun i => (list.length - i.1).toNat) (0, -1, 0) S.cx.tab S.cx.mix S.eq ?_ ?_ ?_
  · exact ⟨Int.le_refl _, by simp, by simp, Int.le_refl _, .inl rfl, Int.le_refl _, rfl⟩
  · (cbv; exact Less.toA [])
  intro i hk
  obtain ⟨i, last, n⟩ := i
  dsimp only at hk
  refine Rnd.mk ?_; cbv
  refine Test.lss (fun h4 => ?_) (fun h4 => ?_) <;> cbv
  rotate_left
  · obtain ⟨h0, hall, hpw, hl1, hl2, hn0, hn⟩ := hk
    rw [take_all (by lia)] at hall hpw hn
    refine LenR.nat S.cx (fun H hH hHm => ?_); cbv
    refine Test.eql (fun h5 => ?_) (fun h5 => ?_) <;> cbv
    rotate_left
    · exact Done.no fun e => by have := e.2.2.2.2.2.1; dsimp only at this; lia
    refine ACall.testX (dp := false) (containsFuncTwig1_c S _ _ _ (fun x => timersOk1_c S heap list next hpw x) heap) .go rfl (fun h6 => ?_) (fun h6 => ?_) <;> cbv
    · exact Done.no fun e => by obtain ⟨x, hx, hh⟩ := h6; exact hh (e.2.2.2.2.2.2 x hx)
    · refine Done.yes ⟨h1, hl64, h3, fun x hx => (hall x hx).1, hpw, by dsimp only; lia, fun x hx => ?_⟩
      exact Classical.byContradiction fun hh => h6 ⟨x, hx, hh⟩
  obtain ⟨h0, hall, hpw, hl1, hl2, hn0, hn⟩ := hk
  refine ElemRo.enc S.cx (fun _ => rfl) (by lia) (by lia) (fun y hy => ?_)
  obtain ⟨ys, yd, yw, yh, ya⟩ := y
  have hym := mem_at hy
  cbv
  refine Test.leq (fun h5 => ?_) (fun h5 => ?_) <;> cbv
  · refine Done.no fun e => ?_
    have h6 := (e.2.2.2.1 _ hym).1.1
    dsimp only at h6
    rcases hl2 with hl2 | ⟨z, hz, hzl⟩
    · omega
    · have := asc_at e.2.2.2.2.1 hz hy
      dsimp only at this
      omega
  refine Test.geq (fun h6 => ?_) (fun h6 => ?_) <;> cbv
  · refine Done.no fun e => ?_
    have h7 := (e.2.2.2.1 _ hym).1.2
    dsimp only at h7
    omega
  refine ACall.testD (dp := false) (within_c S yw 0 2) .go rfl (fun h7 => ?_) (fun h7 => ?_) <;> cbv
  rotate_left
  · exact Done.no fun e => h7 (e.2.2.2.1 _ hym).2.1
  refine ACall.testD (dp := false) (within_c S yh 0 99) .go rfl (fun h8 => ?_) (fun h8 => ?_) <;> cbv
  rotate_left
  · exact Done.no fun e => h8 (e.2.2.2.1 _ hym).2.2
  have htn := take_next hy
  have hnext : ∀ i', i' = i + 1 -> (∀ x ∈ list.take i'.toNat, x.ok next /\ x.seq <= ys) /\ (list.take i'.toNat).Pairwise (fun x y => x.seq < y.seq) /\ -1 <= ys /\ (ys = -1 ∨ ∃ y ∈ list.take i'.toNat, y.seq = ys) := fun i' hi' => by
    rw [show i'.toNat = i.toNat + 1 by omega, htn]
    refine ⟨fun x hx => ?_, ?_, by omega, .inr ⟨_, List.mem_append_right _ (List.mem_singleton.2 rfl), rfl⟩⟩
    · rcases List.mem_append.1 hx with hx | hx
      · exact ⟨(hall x hx).1, by have := (hall x hx).2; omega⟩
      · rw [List.mem_singleton.1 hx]
        exact ⟨⟨⟨by dsimp only; omega, by dsimp only; omega⟩, h7, h8⟩, Int.le_refl _⟩
    · refine List.pairwise_append.2 ⟨hpw, by simp, fun a ha b hb => ?_⟩
      rw [List.mem_singleton.1 hb]
      have := (hall a ha).2
      dsimp only
      omega
  have han := armedN_le (list.take i.toNat)
  rw [List.length_take] at han
  cases ya <;> cbv
  · refine Arith.go (by lia) (fun i' hi' => ?_); cbv
    have hx := hnext i' hi'
    refine Again.on (i', ys, n) (by dsimp only; lia) ⟨by dsimp only; lia, hx.1, hx.2.1, hx.2.2.1, hx.2.2.2, hn0, ?_⟩ ?_
    · dsimp only
      rw [armedN_next h0 hy hi']; simpa using hn
    · (cbv; exact Less.toA [])
  · refine Arith.go (by lia) (fun n' hn' => ?_); replace hn' : n' = n + 1 := hn'; cbv
    refine Arith.go (by lia) (fun i' hi' => ?_); cbv
    have hx := hnext i' hi'
    refine Again.on (i', ys, n') (by dsimp only; lia) ⟨by dsimp only; lia, hx.1, hx.2.1, hx.2.2.1, hx.2.2.2, by dsimp only; lia, ?_⟩ ?_
    · dsimp only
      rw [armedN_next h0 hy hi']; show n'.toNat = armedN (list.take i.toNat) + 1; lia
    · (cbv; exact Less.toA [])

end Go.Proofs.YtihfpbhalnedcaaGreat.AM
