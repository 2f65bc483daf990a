/- Contracts: the rank of the spec; its valid heaps. (printed by ge12.py) -/
import Derived.Test.YtgooambndfkgkaaGreatE11
namespace Go.Proofs.YtgooambndfkgkaaGreat.AM
open Go Go.Proofs

set_option maxRecDepth 100000
set_option maxHeartbeats 4000000
set_option linter.unusedVariables false
set_option linter.unusedSimpArgs false

variable {P : Program} {A : Sy}

/-- The rank of a heap, -1 where it is none. -/
def rankL (l : List Twig) : Int := if Heap.Is l then ((heapOf l).rank : Int) else -1

theorem rankL_is {t : Heap} {l : List Twig} (h : t.ok) (e : t.flat = l) : rankL l = (t.rank : Int) := by
  have hi : Heap.Is l := ⟨t, h, e⟩
  unfold rankL; rw [if_pos hi, ← e, heapOf_flat h]

theorem rankL_not {l : List Twig} (h : ¬ Heap.Is l) : rankL l = -1 := if_neg h

theorem rankL_ge {l : List Twig} : 0 ≤ rankL l ↔ Heap.Is l := by
  unfold rankL; split
  · rename_i h; exact ⟨fun _ => h, fun _ => Int.natCast_nonneg _⟩
  · rename_i h; exact ⟨fun e => absurd e (by decide), fun e => absurd e h⟩

theorem rank_le (t : Heap) : t.rank ≤ t.size := by
  induction t with
  | nil => exact Nat.le_refl _
  | node d s a b iha ihb => simp only [Heap.rank, Heap.size]; omega

theorem rankL_le (l : List Twig) : rankL l ≤ (l.length : Int) := by
  unfold rankL; split
  · rename_i h
    have h1 := rank_le (heapOf l)
    have h2 := Heap.flat_len (heapOf l)
    rw [(heapOf_is h).2] at h2
    omega
  · omega

def Ahead (x : Twig) (l : List Twig) : Prop := match l with
  | [] => True
  | y :: _ => x.due < y.due ∨ x.due = y.due ∧ x.seq < y.seq

theorem ahead_above {x : Twig} {t : Heap} {l : List Twig} (h : t.flat = l) : Heap.above x.due x.seq t ↔ Ahead x l := by
  cases l with
  | nil => rw [Heap.flat_nil h]; exact Iff.rfl
  | cons y q => exact Heap.above_cons h

theorem rank_cons {x : Twig} {r ll lr : List Twig} (hp : 0 ≤ x.lefts ∧ x.lefts.toNat ≤ r.length) (h1 : ll = r.take x.lefts.toNat) (h2 : lr = r.drop x.lefts.toNat) :
    (Heap.Is (x :: r) ↔ Heap.Is ll ∧ Heap.Is lr ∧ rankL lr ≤ rankL ll ∧ Ahead x ll ∧ Ahead x lr) ∧ (Heap.Is (x :: r) → rankL (x :: r) = rankL lr + 1) := by
  refine ⟨⟨fun h => ?_, fun h => ?_⟩, fun h => ?_⟩
  · obtain ⟨_, a, b, ha, hb, ea, eb, hr, hla, hlb⟩ := Heap.is_cons.1 h
    rw [← h1] at ea; rw [← h2] at eb
    refine ⟨⟨a, ha, ea⟩, ⟨b, hb, eb⟩, ?_, (ahead_above ea).1 hla, (ahead_above eb).1 hlb⟩
    rw [rankL_is ha ea, rankL_is hb eb]; omega
  · obtain ⟨⟨a, ha, ea⟩, ⟨b, hb, eb⟩, hr, g1, g2⟩ := h
    rw [rankL_is ha ea, rankL_is hb eb] at hr
    exact Heap.is_cons.2 ⟨hp, a, b, ha, hb, ea.trans h1, eb.trans h2, by omega, (ahead_above ea).2 g1, (ahead_above eb).2 g2⟩
  · obtain ⟨t, hok, hf⟩ := h
    obtain ⟨a, b, rfl, g1, g2, g3, g4⟩ := Heap.flat_cons hf
    rw [rankL_is hok hf, rankL_is hok.2.1 (g3.trans h2.symm)]
    simp only [Heap.rank]; omega

theorem l3Rank_step (S : Se P A) (l : List Twig) (hb : l.length ≤ 4294967296)
    (ih : ∀ l' : List Twig, l'.length < l.length → Is1 P 291 [.ro (A.enc cTwig l')] (.int .i64 (rankL l'))) : Is1 P 291 [.ro (A.enc cTwig l)] (.int .i64 (rankL l)) := by
  refine SoundM.knownH (p := fun n => n = rankL l) ?_ (fun n h => h)
  refine S.cx.by (S.prog ▸ Tryz.func291) rfl rfl rfl rfl (fun hv ho => ?_)
  cbv
  refine LenR.nat S.cx (fun N hN hm => ?_); cbv
  refine Test.eql (fun h1 => ?_) (fun h1 => ?_) <;> cbv
  · have e : l = [] := List.length_eq_zero_iff.1 (by lia)
    exact Done.num (by rw [e, rankL_is (t := .nil) (l := []) trivial rfl]; rfl)
  obtain ⟨x, r, hxr⟩ : ∃ x r, l = x :: r := by
    cases l with
    | nil => simp at hN; omega
    | cons x r => exact ⟨x, r, rfl⟩
  have hx0 : l[(0 : Int).toNat]? = some x := by rw [hxr]; rfl
  have hlen : l.length = r.length + 1 := by rw [hxr]; rfl
  by_cases hp : 0 ≤ x.lefts ∧ x.lefts.toNat ≤ r.length
  rotate_left
  · have hni : ¬ Heap.Is l := fun e => hp (Heap.is_cons.1 (hxr ▸ e)).1
    refine ACall.valN (r := rPPN A) (os := fun _ => []) (dp := false) S.cx (l3PartsN_c S hxr hb hp) ⟨rfl, (by repeat' (first | exact trivial | exact rfl | exact Nat.le_refl _ | exact S.cx.giveEq | exact S.cx.lendLe (by assumption) | exact S.cx.lendEq (by assumption) | exact S.cx.lendLe0 | exact S.cx.lendEq0 | exact S.cx.partLe (by assumption) | exact S.cx.partEq (by assumption) | exact S.cx.enc _ [] | exact .inl rfl | refine ⟨?_, ?_⟩)), (by repeat' (first | exact trivial | exact rfl | exact Nat.le_refl _ | exact S.cx.giveEq | exact S.cx.lendLe (by assumption) | exact S.cx.lendEq (by assumption) | exact S.cx.lendLe0 | exact S.cx.lendEq0 | exact S.cx.partLe (by assumption) | exact S.cx.partEq (by assumption) | exact S.cx.enc _ [] | exact .inl rfl | refine ⟨?_, ?_⟩))⟩ rfl (fun ln hln x' hx => ⟨rfl, ?_⟩)
    cbv
    try (refine Drawn.mk ⟨by kernel_rfl, fun _ => ?_⟩)
    exact Done.num (rankL_not hni).symm
  refine ACall.valN (r := rPPB A) (os := fun _ => []) (dp := false) S.cx (l3Parts_c S hxr hp.1 hp.2) ⟨rfl, (by repeat' (first | exact trivial | exact rfl | exact Nat.le_refl _ | exact S.cx.giveEq | exact S.cx.lendLe (by assumption) | exact S.cx.lendEq (by assumption) | exact S.cx.lendLe0 | exact S.cx.lendEq0 | exact S.cx.partLe (by assumption) | exact S.cx.partEq (by assumption) | exact S.cx.enc _ [] | exact .inl rfl | refine ⟨?_, ?_⟩)), (by repeat' (first | exact trivial | exact rfl | exact Nat.le_refl _ | exact S.cx.giveEq | exact S.cx.lendLe (by assumption) | exact S.cx.lendEq (by assumption) | exact S.cx.lendLe0 | exact S.cx.lendEq0 | exact S.cx.partLe (by assumption) | exact S.cx.partEq (by assumption) | exact S.cx.enc _ [] | exact .inl rfl | refine ⟨?_, ?_⟩))⟩ rfl (fun ln hln x' hx => ⟨rfl, ?_⟩)
  obtain ⟨ll, lr⟩ := x'
  simp only [Prod.mk.injEq] at hx
  obtain ⟨hl1, hl2⟩ := hx
  have hrc := rank_cons hp hl1 hl2
  rw [← hxr] at hrc
  have hlll : ll.length < l.length := by rw [hl1, hlen]; simp; omega
  have hlrl : lr.length < l.length := by rw [hl2, hlen]; simp; omega
  obtain ⟨xd, xs, xk⟩ := x
  cbv
  try (refine Drawn.mk ⟨by kernel_rfl, fun _ => ?_⟩)
  refine LenR.natD S.cx (by omega) (fun L hL => ?_); cbv
  refine Test.gtr (fun h2 => ?_) (fun h2 => ?_) <;> cbv
  · obtain ⟨y, q, hy⟩ : ∃ y q, ll = y :: q := by
      cases ll with
      | nil => simp at hL; omega
      | cons y q => exact ⟨y, q, rfl⟩
    obtain ⟨yd, ys, yk⟩ := y
    refine ElemRo.at S.cx (x := (⟨xd, xs, xk⟩ : Twig)) rfl (by decide) hx0 ?_; cbv
    refine ElemRo.at S.cx (x := (⟨yd, ys, yk⟩ : Twig)) rfl (by decide) (by rw [hy]; rfl) ?_; cbv
    refine ACall.testD (dp := false) (l3Ahead_c S xd xs xk yd ys yk) ⟨rfl, (by repeat' (first | exact trivial | exact rfl | exact Nat.le_refl _ | exact S.cx.giveEq | exact S.cx.lendLe (by assumption) | exact S.cx.lendEq (by assumption) | exact S.cx.lendLe0 | exact S.cx.lendEq0 | exact S.cx.partLe (by assumption) | exact S.cx.partEq (by assumption) | exact S.cx.enc _ [] | exact .inl rfl | refine ⟨?_, ?_⟩)), (by repeat' (first | exact trivial | exact rfl | exact Nat.le_refl _ | exact S.cx.giveEq | exact S.cx.lendLe (by assumption) | exact S.cx.lendEq (by assumption) | exact S.cx.lendLe0 | exact S.cx.lendEq0 | exact S.cx.partLe (by assumption) | exact S.cx.partEq (by assumption) | exact S.cx.enc _ [] | exact .inl rfl | refine ⟨?_, ?_⟩))⟩ rfl (fun h3 => ?_) (fun h3 => ?_) <;> cbv
    rotate_left
    · refine Done.num (rankL_not fun e => ?_).symm
      have h4 := (hrc.1.1 e).2.2.2.1
      rw [hy] at h4
      exact h3 h4
    have hA : Ahead ⟨xd, xs, xk⟩ ll := by rw [hy]; exact h3
    refine LenR.natD S.cx (by omega) (fun R hR => ?_); cbv
    refine Test.gtr (fun h5 => ?_) (fun h5 => ?_) <;> cbv
    · obtain ⟨z, q, hz⟩ : ∃ z q, lr = z :: q := by
        cases lr with
        | nil => simp at hR; omega
        | cons z q => exact ⟨z, q, rfl⟩
      obtain ⟨zd, zs, zk⟩ := z
      refine ElemRo.at S.cx (x := (⟨xd, xs, xk⟩ : Twig)) rfl (by decide) hx0 ?_; cbv
      refine ElemRo.at S.cx (x := (⟨zd, zs, zk⟩ : Twig)) rfl (by decide) (by rw [hz]; rfl) ?_; cbv
      refine ACall.testD (dp := false) (l3Ahead_c S xd xs xk zd zs zk) ⟨rfl, (by repeat' (first | exact trivial | exact rfl | exact Nat.le_refl _ | exact S.cx.giveEq | exact S.cx.lendLe (by assumption) | exact S.cx.lendEq (by assumption) | exact S.cx.lendLe0 | exact S.cx.lendEq0 | exact S.cx.partLe (by assumption) | exact S.cx.partEq (by assumption) | exact S.cx.enc _ [] | exact .inl rfl | refine ⟨?_, ?_⟩)), (by repeat' (first | exact trivial | exact rfl | exact Nat.le_refl _ | exact S.cx.giveEq | exact S.cx.lendLe (by assumption) | exact S.cx.lendEq (by assumption) | exact S.cx.lendLe0 | exact S.cx.lendEq0 | exact S.cx.partLe (by assumption) | exact S.cx.partEq (by assumption) | exact S.cx.enc _ [] | exact .inl rfl | refine ⟨?_, ?_⟩))⟩ rfl (fun h6 => ?_) (fun h6 => ?_) <;> cbv
      rotate_left
      · refine Done.num (rankL_not fun e => ?_).symm
        have h4 := (hrc.1.1 e).2.2.2.2
        rw [hz] at h4
        exact h6 h4
      have hB : Ahead ⟨xd, xs, xk⟩ lr := by rw [hz]; exact h6
      refine ACall.int (dp := false) (ih ll hlll) ⟨rfl, (by repeat' (first | exact trivial | exact rfl | exact Nat.le_refl _ | exact S.cx.giveEq | exact S.cx.lendLe (by assumption) | exact S.cx.lendEq (by assumption) | exact S.cx.lendLe0 | exact S.cx.lendEq0 | exact S.cx.partLe (by assumption) | exact S.cx.partEq (by assumption) | exact S.cx.enc _ [] | exact .inl rfl | refine ⟨?_, ?_⟩)), (by repeat' (first | exact trivial | exact rfl | exact Nat.le_refl _ | exact S.cx.giveEq | exact S.cx.lendLe (by assumption) | exact S.cx.lendEq (by assumption) | exact S.cx.lendLe0 | exact S.cx.lendEq0 | exact S.cx.partLe (by assumption) | exact S.cx.partEq (by assumption) | exact S.cx.enc _ [] | exact .inl rfl | refine ⟨?_, ?_⟩))⟩ rfl (fun a ha => ?_); cbv
      refine ACall.int (dp := false) (ih lr hlrl) ⟨rfl, (by repeat' (first | exact trivial | exact rfl | exact Nat.le_refl _ | exact S.cx.giveEq | exact S.cx.lendLe (by assumption) | exact S.cx.lendEq (by assumption) | exact S.cx.lendLe0 | exact S.cx.lendEq0 | exact S.cx.partLe (by assumption) | exact S.cx.partEq (by assumption) | exact S.cx.enc _ [] | exact .inl rfl | refine ⟨?_, ?_⟩)), (by repeat' (first | exact trivial | exact rfl | exact Nat.le_refl _ | exact S.cx.giveEq | exact S.cx.lendLe (by assumption) | exact S.cx.lendEq (by assumption) | exact S.cx.lendLe0 | exact S.cx.lendEq0 | exact S.cx.partLe (by assumption) | exact S.cx.partEq (by assumption) | exact S.cx.enc _ [] | exact .inl rfl | refine ⟨?_, ?_⟩))⟩ rfl (fun b hb2 => ?_); cbv
      have gl := @rankL_ge ll
      have gr := @rankL_ge lr
      rw [← ha] at gl hrc
      rw [← hb2] at gr hrc
      refine Test.lss (fun h7 => ?_) (fun h7 => ?_) <;> cbv
      · exact Done.num (rankL_not fun e => by have := gl.2 (hrc.1.1 e).1; omega).symm
      refine Test.lss (fun h8 => ?_) (fun h8 => ?_) <;> cbv
      · exact Done.num (rankL_not fun e => by have := gr.2 (hrc.1.1 e).2.1; omega).symm
      refine Test.lss (fun h9 => ?_) (fun h9 => ?_) <;> cbv
      · exact Done.num (rankL_not fun e => by have := (hrc.1.1 e).2.2.1; omega).symm
      have hIs := hrc.1.2 ⟨gl.1 (by omega), gr.1 (by omega), by omega, hA, hB⟩
      have hres := hrc.2 hIs
      have hbb : b ≤ 4294967296 := by have := rankL_le lr; rw [← hb2] at this; omega
      refine Arith.go (by lia) (fun n hn => ?_); replace hn : n = b + 1 := hn; cbv
      exact Done.num (hn.trans hres.symm)
    · have hB : Ahead ⟨xd, xs, xk⟩ lr := by rw [List.length_eq_zero_iff.1 (show lr.length = 0 by omega)]; trivial
      refine ACall.int (dp := false) (ih ll hlll) ⟨rfl, (by repeat' (first | exact trivial | exact rfl | exact Nat.le_refl _ | exact S.cx.giveEq | exact S.cx.lendLe (by assumption) | exact S.cx.lendEq (by assumption) | exact S.cx.lendLe0 | exact S.cx.lendEq0 | exact S.cx.partLe (by assumption) | exact S.cx.partEq (by assumption) | exact S.cx.enc _ [] | exact .inl rfl | refine ⟨?_, ?_⟩)), (by repeat' (first | exact trivial | exact rfl | exact Nat.le_refl _ | exact S.cx.giveEq | exact S.cx.lendLe (by assumption) | exact S.cx.lendEq (by assumption) | exact S.cx.lendLe0 | exact S.cx.lendEq0 | exact S.cx.partLe (by assumption) | exact S.cx.partEq (by assumption) | exact S.cx.enc _ [] | exact .inl rfl | refine ⟨?_, ?_⟩))⟩ rfl (fun a ha => ?_); cbv
      refine ACall.int (dp := false) (ih lr hlrl) ⟨rfl, (by repeat' (first | exact trivial | exact rfl | exact Nat.le_refl _ | exact S.cx.giveEq | exact S.cx.lendLe (by assumption) | exact S.cx.lendEq (by assumption) | exact S.cx.lendLe0 | exact S.cx.lendEq0 | exact S.cx.partLe (by assumption) | exact S.cx.partEq (by assumption) | exact S.cx.enc _ [] | exact .inl rfl | refine ⟨?_, ?_⟩)), (by repeat' (first | exact trivial | exact rfl | exact Nat.le_refl _ | exact S.cx.giveEq | exact S.cx.lendLe (by assumption) | exact S.cx.lendEq (by assumption) | exact S.cx.lendLe0 | exact S.cx.lendEq0 | exact S.cx.partLe (by assumption) | exact S.cx.partEq (by assumption) | exact S.cx.enc _ [] | exact .inl rfl | refine ⟨?_, ?_⟩))⟩ rfl (fun b hb2 => ?_); cbv
      have gl := @rankL_ge ll
      have gr := @rankL_ge lr
      rw [← ha] at gl hrc
      rw [← hb2] at gr hrc
      refine Test.lss (fun h7 => ?_) (fun h7 => ?_) <;> cbv
      · exact Done.num (rankL_not fun e => by have := gl.2 (hrc.1.1 e).1; omega).symm
      refine Test.lss (fun h8 => ?_) (fun h8 => ?_) <;> cbv
      · exact Done.num (rankL_not fun e => by have := gr.2 (hrc.1.1 e).2.1; omega).symm
      refine Test.lss (fun h9 => ?_) (fun h9 => ?_) <;> cbv
      · exact Done.num (rankL_not fun e => by have := (hrc.1.1 e).2.2.1; omega).symm
      have hIs := hrc.1.2 ⟨gl.1 (by omega), gr.1 (by omega), by omega, hA, hB⟩
      have hres := hrc.2 hIs
      have hbb : b ≤ 4294967296 := by have := rankL_le lr; rw [← hb2] at this; omega
      refine Arith.go (by lia) (fun n hn => ?_); replace hn : n = b + 1 := hn; cbv
      exact Done.num (hn.trans hres.symm)
  · have hA : Ahead ⟨xd, xs, xk⟩ ll := by rw [List.length_eq_zero_iff.1 (show ll.length = 0 by omega)]; trivial
    refine LenR.natD S.cx (by omega) (fun R hR => ?_); cbv
    refine Test.gtr (fun h5 => ?_) (fun h5 => ?_) <;> cbv
    · obtain ⟨z, q, hz⟩ : ∃ z q, lr = z :: q := by
        cases lr with
        | nil => simp at hR; omega
        | cons z q => exact ⟨z, q, rfl⟩
      obtain ⟨zd, zs, zk⟩ := z
      refine ElemRo.at S.cx (x := (⟨xd, xs, xk⟩ : Twig)) rfl (by decide) hx0 ?_; cbv
      refine ElemRo.at S.cx (x := (⟨zd, zs, zk⟩ : Twig)) rfl (by decide) (by rw [hz]; rfl) ?_; cbv
      refine ACall.testD (dp := false) (l3Ahead_c S xd xs xk zd zs zk) ⟨rfl, (by repeat' (first | exact trivial | exact rfl | exact Nat.le_refl _ | exact S.cx.giveEq | exact S.cx.lendLe (by assumption) | exact S.cx.lendEq (by assumption) | exact S.cx.lendLe0 | exact S.cx.lendEq0 | exact S.cx.partLe (by assumption) | exact S.cx.partEq (by assumption) | exact S.cx.enc _ [] | exact .inl rfl | refine ⟨?_, ?_⟩)), (by repeat' (first | exact trivial | exact rfl | exact Nat.le_refl _ | exact S.cx.giveEq | exact S.cx.lendLe (by assumption) | exact S.cx.lendEq (by assumption) | exact S.cx.lendLe0 | exact S.cx.lendEq0 | exact S.cx.partLe (by assumption) | exact S.cx.partEq (by assumption) | exact S.cx.enc _ [] | exact .inl rfl | refine ⟨?_, ?_⟩))⟩ rfl (fun h6 => ?_) (fun h6 => ?_) <;> cbv
      rotate_left
      · refine Done.num (rankL_not fun e => ?_).symm
        have h4 := (hrc.1.1 e).2.2.2.2
        rw [hz] at h4
        exact h6 h4
      have hB : Ahead ⟨xd, xs, xk⟩ lr := by rw [hz]; exact h6
      refine ACall.int (dp := false) (ih ll hlll) ⟨rfl, (by repeat' (first | exact trivial | exact rfl | exact Nat.le_refl _ | exact S.cx.giveEq | exact S.cx.lendLe (by assumption) | exact S.cx.lendEq (by assumption) | exact S.cx.lendLe0 | exact S.cx.lendEq0 | exact S.cx.partLe (by assumption) | exact S.cx.partEq (by assumption) | exact S.cx.enc _ [] | exact .inl rfl | refine ⟨?_, ?_⟩)), (by repeat' (first | exact trivial | exact rfl | exact Nat.le_refl _ | exact S.cx.giveEq | exact S.cx.lendLe (by assumption) | exact S.cx.lendEq (by assumption) | exact S.cx.lendLe0 | exact S.cx.lendEq0 | exact S.cx.partLe (by assumption) | exact S.cx.partEq (by assumption) | exact S.cx.enc _ [] | exact .inl rfl | refine ⟨?_, ?_⟩))⟩ rfl (fun a ha => ?_); cbv
      refine ACall.int (dp := false) (ih lr hlrl) ⟨rfl, (by repeat' (first | exact trivial | exact rfl | exact Nat.le_refl _ | exact S.cx.giveEq | exact S.cx.lendLe (by assumption) | exact S.cx.lendEq (by assumption) | exact S.cx.lendLe0 | exact S.cx.lendEq0 | exact S.cx.partLe (by assumption) | exact S.cx.partEq (by assumption) | exact S.cx.enc _ [] | exact .inl rfl | refine ⟨?_, ?_⟩)), (by repeat' (first | exact trivial | exact rfl | exact Nat.le_refl _ | exact S.cx.giveEq | exact S.cx.lendLe (by assumption) | exact S.cx.lendEq (by assumption) | exact S.cx.lendLe0 | exact S.cx.lendEq0 | exact S.cx.partLe (by assumption) | exact S.cx.partEq (by assumption) | exact S.cx.enc _ [] | exact .inl rfl | refine ⟨?_, ?_⟩))⟩ rfl (fun b hb2 => ?_); cbv
      have gl := @rankL_ge ll
      have gr := @rankL_ge lr
      rw [← ha] at gl hrc
      rw [← hb2] at gr hrc
      refine Test.lss (fun h7 => ?_) (fun h7 => ?_) <;> cbv
      · exact Done.num (rankL_not fun e => by have := gl.2 (hrc.1.1 e).1; omega).symm
      refine Test.lss (fun h8 => ?_) (fun h8 => ?_) <;> cbv
      · exact Done.num (rankL_not fun e => by have := gr.2 (hrc.1.1 e).2.1; omega).symm
      refine Test.lss (fun h9 => ?_) (fun h9 => ?_) <;> cbv
      · exact Done.num (rankL_not fun e => by have := (hrc.1.1 e).2.2.1; omega).symm
      have hIs := hrc.1.2 ⟨gl.1 (by omega), gr.1 (by omega), by omega, hA, hB⟩
      have hres := hrc.2 hIs
      have hbb : b ≤ 4294967296 := by have := rankL_le lr; rw [← hb2] at this; omega
      refine Arith.go (by lia) (fun n hn => ?_); replace hn : n = b + 1 := hn; cbv
      exact Done.num (hn.trans hres.symm)
    · have hB : Ahead ⟨xd, xs, xk⟩ lr := by rw [List.length_eq_zero_iff.1 (show lr.length = 0 by omega)]; trivial
      refine ACall.int (dp := false) (ih ll hlll) ⟨rfl, (by repeat' (first | exact trivial | exact rfl | exact Nat.le_refl _ | exact S.cx.giveEq | exact S.cx.lendLe (by assumption) | exact S.cx.lendEq (by assumption) | exact S.cx.lendLe0 | exact S.cx.lendEq0 | exact S.cx.partLe (by assumption) | exact S.cx.partEq (by assumption) | exact S.cx.enc _ [] | exact .inl rfl | refine ⟨?_, ?_⟩)), (by repeat' (first | exact trivial | exact rfl | exact Nat.le_refl _ | exact S.cx.giveEq | exact S.cx.lendLe (by assumption) | exact S.cx.lendEq (by assumption) | exact S.cx.lendLe0 | exact S.cx.lendEq0 | exact S.cx.partLe (by assumption) | exact S.cx.partEq (by assumption) | exact S.cx.enc _ [] | exact .inl rfl | refine ⟨?_, ?_⟩))⟩ rfl (fun a ha => ?_); cbv
      refine ACall.int (dp := false) (ih lr hlrl) ⟨rfl, (by repeat' (first | exact trivial | exact rfl | exact Nat.le_refl _ | exact S.cx.giveEq | exact S.cx.lendLe (by assumption) | exact S.cx.lendEq (by assumption) | exact S.cx.lendLe0 | exact S.cx.lendEq0 | exact S.cx.partLe (by assumption) | exact S.cx.partEq (by assumption) | exact S.cx.enc _ [] | exact .inl rfl | refine ⟨?_, ?_⟩)), (by repeat' (first | exact trivial | exact rfl | exact Nat.le_refl _ | exact S.cx.giveEq | exact S.cx.lendLe (by assumption) | exact S.cx.lendEq (by assumption) | exact S.cx.lendLe0 | exact S.cx.lendEq0 | exact S.cx.partLe (by assumption) | exact S.cx.partEq (by assumption) | exact S.cx.enc _ [] | exact .inl rfl | refine ⟨?_, ?_⟩))⟩ rfl (fun b hb2 => ?_); cbv
      have gl := @rankL_ge ll
      have gr := @rankL_ge lr
      rw [← ha] at gl hrc
      rw [← hb2] at gr hrc
      refine Test.lss (fun h7 => ?_) (fun h7 => ?_) <;> cbv
      · exact Done.num (rankL_not fun e => by have := gl.2 (hrc.1.1 e).1; omega).symm
      refine Test.lss (fun h8 => ?_) (fun h8 => ?_) <;> cbv
      · exact Done.num (rankL_not fun e => by have := gr.2 (hrc.1.1 e).2.1; omega).symm
      refine Test.lss (fun h9 => ?_) (fun h9 => ?_) <;> cbv
      · exact Done.num (rankL_not fun e => by have := (hrc.1.1 e).2.2.1; omega).symm
      have hIs := hrc.1.2 ⟨gl.1 (by omega), gr.1 (by omega), by omega, hA, hB⟩
      have hres := hrc.2 hIs
      have hbb : b ≤ 4294967296 := by have := rankL_le lr; rw [← hb2] at this; omega
      refine Arith.go (by lia) (fun n hn => ?_); replace hn : n = b + 1 := hn; cbv
      exact Done.num (hn.trans hres.symm)

theorem l3Rank_c (S : Se P A) (l : List Twig) (hb : l.length ≤ 4294967296) : Is1 P 291 [.ro (A.enc cTwig l)] (.int .i64 (rankL l)) := by
  obtain ⟨n, hn⟩ : ∃ n, l.length = n := ⟨_, rfl⟩
  induction n using Nat.strongRecOn generalizing l with
  | _ n ih => exact l3Rank_step S l hb fun l' hl => ih l'.length (by omega) l' (by omega) rfl

theorem specHeapOk_c (S : Se P A) (l : List Twig) : Tests P 264 [.ro (A.enc cTwig l)] (HeapOk l) := by
  refine S.cx.by (S.prog ▸ Tryz.func264) rfl rfl rfl rfl (fun hv ho => ?_)
  cbv
  refine LenR.nat S.cx (fun N hN hm => ?_); cbv
  refine Test.leq (fun h1 => ?_) (fun h1 => ?_) <;> cbv
  rotate_left
  · exact Done.no fun e => by have := e.1; lia
  have hl : l.length ≤ 64 := by lia
  refine ACall.testD (dp := false) (l3Twice_c S l) ⟨rfl, (by repeat' (first | exact trivial | exact rfl | exact Nat.le_refl _ | exact S.cx.giveEq | exact S.cx.lendLe (by assumption) | exact S.cx.lendEq (by assumption) | exact S.cx.lendLe0 | exact S.cx.lendEq0 | exact S.cx.partLe (by assumption) | exact S.cx.partEq (by assumption) | exact S.cx.enc _ [] | exact .inl rfl | refine ⟨?_, ?_⟩)), (by repeat' (first | exact trivial | exact rfl | exact Nat.le_refl _ | exact S.cx.giveEq | exact S.cx.lendLe (by assumption) | exact S.cx.lendEq (by assumption) | exact S.cx.lendLe0 | exact S.cx.lendEq0 | exact S.cx.partLe (by assumption) | exact S.cx.partEq (by assumption) | exact S.cx.enc _ [] | exact .inl rfl | refine ⟨?_, ?_⟩))⟩ rfl (fun h2 => ?_) (fun h2 => ?_) <;> cbv
  · exact Done.no fun e => h2 e.2.1
  have hnd := Classical.not_not.1 h2
  refine ACall.int (dp := false) (l3Rank_c S l (by omega)) ⟨rfl, (by repeat' (first | exact trivial | exact rfl | exact Nat.le_refl _ | exact S.cx.giveEq | exact S.cx.lendLe (by assumption) | exact S.cx.lendEq (by assumption) | exact S.cx.lendLe0 | exact S.cx.lendEq0 | exact S.cx.partLe (by assumption) | exact S.cx.partEq (by assumption) | exact S.cx.enc _ [] | exact .inl rfl | refine ⟨?_, ?_⟩)), (by repeat' (first | exact trivial | exact rfl | exact Nat.le_refl _ | exact S.cx.giveEq | exact S.cx.lendLe (by assumption) | exact S.cx.lendEq (by assumption) | exact S.cx.lendLe0 | exact S.cx.lendEq0 | exact S.cx.partLe (by assumption) | exact S.cx.partEq (by assumption) | exact S.cx.enc _ [] | exact .inl rfl | refine ⟨?_, ?_⟩))⟩ rfl (fun n hn => ?_); cbv
  have hg := @rankL_ge l
  rw [← hn] at hg
  refine Test.geq (fun h3 => ?_) (fun h3 => ?_) <;> cbv
  · exact Done.yes ⟨hl, hnd, hg.1 (by omega)⟩
  · exact Done.no fun e => by have := hg.2 e.2.2; omega

end Go.Proofs.YtgooambndfkgkaaGreat.AM
