/- Contracts: heaps as they are read. (printed by ge2.py) -/
import Derived.Test.YtgooambndfkgkaaGreatE1
import Derived.Test.YtgooambndfkgkaaGreatH1
import Derived.Test.YtgooambndfkgkaaGreatBC
namespace Go.Proofs.YtgooambndfkgkaaGreat.AM
open Go Go.Proofs

set_option maxRecDepth 100000
set_option maxHeartbeats 4000000
set_option linter.unusedVariables false
set_option linter.unusedSimpArgs false

variable {P : Program} {A : Sy}

theorem plainTwig : Plain cTwig := fun _ => rfl
def rTwig (A : Sy) (l : List Twig) : AV := .own 3 true (A.enc cTwig l)

theorem sizeTwig_c (S : Se P A) (l : List Twig) : Nums P 279 [.ro (A.enc cTwig l)] (fun n => 0 ≤ n ∧ n.toNat = l.length) := by
  refine S.cx.by (S.prog ▸ Tryz.func279) rfl rfl rfl rfl (fun hv ho => ?_)
  cbv
  refine LenR.nat S.cx (fun N hN hm => ?_); cbv
  exact Done.num hN

theorem indexFuncTwig1_c (S : Se P A) (F : FuncId) (c1 : List AV) (q : Twig → Prop) (hF : ∀ x : Twig, Tests P F [.agg (cTwig x), .rptr c1] (q x)) (l : List Twig) : Nums P 238 [.ro (A.enc cTwig l), .fn F [] [.rptr c1]] (fun r => 0 ≤ r ∧ (∃ x, l[r.toNat]? = some x ∧ q x) ∧ Upto (fun _ x => ¬ q x) l r ∨ r = -1 ∧ ∀ x ∈ l, ¬ q x) := by
  refine S.cx.by (S.prog ▸ Tryz.func238) rfl rfl rfl rfl (fun hv ho => ?_)
  cbv
  refine LenR.nat S.cx (fun N hN hm => ?_); cbv
  refine ALoop.goD (ι := Int) (fun i => [(8, .int .i64 i)]) [] (fun i => []) (fun i => 0 ≤ i ∧ Upto (fun _ x => ¬ q x) l i) (fun i => (l.length - i).toNat) (0) S.cx.tab S.cx.mix S.eq ?_ ?_ ?_
  · exact ⟨Int.le_refl _, .zero⟩
  · (cbv; refine Less.to [] rfl rfl ?_ ?_ <;> repeat' (first | exact trivial | exact ⟨rfl, rfl⟩ | exact ⟨_, rfl, Nat.zero_le _, rfl⟩ | apply And.intro | exact rfl))
  · rintro i ⟨h0, hu⟩
    cbv
    refine Test.lss (fun h => ?_) (fun h => ?_) <;> cbv
    · refine ElemRo.enc S.cx (fun _ => rfl) (by lia) (by lia) (fun x hx => ?_); cbv
      refine ACall.testX (dp := false) (hF x) ⟨rfl, (by repeat' (first | exact trivial | exact rfl | exact Nat.le_refl _ | exact S.cx.giveEq | exact S.cx.lendLe (by assumption) | exact S.cx.lendEq (by assumption) | exact S.cx.lendLe0 | exact S.cx.lendEq0 | exact S.cx.partLe (by assumption) | exact S.cx.partEq (by assumption) | exact S.cx.enc _ [] | exact .inl rfl | refine ⟨?_, ?_⟩)), (by repeat' (first | exact trivial | exact rfl | exact Nat.le_refl _ | exact S.cx.giveEq | exact S.cx.lendLe (by assumption) | exact S.cx.lendEq (by assumption) | exact S.cx.lendLe0 | exact S.cx.lendEq0 | exact S.cx.partLe (by assumption) | exact S.cx.partEq (by assumption) | exact S.cx.enc _ [] | exact .inl rfl | refine ⟨?_, ?_⟩))⟩ rfl (fun h2 => ?_) (fun h2 => ?_) <;> cbv
      · exact Done.num (.inl ⟨h0, ⟨x, hx, h2⟩, hu⟩)
      · refine Arith.go (by lia) (fun i' hi' => ?_); cbv
        refine Again.on i' (by lia) ⟨by lia, hu.next h0 hx h2 hi'⟩ ?_
        (cbv; refine Less.to [] rfl rfl ?_ ?_ <;> repeat' (first | exact trivial | exact ⟨rfl, rfl⟩ | exact ⟨_, rfl, Nat.zero_le _, rfl⟩ | apply And.intro | exact rfl))
    · exact Done.num (.inr ⟨rfl, hu.mem (by lia)⟩)

theorem SoundM.knownH {f : FuncId} {args : List AV} {p : Int → Prop} {e : Int} (h : Nums P f args p) (hu : ∀ n, p n → n = e) : Is1 P f args (.int .i64 e) :=
  h.mono fun v os ⟨⟨n, hn, hv⟩, ho⟩ => ⟨by rw [← hu n hn]; exact hv, ho⟩

def cmp3 (a b : Int) : Int := if a < b then -1 else if b < a then 1 else 0
def cmpT (a b : Twig) : Int := if cmp3 a.due b.due ≠ 0 then cmp3 a.due b.due else cmp3 a.seq b.seq
theorem cmpT_neg (a b : Twig) : cmpT a b < 0 ↔ (a.due < b.due ∨ a.due = b.due ∧ a.seq < b.seq) := by
  unfold cmpT cmp3
  repeat' split
  all_goals omega

theorem isNaN_c (S : Se P A) (n : Int) : Is1 P 302 [.int .i64 n] (.bool false) := by
  refine S.cx.by (S.prog ▸ Tryz.func302) rfl rfl rfl rfl (fun hv ho => ?_)
  cbv
  refine Test.neq (fun h => ?_) (fun h => ?_) <;> cbv
  · exact absurd rfl h
  · exact Done.to (.bool false) [] rfl rfl trivial ⟨rfl, rfl⟩

theorem compare_c (S : Se P A) (a b : Int) : Is1 P 295 [.int .i64 a, .int .i64 b] (.int .i64 (cmp3 a b)) := by
  refine S.cx.by (S.prog ▸ Tryz.func295) rfl rfl rfl rfl (fun hv ho => ?_)
  cbv
  refine ACall.fn (dp := false) (isNaN_c S a) ⟨rfl, (by repeat' (first | exact trivial | exact rfl | exact Nat.le_refl _ | exact S.cx.giveEq | exact S.cx.lendLe (by assumption) | exact S.cx.lendEq (by assumption) | exact S.cx.lendLe0 | exact S.cx.lendEq0 | exact S.cx.partLe (by assumption) | exact S.cx.partEq (by assumption) | exact S.cx.enc _ [] | exact .inl rfl | refine ⟨?_, ?_⟩)), (by repeat' (first | exact trivial | exact rfl | exact Nat.le_refl _ | exact S.cx.giveEq | exact S.cx.lendLe (by assumption) | exact S.cx.lendEq (by assumption) | exact S.cx.lendLe0 | exact S.cx.lendEq0 | exact S.cx.partLe (by assumption) | exact S.cx.partEq (by assumption) | exact S.cx.enc _ [] | exact .inl rfl | refine ⟨?_, ?_⟩))⟩ ⟨rfl, ?_⟩; cbv
  refine ACall.fn (dp := false) (isNaN_c S b) ⟨rfl, (by repeat' (first | exact trivial | exact rfl | exact Nat.le_refl _ | exact S.cx.giveEq | exact S.cx.lendLe (by assumption) | exact S.cx.lendEq (by assumption) | exact S.cx.lendLe0 | exact S.cx.lendEq0 | exact S.cx.partLe (by assumption) | exact S.cx.partEq (by assumption) | exact S.cx.enc _ [] | exact .inl rfl | refine ⟨?_, ?_⟩)), (by repeat' (first | exact trivial | exact rfl | exact Nat.le_refl _ | exact S.cx.giveEq | exact S.cx.lendLe (by assumption) | exact S.cx.lendEq (by assumption) | exact S.cx.lendLe0 | exact S.cx.lendEq0 | exact S.cx.partLe (by assumption) | exact S.cx.partEq (by assumption) | exact S.cx.enc _ [] | exact .inl rfl | refine ⟨?_, ?_⟩))⟩ ⟨rfl, ?_⟩; cbv
  refine Test.lss (fun h => ?_) (fun h => ?_) <;> cbv
  · exact Done.to (.int .i64 (-1)) [] rfl rfl trivial ⟨by rw [cmp3, if_pos h], rfl⟩
  refine Test.gtr (fun h2 => ?_) (fun h2 => ?_) <;> cbv
  · exact Done.to (.int .i64 1) [] rfl rfl trivial ⟨by rw [cmp3, if_neg (by omega), if_pos h2], rfl⟩
  · exact Done.to (.int .i64 0) [] rfl rfl trivial ⟨by rw [cmp3, if_neg (by omega), if_neg (by omega)], rfl⟩

theorem or2_c (S : Se P A) (a b : Int) : Is1 P 294 [.ro [[.int .i64 a], [.int .i64 b]], ] (.int .i64 (if a ≠ 0 then a else b)) := by
  have e : [[AV.int .i64 a], [AV.int .i64 b]] = A.enc cInt64 [a, b] := by rw [S.cx.enc]; rfl
  rw [e]
  refine S.cx.by (S.prog ▸ Tryz.func294) rfl rfl rfl rfl (fun hv ho => ?_)
  cbv
  refine LenR.nat S.cx (fun N hN hm => ?_); cbv
  have hN2 : N = 2 := by simp at hN; omega
  refine ALoop.goS (ι := Int) (fun i => [(8, .int .i64 i)]) [] (fun i => []) (fun i => 0 ≤ i ∧ (0 < i → a = 0) ∧ (1 < i → b = 0)) (fun i => (2 - i).toNat) (0) S.cx.tab S.cx.mix S.eq ?_ ?_ ?_
  · exact ⟨Int.le_refl _, fun h => by omega, fun h => by omega⟩
  · (cbv; refine Less.to [] rfl rfl ?_ ?_ <;> repeat' (first | exact trivial | exact ⟨rfl, rfl⟩ | exact ⟨_, rfl, Nat.zero_le _, rfl⟩ | apply And.intro | exact rfl))
  rintro i ⟨h0, ha, hb⟩
  refine Rnd.mk ?_; cbv
  refine Test.lss (fun h => ?_) (fun h => ?_) <;> cbv
  · rcases (show i = 0 ∨ i = 1 by omega) with rfl | rfl
    · refine ElemRo.at S.cx (x := a) rfl (by decide) rfl ?_; cbv
      refine Test.neq (fun h2 => ?_) (fun h2 => ?_) <;> cbv
      · exact Done.to (.int .i64 a) [] rfl rfl trivial ⟨by rw [if_pos h2], rfl⟩
      · refine Arith.go (by lia) (fun i' hi' => ?_); cbv
        replace hi' : i' = 0 + 1 := hi'
        refine Again.on i' (by lia) ⟨by lia, fun _ => h2, fun h => by omega⟩ ?_
        (cbv; refine Less.to [] rfl rfl ?_ ?_ <;> repeat' (first | exact trivial | exact ⟨rfl, rfl⟩ | exact ⟨_, rfl, Nat.zero_le _, rfl⟩ | apply And.intro | exact rfl))
    · refine ElemRo.at S.cx (x := b) rfl (by decide) rfl ?_; cbv
      have ha := ha (by decide)
      refine Test.neq (fun h2 => ?_) (fun h2 => ?_) <;> cbv
      · exact Done.to (.int .i64 b) [] rfl rfl trivial ⟨by rw [if_neg (fun e => e ha)], rfl⟩
      · refine Arith.go (by lia) (fun i' hi' => ?_); cbv
        replace hi' : i' = 1 + 1 := hi'
        refine Again.on i' (by lia) ⟨by lia, fun _ => ha, fun _ => h2⟩ ?_
        (cbv; refine Less.to [] rfl rfl ?_ ?_ <;> repeat' (first | exact trivial | exact ⟨rfl, rfl⟩ | exact ⟨_, rfl, Nat.zero_le _, rfl⟩ | apply And.intro | exact rfl))
  · have ha := ha (by omega)
    have hb := hb (by omega)
    exact Done.to (.int .i64 0) [] rfl rfl trivial ⟨by rw [if_neg (fun e => e ha), hb], rfl⟩

theorem twigCompare_c (S : Se P A) (d1 s1 l1 d2 s2 l2 : Int) : Is1 P 282 [.agg (cTwig ⟨d1, s1, l1⟩), .agg (cTwig ⟨d2, s2, l2⟩)] (.int .i64 (cmpT ⟨d1, s1, l1⟩ ⟨d2, s2, l2⟩)) := by
  refine S.cx.by (S.prog ▸ Tryz.func282) rfl rfl rfl rfl (fun hv ho => ?_)
  cbv
  try (refine Drawn.mk ⟨by kernel_rfl, fun _ => ?_⟩)
  refine ACall.int (dp := false) (compare_c S d1 d2) ⟨rfl, (by repeat' (first | exact trivial | exact rfl | exact Nat.le_refl _ | exact S.cx.giveEq | exact S.cx.lendLe (by assumption) | exact S.cx.lendEq (by assumption) | exact S.cx.lendLe0 | exact S.cx.lendEq0 | exact S.cx.partLe (by assumption) | exact S.cx.partEq (by assumption) | exact S.cx.enc _ [] | exact .inl rfl | refine ⟨?_, ?_⟩)), (by repeat' (first | exact trivial | exact rfl | exact Nat.le_refl _ | exact S.cx.giveEq | exact S.cx.lendLe (by assumption) | exact S.cx.lendEq (by assumption) | exact S.cx.lendLe0 | exact S.cx.lendEq0 | exact S.cx.partLe (by assumption) | exact S.cx.partEq (by assumption) | exact S.cx.enc _ [] | exact .inl rfl | refine ⟨?_, ?_⟩))⟩ rfl (fun x hx => ?_); cbv
  refine ACall.int (dp := false) (compare_c S s1 s2) ⟨rfl, (by repeat' (first | exact trivial | exact rfl | exact Nat.le_refl _ | exact S.cx.giveEq | exact S.cx.lendLe (by assumption) | exact S.cx.lendEq (by assumption) | exact S.cx.lendLe0 | exact S.cx.lendEq0 | exact S.cx.partLe (by assumption) | exact S.cx.partEq (by assumption) | exact S.cx.enc _ [] | exact .inl rfl | refine ⟨?_, ?_⟩)), (by repeat' (first | exact trivial | exact rfl | exact Nat.le_refl _ | exact S.cx.giveEq | exact S.cx.lendLe (by assumption) | exact S.cx.lendEq (by assumption) | exact S.cx.lendLe0 | exact S.cx.lendEq0 | exact S.cx.partLe (by assumption) | exact S.cx.partEq (by assumption) | exact S.cx.enc _ [] | exact .inl rfl | refine ⟨?_, ?_⟩))⟩ rfl (fun y hy => ?_); cbv
  refine ACall.int (dp := false) (or2_c S x y) ⟨rfl, (by repeat' (first | exact trivial | exact rfl | exact Nat.le_refl _ | exact S.cx.giveEq | exact S.cx.lendLe (by assumption) | exact S.cx.lendEq (by assumption) | exact S.cx.lendLe0 | exact S.cx.lendEq0 | exact S.cx.partLe (by assumption) | exact S.cx.partEq (by assumption) | exact S.cx.enc _ [] | exact .inl rfl | refine ⟨?_, ?_⟩)), (by repeat' (first | exact trivial | exact rfl | exact Nat.le_refl _ | exact S.cx.giveEq | exact S.cx.lendLe (by assumption) | exact S.cx.lendEq (by assumption) | exact S.cx.lendLe0 | exact S.cx.lendEq0 | exact S.cx.partLe (by assumption) | exact S.cx.partEq (by assumption) | exact S.cx.enc _ [] | exact .inl rfl | refine ⟨?_, ?_⟩))⟩ rfl (fun z hz => ?_); cbv
  exact Done.to (.int .i64 z) [] rfl rfl trivial ⟨by rw [hz, hx, hy]; rfl, rfl⟩

def rPP (A : Sy) (p : List Twig × List Twig) : AV := .tup [.ro (A.enc cTwig p.1), .ro (A.enc cTwig p.2)]

theorem parts_c (S : Se P A) (x : Twig) (r : List Twig) (h0 : 0 ≤ x.lefts) (h1 : x.lefts.toNat ≤ r.length) : SoundM P 280 true [.ro (A.enc cTwig (x :: r))] []
    (fun v os => v = rPP A (r.take x.lefts.toNat, r.drop x.lefts.toNat) ∧ os = []) := by
  obtain ⟨l, hl⟩ : ∃ l, l = x :: r := ⟨_, rfl⟩
  have hll : l.length = r.length + 1 := by rw [hl]; rfl
  rw [← hl]
  obtain ⟨k, hk⟩ : ∃ k, k = x.lefts := ⟨_, rfl⟩
  rw [← hk] at h0 h1 ⊢
  refine S.cx.by (S.prog ▸ Tryz.func280) rfl rfl rfl rfl (fun hv ho => ?_)
  cbv
  have hlen : l.length ≤ 9223372036854775807 := by
    have h1 := AV.real.len (hv _ (List.mem_singleton.2 rfl))
    rw [S.cx.lenE'] at h1; simp only [maxLen] at h1; omega
  refine ElemRo.at S.cx (x := x) rfl (by decide) (by rw [hl]; rfl) ?_
  obtain ⟨xd, xs, xl⟩ := x
  dsimp only at hk
  subst hk
  cbv
  refine Arith.go (by lia) (fun n hn => ?_); replace hn : n = 1 + k := hn; cbv
  try (refine Drawn.mk ⟨by kernel_rfl, fun _ => ?_⟩)
  refine CutRo.enc S.cx (fun _ => rfl) (by decide) (by lia) (by lia) (fun a ha => ?_); cbv
  refine CutRoE.enc S.cx (fun _ => rfl) (by lia) (by lia) (fun b hb => ?_); cbv
  refine Done.to (rPP A (a, b)) [] rfl ⟨⟨rfl, .inl rfl⟩, ⟨rfl, .inl rfl⟩, trivial⟩ trivial ⟨?_, rfl⟩
  have e1 : a = r.take k.toNat := by rw [ha, hl, show n.toNat = k.toNat + 1 by omega]; rfl
  have e2 : b = r.drop k.toNat := by rw [hb, hl, show n.toNat = k.toNat + 1 by omega]; rfl
  rw [e1, e2]

theorem Heap.flat_cons {t : Heap} {x : Twig} {r : List Twig} (h : t.flat = x :: r) : ∃ a b, t = .node x.due x.seq a b ∧ x.lefts = (a.size : Int) ∧ a.flat = r.take x.lefts.toNat ∧ b.flat = r.drop x.lefts.toNat ∧ x.lefts.toNat ≤ r.length := by
  cases t with
  | nil => cases h
  | node d s a b =>
    simp only [flat, List.cons.injEq] at h
    obtain ⟨h1, h2⟩ := h
    subst h1
    have e : ((a.size : Int)).toNat = a.size := by omega
    refine ⟨a, b, rfl, rfl, ?_, ?_, ?_⟩
    · dsimp only; rw [e, ← h2, flat_left]
    · dsimp only; rw [e, ← h2, flat_right]
    · dsimp only; rw [e, ← h2]; simp [flat_len]

theorem Heap.is_cons {x : Twig} {r : List Twig} : Heap.Is (x :: r) ↔ (0 ≤ x.lefts ∧ x.lefts.toNat ≤ r.length) ∧ ∃ a b : Heap, a.ok ∧ b.ok ∧ a.flat = r.take x.lefts.toNat ∧ b.flat = r.drop x.lefts.toNat ∧ b.rank ≤ a.rank ∧ above x.due x.seq a ∧ above x.due x.seq b := by
  constructor
  · rintro ⟨t, hok, hf⟩
    obtain ⟨a, b, rfl, h1, h2, h3, h4⟩ := flat_cons hf
    exact ⟨⟨by omega, h4⟩, a, b, hok.1, hok.2.1, h2, h3, hok.2.2.1, hok.2.2.2.1, hok.2.2.2.2⟩
  · rintro ⟨⟨h0, h1⟩, a, b, ha, hb, ea, eb, hr, hla, hlb⟩
    have hs : a.size = x.lefts.toNat := by rw [← flat_len, ea]; simp; omega
    refine ⟨.node x.due x.seq a b, ⟨ha, hb, hr, hla, hlb⟩, ?_⟩
    simp only [flat, ea, eb, List.take_append_drop, hs]
    congr 1
    cases x; simp; dsimp only at h0; omega

theorem Heap.above_cons {t : Heap} {y : Twig} {r : List Twig} {d s : Int} (h : t.flat = y :: r) : above d s t ↔ (d < y.due ∨ d = y.due ∧ s < y.seq) := by
  obtain ⟨a, b, rfl, _⟩ := flat_cons h
  exact Iff.rfl

theorem rank_c (S : Se P A) (t : Heap) (l : List Twig) (hl : t.flat = l) (hb : l.length ≤ 4294967296) : Is1 P 281 [.ro (A.enc cTwig l)] (.int .i64 (t.rank : Int)) := by
  refine SoundM.knownH (p := fun n => 0 ≤ n ∧ n.toNat = t.rank) ?_ (fun n h => by omega)
  have hrb : ∀ t : Heap, t.rank ≤ t.size := fun t => by
    induction t with
    | nil => exact Nat.le_refl _
    | node d s a b iha ihb => simp only [Heap.rank, Heap.size]; omega
  refine S.cx.by (S.prog ▸ Tryz.func281) rfl rfl rfl rfl (fun hv ho => ?_)
  cbv
  refine ALoop.goF (ι := List Twig × Int) (fun i => [(0, .ro (A.enc cTwig i.1)), (3, .int .i64 i.2)]) [1] [] (fun i => []) (fun i => 0 ≤ i.2 ∧ i.1.length ≤ 4294967296 ∧ i.2 ≤ 4294967296 ∧ ∃ u : Heap, u.flat = i.1 ∧ i.2.toNat + u.rank = t.rank ∧ i.2.toNat + u.size ≤ t.size) (fun i => i.1.length) (l, 0) S.cx.tab S.cx.mix S.eq ?_ ?_ ?_
  · exact ⟨Int.le_refl _, hb, by dsimp only; omega, t, hl, by simp, by simp⟩
  · (cbv; refine Less.to [] rfl rfl ?_ ?_ <;> repeat' (first | exact trivial | exact ⟨rfl, rfl⟩ | exact ⟨_, rfl, Nat.zero_le _, rfl⟩ | apply And.intro | exact rfl))
  rintro ⟨m, n⟩ ⟨h0, hmb, hn4, hu⟩
  dsimp only at h0 hmb hn4 hu
  obtain ⟨u, hu, hr, hsz⟩ := hu
  have htl : t.size ≤ 4294967296 := by rw [← Heap.flat_len, hl]; exact hb
  refine Rnd.mk ?_; cbv
  refine LenR.nat S.cx (fun N hN hm => ?_); cbv
  refine Test.gtr (fun h => ?_) (fun h => ?_) <;> cbv
  · obtain ⟨x, r, hm2⟩ : ∃ x r, m = x :: r := by
      cases m with
      | nil => simp at hN; omega
      | cons x r => exact ⟨x, r, rfl⟩
    obtain ⟨a, b, hu2, hx, ha, hb2, hle⟩ := Heap.flat_cons (hu.trans hm2)
    rw [hm2]
    refine ACall.valN (r := rPP A) (os := fun _ => []) (dp := false) S.cx (parts_c S x r (by omega) hle) ⟨rfl, (by repeat' (first | exact trivial | exact rfl | exact Nat.le_refl _ | exact S.cx.giveEq | exact S.cx.lendLe (by assumption) | exact S.cx.lendEq (by assumption) | exact S.cx.lendLe0 | exact S.cx.lendEq0 | exact S.cx.partLe (by assumption) | exact S.cx.partEq (by assumption) | exact S.cx.enc _ [] | exact .inl rfl | refine ⟨?_, ?_⟩)), (by repeat' (first | exact trivial | exact rfl | exact Nat.le_refl _ | exact S.cx.giveEq | exact S.cx.lendLe (by assumption) | exact S.cx.lendEq (by assumption) | exact S.cx.lendLe0 | exact S.cx.lendEq0 | exact S.cx.partLe (by assumption) | exact S.cx.partEq (by assumption) | exact S.cx.enc _ [] | exact .inl rfl | refine ⟨?_, ?_⟩))⟩ rfl (fun ln hln x hx => ⟨rfl, ?_⟩)
    obtain ⟨left, right⟩ := x
    cbv
    have hright : right = r.drop x.lefts.toNat := by
      have e : (⟨left, right⟩ : List Twig × List Twig) = (r.take x.lefts.toNat, r.drop x.lefts.toNat) := by assumption
      exact congrArg (·.2) e
    have hsu : u.size = 1 + a.size + b.size := by rw [hu2]; rfl
    have hru : u.rank = 1 + b.rank := by rw [hu2]; rfl
    refine Arith.go (by lia) (fun n' hn' => ?_); replace hn' : n' = n + 1 := hn'; cbv
    have hrl : right.length < m.length := by rw [hright, hm2]; simp; omega
    refine Again.on (right, n') (by show right.length < (x :: r).length; rw [← hm2]; exact hrl) ⟨by dsimp only; lia, by dsimp only; omega, by dsimp only; omega, b, by dsimp only; rw [hb2, hright], by dsimp only; omega, by dsimp only; omega⟩ ?_
    (cbv; refine Less.to [] rfl rfl ?_ ?_ <;> repeat' (first | exact trivial | exact ⟨rfl, rfl⟩ | exact ⟨_, rfl, Nat.zero_le _, rfl⟩ | apply And.intro | exact rfl))
  · have hm2 : m = [] := List.length_eq_zero_iff.1 (by omega)
    have hu0 : u = .nil := Heap.flat_nil (hu.trans hm2)
    exact Done.num ⟨h0, by rw [hu0] at hr; simpa [Heap.rank] using hr⟩

theorem isHeap_step (S : Se P A) (h : List Twig) (hb : h.length ≤ 4294967296) (ih : ∀ h' : List Twig, h'.length < h.length → Tests P 237 [.ro (A.enc cTwig h')] (Heap.Is h')) : Tests P 237 [.ro (A.enc cTwig h)] (Heap.Is h) := by
  refine S.cx.by (S.prog ▸ Tryz.func237) rfl rfl rfl rfl (fun hv ho => ?_)
  cbv
  refine LenR.nat S.cx (fun N hN hm => ?_); cbv
  refine Test.eql (fun h1 => ?_) (fun h1 => ?_) <;> cbv
  · exact Done.yes ⟨.nil, trivial, (List.length_eq_zero_iff.1 (by omega)).symm⟩
  obtain ⟨x, r, hh⟩ : ∃ x r, h = x :: r := by
    cases h with
    | nil => simp at hN; omega
    | cons x r => exact ⟨x, r, rfl⟩
  have hr : h.length = r.length + 1 := by rw [hh]; rfl
  have hx0 : h[(0 : Int).toNat]? = some x := by rw [hh]; rfl
  try (refine Drawn.mk ⟨by kernel_rfl, fun _ => ?_⟩)
  refine ElemRo.at S.cx (x := x) rfl (by decide) hx0 ?_; cbv
  refine ACall.int (dp := false) (SoundM.knownH (e := (h.length : Int)) (sizeTwig_c S h) (fun n h => by omega)) ⟨rfl, (by repeat' (first | exact trivial | exact rfl | exact Nat.le_refl _ | exact S.cx.giveEq | exact S.cx.lendLe (by assumption) | exact S.cx.lendEq (by assumption) | exact S.cx.lendLe0 | exact S.cx.lendEq0 | exact S.cx.partLe (by assumption) | exact S.cx.partEq (by assumption) | exact S.cx.enc _ [] | exact .inl rfl | refine ⟨?_, ?_⟩)), (by repeat' (first | exact trivial | exact rfl | exact Nat.le_refl _ | exact S.cx.giveEq | exact S.cx.lendLe (by assumption) | exact S.cx.lendEq (by assumption) | exact S.cx.lendLe0 | exact S.cx.lendEq0 | exact S.cx.partLe (by assumption) | exact S.cx.partEq (by assumption) | exact S.cx.enc _ [] | exact .inl rfl | refine ⟨?_, ?_⟩))⟩ rfl (fun M hM => ?_); cbv
  replace hM : 0 ≤ M ∧ M.toNat = h.length := by lia
  refine Arith.go (by lia) (fun z hz => ?_); replace hz : z = M - 1 := hz; cbv
  refine ACall.testD (dp := false) (within_c S x.lefts 0 z) ⟨rfl, (by repeat' (first | exact trivial | exact rfl | exact Nat.le_refl _ | exact S.cx.giveEq | exact S.cx.lendLe (by assumption) | exact S.cx.lendEq (by assumption) | exact S.cx.lendLe0 | exact S.cx.lendEq0 | exact S.cx.partLe (by assumption) | exact S.cx.partEq (by assumption) | exact S.cx.enc _ [] | exact .inl rfl | refine ⟨?_, ?_⟩)), (by repeat' (first | exact trivial | exact rfl | exact Nat.le_refl _ | exact S.cx.giveEq | exact S.cx.lendLe (by assumption) | exact S.cx.lendEq (by assumption) | exact S.cx.lendLe0 | exact S.cx.lendEq0 | exact S.cx.partLe (by assumption) | exact S.cx.partEq (by assumption) | exact S.cx.enc _ [] | exact .inl rfl | refine ⟨?_, ?_⟩))⟩ rfl (fun h2 => ?_) (fun h2 => ?_) <;> cbv
  rotate_left
  · exact Done.no (fun e => h2 (by rw [hh] at e; have := (Heap.is_cons.1 e).1; omega))
  have hx1 : 0 ≤ x.lefts := h2.1
  have hx2 : x.lefts.toNat ≤ r.length := by omega
  have hk : ∀ {p : Prop}, (∀ a b : Heap, a.ok → b.ok → a.flat = r.take x.lefts.toNat → b.flat = r.drop x.lefts.toNat → b.rank ≤ a.rank → Heap.above x.due x.seq a → Heap.above x.due x.seq b → p) → Heap.Is h → p := fun f e => by
    rw [hh] at e
    obtain ⟨_, a, b, g1, g2, g3, g4, g5, g6, g7⟩ := Heap.is_cons.1 e
    exact f a b g1 g2 g3 g4 g5 g6 g7
  rw [hh]
  refine ACall.valN (r := rPP A) (os := fun _ => []) (dp := false) S.cx (parts_c S x r hx1 hx2) ⟨rfl, (by repeat' (first | exact trivial | exact rfl | exact Nat.le_refl _ | exact S.cx.giveEq | exact S.cx.lendLe (by assumption) | exact S.cx.lendEq (by assumption) | exact S.cx.lendLe0 | exact S.cx.lendEq0 | exact S.cx.partLe (by assumption) | exact S.cx.partEq (by assumption) | exact S.cx.enc _ [] | exact .inl rfl | refine ⟨?_, ?_⟩)), (by repeat' (first | exact trivial | exact rfl | exact Nat.le_refl _ | exact S.cx.giveEq | exact S.cx.lendLe (by assumption) | exact S.cx.lendEq (by assumption) | exact S.cx.lendLe0 | exact S.cx.lendEq0 | exact S.cx.partLe (by assumption) | exact S.cx.partEq (by assumption) | exact S.cx.enc _ [] | exact .inl rfl | refine ⟨?_, ?_⟩))⟩ rfl (fun ln hln x hx => ⟨rfl, ?_⟩)
  obtain ⟨left, right⟩ := x
  cbv
  have hlr : (⟨left, right⟩ : List Twig × List Twig) = (r.take x.lefts.toNat, r.drop x.lefts.toNat) := by assumption
  injection hlr with hl hrr
  have hll : left.length < h.length := by rw [hl, hr]; simp; omega
  have hrl : right.length < h.length := by rw [hrr, hr]; simp; omega
  refine ACall.testD (dp := false) (ih left hll) ⟨rfl, (by repeat' (first | exact trivial | exact rfl | exact Nat.le_refl _ | exact S.cx.giveEq | exact S.cx.lendLe (by assumption) | exact S.cx.lendEq (by assumption) | exact S.cx.lendLe0 | exact S.cx.lendEq0 | exact S.cx.partLe (by assumption) | exact S.cx.partEq (by assumption) | exact S.cx.enc _ [] | exact .inl rfl | refine ⟨?_, ?_⟩)), (by repeat' (first | exact trivial | exact rfl | exact Nat.le_refl _ | exact S.cx.giveEq | exact S.cx.lendLe (by assumption) | exact S.cx.lendEq (by assumption) | exact S.cx.lendLe0 | exact S.cx.lendEq0 | exact S.cx.partLe (by assumption) | exact S.cx.partEq (by assumption) | exact S.cx.enc _ [] | exact .inl rfl | refine ⟨?_, ?_⟩))⟩ rfl (fun h3 => ?_) (fun h3 => ?_) <;> cbv
  rotate_left
  · exact Done.no (hh ▸ hk fun a b g1 g2 g3 g4 g5 g6 g7 => h3 ⟨a, g1, g3.trans hl.symm⟩)
  refine ACall.testD (dp := false) (ih right hrl) ⟨rfl, (by repeat' (first | exact trivial | exact rfl | exact Nat.le_refl _ | exact S.cx.giveEq | exact S.cx.lendLe (by assumption) | exact S.cx.lendEq (by assumption) | exact S.cx.lendLe0 | exact S.cx.lendEq0 | exact S.cx.partLe (by assumption) | exact S.cx.partEq (by assumption) | exact S.cx.enc _ [] | exact .inl rfl | refine ⟨?_, ?_⟩)), (by repeat' (first | exact trivial | exact rfl | exact Nat.le_refl _ | exact S.cx.giveEq | exact S.cx.lendLe (by assumption) | exact S.cx.lendEq (by assumption) | exact S.cx.lendLe0 | exact S.cx.lendEq0 | exact S.cx.partLe (by assumption) | exact S.cx.partEq (by assumption) | exact S.cx.enc _ [] | exact .inl rfl | refine ⟨?_, ?_⟩))⟩ rfl (fun h4 => ?_) (fun h4 => ?_) <;> cbv
  rotate_left
  · exact Done.no (hh ▸ hk fun a b g1 g2 g3 g4 g5 g6 g7 => h4 ⟨b, g2, g4.trans hrr.symm⟩)
  obtain ⟨a, ha, hal⟩ := h3
  obtain ⟨b, hbk, hbr⟩ := h4
  have hk2 : ∀ {p : Prop}, (b.rank ≤ a.rank → Heap.above x.due x.seq a → Heap.above x.due x.seq b → p) → Heap.Is h → p := fun f => hk fun a' b' g1 g2 g3 g4 g5 g6 g7 => by
    have e1 : a' = a := Heap.flat_inj (g3.trans (hl.symm.trans hal.symm))
    have e2 : b' = b := Heap.flat_inj (g4.trans (hrr.symm.trans hbr.symm))
    rw [e1] at g5 g6; rw [e2] at g5 g7
    exact f g5 g6 g7
  have hyes : b.rank ≤ a.rank → Heap.above x.due x.seq a → Heap.above x.due x.seq b → Heap.Is h := fun g1 g2 g3 => by
    rw [hh]
    exact Heap.is_cons.2 ⟨⟨hx1, hx2⟩, a, b, ha, hbk, hal.trans hl, hbr.trans hrr, g1, g2, g3⟩
  refine ACall.int (dp := false) (rank_c S a left hal (by omega)) ⟨rfl, (by repeat' (first | exact trivial | exact rfl | exact Nat.le_refl _ | exact S.cx.giveEq | exact S.cx.lendLe (by assumption) | exact S.cx.lendEq (by assumption) | exact S.cx.lendLe0 | exact S.cx.lendEq0 | exact S.cx.partLe (by assumption) | exact S.cx.partEq (by assumption) | exact S.cx.enc _ [] | exact .inl rfl | refine ⟨?_, ?_⟩)), (by repeat' (first | exact trivial | exact rfl | exact Nat.le_refl _ | exact S.cx.giveEq | exact S.cx.lendLe (by assumption) | exact S.cx.lendEq (by assumption) | exact S.cx.lendLe0 | exact S.cx.lendEq0 | exact S.cx.partLe (by assumption) | exact S.cx.partEq (by assumption) | exact S.cx.enc _ [] | exact .inl rfl | refine ⟨?_, ?_⟩))⟩ rfl (fun ra hra => ?_); cbv
  refine ACall.int (dp := false) (rank_c S b right hbr (by omega)) ⟨rfl, (by repeat' (first | exact trivial | exact rfl | exact Nat.le_refl _ | exact S.cx.giveEq | exact S.cx.lendLe (by assumption) | exact S.cx.lendEq (by assumption) | exact S.cx.lendLe0 | exact S.cx.lendEq0 | exact S.cx.partLe (by assumption) | exact S.cx.partEq (by assumption) | exact S.cx.enc _ [] | exact .inl rfl | refine ⟨?_, ?_⟩)), (by repeat' (first | exact trivial | exact rfl | exact Nat.le_refl _ | exact S.cx.giveEq | exact S.cx.lendLe (by assumption) | exact S.cx.lendEq (by assumption) | exact S.cx.lendLe0 | exact S.cx.lendEq0 | exact S.cx.partLe (by assumption) | exact S.cx.partEq (by assumption) | exact S.cx.enc _ [] | exact .inl rfl | refine ⟨?_, ?_⟩))⟩ rfl (fun rb hrb => ?_); cbv
  refine Test.lss (fun h5 => ?_) (fun h5 => ?_) <;> cbv
  · exact Done.no (hh ▸ hk2 fun g1 _ _ => by lia)
  have hrk : b.rank ≤ a.rank := by lia
  have hx3 : (x :: r)[(0 : Int).toNat]? = some x := rfl
  have habl : left = [] → Heap.above x.due x.seq a := fun e => by
    have : a = .nil := Heap.flat_nil (hal.trans e)
    rw [this]; trivial
  have habr : right = [] → Heap.above x.due x.seq b := fun e => by
    have : b = .nil := Heap.flat_nil (hbr.trans e)
    rw [this]; trivial
  have h10 : right.length ≤ 9223372036854775807 := by omega
  have hR : Heap.above x.due x.seq a → True := fun _ => trivial
  try (refine Drawn.mk ⟨by kernel_rfl, fun _ => ?_⟩)
  refine LenR.natD S.cx (by omega) (fun L hL => ?_); cbv
  refine Test.eql (fun h6 => ?_) (fun h6 => ?_) <;> cbv
  · have hA := habl (List.length_eq_zero_iff.1 (by omega))
    refine LenR.natD S.cx h10 (fun R hR => ?_); cbv
    refine Test.eql (fun h7 => ?_) (fun h7 => ?_) <;> cbv
    · exact Done.yes (hh ▸ hyes hrk hA (habr (List.length_eq_zero_iff.1 (by omega))))
    obtain ⟨z, rr, hz⟩ : ∃ z rr, right = z :: rr := by
      cases right with
      | nil => simp at hR; omega
      | cons z rr => exact ⟨z, rr, rfl⟩
    refine ElemRo.at S.cx (x := x) rfl (by decide) hx3 ?_; cbv
    refine ElemRo.at S.cx (x := z) rfl (by decide) (by rw [hz]; rfl) ?_; cbv
    refine ACall.int (dp := false) (twigCompare_c S x.due x.seq x.lefts z.due z.seq z.lefts) ⟨rfl, (by repeat' (first | exact trivial | exact rfl | exact Nat.le_refl _ | exact S.cx.giveEq | exact S.cx.lendLe (by assumption) | exact S.cx.lendEq (by assumption) | exact S.cx.lendLe0 | exact S.cx.lendEq0 | exact S.cx.partLe (by assumption) | exact S.cx.partEq (by assumption) | exact S.cx.enc _ [] | exact .inl rfl | refine ⟨?_, ?_⟩)), (by repeat' (first | exact trivial | exact rfl | exact Nat.le_refl _ | exact S.cx.giveEq | exact S.cx.lendLe (by assumption) | exact S.cx.lendEq (by assumption) | exact S.cx.lendLe0 | exact S.cx.lendEq0 | exact S.cx.partLe (by assumption) | exact S.cx.partEq (by assumption) | exact S.cx.enc _ [] | exact .inl rfl | refine ⟨?_, ?_⟩))⟩ rfl (fun c hc => ?_); cbv
    have hci := cmpT_neg x z
    rw [show cmpT x z = c from hc.symm] at hci
    refine Test.lss (fun h8 => ?_) (fun h8 => ?_) <;> cbv
    · exact Done.yes (hh ▸ hyes hrk hA ((Heap.above_cons (hbr.trans hz)).2 (hci.1 h8)))
    · exact Done.no (hh ▸ hk2 fun _ _ g3 => by have := hci.2 ((Heap.above_cons (hbr.trans hz)).1 g3); omega)
  obtain ⟨y, ll, hy⟩ : ∃ y ll, left = y :: ll := by
    cases left with
    | nil => simp at hL; omega
    | cons y ll => exact ⟨y, ll, rfl⟩
  refine ElemRo.at S.cx (x := x) rfl (by decide) hx3 ?_; cbv
  refine ElemRo.at S.cx (x := y) rfl (by decide) (by rw [hy]; rfl) ?_; cbv
  refine ACall.int (dp := false) (twigCompare_c S x.due x.seq x.lefts y.due y.seq y.lefts) ⟨rfl, (by repeat' (first | exact trivial | exact rfl | exact Nat.le_refl _ | exact S.cx.giveEq | exact S.cx.lendLe (by assumption) | exact S.cx.lendEq (by assumption) | exact S.cx.lendLe0 | exact S.cx.lendEq0 | exact S.cx.partLe (by assumption) | exact S.cx.partEq (by assumption) | exact S.cx.enc _ [] | exact .inl rfl | refine ⟨?_, ?_⟩)), (by repeat' (first | exact trivial | exact rfl | exact Nat.le_refl _ | exact S.cx.giveEq | exact S.cx.lendLe (by assumption) | exact S.cx.lendEq (by assumption) | exact S.cx.lendLe0 | exact S.cx.lendEq0 | exact S.cx.partLe (by assumption) | exact S.cx.partEq (by assumption) | exact S.cx.enc _ [] | exact .inl rfl | refine ⟨?_, ?_⟩))⟩ rfl (fun c hc => ?_); cbv
  have hci := cmpT_neg x y
  rw [show cmpT x y = c from hc.symm] at hci
  refine Test.lss (fun h8 => ?_) (fun h8 => ?_) <;> cbv
  rotate_left
  · exact Done.no (hh ▸ hk2 fun _ g2 _ => by have := hci.2 ((Heap.above_cons (hal.trans hy)).1 g2); omega)
  have hA := (Heap.above_cons (hal.trans hy)).2 (hci.1 h8)
  refine LenR.natD S.cx h10 (fun R hR => ?_); cbv
  refine Test.eql (fun h7 => ?_) (fun h7 => ?_) <;> cbv
  · exact Done.yes (hh ▸ hyes hrk hA (habr (List.length_eq_zero_iff.1 (by omega))))
  obtain ⟨z, rr, hz⟩ : ∃ z rr, right = z :: rr := by
    cases right with
    | nil => simp at hR; omega
    | cons z rr => exact ⟨z, rr, rfl⟩
  refine ElemRo.at S.cx (x := x) rfl (by decide) hx3 ?_; cbv
  refine ElemRo.at S.cx (x := z) rfl (by decide) (by rw [hz]; rfl) ?_; cbv
  refine ACall.int (dp := false) (twigCompare_c S x.due x.seq x.lefts z.due z.seq z.lefts) ⟨rfl, (by repeat' (first | exact trivial | exact rfl | exact Nat.le_refl _ | exact S.cx.giveEq | exact S.cx.lendLe (by assumption) | exact S.cx.lendEq (by assumption) | exact S.cx.lendLe0 | exact S.cx.lendEq0 | exact S.cx.partLe (by assumption) | exact S.cx.partEq (by assumption) | exact S.cx.enc _ [] | exact .inl rfl | refine ⟨?_, ?_⟩)), (by repeat' (first | exact trivial | exact rfl | exact Nat.le_refl _ | exact S.cx.giveEq | exact S.cx.lendLe (by assumption) | exact S.cx.lendEq (by assumption) | exact S.cx.lendLe0 | exact S.cx.lendEq0 | exact S.cx.partLe (by assumption) | exact S.cx.partEq (by assumption) | exact S.cx.enc _ [] | exact .inl rfl | refine ⟨?_, ?_⟩))⟩ rfl (fun c2 hc2 => ?_); cbv
  have hci2 := cmpT_neg x z
  rw [show cmpT x z = c2 from hc2.symm] at hci2
  refine Test.lss (fun h9 => ?_) (fun h9 => ?_) <;> cbv
  · exact Done.yes (hh ▸ hyes hrk hA ((Heap.above_cons (hbr.trans hz)).2 (hci2.1 h9)))
  · exact Done.no (hh ▸ hk2 fun _ _ g3 => by have := hci2.2 ((Heap.above_cons (hbr.trans hz)).1 g3); omega)

theorem isHeap_c (S : Se P A) (h : List Twig) (hb : h.length ≤ 4294967296) : Tests P 237 [.ro (A.enc cTwig h)] (Heap.Is h) := by
  obtain ⟨n, hn⟩ : ∃ n, h.length = n := ⟨_, rfl⟩
  induction n using Nat.strongRecOn generalizing h with
  | _ n ih => exact isHeap_step S h hb fun h' hl => ih h'.length (by omega) h' (by omega) rfl

end Go.Proofs.YtgooambndfkgkaaGreat.AM
