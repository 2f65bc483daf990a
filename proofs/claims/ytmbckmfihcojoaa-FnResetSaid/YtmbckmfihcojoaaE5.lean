/- Contracts: heaps joined and merged. (printed by ge5.py) -/
import Derived.Test.YtmbckmfihcojoaaE4
namespace Go.Proofs.Ytmbckmfihcojoaa.AM
open Go Go.Proofs

set_option maxRecDepth 100000
set_option maxHeartbeats 4000000
set_option linter.unusedVariables false
set_option linter.unusedSimpArgs false

variable {P : Program} {A : Sy}

theorem joinR {d s n : Int} {a b : Heap} {la lb l : List Twig} (hb : b.flat = lb) (ha : a.flat = la) (h : a.rank < b.rank) (hn : 0 ≤ n ∧ n.toNat = lb.length) (hx : l = [⟨d, s, n⟩] ++ lb ++ la) : (Heap.join d s a b).flat = l := by
  rw [Heap.join, if_pos h, Heap.flat, hx, ← ha, ← hb]
  have := Heap.flat_len b
  rw [hb] at this
  have e : (b.size : Int) = n := by omega
  rw [e]; rfl

theorem joinL {d s n : Int} {a b : Heap} {la lb l : List Twig} (ha : a.flat = la) (hb : b.flat = lb) (h : ¬ a.rank < b.rank) (hn : 0 ≤ n ∧ n.toNat = la.length) (hx : l = [⟨d, s, n⟩] ++ la ++ lb) : (Heap.join d s a b).flat = l := by
  rw [Heap.join, if_neg h, Heap.flat, hx, ← ha, ← hb]
  have := Heap.flat_len a
  rw [ha] at this
  have e : (a.size : Int) = n := by omega
  rw [e]; rfl

theorem joined_c (S : Se P A) (d s l0 : Int) (a b : Heap) (la lb : List Twig) (ha : a.flat = la) (hb : b.flat = lb) (hal : la.length ≤ 1073741824) (hbl : lb.length ≤ 1073741824) : Is1 P 200 [.agg (cTwig ⟨d, s, l0⟩), .ro (A.enc cTwig la), .ro (A.enc cTwig lb)] (rTwig A (Heap.join d s a b).flat) := by
  refine S.cx.by (S.prog ▸ Try.func200) rfl rfl rfl rfl (fun hv ho => ?_)
  cbv
  refine ACall.int (dp := false) (rank_c S a la ha (by omega)) ⟨rfl, (by repeat' (first | exact trivial | exact rfl | exact Nat.le_refl _ | exact S.cx.giveEq | exact S.cx.lendLe (by assumption) | exact S.cx.lendEq (by assumption) | exact S.cx.lendLe0 | exact S.cx.lendEq0 | exact S.cx.partLe (by assumption) | exact S.cx.partEq (by assumption) | exact .inl rfl | refine ⟨?_, ?_⟩)), (by repeat' (first | exact trivial | exact rfl | exact Nat.le_refl _ | exact S.cx.giveEq | exact S.cx.lendLe (by assumption) | exact S.cx.lendEq (by assumption) | exact S.cx.lendLe0 | exact S.cx.lendEq0 | exact S.cx.partLe (by assumption) | exact S.cx.partEq (by assumption) | exact .inl rfl | refine ⟨?_, ?_⟩))⟩ rfl (fun x hx => ?_); cbv
  refine ACall.int (dp := false) (rank_c S b lb hb (by omega)) ⟨rfl, (by repeat' (first | exact trivial | exact rfl | exact Nat.le_refl _ | exact S.cx.giveEq | exact S.cx.lendLe (by assumption) | exact S.cx.lendEq (by assumption) | exact S.cx.lendLe0 | exact S.cx.lendEq0 | exact S.cx.partLe (by assumption) | exact S.cx.partEq (by assumption) | exact .inl rfl | refine ⟨?_, ?_⟩)), (by repeat' (first | exact trivial | exact rfl | exact Nat.le_refl _ | exact S.cx.giveEq | exact S.cx.lendLe (by assumption) | exact S.cx.lendEq (by assumption) | exact S.cx.lendLe0 | exact S.cx.lendEq0 | exact S.cx.partLe (by assumption) | exact S.cx.partEq (by assumption) | exact .inl rfl | refine ⟨?_, ?_⟩))⟩ rfl (fun y hy => ?_); cbv
  refine Test.lss (fun h => ?_) (fun h => ?_) <;> cbv
  · refine ACall.num (dp := false) (sizeTwig_c S lb) ⟨rfl, (by repeat' (first | exact trivial | exact rfl | exact Nat.le_refl _ | exact S.cx.giveEq | exact S.cx.lendLe (by assumption) | exact S.cx.lendEq (by assumption) | exact S.cx.lendLe0 | exact S.cx.lendEq0 | exact S.cx.partLe (by assumption) | exact S.cx.partEq (by assumption) | exact .inl rfl | refine ⟨?_, ?_⟩)), (by repeat' (first | exact trivial | exact rfl | exact Nat.le_refl _ | exact S.cx.giveEq | exact S.cx.lendLe (by assumption) | exact S.cx.lendEq (by assumption) | exact S.cx.lendLe0 | exact S.cx.lendEq0 | exact S.cx.partLe (by assumption) | exact S.cx.partEq (by assumption) | exact .inl rfl | refine ⟨?_, ?_⟩))⟩ (fun n hn => ?_); cbv
    refine ACall.valN (r := rTwig A) (os := fun _ => []) (dp := true) S.cx (concatTwig_c S [⟨d, s, n⟩] lb la (by simp) (by omega) (by omega)) ⟨rfl, ?_, ?_⟩ rfl (fun ln hln l hx => ⟨rfl, ?_⟩)
    · refine ⟨⟨rfl, ⟨Nat.le_refl _, .inr ⟨rfl, ⟨⟨rfl, Nat.le_refl _, ?_⟩, trivial⟩, ⟨rfl, trivial⟩, ⟨rfl, trivial⟩, trivial⟩⟩⟩, trivial⟩
      rw [S.cx.enc]; rfl
    · repeat' (first | exact trivial | exact rfl | exact Nat.le_refl _ | exact S.cx.giveEq | exact S.cx.lendLe (by assumption) | exact S.cx.lendEq (by assumption) | exact S.cx.lendLe0 | exact S.cx.lendEq0 | exact S.cx.partLe (by assumption) | exact S.cx.partEq (by assumption) | exact .inl rfl | refine ⟨?_, ?_⟩)
    cbv
    have hN := hln cTwig l
    generalize ln (A.enc cTwig l) = N at hN ⊢
    exact Done.is (r := rTwig A) (x := l) (by repeat' (first | exact trivial | exact rfl | exact resOwn S.cx rfl (by assumption) | exact resOwn S.cx rfl (S.cx.lenE _ _) | exact resOwn1 S.cx rfl (by assumption) | exact resOwnT S.cx rfl (by assumption) | exact S.cx.enc _ [] | refine ⟨?_, ?_⟩)) rfl (joinR hb ha (by lia) ⟨hn.1, hn.2⟩ hx)

  · refine ACall.num (dp := false) (sizeTwig_c S la) ⟨rfl, (by repeat' (first | exact trivial | exact rfl | exact Nat.le_refl _ | exact S.cx.giveEq | exact S.cx.lendLe (by assumption) | exact S.cx.lendEq (by assumption) | exact S.cx.lendLe0 | exact S.cx.lendEq0 | exact S.cx.partLe (by assumption) | exact S.cx.partEq (by assumption) | exact .inl rfl | refine ⟨?_, ?_⟩)), (by repeat' (first | exact trivial | exact rfl | exact Nat.le_refl _ | exact S.cx.giveEq | exact S.cx.lendLe (by assumption) | exact S.cx.lendEq (by assumption) | exact S.cx.lendLe0 | exact S.cx.lendEq0 | exact S.cx.partLe (by assumption) | exact S.cx.partEq (by assumption) | exact .inl rfl | refine ⟨?_, ?_⟩))⟩ (fun n hn => ?_); cbv
    refine ACall.valN (r := rTwig A) (os := fun _ => []) (dp := true) S.cx (concatTwig_c S [⟨d, s, n⟩] la lb (by simp) (by omega) (by omega)) ⟨rfl, ?_, ?_⟩ rfl (fun ln hln l hx => ⟨rfl, ?_⟩)
    · refine ⟨⟨rfl, ⟨Nat.le_refl _, .inr ⟨rfl, ⟨⟨rfl, Nat.le_refl _, ?_⟩, trivial⟩, ⟨rfl, trivial⟩, ⟨rfl, trivial⟩, trivial⟩⟩⟩, trivial⟩
      rw [S.cx.enc]; rfl
    · repeat' (first | exact trivial | exact rfl | exact Nat.le_refl _ | exact S.cx.giveEq | exact S.cx.lendLe (by assumption) | exact S.cx.lendEq (by assumption) | exact S.cx.lendLe0 | exact S.cx.lendEq0 | exact S.cx.partLe (by assumption) | exact S.cx.partEq (by assumption) | exact .inl rfl | refine ⟨?_, ?_⟩)
    cbv
    have hN := hln cTwig l
    generalize ln (A.enc cTwig l) = N at hN ⊢
    exact Done.is (r := rTwig A) (x := l) (by repeat' (first | exact trivial | exact rfl | exact resOwn S.cx rfl (by assumption) | exact resOwn S.cx rfl (S.cx.lenE _ _) | exact resOwn1 S.cx rfl (by assumption) | exact resOwnT S.cx rfl (by assumption) | exact S.cx.enc _ [] | refine ⟨?_, ?_⟩)) rfl (joinL ha hb (by lia) ⟨hn.1, hn.2⟩ hx)


theorem partsE_c (S : Se P A) {l : List Twig} {x : Twig} {r : List Twig} (hl : l = x :: r) (h0 : 0 ≤ x.lefts) (h1 : x.lefts.toNat ≤ r.length) : SoundM P 199 true [.ro (A.enc cTwig l)] []
    (fun v os => v = rPP A (r.take x.lefts.toNat, r.drop x.lefts.toNat) ∧ os = []) := by
  rw [hl]; exact parts_c S x r h0 h1

theorem merge_step (S : Se P A) (a b : Heap) (la lb : List Twig) (ha : a.flat = la) (hb : b.flat = lb) (hal : la.length + lb.length ≤ 1073741824)
    (ih : ∀ (a' b' : Heap) (la' lb' : List Twig), a'.flat = la' → b'.flat = lb' → la'.length + lb'.length ≤ 1073741824 → a'.size + b'.size < a.size + b.size → Is1 P 198 [.ro (A.enc cTwig la'), .ro (A.enc cTwig lb')] (rTwig A (Heap.merge a' b').flat)) : Is1 P 198 [.ro (A.enc cTwig la), .ro (A.enc cTwig lb)] (rTwig A (Heap.merge a b).flat) := by
  refine S.cx.by (S.prog ▸ Try.func198) rfl rfl rfl rfl (fun hv ho => ?_)
  cbv
  refine LenR.nat S.cx (fun N hN hm => ?_); cbv
  refine Test.eql (fun h1 => ?_) (fun h1 => ?_) <;> cbv
  · have e : a = .nil := Heap.flat_nil (ha.trans (List.length_eq_zero_iff.1 (by omega)))
    refine ACall.valN (r := rTwig A) (os := fun _ => []) (dp := false) S.cx (cloneTwig_c S lb (by omega)) ⟨rfl, (by repeat' (first | exact trivial | exact rfl | exact Nat.le_refl _ | exact S.cx.giveEq | exact S.cx.lendLe (by assumption) | exact S.cx.lendEq (by assumption) | exact S.cx.lendLe0 | exact S.cx.lendEq0 | exact S.cx.partLe (by assumption) | exact S.cx.partEq (by assumption) | exact .inl rfl | refine ⟨?_, ?_⟩)), (by repeat' (first | exact trivial | exact rfl | exact Nat.le_refl _ | exact S.cx.giveEq | exact S.cx.lendLe (by assumption) | exact S.cx.lendEq (by assumption) | exact S.cx.lendLe0 | exact S.cx.lendEq0 | exact S.cx.partLe (by assumption) | exact S.cx.partEq (by assumption) | exact .inl rfl | refine ⟨?_, ?_⟩))⟩ rfl (fun ln hln l hx => ⟨rfl, ?_⟩)
    cbv
    have hM := hln cTwig l
    generalize ln (A.enc cTwig l) = M at hM ⊢
    exact Done.is (r := rTwig A) (x := l) (by repeat' (first | exact trivial | exact rfl | exact resOwn S.cx rfl (by assumption) | exact resOwn S.cx rfl (S.cx.lenE _ _) | exact resOwn1 S.cx rfl (by assumption) | exact resOwnT S.cx rfl (by assumption) | exact S.cx.enc _ [] | refine ⟨?_, ?_⟩)) rfl (by rw [e, Heap.merge, hx, hb])
  refine LenR.nat S.cx (fun M hM hm2 => ?_); cbv
  refine Test.eql (fun h2 => ?_) (fun h2 => ?_) <;> cbv
  · have e : b = .nil := Heap.flat_nil (hb.trans (List.length_eq_zero_iff.1 (by omega)))
    refine ACall.valN (r := rTwig A) (os := fun _ => []) (dp := false) S.cx (cloneTwig_c S la (by omega)) ⟨rfl, (by repeat' (first | exact trivial | exact rfl | exact Nat.le_refl _ | exact S.cx.giveEq | exact S.cx.lendLe (by assumption) | exact S.cx.lendEq (by assumption) | exact S.cx.lendLe0 | exact S.cx.lendEq0 | exact S.cx.partLe (by assumption) | exact S.cx.partEq (by assumption) | exact .inl rfl | refine ⟨?_, ?_⟩)), (by repeat' (first | exact trivial | exact rfl | exact Nat.le_refl _ | exact S.cx.giveEq | exact S.cx.lendLe (by assumption) | exact S.cx.lendEq (by assumption) | exact S.cx.lendLe0 | exact S.cx.lendEq0 | exact S.cx.partLe (by assumption) | exact S.cx.partEq (by assumption) | exact .inl rfl | refine ⟨?_, ?_⟩))⟩ rfl (fun ln hln l hx => ⟨rfl, ?_⟩)
    cbv
    have hK := hln cTwig l
    generalize ln (A.enc cTwig l) = K at hK ⊢
    exact Done.is (r := rTwig A) (x := l) (by repeat' (first | exact trivial | exact rfl | exact resOwn S.cx rfl (by assumption) | exact resOwn S.cx rfl (S.cx.lenE _ _) | exact resOwn1 S.cx rfl (by assumption) | exact resOwnT S.cx rfl (by assumption) | exact S.cx.enc _ [] | refine ⟨?_, ?_⟩)) rfl (by rw [e, hx, ← ha]; cases a <;> rw [Heap.merge])
  obtain ⟨x, r, hxr⟩ : ∃ x r, la = x :: r := by
    cases la with
    | nil => simp at hN; omega
    | cons x r => exact ⟨x, r, rfl⟩
  obtain ⟨y, q, hyq⟩ : ∃ y q, lb = y :: q := by
    cases lb with
    | nil => simp at hM; omega
    | cons y q => exact ⟨y, q, rfl⟩
  obtain ⟨al, ar, hae, hal1, hal2, hal3, hal4⟩ := Heap.flat_cons (ha.trans hxr)
  obtain ⟨bl, br, hbe, hbl1, hbl2, hbl3, hbl4⟩ := Heap.flat_cons (hb.trans hyq)
  have hra : la.length = r.length + 1 := by rw [hxr]; rfl
  have hrb : lb.length = q.length + 1 := by rw [hyq]; rfl
  have hx0 : la[(0 : Int).toNat]? = some x := by rw [hxr]; rfl
  have hy0 : lb[(0 : Int).toNat]? = some y := by rw [hyq]; rfl
  try (refine Drawn.mk ⟨by kernel_rfl, fun _ => ?_⟩)
  refine ElemRo.at S.cx (x := y) rfl (by decide) hy0 ?_; cbv
  refine ElemRo.at S.cx (x := x) rfl (by decide) hx0 ?_; cbv
  refine ACall.int (dp := false) (twigCompare_c S y.due y.seq y.lefts x.due x.seq x.lefts) ⟨rfl, (by repeat' (first | exact trivial | exact rfl | exact Nat.le_refl _ | exact S.cx.giveEq | exact S.cx.lendLe (by assumption) | exact S.cx.lendEq (by assumption) | exact S.cx.lendLe0 | exact S.cx.lendEq0 | exact S.cx.partLe (by assumption) | exact S.cx.partEq (by assumption) | exact .inl rfl | refine ⟨?_, ?_⟩)), (by repeat' (first | exact trivial | exact rfl | exact Nat.le_refl _ | exact S.cx.giveEq | exact S.cx.lendLe (by assumption) | exact S.cx.lendEq (by assumption) | exact S.cx.lendLe0 | exact S.cx.lendEq0 | exact S.cx.partLe (by assumption) | exact S.cx.partEq (by assumption) | exact .inl rfl | refine ⟨?_, ?_⟩))⟩ rfl (fun c hc => ?_); cbv
  have hci := cmpT_neg y x
  rw [show cmpT y x = c from hc.symm] at hci
  refine Test.lss (fun h3 => ?_) (fun h3 => ?_) <;> cbv
  · have h4 := hci.1 h3
    refine ACall.valN (r := rPP A) (os := fun _ => []) (dp := false) S.cx (partsE_c S hyq (by lia) hbl4) ⟨rfl, (by repeat' (first | exact trivial | exact rfl | exact Nat.le_refl _ | exact S.cx.giveEq | exact S.cx.lendLe (by assumption) | exact S.cx.lendEq (by assumption) | exact S.cx.lendLe0 | exact S.cx.lendEq0 | exact S.cx.partLe (by assumption) | exact S.cx.partEq (by assumption) | exact .inl rfl | refine ⟨?_, ?_⟩)), (by repeat' (first | exact trivial | exact rfl | exact Nat.le_refl _ | exact S.cx.giveEq | exact S.cx.lendLe (by assumption) | exact S.cx.lendEq (by assumption) | exact S.cx.lendLe0 | exact S.cx.lendEq0 | exact S.cx.partLe (by assumption) | exact S.cx.partEq (by assumption) | exact .inl rfl | refine ⟨?_, ?_⟩))⟩ rfl (fun ln hln x' hx => ⟨rfl, ?_⟩)
    obtain ⟨ll, lr⟩ := x'
    simp only [Prod.mk.injEq] at hx
    obtain ⟨hl1, hl2⟩ := hx
    cbv
    try (refine Drawn.mk ⟨by kernel_rfl, fun _ => ?_⟩)
    refine ElemRo.at S.cx (x := y) rfl (by decide) hy0 ?_; cbv
    have hlr : lr.length ≤ q.length := by rw [hl2]; simp
    have hll : ll.length ≤ q.length := by rw [hl1]; simp; omega
    have hsz : br.size + a.size < a.size + b.size := by rw [hbe, Heap.size]; omega
    refine ACall.valN (r := rTwig A) (os := fun _ => []) (dp := false) S.cx (ih br a lr la (hbl3.trans hl2.symm) ha (by omega) hsz) ⟨rfl, (by repeat' (first | exact trivial | exact rfl | exact Nat.le_refl _ | exact S.cx.giveEq | exact S.cx.lendLe (by assumption) | exact S.cx.lendEq (by assumption) | exact S.cx.lendLe0 | exact S.cx.lendEq0 | exact S.cx.partLe (by assumption) | exact S.cx.partEq (by assumption) | exact .inl rfl | refine ⟨?_, ?_⟩)), (by repeat' (first | exact trivial | exact rfl | exact Nat.le_refl _ | exact S.cx.giveEq | exact S.cx.lendLe (by assumption) | exact S.cx.lendEq (by assumption) | exact S.cx.lendLe0 | exact S.cx.lendEq0 | exact S.cx.partLe (by assumption) | exact S.cx.partEq (by assumption) | exact .inl rfl | refine ⟨?_, ?_⟩))⟩ rfl (fun ln hln l1 hx => ⟨rfl, ?_⟩)
    cbv
    have hM1 := hln cTwig l1
    generalize ln (A.enc cTwig l1) = M1 at hM1 ⊢
    have hl1b : l1.length ≤ 1073741824 := by
      rw [hx, Heap.flat_len, Heap.merge_size, ← Heap.flat_len br, ← Heap.flat_len a, hbl3, ha, ← hl2]; omega
    refine ACall.valN (r := rTwig A) (os := fun _ => []) (dp := false) S.cx (joined_c S y.due y.seq y.lefts bl (Heap.merge br a) ll l1 (hbl2.trans hl1.symm) hx.symm (by omega) hl1b) ⟨rfl, (by repeat' (first | exact trivial | exact rfl | exact Nat.le_refl _ | exact S.cx.giveEq | exact S.cx.lendLe (by assumption) | exact S.cx.lendEq (by assumption) | exact S.cx.lendLe0 | exact S.cx.lendEq0 | exact S.cx.partLe (by assumption) | exact S.cx.partEq (by assumption) | exact .inl rfl | refine ⟨?_, ?_⟩)), (by repeat' (first | exact trivial | exact rfl | exact Nat.le_refl _ | exact S.cx.giveEq | exact S.cx.lendLe (by assumption) | exact S.cx.lendEq (by assumption) | exact S.cx.lendLe0 | exact S.cx.lendEq0 | exact S.cx.partLe (by assumption) | exact S.cx.partEq (by assumption) | exact .inl rfl | refine ⟨?_, ?_⟩))⟩ rfl (fun ln hln l2 hx => ⟨rfl, ?_⟩)
    cbv
    have hM2 := hln cTwig l2
    generalize ln (A.enc cTwig l2) = M2 at hM2 ⊢
    exact Done.is (r := rTwig A) (x := l2) (by repeat' (first | exact trivial | exact rfl | exact resOwn S.cx rfl (by assumption) | exact resOwn S.cx rfl (S.cx.lenE _ _) | exact resOwn1 S.cx rfl (by assumption) | exact resOwnT S.cx rfl (by assumption) | exact S.cx.enc _ [] | refine ⟨?_, ?_⟩)) rfl (by rw [hx, hae, hbe, Heap.merge, if_pos h4])
  · have h4 : ¬ (y.due < x.due ∨ y.due = x.due ∧ y.seq < x.seq) := fun e => by have := hci.2 e; omega
    refine ACall.valN (r := rPP A) (os := fun _ => []) (dp := false) S.cx (partsE_c S hxr (by lia) hal4) ⟨rfl, (by repeat' (first | exact trivial | exact rfl | exact Nat.le_refl _ | exact S.cx.giveEq | exact S.cx.lendLe (by assumption) | exact S.cx.lendEq (by assumption) | exact S.cx.lendLe0 | exact S.cx.lendEq0 | exact S.cx.partLe (by assumption) | exact S.cx.partEq (by assumption) | exact .inl rfl | refine ⟨?_, ?_⟩)), (by repeat' (first | exact trivial | exact rfl | exact Nat.le_refl _ | exact S.cx.giveEq | exact S.cx.lendLe (by assumption) | exact S.cx.lendEq (by assumption) | exact S.cx.lendLe0 | exact S.cx.lendEq0 | exact S.cx.partLe (by assumption) | exact S.cx.partEq (by assumption) | exact .inl rfl | refine ⟨?_, ?_⟩))⟩ rfl (fun ln hln x' hx => ⟨rfl, ?_⟩)
    obtain ⟨ll, lr⟩ := x'
    simp only [Prod.mk.injEq] at hx
    obtain ⟨hl1, hl2⟩ := hx
    cbv
    try (refine Drawn.mk ⟨by kernel_rfl, fun _ => ?_⟩)
    refine ElemRo.at S.cx (x := x) rfl (by decide) hx0 ?_; cbv
    have hlr : lr.length ≤ r.length := by rw [hl2]; simp
    have hll : ll.length ≤ r.length := by rw [hl1]; simp; omega
    have hsz : ar.size + b.size < a.size + b.size := by rw [hae, Heap.size]; omega
    refine ACall.valN (r := rTwig A) (os := fun _ => []) (dp := false) S.cx (ih ar b lr lb (hal3.trans hl2.symm) hb (by omega) hsz) ⟨rfl, (by repeat' (first | exact trivial | exact rfl | exact Nat.le_refl _ | exact S.cx.giveEq | exact S.cx.lendLe (by assumption) | exact S.cx.lendEq (by assumption) | exact S.cx.lendLe0 | exact S.cx.lendEq0 | exact S.cx.partLe (by assumption) | exact S.cx.partEq (by assumption) | exact .inl rfl | refine ⟨?_, ?_⟩)), (by repeat' (first | exact trivial | exact rfl | exact Nat.le_refl _ | exact S.cx.giveEq | exact S.cx.lendLe (by assumption) | exact S.cx.lendEq (by assumption) | exact S.cx.lendLe0 | exact S.cx.lendEq0 | exact S.cx.partLe (by assumption) | exact S.cx.partEq (by assumption) | exact .inl rfl | refine ⟨?_, ?_⟩))⟩ rfl (fun ln hln l1 hx => ⟨rfl, ?_⟩)
    cbv
    have hM1 := hln cTwig l1
    generalize ln (A.enc cTwig l1) = M1 at hM1 ⊢
    have hl1b : l1.length ≤ 1073741824 := by
      rw [hx, Heap.flat_len, Heap.merge_size, ← Heap.flat_len ar, ← Heap.flat_len b, hal3, hb, ← hl2]; omega
    refine ACall.valN (r := rTwig A) (os := fun _ => []) (dp := false) S.cx (joined_c S x.due x.seq x.lefts al (Heap.merge ar b) ll l1 (hal2.trans hl1.symm) hx.symm (by omega) hl1b) ⟨rfl, (by repeat' (first | exact trivial | exact rfl | exact Nat.le_refl _ | exact S.cx.giveEq | exact S.cx.lendLe (by assumption) | exact S.cx.lendEq (by assumption) | exact S.cx.lendLe0 | exact S.cx.lendEq0 | exact S.cx.partLe (by assumption) | exact S.cx.partEq (by assumption) | exact .inl rfl | refine ⟨?_, ?_⟩)), (by repeat' (first | exact trivial | exact rfl | exact Nat.le_refl _ | exact S.cx.giveEq | exact S.cx.lendLe (by assumption) | exact S.cx.lendEq (by assumption) | exact S.cx.lendLe0 | exact S.cx.lendEq0 | exact S.cx.partLe (by assumption) | exact S.cx.partEq (by assumption) | exact .inl rfl | refine ⟨?_, ?_⟩))⟩ rfl (fun ln hln l2 hx => ⟨rfl, ?_⟩)
    cbv
    have hM2 := hln cTwig l2
    generalize ln (A.enc cTwig l2) = M2 at hM2 ⊢
    exact Done.is (r := rTwig A) (x := l2) (by repeat' (first | exact trivial | exact rfl | exact resOwn S.cx rfl (by assumption) | exact resOwn S.cx rfl (S.cx.lenE _ _) | exact resOwn1 S.cx rfl (by assumption) | exact resOwnT S.cx rfl (by assumption) | exact S.cx.enc _ [] | refine ⟨?_, ?_⟩)) rfl (by rw [hx, hae, hbe, Heap.merge, if_neg h4])

theorem merge_c (S : Se P A) (a b : Heap) (la lb : List Twig) (ha : a.flat = la) (hb : b.flat = lb) (hal : la.length + lb.length ≤ 1073741824) : Is1 P 198 [.ro (A.enc cTwig la), .ro (A.enc cTwig lb)] (rTwig A (Heap.merge a b).flat) := by
  obtain ⟨n, hn⟩ : ∃ n, a.size + b.size = n := ⟨_, rfl⟩
  induction n using Nat.strongRecOn generalizing a b la lb with
  | _ n ih => exact merge_step S a b la lb ha hb hal fun a' b' la' lb' h1 h2 h3 h4 => ih (a'.size + b'.size) (by omega) a' b' la' lb' h1 h2 h3 rfl

end Go.Proofs.Ytmbckmfihcojoaa.AM
