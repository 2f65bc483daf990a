/- Contracts: the union of two heaps in the spec. (printed by ge17.py) -/
import Derived.Test.YtihfpbhalnedcaaGreatE15
import Derived.Test.YtihfpbhalnedcaaGreatE16
set_option linter.unusedVariables false
set_option linter.unusedSimpArgs false
namespace Go.Proofs.YtihfpbhalnedcaaGreat.AM
open Go Go.Proofs

set_option maxRecDepth 100000
set_option maxHeartbeats 4000000

variable {P : Program} {A : Sy}

theorem l3Merge_step (S : Se P A) (a b : Heap) (la lb : List Twig) (ha : a.flat = la) (hb : b.flat = lb) (hao : a.ok) (hbo : b.ok) (hap : Heap.apart a b) (hal : la.length + lb.length <= 1073741824)
    (ih : ∀ (a' b' : Heap) (la' lb' : List Twig), a'.flat = la' -> b'.flat = lb' -> a'.ok -> b'.ok -> Heap.apart a' b' -> la'.length + lb'.length <= 1073741824 -> a'.size + b'.size < a.size + b.size -> Is1 P 336 [.ro (A.enc cTwig la'), .ro (A.enc cTwig lb')] (rTwig A (Heap.merge a' b').flat)) : Is1 P 336 [.ro (A.enc cTwig la), .ro (A.enc cTwig lb)] (rTwig A (Heap.merge a b).flat) := by
  refine S.cx.byC [8, 9] (S.prog ▸ Tryz.func336) rfl rfl rfl rfl (fun ln hln hv ho => ?_)
  cbv
  refine LenR.nat S.cx (fun N hN hm => ?_); cbv
  refine Test.eql (fun h1 => ?_) (fun h1 => ?_) <;> cbv
  · have e : a = .nil := Heap.flat_nil (ha.trans (List.length_eq_zero_iff.1 (by omega)))
    refine ACall.valN (r := rTwig A) (os := fun _ => []) (dp := false) S.cx (l3Copy_c S lb (by omega)) .go rfl (fun ln hln l hx => ⟨rfl, ?_⟩)
    cbv
    have hM := hln cTwig l
    generalize ln (A.enc cTwig l) = M at hM ⊢
    exact Done.isA (r := rTwig A) (x := l) (by rw [e, Heap.merge, hx, hb])
  refine LenR.nat S.cx (fun M hM hm2 => ?_); cbv
  refine Test.eql (fun h2 => ?_) (fun h2 => ?_) <;> cbv
  · have e : b = .nil := Heap.flat_nil (hb.trans (List.length_eq_zero_iff.1 (by omega)))
    refine ACall.valN (r := rTwig A) (os := fun _ => []) (dp := false) S.cx (l3Copy_c S la (by omega)) .go rfl (fun ln hln l hx => ⟨rfl, ?_⟩)
    cbv
    have hK := hln cTwig l
    generalize ln (A.enc cTwig l) = K at hK ⊢
    exact Done.isA (r := rTwig A) (x := l) (by rw [e, hx, <- ha]; cases a <;> rw [Heap.merge])
  obtain ⟨x, r, hxr⟩ : ∃ x r, la = x :: r := by
    cases la with
    | nil => simp at hN; omega
    | cons x r => exact ⟨x, r, rfl⟩
  obtain ⟨y, q, hyq⟩ : ∃ y q, lb = y :: q := by
    cases lb with
    | nil => simp at hM; omega
    | cons y q => exact ⟨y, q, rfl⟩
  obtain ⟨xd, xs, xk⟩ := x
  obtain ⟨yd, ys, yk⟩ := y
  obtain ⟨al, ar, hae, hal1, hal2, hal3, hal4⟩ := Heap.flat_cons (ha.trans hxr)
  obtain ⟨bl, br, hbe, hbl1, hbl2, hbl3, hbl4⟩ := Heap.flat_cons (hb.trans hyq)
  dsimp only at hae hal1 hal2 hal3 hal4 hbe hbl1 hbl2 hbl3 hbl4
  have hoka := hao
  have hokb := hbo
  rw [hae] at hoka
  rw [hbe] at hokb
  have hra : la.length = r.length + 1 := by rw [hxr]; rfl
  have hrb : lb.length = q.length + 1 := by rw [hyq]; rfl
  have hx0 : la[(0 : Int).toNat]? = some ⟨xd, xs, xk⟩ := by rw [hxr]; rfl
  have hy0 : lb[(0 : Int).toNat]? = some ⟨yd, ys, yk⟩ := by rw [hyq]; rfl
  have hne : xs ≠ ys := fun e => hap xs (by rw [hae]; simp [Heap.seqs]) (by rw [hbe]; simp [Heap.seqs, e])
  try (refine Drawn.mk ⟨by kernel_rfl, fun _ => ?_⟩)
  refine ElemRo.at S.cx (x := (⟨xd, xs, xk⟩ : Twig)) rfl (by decide) hx0 ?_; cbv
  refine ElemRo.at S.cx (x := (⟨yd, ys, yk⟩ : Twig)) rfl (by decide) hy0 ?_; cbv
  refine ACall.testD (dp := false) (l3Ahead_c S xd xs xk yd ys yk) .go rfl (fun h3 => ?_) (fun h3 => ?_) <;> cbv
  · have h4 : ¬ (yd < xd ∨ yd = xd /\ ys < xs) := fun e => by omega
    refine ACall.valN (r := rPPB A) (os := fun _ => []) (dp := false) S.cx (l3Parts_c S hxr (by dsimp only; lia) hal4) ⟨rfl, (by repeat' (first | exact trivial | exact rfl | exact Nat.le_refl _ | exact S.ga | exact S.gb ‹_› | exact S.gc ‹_› | exact S.gd | exact S.ge | exact S.gf ‹_› | exact S.gg ‹_› | exact S.gh | exact .inl rfl | exact S.gi ‹_› | exact S.gj ‹_› | exact S.gk | exact S.gl | refine ⟨?_, ?_⟩)), (by repeat' (first | exact trivial | exact rfl | exact Nat.le_refl _ | exact S.ga | exact S.gb ‹_› | exact S.gc ‹_› | exact S.gd | exact S.ge | exact S.gf ‹_› | exact S.gg ‹_› | exact S.gh | exact .inl rfl | exact S.gi ‹_› | exact S.gj ‹_› | exact S.gk | exact S.gl | refine ⟨?_, ?_⟩))⟩ rfl (fun ln hln x' hx => ⟨rfl, ?_⟩)
    obtain ⟨ll, lr⟩ := x'
    simp only [Prod.mk.injEq] at hx
    obtain ⟨hl1, hl2⟩ := hx
    cbv
    try (refine Drawn.mk ⟨by kernel_rfl, fun _ => ?_⟩)
    refine ElemRo.at S.cx (x := (⟨xd, xs, xk⟩ : Twig)) rfl (by decide) hx0 ?_; cbv
    have hlr : lr.length <= r.length := by rw [hl2]; simp
    have hll : ll.length <= r.length := by rw [hl1]; simp; omega
    have hsz : ar.size + b.size < a.size + b.size := by rw [hae, Heap.size]; omega
    have hapr : Heap.apart ar b := fun s hs hs2 => hap s (by rw [hae]; simp [Heap.seqs, hs]) hs2
    refine ACall.valN (r := rTwig A) (os := fun _ => []) (dp := false) S.cx (ih ar b lr lb (hal3.trans hl2.symm) hb hoka.2.1 hbo hapr (by omega) hsz) .go rfl (fun ln hln l1 hx => ⟨rfl, ?_⟩)
    cbv
    have hM1 := hln cTwig l1
    generalize ln (A.enc cTwig l1) = M1 at hM1 ⊢
    have hl1b : l1.length <= 1073741824 := by
      rw [hx, Heap.flat_len, Heap.merge_size, <- Heap.flat_len ar, <- Heap.flat_len b, hal3, hb, <- hl2]; omega
    refine ACall.valN (r := rTwig A) (os := fun _ => []) (dp := false) S.cx (l3Join_c S xd xs xk al (Heap.merge ar b) ll l1 (hal2.trans hl1.symm) hx.symm hoka.1 (Heap.merge_ok hoka.2.1 hbo hapr) (by omega) hl1b) .go rfl (fun ln hln l2 hx => ⟨rfl, ?_⟩)
    cbv
    have hM2 := hln cTwig l2
    generalize ln (A.enc cTwig l2) = M2 at hM2 ⊢
    exact Done.isA (r := rTwig A) (x := l2) (by rw [hx, hae, hbe, Heap.merge, if_neg h4])
  · have h4 : yd < xd ∨ yd = xd /\ ys < xs := by omega
    refine ASeq.on [8, 9] S.cx.tab S.cx.mix S.eq ?_; cbv
    refine Later.mk ?_; cbv
    refine ASeq.on [8, 9] S.cx.tab S.cx.mix S.eq ?_; cbv
    refine Later.mk ?_; cbv
    refine ACall.valN (r := rPPB A) (os := fun _ => []) (dp := false) S.cx (l3Parts_c S hyq (by dsimp only; lia) hbl4) ⟨rfl, (by repeat' (first | exact trivial | exact rfl | exact Nat.le_refl _ | exact S.ga | exact S.gb ‹_› | exact S.gc ‹_› | exact S.gd | exact S.ge | exact S.gf ‹_› | exact S.gg ‹_› | exact S.gh | exact .inl rfl | exact S.gi ‹_› | exact S.gj ‹_› | exact S.gk | exact S.gl | refine ⟨?_, ?_⟩)), (by repeat' (first | exact trivial | exact rfl | exact Nat.le_refl _ | exact S.ga | exact S.gb ‹_› | exact S.gc ‹_› | exact S.gd | exact S.ge | exact S.gf ‹_› | exact S.gg ‹_› | exact S.gh | exact .inl rfl | exact S.gi ‹_› | exact S.gj ‹_› | exact S.gk | exact S.gl | refine ⟨?_, ?_⟩))⟩ rfl (fun ln hln x' hx => ⟨rfl, ?_⟩)
    obtain ⟨ll, lr⟩ := x'
    simp only [Prod.mk.injEq] at hx
    obtain ⟨hl1, hl2⟩ := hx
    cbv
    try (refine Drawn.mk ⟨by kernel_rfl, fun _ => ?_⟩)
    refine ElemRo.at S.cx (x := (⟨yd, ys, yk⟩ : Twig)) rfl (by decide) hy0 ?_; cbv
    have hlr : lr.length <= q.length := by rw [hl2]; simp
    have hll : ll.length <= q.length := by rw [hl1]; simp; omega
    have hsz : br.size + a.size < a.size + b.size := by rw [hbe, Heap.size]; omega
    have hapr : Heap.apart br a := fun s hs hs2 => hap s hs2 (by rw [hbe]; simp [Heap.seqs, hs])
    refine ACall.valN (r := rTwig A) (os := fun _ => []) (dp := false) S.cx (ih br a lr la (hbl3.trans hl2.symm) ha hokb.2.1 hao hapr (by omega) hsz) .go rfl (fun ln hln l1 hx => ⟨rfl, ?_⟩)
    cbv
    have hM1 := hln cTwig l1
    generalize ln (A.enc cTwig l1) = M1 at hM1 ⊢
    have hl1b : l1.length <= 1073741824 := by
      rw [hx, Heap.flat_len, Heap.merge_size, <- Heap.flat_len br, <- Heap.flat_len a, hbl3, ha, <- hl2]; omega
    refine ACall.valN (r := rTwig A) (os := fun _ => []) (dp := false) S.cx (l3Join_c S yd ys yk bl (Heap.merge br a) ll l1 (hbl2.trans hl1.symm) hx.symm hokb.1 (Heap.merge_ok hokb.2.1 hao hapr) (by omega) hl1b) .go rfl (fun ln hln l2 hx => ⟨rfl, ?_⟩)
    cbv
    have hM2 := hln cTwig l2
    generalize ln (A.enc cTwig l2) = M2 at hM2 ⊢
    exact Done.isA (r := rTwig A) (x := l2) (by rw [hx, hae, hbe, Heap.merge, if_pos h4])

theorem l3Merge_c (S : Se P A) (a b : Heap) (la lb : List Twig) (ha : a.flat = la) (hb : b.flat = lb) (hao : a.ok) (hbo : b.ok) (hap : Heap.apart a b) (hal : la.length + lb.length <= 1073741824) : Is1 P 336 [.ro (A.enc cTwig la), .ro (A.enc cTwig lb)] (rTwig A (Heap.merge a b).flat) := by
  obtain ⟨n, hn⟩ : ∃ n, a.size + b.size = n := ⟨_, rfl⟩
  induction n using Nat.strongRecOn generalizing a b la lb with
  | _ n ih => exact l3Merge_step S a b la lb ha hb hao hbo hap hal fun a' b' la' lb' h1 h2 h3 h4 h5 h6 h7 => ih (a'.size + b'.size) (by omega) a' b' la' lb' h1 h2 h3 h4 h5 h6 rfl

end Go.Proofs.YtihfpbhalnedcaaGreat.AM
