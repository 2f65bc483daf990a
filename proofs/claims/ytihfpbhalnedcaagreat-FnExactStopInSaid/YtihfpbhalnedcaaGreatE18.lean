/- Contracts: heaps merged, put, shifted and taken from in the spec. (printed by ge18.py) -/
import Derived.Test.YtihfpbhalnedcaaGreatE17
set_option linter.unusedVariables false
set_option linter.unusedSimpArgs false
namespace Go.Proofs.YtihfpbhalnedcaaGreat.AM
open Go Go.Proofs

set_option maxRecDepth 100000
set_option maxHeartbeats 4000000

variable {P : Program} {A : Sy}

def Mergeable (la lb : List Twig) : Prop := HeapOk la /\ HeapOk lb /\ la.length + lb.length <= 64 /\ ((la ++ lb).map (·.seq)).Nodup
instance (la lb : List Twig) : Decidable (Mergeable la lb) := by unfold Mergeable; infer_instance

def Merged (la lb : List Twig) : List Twig × Bool := if Mergeable la lb then ((Heap.merge (heapOf la) (heapOf lb)).flat, true) else ([], false)

theorem apart_of {la lb : List Twig} (ha : Heap.Is la) (hb : Heap.Is lb) (h : ((la ++ lb).map (·.seq)).Nodup) : Heap.apart (heapOf la) (heapOf lb) := fun x hx hx' => by
  rw [heapOf_seqs ha] at hx
  rw [heapOf_seqs hb] at hx'
  rw [List.map_append] at h
  exact (List.nodup_append.1 h).2.2 x hx x hx' rfl

def rTwB (A : Sy) (p : List Twig × Bool) : AV := .tup [.own 3 true (A.enc cTwig p.1), .bool p.2]

theorem specMerged_c (S : Se P A) (la lb : List Twig) : Is1 P 283 [.ro (A.enc cTwig la), .ro (A.enc cTwig lb)] (rTwB A (Merged la lb)) := by
  refine S.cx.by (S.prog ▸ Tryz.func283) rfl rfl rfl rfl (fun hv ho => ?_)
  cbv
  refine ACall.testD (dp := false) (specHeapOk_c S la) .go rfl (fun h1 => ?_) (fun h1 => ?_) <;> cbv
  rotate_left
  · exact Done.isA (r := rTwB A) (x := (([] : List Twig), false)) (if_neg fun e => h1 e.1)
  refine ACall.testD (dp := false) (specHeapOk_c S lb) .go rfl (fun h2 => ?_) (fun h2 => ?_) <;> cbv
  rotate_left
  · exact Done.isA (r := rTwB A) (x := (([] : List Twig), false)) (if_neg fun e => h2 e.2.1)
  have ha64 := h1.1
  have hb64 := h2.1
  refine LenR.nat S.cx (fun N hN hm => ?_); cbv
  refine LenR.nat S.cx (fun M hM hm2 => ?_); cbv
  refine Arith.go (by lia) (fun k hk => ?_); replace hk : k = N + M := hk; cbv
  refine Test.gtr (fun h3 => ?_) (fun h3 => ?_) <;> cbv
  · exact Done.isA (r := rTwB A) (x := (([] : List Twig), false)) (if_neg fun e => by have := e.2.2.1; lia)
  refine ACall.valN (r := rTwig A) (os := fun _ => []) (dp := false) S.cx (l3Copy_c S la (by omega)) .go rfl (fun ln hln l1 hx => ⟨rfl, ?_⟩)
  cases hx
  cbv
  have hN1 := hln cTwig la
  generalize ln (A.enc cTwig la) = N1 at hN1 ⊢
  refine AppRef.pushAll S.cx hN1 rfl plainTwig (fun _ => rfl) (by simp only [maxBytes]; omega) (fun n2 l2 hl2 hn2 => ?_); cbv
  refine ACall.testD (dp := false) (l3Twice_c S l2) .go rfl (fun h4 => ?_) (fun h4 => ?_) <;> cbv
  · rw [hl2] at h4
    exact Done.isA (r := rTwB A) (x := (([] : List Twig), false)) (if_neg fun e => h4 e.2.2.2)
  have h4 := Classical.not_not.1 h4
  rw [hl2] at h4
  have hm : Mergeable la lb := ⟨h1, h2, by lia, h4⟩
  obtain ⟨oa, fa⟩ := heapOf_is h1.2.2
  obtain ⟨ob, fb⟩ := heapOf_is h2.2.2
  refine ACall.valN (r := rTwig A) (os := fun _ => []) (dp := false) S.cx (l3Merge_c S (heapOf la) (heapOf lb) la lb fa fb oa ob (apart_of h1.2.2 h2.2.2 h4) (by omega)) .go rfl (fun ln hln l3 hx => ⟨rfl, ?_⟩)
  cbv
  have hN3 := hln cTwig l3
  generalize ln (A.enc cTwig l3) = N3 at hN3 ⊢
  exact Done.isA (r := rTwB A) (x := (l3, true)) (by rw [Merged, if_pos hm, hx])

theorem specPut_c (S : Se P A) (l : List Twig) (due seq : Int) : Is1 P 209 [.ro (A.enc cTwig l), .int .i64 due, .int .i64 seq] (rTwB A (Merged l [⟨due, seq, 0⟩])) := by
  refine S.cx.by (S.prog ▸ Tryz.func209) rfl rfl rfl rfl (fun hv ho => ?_)
  cbv
  refine ACall.valN (r := rTwB A) (os := fun _ => []) (dp := false) S.cx (specMerged_c S l [⟨due, seq, 0⟩]) ⟨rfl, ⟨rfl, ⟨rfl, Nat.le_refl _, ?_⟩, trivial⟩, (by repeat' (first | exact trivial | exact rfl | exact Nat.le_refl _ | exact S.ga | exact S.gb ‹_› | exact S.gc ‹_› | exact S.gd | exact S.ge | exact S.gf ‹_› | exact S.gg ‹_› | exact S.gh | exact .inl rfl | exact S.gi ‹_› | exact S.gj ‹_› | exact S.gk | exact S.gl | refine ⟨?_, ?_⟩))⟩ rfl (fun ln hln x hx => ⟨rfl, ?_⟩)
  · exact S.cx.enc cTwig [⟨due, seq, 0⟩]
  obtain ⟨l2, b⟩ := x
  cbv
  have hM := hln cTwig l2
  generalize ln (A.enc cTwig l2) = M at hM ⊢
  exact Done.isA (r := rTwB A) (x := (l2, b)) (hx.symm)

theorem one_heap (d s : Int) : HeapOk [⟨d, s, 0⟩] := ⟨by simp, by simp, ⟨.node d s .nil .nil, one_ok d s, rfl⟩⟩

theorem merged_put {l : List Twig} {d s : Int} (h : HeapOk l) (hs : s ∉ l.map (·.seq)) (hl : l.length < 64) : Merged l [⟨d, s, 0⟩] = (putL l d s, true) := by
  have hm : Mergeable l [⟨d, s, 0⟩] := by
    refine ⟨h, one_heap d s, by simp; omega, ?_⟩
    rw [List.map_append]
    refine List.nodup_append.2 ⟨h.2.1, by simp, fun a ha b hb e => hs ?_⟩
    have : b = s := by simpa using hb
    rw [<- this, <- e]; exact ha
  unfold Merged
  rw [if_pos hm, show heapOf [⟨d, s, 0⟩] = .node d s .nil .nil from heapOf_flat (one_ok d s)]
  rfl

theorem nodup_parts {t : Heap} {d s : Int} {a b : Heap} (e : t = .node d s a b) (h : t.seqs.Nodup) : a.seqs.Nodup /\ b.seqs.Nodup /\ Heap.apart a b := by
  subst e
  simp only [Heap.seqs, List.nodup_cons, List.nodup_append] at h
  exact ⟨h.2.1, h.2.2.1, fun x hx hx' => h.2.2.2 x hx x hx' rfl⟩

theorem l3Without_step (S : Se P A) (t : Heap) (l : List Twig) (q : Int) (hl : t.flat = l) (hok : t.ok) (hnd : t.seqs.Nodup) (hb : l.length <= 1000000)
    (ih : ∀ (t' : Heap) (l' : List Twig), t'.flat = l' -> t'.ok -> t'.seqs.Nodup -> l'.length <= 1000000 -> t'.size < t.size -> Is1 P 276 [.ro (A.enc cTwig l'), .int .i64 q] (rTwB A ((t'.without q).flat, decide (q ∈ t'.seqs)))) : Is1 P 276 [.ro (A.enc cTwig l), .int .i64 q] (rTwB A ((t.without q).flat, decide (q ∈ t.seqs))) := by
  refine S.cx.by (S.prog ▸ Tryz.func276) rfl rfl rfl rfl (fun hv ho => ?_)
  cbv
  refine LenR.nat S.cx (fun N hN hm => ?_); cbv
  refine Test.eql (fun h1 => ?_) (fun h1 => ?_) <;> cbv
  · have e : t = .nil := Heap.flat_nil (hl.trans (List.length_eq_zero_iff.1 (by omega)))
    exact Done.isA (r := rTwB A) (x := (([] : List Twig), false)) (by rw [e]; rfl)
  obtain ⟨x, r, hxr⟩ : ∃ x r, l = x :: r := by
    cases l with
    | nil => simp at hN; omega
    | cons x r => exact ⟨x, r, rfl⟩
  obtain ⟨a, b, hte, h1, h2, h3, h4⟩ := Heap.flat_cons (hl.trans hxr)
  have hx0 : l[(0 : Int).toNat]? = some x := by rw [hxr]; rfl
  have hlen : l.length = r.length + 1 := by rw [hxr]; rfl
  obtain ⟨n1, n2, n3⟩ := nodup_parts hte hnd
  rw [hte] at hok
  obtain ⟨xd, xs, xk⟩ := x
  dsimp only at hte h1 h2 h3 h4
  refine ACall.valN (r := rPPB A) (os := fun _ => []) (dp := false) S.cx (l3Parts_c S hxr (by dsimp only; lia) h4) ⟨rfl, (by repeat' (first | exact trivial | exact rfl | exact Nat.le_refl _ | exact S.ga | exact S.gb ‹_› | exact S.gc ‹_› | exact S.gd | exact S.ge | exact S.gf ‹_› | exact S.gg ‹_› | exact S.gh | exact .inl rfl | exact S.gi ‹_› | exact S.gj ‹_› | exact S.gk | exact S.gl | refine ⟨?_, ?_⟩)), (by repeat' (first | exact trivial | exact rfl | exact Nat.le_refl _ | exact S.ga | exact S.gb ‹_› | exact S.gc ‹_› | exact S.gd | exact S.ge | exact S.gf ‹_› | exact S.gg ‹_› | exact S.gh | exact .inl rfl | exact S.gi ‹_› | exact S.gj ‹_› | exact S.gk | exact S.gl | refine ⟨?_, ?_⟩))⟩ rfl (fun ln hln x' hx => ⟨rfl, ?_⟩)
  obtain ⟨ll, lr⟩ := x'
  simp only [Prod.mk.injEq] at hx
  obtain ⟨hl1, hl2⟩ := hx
  have hal : a.flat = ll := h2.trans hl1.symm
  have hbl : b.flat = lr := h3.trans hl2.symm
  have hlb : ll.length + lr.length = r.length := by rw [hl1, hl2]; simp; omega
  have hsa : a.size < t.size := by rw [hte, Heap.size]; omega
  have hsb : b.size < t.size := by rw [hte, Heap.size]; omega
  have hfa := Heap.flat_len a
  have hfb := Heap.flat_len b
  rw [hal] at hfa
  rw [hbl] at hfb
  cbv
  refine ElemRo.at S.cx (x := (⟨xd, xs, xk⟩ : Twig)) rfl (by decide) hx0 ?_; cbv
  refine Test.eql (fun h5 => ?_) (fun h5 => ?_) <;> cbv
  · refine ACall.valN (r := rTwig A) (os := fun _ => []) (dp := false) S.cx (l3Merge_c S a b ll lr hal hbl hok.1 hok.2.1 n3 (by omega)) .go rfl (fun ln hln l1 hx => ⟨rfl, ?_⟩)
    cbv
    have hM1 := hln cTwig l1
    generalize ln (A.enc cTwig l1) = M1 at hM1 ⊢
    exact Done.isA (r := rTwB A) (x := (l1, true)) (by rw [hx, hte, Heap.without, if_pos h5]; simp [Heap.seqs, h5])
  refine ACall.valN (r := rTwB A) (os := fun _ => []) (dp := false) S.cx (ih a ll hal hok.1 n1 (by omega) hsa) .go rfl (fun ln hln x hx => ⟨rfl, ?_⟩)
  obtain ⟨l1, b1⟩ := x
  cbv
  have hM1 := hln cTwig l1
  generalize ln (A.enc cTwig l1) = M1 at hM1 ⊢
  simp only [Prod.mk.injEq] at hx
  obtain ⟨hxa, hxb⟩ := hx
  have hl1b : l1.length <= 1000000 := by
    rw [hxa, Heap.flat_len]
    by_cases hqa : q ∈ a.seqs
    · have := Heap.without_size hqa
      omega
    · rw [Heap.without_none hok.1 hqa]; omega
  cases b1 <;> cbv
  · have hqa : q ∉ a.seqs := of_decide_eq_false hxb.symm
    refine ACall.valN (r := rTwB A) (os := fun _ => []) (dp := false) S.cx (ih b lr hbl hok.2.1 n2 (by omega) hsb) .go rfl (fun ln hln x hx => ⟨rfl, ?_⟩)
    obtain ⟨l2, b2⟩ := x
    cbv
    have hM2 := hln cTwig l2
    generalize ln (A.enc cTwig l2) = M2 at hM2 ⊢
    simp only [Prod.mk.injEq] at hx
    obtain ⟨hxc, hxd⟩ := hx
    have hl2b : l2.length <= 1000000 := by
      rw [hxc, Heap.flat_len]
      by_cases hqb : q ∈ b.seqs
      · have := Heap.without_size hqb
        omega
      · rw [Heap.without_none hok.2.1 hqb]; omega
    try (refine Drawn.mk ⟨by kernel_rfl, fun _ => ?_⟩)
    refine ElemRo.at S.cx (x := (⟨xd, xs, xk⟩ : Twig)) rfl (by decide) hx0 ?_; cbv
    refine ACall.valN (r := rTwig A) (os := fun _ => []) (dp := false) S.cx (l3Join_c S xd xs xk a (b.without q) ll l2 hal hxc.symm hok.1 (Heap.without_ok hok.2.1 n2) (by omega) (by omega)) .go rfl (fun ln hln l3 hx => ⟨rfl, ?_⟩)
    cbv
    have hM3 := hln cTwig l3
    generalize ln (A.enc cTwig l3) = M3 at hM3 ⊢
    exact Done.isA (r := rTwB A) (x := (l3, b2)) (by rw [hx, hxd, hte, Heap.without, if_neg h5, if_neg hqa]; have h6 : ¬ q = xs := fun e => h5 e.symm; simp [Heap.seqs, hqa, h6])
  · have hqa : q ∈ a.seqs := of_decide_eq_true hxb.symm
    try (refine Drawn.mk ⟨by kernel_rfl, fun _ => ?_⟩)
    refine ElemRo.at S.cx (x := (⟨xd, xs, xk⟩ : Twig)) rfl (by decide) hx0 ?_; cbv
    refine ACall.valN (r := rTwig A) (os := fun _ => []) (dp := false) S.cx (l3Join_c S xd xs xk (a.without q) b l1 lr hxa.symm hbl (Heap.without_ok hok.1 n1) hok.2.1 (by omega) (by omega)) .go rfl (fun ln hln l3 hx => ⟨rfl, ?_⟩)
    cbv
    have hM3 := hln cTwig l3
    generalize ln (A.enc cTwig l3) = M3 at hM3 ⊢
    exact Done.isA (r := rTwB A) (x := (l3, true)) (by rw [hx, hte, Heap.without, if_neg h5, if_pos hqa]; simp [Heap.seqs, hqa])

theorem l3Without_c (S : Se P A) (t : Heap) (l : List Twig) (q : Int) (hl : t.flat = l) (hok : t.ok) (hnd : t.seqs.Nodup) (hb : l.length <= 1000000) : Is1 P 276 [.ro (A.enc cTwig l), .int .i64 q] (rTwB A ((t.without q).flat, decide (q ∈ t.seqs))) := by
  obtain ⟨n, hn⟩ : ∃ n, t.size = n := ⟨_, rfl⟩
  induction n using Nat.strongRecOn generalizing t l with
  | _ n ih => exact l3Without_step S t l q hl hok hnd hb fun t' l' h1 h2 h3 h4 h5 => ih t'.size (by omega) t' l' h1 h2 h3 h4 rfl

def Without (l : List Twig) (q : Int) : List Twig × Bool := if HeapOk l then (withoutL l q, decide (q ∈ l.map (·.seq))) else ([], false)

theorem specWithout_c (S : Se P A) (l : List Twig) (q : Int) : Is1 P 205 [.ro (A.enc cTwig l), .int .i64 q] (rTwB A (Without l q)) := by
  refine S.cx.by (S.prog ▸ Tryz.func205) rfl rfl rfl rfl (fun hv ho => ?_)
  cbv
  refine ACall.testD (dp := false) (specHeapOk_c S l) .go rfl (fun h1 => ?_) (fun h1 => ?_) <;> cbv
  rotate_left
  · exact Done.isA (r := rTwB A) (x := (([] : List Twig), false)) (if_neg h1)
  obtain ⟨hok, hf⟩ := heapOf_is h1.2.2
  have hnd : (heapOf l).seqs.Nodup := by rw [heapOf_seqs h1.2.2]; exact h1.2.1
  have hl64 := h1.1
  refine ACall.valN (r := rTwB A) (os := fun _ => []) (dp := false) S.cx (l3Without_c S (heapOf l) l q hf hok hnd (by omega)) .go rfl (fun ln hln x hx => ⟨rfl, ?_⟩)
  obtain ⟨l1, b1⟩ := x
  cbv
  have hM1 := hln cTwig l1
  generalize ln (A.enc cTwig l1) = M1 at hM1 ⊢
  simp only [Prod.mk.injEq] at hx
  obtain ⟨hxa, hxb⟩ := hx
  cases b1 <;> cbv
  · have hq : q ∉ (heapOf l).seqs := of_decide_eq_false hxb.symm
    refine ACall.valN (r := rTwig A) (os := fun _ => []) (dp := false) S.cx (l3Copy_c S l (by omega)) .go rfl (fun ln hln l2 hx => ⟨rfl, ?_⟩)
    cases hx
    cbv
    have hN2 := hln cTwig l
    generalize ln (A.enc cTwig l) = N2 at hN2 ⊢
    exact Done.isA (r := rTwB A) (x := (l, false)) (by unfold Without withoutL; rw [if_pos h1, Heap.without_none hok hq, hf, <- heapOf_seqs h1.2.2, hxb])
  · exact Done.isA (r := rTwB A) (x := (l1, true)) (by unfold Without withoutL; rw [if_pos h1, hxa, <- heapOf_seqs h1.2.2, hxb])

end Go.Proofs.YtihfpbhalnedcaaGreat.AM
