/- Contracts: valid heaps; one put, one taken out. (printed by ge7.py) -/
import Derived.Test.YtmbckmfihcojoaaE6
namespace Go.Proofs.Ytmbckmfihcojoaa.AM
open Go Go.Proofs

set_option maxRecDepth 100000
set_option maxHeartbeats 4000000
set_option linter.unusedVariables false
set_option linter.unusedSimpArgs false

variable {P : Program} {A : Sy}

theorem Heap.without_size {q : Int} : ∀ {h : Heap}, q ∈ h.seqs → (h.without q).size + 1 = h.size
  | .nil, hq => by simp [Heap.seqs] at hq
  | .node d s l r, hq => by
    simp only [Heap.without]
    split
    · rw [Heap.merge_size]; simp only [Heap.size]; omega
    · rename_i hs
      split
      · rename_i hl
        have := Heap.without_size hl
        rw [Heap.join_size]; simp only [Heap.size]; omega
      · rename_i hl
        have hr : q ∈ r.seqs := by
          rw [Heap.seqs] at hq
          rcases List.mem_cons.1 hq with e | e
          · exact absurd e.symm hs
          · rcases List.mem_append.1 e with e | e
            · exact absurd e hl
            · exact e
        have := Heap.without_size hr
        rw [Heap.join_size]; simp only [Heap.size]; omega

def HeapOk (l : List Twig) : Prop := l.length ≤ 64 ∧ (l.map (·.seq)).Nodup ∧ Heap.Is l
instance (l : List Twig) : Decidable (HeapOk l) := by unfold HeapOk; infer_instance

theorem nodup_next {l : List Twig} {i i' : Int} {x : Twig} (h0 : 0 ≤ i) (hx : l[i.toNat]? = some x) (hn : ((l.take i.toNat).map (·.seq)).Nodup) (hi : i' = i + 1) (hm : x.seq ∉ (l.take i.toNat).map (·.seq)) : ((l.take i'.toNat).map (·.seq)).Nodup := by
  rw [show i'.toNat = i.toNat + 1 by omega, take_next hx, List.map_append]
  refine List.nodup_append.2 ⟨hn, by simp, fun a ha b hb e => hm ?_⟩
  have : b = x.seq := by simpa using hb
  rw [← this, ← e]; exact ha

theorem nodup_not {l : List Twig} {i : Int} {x : Twig} (h0 : 0 ≤ i) (hx : l[i.toNat]? = some x) (hm : x.seq ∈ (l.take i.toNat).map (·.seq)) : ¬ (l.map (·.seq)).Nodup := fun hn => by
  have h1 : ((l.take (i.toNat + 1)).map (·.seq)).Nodup := by
    rw [List.map_take]
    exact hn.sublist (List.take_sublist _ _)
  rw [take_next hx, List.map_append] at h1
  exact (List.nodup_append.1 h1).2.2 _ hm _ (by simp) rfl

theorem implHeapOk_c (S : Se P A) (l : List Twig) : Tests P 103 [.ro (A.enc cTwig l)] (HeapOk l) := by
  refine S.cx.by (S.prog ▸ Try.func103) rfl rfl rfl rfl (fun hv ho => ?_)
  cbv
  refine LenR.nat S.cx (fun N hN hm => ?_); cbv
  refine Test.gtr (fun h => ?_) (fun h => ?_) <;> cbv
  · exact Done.no fun e => by have := e.1; lia
  have hl64 : l.length ≤ 64 := by lia
  refine LenR.nat S.cx (fun M hM hm2 => ?_); cbv
  refine ALoop.goS (ι := Int) (fun i => [(10, .int .i64 i)]) [] (fun i => []) (fun i => 0 ≤ i ∧ ((l.take i.toNat).map (·.seq)).Nodup) (fun i => (l.length - i).toNat) (0) S.cx.tab S.cx.mix S.eq ?_ ?_ ?_
  · exact ⟨Int.le_refl _, by simp⟩
  · (cbv; refine Less.to [] rfl rfl ?_ ?_ <;> repeat' (first | exact trivial | exact ⟨rfl, rfl⟩ | exact ⟨_, rfl, Nat.zero_le _, rfl⟩ | apply And.intro | exact rfl))
  intro i hk
  obtain ⟨h0, hn⟩ := hk
  refine Rnd.mk ?_; cbv
  refine Test.lss (fun h1 => ?_) (fun h1 => ?_) <;> cbv
  rotate_left
  · have hnd : (l.map (·.seq)).Nodup := by
      rw [take_all (by lia)] at hn; exact hn
    refine ACall.testD (dp := false) (isHeap_c S l (by omega)) ⟨rfl, (by repeat' (first | exact trivial | exact rfl | exact Nat.le_refl _ | exact S.cx.giveEq | exact S.cx.lendLe (by assumption) | exact S.cx.lendEq (by assumption) | exact S.cx.lendLe0 | exact S.cx.lendEq0 | exact S.cx.partLe (by assumption) | exact S.cx.partEq (by assumption) | exact .inl rfl | refine ⟨?_, ?_⟩)), (by repeat' (first | exact trivial | exact rfl | exact Nat.le_refl _ | exact S.cx.giveEq | exact S.cx.lendLe (by assumption) | exact S.cx.lendEq (by assumption) | exact S.cx.lendLe0 | exact S.cx.lendEq0 | exact S.cx.partLe (by assumption) | exact S.cx.partEq (by assumption) | exact .inl rfl | refine ⟨?_, ?_⟩))⟩ rfl (fun h2 => ?_) (fun h2 => ?_) <;> cbv
    · exact Done.yes ⟨hl64, hnd, h2⟩
    · exact Done.no fun e => h2 e.2.2
  refine ElemRo.enc S.cx (fun _ => rfl) (by lia) (by lia) (fun x hx => ?_); cbv
  try (refine Drawn.mk ⟨by kernel_rfl, fun _ => ?_⟩)
  refine CutRo.enc S.cx (fun _ => rfl) (by decide) (by lia) (by lia) (fun a ha => ?_); cbv
  have ha' : a = l.take i.toNat := by rw [ha]; rfl
  refine ACall.int (dp := false) (seqAt_c S a x.seq) ⟨rfl, (by repeat' (first | exact trivial | exact rfl | exact Nat.le_refl _ | exact S.cx.giveEq | exact S.cx.lendLe (by assumption) | exact S.cx.lendEq (by assumption) | exact S.cx.lendLe0 | exact S.cx.lendEq0 | exact S.cx.partLe (by assumption) | exact S.cx.partEq (by assumption) | exact .inl rfl | refine ⟨?_, ?_⟩)), (by repeat' (first | exact trivial | exact rfl | exact Nat.le_refl _ | exact S.cx.giveEq | exact S.cx.lendLe (by assumption) | exact S.cx.lendEq (by assumption) | exact S.cx.lendLe0 | exact S.cx.lendEq0 | exact S.cx.partLe (by assumption) | exact S.cx.partEq (by assumption) | exact .inl rfl | refine ⟨?_, ?_⟩))⟩ rfl (fun r hr => ?_); cbv
  have hri := seqIdx_le a x.seq
  rw [← hr, ha'] at hri
  refine Test.geq (fun h2 => ?_) (fun h2 => ?_) <;> cbv
  · exact Done.no fun e => nodup_not h0 hx (hri.1 (by omega)) e.2.1
  refine Arith.go (by lia) (fun i' hi' => ?_); cbv
  refine Again.on i' (by lia) ⟨by lia, nodup_next h0 hx hn hi' (fun e => by have := hri.2 e; omega)⟩ ?_
  (cbv; refine Less.to [] rfl rfl ?_ ?_ <;> repeat' (first | exact trivial | exact ⟨rfl, rfl⟩ | exact ⟨_, rfl, Nat.zero_le _, rfl⟩ | apply And.intro | exact rfl))

theorem put_c (S : Se P A) (t : Heap) (l : List Twig) (hl : t.flat = l) (hb : l.length ≤ 1000000) (due seq : Int) : Is1 P 161 [.ro (A.enc cTwig l), .int .i64 due, .int .i64 seq] (rTwig A (Heap.merge t (.node due seq .nil .nil)).flat) := by
  refine S.cx.by (S.prog ▸ Try.func161) rfl rfl rfl rfl (fun hv ho => ?_)
  cbv
  refine ACall.valN (r := rTwig A) (os := fun _ => []) (dp := false) S.cx (merge_c S t (.node due seq .nil .nil) l [⟨due, seq, 0⟩] hl rfl (by simp; omega)) ⟨rfl, ⟨rfl, ⟨rfl, Nat.le_refl _, ?_⟩, trivial⟩, (by repeat' (first | exact trivial | exact rfl | exact Nat.le_refl _ | exact S.cx.giveEq | exact S.cx.lendLe (by assumption) | exact S.cx.lendEq (by assumption) | exact S.cx.lendLe0 | exact S.cx.lendEq0 | exact S.cx.partLe (by assumption) | exact S.cx.partEq (by assumption) | exact .inl rfl | refine ⟨?_, ?_⟩))⟩ rfl (fun ln hln l2 hx => ⟨rfl, ?_⟩)
  · exact S.cx.enc cTwig [⟨due, seq, 0⟩]
  cbv
  have hM := hln cTwig l2
  generalize ln (A.enc cTwig l2) = M at hM ⊢
  exact Done.is (r := rTwig A) (x := l2) (by repeat' (first | exact trivial | exact rfl | exact resOwn S.cx rfl (by assumption) | exact resOwn S.cx rfl (S.cx.lenE _ _) | exact resOwn1 S.cx rfl (by assumption) | exact resOwnT S.cx rfl (by assumption) | exact S.cx.enc _ [] | refine ⟨?_, ?_⟩)) rfl (hx.symm)

theorem without_step (S : Se P A) (t : Heap) (l : List Twig) (q : Int) (hl : t.flat = l) (hq : q ∈ t.seqs) (hb : l.length ≤ 1000000)
    (ih : ∀ (t' : Heap) (l' : List Twig), t'.flat = l' → q ∈ t'.seqs → l'.length ≤ 1000000 → t'.size < t.size → Is1 P 162 [.ro (A.enc cTwig l'), .int .i64 q] (rTwig A (t'.without q).flat)) : Is1 P 162 [.ro (A.enc cTwig l), .int .i64 q] (rTwig A (t.without q).flat) := by
  obtain ⟨x, r, hxr⟩ : ∃ x r, l = x :: r := by
    cases l with
    | nil => rw [Heap.flat_nil hl] at hq; simp [Heap.seqs] at hq
    | cons x r => exact ⟨x, r, rfl⟩
  obtain ⟨a, b, hte, h1, h2, h3, h4⟩ := Heap.flat_cons (hl.trans hxr)
  have hx0 : l[(0 : Int).toNat]? = some x := by rw [hxr]; rfl
  have hlen : l.length = r.length + 1 := by rw [hxr]; rfl
  refine S.cx.by (S.prog ▸ Try.func162) rfl rfl rfl rfl (fun hv ho => ?_)
  cbv
  refine ACall.valN (r := rPP A) (os := fun _ => []) (dp := false) S.cx (partsE_c S hxr (by lia) h4) ⟨rfl, (by repeat' (first | exact trivial | exact rfl | exact Nat.le_refl _ | exact S.cx.giveEq | exact S.cx.lendLe (by assumption) | exact S.cx.lendEq (by assumption) | exact S.cx.lendLe0 | exact S.cx.lendEq0 | exact S.cx.partLe (by assumption) | exact S.cx.partEq (by assumption) | exact .inl rfl | refine ⟨?_, ?_⟩)), (by repeat' (first | exact trivial | exact rfl | exact Nat.le_refl _ | exact S.cx.giveEq | exact S.cx.lendLe (by assumption) | exact S.cx.lendEq (by assumption) | exact S.cx.lendLe0 | exact S.cx.lendEq0 | exact S.cx.partLe (by assumption) | exact S.cx.partEq (by assumption) | exact .inl rfl | refine ⟨?_, ?_⟩))⟩ rfl (fun ln hln x' hx => ⟨rfl, ?_⟩)
  obtain ⟨ll, lr⟩ := x'
  simp only [Prod.mk.injEq] at hx
  obtain ⟨hl1, hl2⟩ := hx
  have hal : a.flat = ll := h2.trans hl1.symm
  have hbl : b.flat = lr := h3.trans hl2.symm
  have hlr : lr.length ≤ r.length := by rw [hl2]; simp
  have hll : ll.length ≤ r.length := by rw [hl1]; simp; omega
  have hlb : ll.length + lr.length = r.length := by rw [hl1, hl2]; simp; omega
  have hsa : a.size < t.size := by rw [hte, Heap.size]; omega
  have hsb : b.size < t.size := by rw [hte, Heap.size]; omega
  cbv
  refine ElemRo.at S.cx (x := x) rfl (by decide) hx0 ?_; cbv
  refine Test.eql (fun h5 => ?_) (fun h5 => ?_) <;> cbv
  · refine ACall.valN (r := rTwig A) (os := fun _ => []) (dp := false) S.cx (merge_c S a b ll lr hal hbl (by omega)) ⟨rfl, (by repeat' (first | exact trivial | exact rfl | exact Nat.le_refl _ | exact S.cx.giveEq | exact S.cx.lendLe (by assumption) | exact S.cx.lendEq (by assumption) | exact S.cx.lendLe0 | exact S.cx.lendEq0 | exact S.cx.partLe (by assumption) | exact S.cx.partEq (by assumption) | exact .inl rfl | refine ⟨?_, ?_⟩)), (by repeat' (first | exact trivial | exact rfl | exact Nat.le_refl _ | exact S.cx.giveEq | exact S.cx.lendLe (by assumption) | exact S.cx.lendEq (by assumption) | exact S.cx.lendLe0 | exact S.cx.lendEq0 | exact S.cx.partLe (by assumption) | exact S.cx.partEq (by assumption) | exact .inl rfl | refine ⟨?_, ?_⟩))⟩ rfl (fun ln hln l1 hx => ⟨rfl, ?_⟩)
    cbv
    have hM1 := hln cTwig l1
    generalize ln (A.enc cTwig l1) = M1 at hM1 ⊢
    exact Done.is (r := rTwig A) (x := l1) (by repeat' (first | exact trivial | exact rfl | exact resOwn S.cx rfl (by assumption) | exact resOwn S.cx rfl (S.cx.lenE _ _) | exact resOwn1 S.cx rfl (by assumption) | exact resOwnT S.cx rfl (by assumption) | exact S.cx.enc _ [] | refine ⟨?_, ?_⟩)) rfl (by rw [hx, hte, Heap.without, if_pos h5])
  refine ACall.int (dp := false) (seqAt_c S ll q) ⟨rfl, (by repeat' (first | exact trivial | exact rfl | exact Nat.le_refl _ | exact S.cx.giveEq | exact S.cx.lendLe (by assumption) | exact S.cx.lendEq (by assumption) | exact S.cx.lendLe0 | exact S.cx.lendEq0 | exact S.cx.partLe (by assumption) | exact S.cx.partEq (by assumption) | exact .inl rfl | refine ⟨?_, ?_⟩)), (by repeat' (first | exact trivial | exact rfl | exact Nat.le_refl _ | exact S.cx.giveEq | exact S.cx.lendLe (by assumption) | exact S.cx.lendEq (by assumption) | exact S.cx.lendLe0 | exact S.cx.lendEq0 | exact S.cx.partLe (by assumption) | exact S.cx.partEq (by assumption) | exact .inl rfl | refine ⟨?_, ?_⟩))⟩ rfl (fun k hk => ?_); cbv
  have hki := seqIdx_le ll q
  rw [← hk, ← hal, ← Heap.seqs_flat] at hki
  refine Test.geq (fun h6 => ?_) (fun h6 => ?_) <;> cbv
  · have hqa := hki.1 (by omega)
    refine ACall.valN (r := rTwig A) (os := fun _ => []) (dp := false) S.cx (ih a ll hal hqa (by omega) hsa) ⟨rfl, (by repeat' (first | exact trivial | exact rfl | exact Nat.le_refl _ | exact S.cx.giveEq | exact S.cx.lendLe (by assumption) | exact S.cx.lendEq (by assumption) | exact S.cx.lendLe0 | exact S.cx.lendEq0 | exact S.cx.partLe (by assumption) | exact S.cx.partEq (by assumption) | exact .inl rfl | refine ⟨?_, ?_⟩)), (by repeat' (first | exact trivial | exact rfl | exact Nat.le_refl _ | exact S.cx.giveEq | exact S.cx.lendLe (by assumption) | exact S.cx.lendEq (by assumption) | exact S.cx.lendLe0 | exact S.cx.lendEq0 | exact S.cx.partLe (by assumption) | exact S.cx.partEq (by assumption) | exact .inl rfl | refine ⟨?_, ?_⟩))⟩ rfl (fun ln hln l1 hx => ⟨rfl, ?_⟩)
    cbv
    have hM1 := hln cTwig l1
    generalize ln (A.enc cTwig l1) = M1 at hM1 ⊢
    have hl1b : l1.length ≤ 1000000 := by
      rw [hx, Heap.flat_len]
      have := Heap.without_size hqa
      have := Heap.flat_len a
      rw [hal] at this
      omega
    refine ElemRo.at S.cx (x := x) rfl (by decide) hx0 ?_; cbv
    have hx1 := hx.symm
    refine ACall.valN (r := rTwig A) (os := fun _ => []) (dp := false) S.cx (joined_c S x.due x.seq x.lefts (a.without q) b l1 lr hx1 hbl (by omega) (by omega)) ⟨rfl, (by repeat' (first | exact trivial | exact rfl | exact Nat.le_refl _ | exact S.cx.giveEq | exact S.cx.lendLe (by assumption) | exact S.cx.lendEq (by assumption) | exact S.cx.lendLe0 | exact S.cx.lendEq0 | exact S.cx.partLe (by assumption) | exact S.cx.partEq (by assumption) | exact .inl rfl | refine ⟨?_, ?_⟩)), (by repeat' (first | exact trivial | exact rfl | exact Nat.le_refl _ | exact S.cx.giveEq | exact S.cx.lendLe (by assumption) | exact S.cx.lendEq (by assumption) | exact S.cx.lendLe0 | exact S.cx.lendEq0 | exact S.cx.partLe (by assumption) | exact S.cx.partEq (by assumption) | exact .inl rfl | refine ⟨?_, ?_⟩))⟩ rfl (fun ln hln l2 hx => ⟨rfl, ?_⟩)
    cbv
    have hM2 := hln cTwig l2
    generalize ln (A.enc cTwig l2) = M2 at hM2 ⊢
    exact Done.is (r := rTwig A) (x := l2) (by repeat' (first | exact trivial | exact rfl | exact resOwn S.cx rfl (by assumption) | exact resOwn S.cx rfl (S.cx.lenE _ _) | exact resOwn1 S.cx rfl (by assumption) | exact resOwnT S.cx rfl (by assumption) | exact S.cx.enc _ [] | refine ⟨?_, ?_⟩)) rfl (by rw [hx, hte, Heap.without, if_neg h5, if_pos hqa])
  · have hqa : q ∉ a.seqs := fun e => by have := hki.2 e; omega
    have hqb : q ∈ b.seqs := by
      rw [hte, Heap.seqs] at hq
      rcases List.mem_cons.1 hq with e | e
      · exact absurd e.symm h5
      · rcases List.mem_append.1 e with e | e
        · exact absurd e hqa
        · exact e
    refine ACall.valN (r := rTwig A) (os := fun _ => []) (dp := false) S.cx (ih b lr hbl hqb (by omega) hsb) ⟨rfl, (by repeat' (first | exact trivial | exact rfl | exact Nat.le_refl _ | exact S.cx.giveEq | exact S.cx.lendLe (by assumption) | exact S.cx.lendEq (by assumption) | exact S.cx.lendLe0 | exact S.cx.lendEq0 | exact S.cx.partLe (by assumption) | exact S.cx.partEq (by assumption) | exact .inl rfl | refine ⟨?_, ?_⟩)), (by repeat' (first | exact trivial | exact rfl | exact Nat.le_refl _ | exact S.cx.giveEq | exact S.cx.lendLe (by assumption) | exact S.cx.lendEq (by assumption) | exact S.cx.lendLe0 | exact S.cx.lendEq0 | exact S.cx.partLe (by assumption) | exact S.cx.partEq (by assumption) | exact .inl rfl | refine ⟨?_, ?_⟩))⟩ rfl (fun ln hln l1 hx => ⟨rfl, ?_⟩)
    cbv
    have hM1 := hln cTwig l1
    generalize ln (A.enc cTwig l1) = M1 at hM1 ⊢
    have hl1b : l1.length ≤ 1000000 := by
      rw [hx, Heap.flat_len]
      have := Heap.without_size hqb
      have := Heap.flat_len b
      rw [hbl] at this
      omega
    refine ElemRo.at S.cx (x := x) rfl (by decide) hx0 ?_; cbv
    have hx1 := hx.symm
    refine ACall.valN (r := rTwig A) (os := fun _ => []) (dp := false) S.cx (joined_c S x.due x.seq x.lefts a (b.without q) ll l1 hal hx1 (by omega) (by omega)) ⟨rfl, (by repeat' (first | exact trivial | exact rfl | exact Nat.le_refl _ | exact S.cx.giveEq | exact S.cx.lendLe (by assumption) | exact S.cx.lendEq (by assumption) | exact S.cx.lendLe0 | exact S.cx.lendEq0 | exact S.cx.partLe (by assumption) | exact S.cx.partEq (by assumption) | exact .inl rfl | refine ⟨?_, ?_⟩)), (by repeat' (first | exact trivial | exact rfl | exact Nat.le_refl _ | exact S.cx.giveEq | exact S.cx.lendLe (by assumption) | exact S.cx.lendEq (by assumption) | exact S.cx.lendLe0 | exact S.cx.lendEq0 | exact S.cx.partLe (by assumption) | exact S.cx.partEq (by assumption) | exact .inl rfl | refine ⟨?_, ?_⟩))⟩ rfl (fun ln hln l2 hx => ⟨rfl, ?_⟩)
    cbv
    have hM2 := hln cTwig l2
    generalize ln (A.enc cTwig l2) = M2 at hM2 ⊢
    exact Done.is (r := rTwig A) (x := l2) (by repeat' (first | exact trivial | exact rfl | exact resOwn S.cx rfl (by assumption) | exact resOwn S.cx rfl (S.cx.lenE _ _) | exact resOwn1 S.cx rfl (by assumption) | exact resOwnT S.cx rfl (by assumption) | exact S.cx.enc _ [] | refine ⟨?_, ?_⟩)) rfl (by rw [hx, hte, Heap.without, if_neg h5, if_neg hqa])

theorem without_c (S : Se P A) (t : Heap) (l : List Twig) (q : Int) (hl : t.flat = l) (hq : q ∈ t.seqs) (hb : l.length ≤ 1000000) : Is1 P 162 [.ro (A.enc cTwig l), .int .i64 q] (rTwig A (t.without q).flat) := by
  obtain ⟨n, hn⟩ : ∃ n, t.size = n := ⟨_, rfl⟩
  induction n using Nat.strongRecOn generalizing t l with
  | _ n ih => exact without_step S t l q hl hq hb fun t' l' h1 h2 h3 h4 => ih t'.size (by omega) t' l' h1 h2 h3 rfl

end Go.Proofs.Ytmbckmfihcojoaa.AM
