/- Contracts: valid heaps; one put, one taken out. (printed by ge7.py) -/
import Derived.Test.YtgooambndfkgkaaGreatE6
namespace Go.Proofs.YtgooambndfkgkaaGreat.AM
open Go Go.Proofs

set_option maxRecDepth 100000
set_option maxHeartbeats 4000000
set_option linter.unusedVariables false
set_option linter.unusedSimpArgs false

variable {P : Program} {A : Sy}

theorem Heap.without_size {q : Int} : ∀ {h : Heap}, q ∈ h.seqs → (h.without q).size + 1 = h.size
  | .nil, hq => by simp [Heap.seqs] at hq
  | .node d s l r, hq => by
    simp only [Heap.without]
    split
    · rw [Heap.merge_size]; simp only [Heap.size]; omega
    · rename_i hs
      split
      · rename_i hl
        have := Heap.without_size hl
        rw [Heap.join_size]; simp only [Heap.size]; omega
      · rename_i hl
        have hr : q ∈ r.seqs := by
          rw [Heap.seqs] at hq
          rcases List.mem_cons.1 hq with e | e
          · exact absurd e.symm hs
          · rcases List.mem_append.1 e with e | e
            · exact absurd e hl
            · exact e
        have := Heap.without_size hr
        rw [Heap.join_size]; simp only [Heap.size]; omega

def HeapOk (l : List Twig) : Prop := l.length ≤ 64 ∧ (l.map (·.seq)).Nodup ∧ Heap.Is l
instance (l : List Twig) : Decidable (HeapOk l) := by unfold HeapOk; infer_instance

theorem nodup_next {l : List Twig} {i i' : Int} {x : Twig} (h0 : 0 ≤ i) (hx : l[i.toNat]? = some x) (hn : ((l.take i.toNat).map (·.seq)).Nodup) (hi : i' = i + 1) (hm : x.seq ∉ (l.take i.toNat).map (·.seq)) : ((l.take i'.toNat).map (·.seq)).Nodup := by
  rw [show i'.toNat = i.toNat + 1 by omega, take_next hx, List.map_append]
  refine List.nodup_append.2 ⟨hn, by simp, fun a ha b hb e => hm ?_⟩
  have : b = x.seq := by simpa using hb
  rw [← this, ← e]; exact ha

theorem nodup_not {l : List Twig} {i : Int} {x : Twig} (h0 : 0 ≤ i) (hx : l[i.toNat]? = some x) (hm : x.seq ∈ (l.take i.toNat).map (·.seq)) : ¬ (l.map (·.seq)).Nodup := fun hn => by
  have h1 : ((l.take (i.toNat + 1)).map (·.seq)).Nodup := by
    rw [List.map_take]
    exact hn.sublist (List.take_sublist _ _)
  rw [take_next hx, List.map_append] at h1
  exact (List.nodup_append.1 h1).2.2 _ hm _ (by simp) rfl

theorem implHeapOk_c (S : Se P A) (l : List Twig) : Tests P 140 [.ro (A.enc cTwig l)] (HeapOk l) := by
  refine S.cx.by (S.prog ▸ Tryz.func140) rfl rfl rfl rfl (fun hv ho => ?_)
  cbv
  refine LenR.nat S.cx (fun N hN hm => ?_); cbv
  refine Test.gtr (fun h => ?_) (fun h => ?_) <;> cbv
  · exact Done.no fun e => by have := e.1; lia
  have hl64 : l.length ≤ 64 := by lia
  refine LenR.nat S.cx (fun M hM hm2 => ?_); cbv
  refine ALoop.goS (ι := Int) (fun i => [(10, .int .i64 i)]) [] (fun i => []) (fun i => 0 ≤ i ∧ ((l.take i.toNat).map (·.seq)).Nodup) (fun i => (l.length - i).toNat) (0) S.cx.tab S.cx.mix S.eq ?_ ?_ ?_
  · exact ⟨Int.le_refl _, by simp⟩
  · (cbv; refine Less.to [] rfl rfl ?_ ?_ <;> repeat' (first | exact trivial | exact ⟨rfl, rfl⟩ | exact ⟨_, rfl, Nat.zero_le _, rfl⟩ | apply And.intro | exact rfl))
  intro i hk
  obtain ⟨h0, hn⟩ := hk
  refine Rnd.mk ?_; cbv
  refine Test.lss (fun h1 => ?_) (fun h1 => ?_) <;> cbv
  rotate_left
  · have hnd : (l.map (·.seq)).Nodup := by
      rw [take_all (by lia)] at hn; exact hn
    refine ACall.testD (dp := false) (isHeap_c S l (by omega)) ⟨rfl, (by repeat' (first | exact trivial | exact rfl | exact Nat.le_refl _ | exact S.cx.giveEq | exact S.cx.lendLe (by assumption) | exact S.cx.lendEq (by assumption) | exact S.cx.lendLe0 | exact S.cx.lendEq0 | exact S.cx.partLe (by assumption) | exact S.cx.partEq (by assumption) | exact S.cx.enc _ [] | exact .inl rfl | refine ⟨?_, ?_⟩)), (by repeat' (first | exact trivial | exact rfl | exact Nat.le_refl _ | exact S.cx.giveEq | exact S.cx.lendLe (by assumption) | exact S.cx.lendEq (by assumption) | exact S.cx.lendLe0 | exact S.cx.lendEq0 | exact S.cx.partLe (by assumption) | exact S.cx.partEq (by assumption) | exact S.cx.enc _ [] | exact .inl rfl | refine ⟨?_, ?_⟩))⟩ rfl (fun h2 => ?_) (fun h2 => ?_) <;> cbv
    · exact Done.yes ⟨hl64, hnd, h2⟩
    · exact Done.no fun e => h2 e.2.2
  refine ElemRo.enc S.cx (fun _ => rfl) (by lia) (by lia) (fun x hx => ?_); cbv
  try (refine Drawn.mk ⟨by kernel_rfl, fun _ => ?_⟩)
  refine CutRo.enc S.cx (fun _ => rfl) (by decide) (by lia) (by lia) (fun a ha => ?_); cbv
  have ha' : a = l.take i.toNat := by rw [ha]; rfl
  refine ACall.int (dp := false) (seqAt_c S a x.seq) ⟨rfl, (by repeat' (first | exact trivial | exact rfl | exact Nat.le_refl _ | exact S.cx.giveEq | exact S.cx.lendLe (by assumption) | exact S.cx.lendEq (by assumption) | exact S.cx.lendLe0 | exact S.cx.lendEq0 | exact S.cx.partLe (by assumption) | exact S.cx.partEq (by assumption) | exact S.cx.enc _ [] | exact .inl rfl | refine ⟨?_, ?_⟩)), (by repeat' (first | exact trivial | exact rfl | exact Nat.le_refl _ | exact S.cx.giveEq | exact S.cx.lendLe (by assumption) | exact S.cx.lendEq (by assumption) | exact S.cx.lendLe0 | exact S.cx.lendEq0 | exact S.cx.partLe (by assumption) | exact S.cx.partEq (by assumption) | exact S.cx.enc _ [] | exact .inl rfl | refine ⟨?_, ?_⟩))⟩ rfl (fun r hr => ?_); cbv
  have hri := seqIdx_le a x.seq
  rw [← hr, ha'] at hri
  refine Test.geq (fun h2 => ?_) (fun h2 => ?_) <;> cbv
  · exact Done.no fun e => nodup_not h0 hx (hri.1 (by omega)) e.2.1
  refine Arith.go (by lia) (fun i' hi' => ?_); cbv
  refine Again.on i' (by lia) ⟨by lia, nodup_next h0 hx hn hi' (fun e => by have := hri.2 e; omega)⟩ ?_
  (cbv; refine Less.to [] rfl rfl ?_ ?_ <;> repeat' (first | exact trivial | exact ⟨rfl, rfl⟩ | exact ⟨_, rfl, Nat.zero_le _, rfl⟩ | apply And.intro | exact rfl))

end Go.Proofs.YtgooambndfkgkaaGreat.AM
