/- Contracts: valid timers of the spec. (printed by ge14.py) -/
import Derived.Test.YtgooambndfkgkaaGreatE13
namespace Go.Proofs.YtgooambndfkgkaaGreat.AM
open Go Go.Proofs

set_option maxRecDepth 100000
set_option maxHeartbeats 4000000
set_option linter.unusedVariables false
set_option linter.unusedSimpArgs false

variable {P : Program} {A : Sy}

theorem specTimersOk_c (S : Se P A) (heap : List Twig) (list : List Timer) (next : Int) : Tests P 208 [.agg (roTimers A ⟨heap, list, next⟩)] (TimersOk ⟨heap, list, next⟩) := by
  refine S.cx.by (S.prog ▸ Tryz.func208) rfl rfl rfl rfl (fun hv ho => ?_)
  cbv
  refine ACall.testD (dp := false) (specHeapOk_c S heap) ⟨rfl, (by repeat' (first | exact trivial | exact rfl | exact Nat.le_refl _ | exact S.cx.giveEq | exact S.cx.lendLe (by assumption) | exact S.cx.lendEq (by assumption) | exact S.cx.lendLe0 | exact S.cx.lendEq0 | exact S.cx.partLe (by assumption) | exact S.cx.partEq (by assumption) | exact S.cx.enc _ [] | exact .inl rfl | refine ⟨?_, ?_⟩)), (by repeat' (first | exact trivial | exact rfl | exact Nat.le_refl _ | exact S.cx.giveEq | exact S.cx.lendLe (by assumption) | exact S.cx.lendEq (by assumption) | exact S.cx.lendLe0 | exact S.cx.lendEq0 | exact S.cx.partLe (by assumption) | exact S.cx.partEq (by assumption) | exact S.cx.enc _ [] | exact .inl rfl | refine ⟨?_, ?_⟩))⟩ rfl (fun h3 => ?_) (fun h3 => ?_) <;> cbv
  rotate_left
  · exact Done.no fun e => h3 e.2.2.1
  refine LenR.nat S.cx (fun N hN hm => ?_); cbv
  refine Test.gtr (fun h2 => ?_) (fun h2 => ?_) <;> cbv
  · exact Done.no fun e => by have := e.2.1; dsimp only at this; lia
  have hl64 : list.length ≤ 64 := by lia
  refine ACall.testD (dp := false) (l1In_c S next 0 1000000) ⟨rfl, (by repeat' (first | exact trivial | exact rfl | exact Nat.le_refl _ | exact S.cx.giveEq | exact S.cx.lendLe (by assumption) | exact S.cx.lendEq (by assumption) | exact S.cx.lendLe0 | exact S.cx.lendEq0 | exact S.cx.partLe (by assumption) | exact S.cx.partEq (by assumption) | exact S.cx.enc _ [] | exact .inl rfl | refine ⟨?_, ?_⟩)), (by repeat' (first | exact trivial | exact rfl | exact Nat.le_refl _ | exact S.cx.giveEq | exact S.cx.lendLe (by assumption) | exact S.cx.lendEq (by assumption) | exact S.cx.lendLe0 | exact S.cx.lendEq0 | exact S.cx.partLe (by assumption) | exact S.cx.partEq (by assumption) | exact S.cx.enc _ [] | exact .inl rfl | refine ⟨?_, ?_⟩))⟩ rfl (fun h1 => ?_) (fun h1 => ?_) <;> cbv
  rotate_left
  · exact Done.no fun e => h1 e.1
  refine ALoop.goS (ι := Int × Int) (fun i => [(4, .int .i64 i.1), (3, .int .i64 i.2)]) [] (fun i => []) (fun i => 0 ≤ i.1 ∧ (∀ x ∈ list.take i.1.toNat, x.ok next) ∧ (list.take i.1.toNat).Pairwise (fun x y => x.seq < y.seq) ∧ 0 ≤ i.2 ∧ i.2.toNat = armedN (list.take i.1.toNat)) (fun i => (list.length - i.1).toNat) (0, 0) S.cx.tab S.cx.mix S.eq ?_ ?_ ?_
  · exact ⟨Int.le_refl _, by simp, by simp, Int.le_refl _, rfl⟩
  · (cbv; refine Less.to [] rfl rfl ?_ ?_ <;> repeat' (first | exact trivial | exact ⟨rfl, rfl⟩ | exact ⟨_, rfl, Nat.zero_le _, rfl⟩ | apply And.intro | exact rfl))
  intro i hk
  obtain ⟨i, n⟩ := i
  obtain ⟨h0, hall, hpw, hn0, hn⟩ := hk
  dsimp only at h0 hall hpw hn0 hn
  refine Rnd.mk ?_; cbv
  refine LenR.nat S.cx (fun M hM hm2 => ?_); cbv
  refine Test.lss (fun h4 => ?_) (fun h4 => ?_) <;> cbv
  · obtain ⟨y, hy⟩ := get_of_lt (show i.toNat < list.length by lia)
    obtain ⟨ys, yd, yw, yh, ya⟩ := y
    have hym := mem_at hy
    have htn := take_next hy
    have han := armedN_le (list.take i.toNat)
    rw [List.length_take] at han
    try (refine Drawn.mk ⟨by kernel_rfl, fun _ => ?_⟩)
    refine ElemRo.at S.cx (x := (⟨ys, yd, yw, yh, ya⟩ : Timer)) rfl (by lia) hy ?_; cbv
    refine ACall.testD (dp := false) (l4Timer_c S ys yd yw yh ya next h1) ⟨rfl, (by repeat' (first | exact trivial | exact rfl | exact Nat.le_refl _ | exact S.cx.giveEq | exact S.cx.lendLe (by assumption) | exact S.cx.lendEq (by assumption) | exact S.cx.lendLe0 | exact S.cx.lendEq0 | exact S.cx.partLe (by assumption) | exact S.cx.partEq (by assumption) | exact S.cx.enc _ [] | exact .inl rfl | refine ⟨?_, ?_⟩)), (by repeat' (first | exact trivial | exact rfl | exact Nat.le_refl _ | exact S.cx.giveEq | exact S.cx.lendLe (by assumption) | exact S.cx.lendEq (by assumption) | exact S.cx.lendLe0 | exact S.cx.lendEq0 | exact S.cx.partLe (by assumption) | exact S.cx.partEq (by assumption) | exact S.cx.enc _ [] | exact .inl rfl | refine ⟨?_, ?_⟩))⟩ rfl (fun h5 => ?_) (fun h5 => ?_) <;> cbv
    rotate_left
    · exact Done.no fun e => h5 (e.2.2.2.1 _ hym)
    refine Test.gtr (fun h6 => ?_) (fun h6 => ?_) <;> cbv
    · obtain ⟨k, hk⟩ : ∃ k, k = i - 1 := ⟨_, rfl⟩
      obtain ⟨z, hz⟩ := get_of_lt (show k.toNat < list.length by lia)
      obtain ⟨zs, zd, zw, zh, za⟩ := z
      refine ElemRo.at S.cx (x := (⟨ys, yd, yw, yh, ya⟩ : Timer)) rfl (by lia) hy ?_; cbv
      refine Arith.go (by lia) (fun k' hk' => ?_)
      obtain rfl : k' = k := hk'.trans hk.symm
      cbv
      refine ElemRo.at S.cx (x := (⟨zs, zd, zw, zh, za⟩ : Timer)) rfl (by lia) hz ?_; cbv
      have hzm : (⟨zs, zd, zw, zh, za⟩ : Timer) ∈ list.take i.toNat := mem_at (j := k'.toNat) (by rw [List.getElem?_take_of_lt (by lia)]; exact hz)
      refine Test.leq (fun h7 => ?_) (fun h7 => ?_) <;> cbv
      · refine Done.no fun e => ?_
        have := asc_at e.2.2.2.2.1 hzm hy
        dsimp only at this
        omega
      have hprev : ∀ x ∈ list.take i.toNat, x.seq < ys := fun x hx => by
        have e1 : list.take i.toNat = list.take k'.toNat ++ [⟨zs, zd, zw, zh, za⟩] := by rw [show i.toNat = k'.toNat + 1 by lia, take_next hz]
        rw [e1] at hx hpw
        rcases List.mem_append.1 hx with hx | hx
        · have := (List.pairwise_append.1 hpw).2.2 x hx _ (List.mem_singleton.2 rfl)
          dsimp only at this; omega
        · rw [List.mem_singleton.1 hx]; dsimp only; omega
      have hnext : ∀ i', i' = i + 1 → (∀ x ∈ list.take i'.toNat, x.ok next) ∧ (list.take i'.toNat).Pairwise (fun x y => x.seq < y.seq) := fun i' hi' => by
        rw [show i'.toNat = i.toNat + 1 by omega, htn]
        refine ⟨fun x hx => ?_, List.pairwise_append.2 ⟨hpw, by simp, fun a ha b hb => ?_⟩⟩
        · rcases List.mem_append.1 hx with hx | hx
          · exact hall x hx
          · rw [List.mem_singleton.1 hx]; exact h5
        · rw [List.mem_singleton.1 hb]; exact hprev a ha
      refine ElemRo.at S.cx (x := (⟨ys, yd, yw, yh, ya⟩ : Timer)) rfl (by lia) hy ?_; cbv
      cases ya <;> cbv
      · refine Arith.go (by lia) (fun i' hi' => ?_); cbv
        have hx := hnext i' hi'
        refine Again.on (i', n) (by dsimp only; lia) ⟨by dsimp only; lia, hx.1, hx.2, hn0, ?_⟩ ?_
        · dsimp only
          rw [armedN_next h0 hy hi']; simpa using hn
        · (cbv; refine Less.to [] rfl rfl ?_ ?_ <;> repeat' (first | exact trivial | exact ⟨rfl, rfl⟩ | exact ⟨_, rfl, Nat.zero_le _, rfl⟩ | apply And.intro | exact rfl))
      · refine Arith.go (by lia) (fun n' hn' => ?_); replace hn' : n' = n + 1 := hn'; cbv
        refine Arith.go (by lia) (fun i' hi' => ?_); cbv
        have hx := hnext i' hi'
        refine Again.on (i', n') (by dsimp only; lia) ⟨by dsimp only; lia, hx.1, hx.2, by dsimp only; lia, ?_⟩ ?_
        · dsimp only
          rw [armedN_next h0 hy hi']; show n'.toNat = armedN (list.take i.toNat) + 1; lia
        · (cbv; refine Less.to [] rfl rfl ?_ ?_ <;> repeat' (first | exact trivial | exact ⟨rfl, rfl⟩ | exact ⟨_, rfl, Nat.zero_le _, rfl⟩ | apply And.intro | exact rfl))
    · have hprev : ∀ x ∈ list.take i.toNat, x.seq < ys := fun x hx => by
        rw [show i.toNat = 0 by lia] at hx; simp at hx
      have hnext : ∀ i', i' = i + 1 → (∀ x ∈ list.take i'.toNat, x.ok next) ∧ (list.take i'.toNat).Pairwise (fun x y => x.seq < y.seq) := fun i' hi' => by
        rw [show i'.toNat = i.toNat + 1 by omega, htn]
        refine ⟨fun x hx => ?_, List.pairwise_append.2 ⟨hpw, by simp, fun a ha b hb => ?_⟩⟩
        · rcases List.mem_append.1 hx with hx | hx
          · exact hall x hx
          · rw [List.mem_singleton.1 hx]; exact h5
        · rw [List.mem_singleton.1 hb]; exact hprev a ha
      refine ElemRo.at S.cx (x := (⟨ys, yd, yw, yh, ya⟩ : Timer)) rfl (by lia) hy ?_; cbv
      cases ya <;> cbv
      · refine Arith.go (by lia) (fun i' hi' => ?_); cbv
        have hx := hnext i' hi'
        refine Again.on (i', n) (by dsimp only; lia) ⟨by dsimp only; lia, hx.1, hx.2, hn0, ?_⟩ ?_
        · dsimp only
          rw [armedN_next h0 hy hi']; simpa using hn
        · (cbv; refine Less.to [] rfl rfl ?_ ?_ <;> repeat' (first | exact trivial | exact ⟨rfl, rfl⟩ | exact ⟨_, rfl, Nat.zero_le _, rfl⟩ | apply And.intro | exact rfl))
      · refine Arith.go (by lia) (fun n' hn' => ?_); replace hn' : n' = n + 1 := hn'; cbv
        refine Arith.go (by lia) (fun i' hi' => ?_); cbv
        have hx := hnext i' hi'
        refine Again.on (i', n') (by dsimp only; lia) ⟨by dsimp only; lia, hx.1, hx.2, by dsimp only; lia, ?_⟩ ?_
        · dsimp only
          rw [armedN_next h0 hy hi']; show n'.toNat = armedN (list.take i.toNat) + 1; lia
        · (cbv; refine Less.to [] rfl rfl ?_ ?_ <;> repeat' (first | exact trivial | exact ⟨rfl, rfl⟩ | exact ⟨_, rfl, Nat.zero_le _, rfl⟩ | apply And.intro | exact rfl))
  rw [take_all (by lia)] at hall hpw hn
  clear h4 h0
  refine ALoop.goS (ι := Int) (fun i => [(5, .int .i64 i)]) [] (fun i => []) (fun i => 0 ≤ i ∧ ∀ x ∈ heap.take i.toNat, Held list x) (fun i => (heap.length - i).toNat) (0) S.cx.tab S.cx.mix S.eq ?_ ?_ ?_
  · exact ⟨Int.le_refl _, by simp⟩
  · (cbv; refine Less.to [] rfl rfl ?_ ?_ <;> repeat' (first | exact trivial | exact ⟨rfl, rfl⟩ | exact ⟨_, rfl, Nat.zero_le _, rfl⟩ | apply And.intro | exact rfl))
  intro j hj
  obtain ⟨j0, hj⟩ := hj
  refine Rnd.mk ?_; cbv
  refine LenR.nat S.cx (fun H hH hHm => ?_); cbv
  refine Test.lss (fun h5 => ?_) (fun h5 => ?_) <;> cbv
  rotate_left
  · rw [take_all (by lia)] at hj
    refine LenR.nat S.cx (fun H2 hH2 hHm2 => ?_); cbv
    refine Test.eql (fun h6 => ?_) (fun h6 => ?_) <;> cbv
    · exact Done.yes ⟨h1, hl64, h3, hall, hpw, by dsimp only; lia, hj⟩
    · exact Done.no fun e => by have := e.2.2.2.2.2.1; dsimp only at this; lia
  obtain ⟨x, hx⟩ := get_of_lt (show j.toNat < heap.length by lia)
  obtain ⟨xd, xs, xk⟩ := x
  have hxm := mem_at hx
  try (refine Drawn.mk ⟨by kernel_rfl, fun _ => ?_⟩)
  refine ElemRo.at S.cx (x := (⟨xd, xs, xk⟩ : Twig)) rfl (by lia) hx ?_; cbv
  refine ACall.int (dp := false) (l4At_c S heap list next xs) ⟨rfl, (by repeat' (first | exact trivial | exact rfl | exact Nat.le_refl _ | exact S.cx.giveEq | exact S.cx.lendLe (by assumption) | exact S.cx.lendEq (by assumption) | exact S.cx.lendLe0 | exact S.cx.lendEq0 | exact S.cx.partLe (by assumption) | exact S.cx.partEq (by assumption) | exact S.cx.enc _ [] | exact .inl rfl | refine ⟨?_, ?_⟩)), (by repeat' (first | exact trivial | exact rfl | exact Nat.le_refl _ | exact S.cx.giveEq | exact S.cx.lendLe (by assumption) | exact S.cx.lendEq (by assumption) | exact S.cx.lendLe0 | exact S.cx.lendEq0 | exact S.cx.partLe (by assumption) | exact S.cx.partEq (by assumption) | exact S.cx.enc _ [] | exact .inl rfl | refine ⟨?_, ?_⟩))⟩ rfl (fun r hr => ?_); cbv
  have hne := @timIdx_none list xs
  have hso := @timIdx_some list xs
  rw [← hr] at hne hso
  try (refine Drawn.mk ⟨by kernel_rfl, fun _ => ?_⟩)
  refine Test.lss (fun h7 => ?_) (fun h7 => ?_) <;> cbv
  · refine Done.no fun e => ?_
    obtain ⟨y, hy, e1, _⟩ := e.2.2.2.2.2.2 _ hxm
    exact hne h7 y hy e1
  obtain ⟨⟨ys, yd, yw, yh, ya⟩, hy, he⟩ := hso (by omega)
  have hym := mem_at hy
  dsimp only at he
  refine ElemRo.at S.cx (x := (⟨ys, yd, yw, yh, ya⟩ : Timer)) rfl (by omega) hy ?_; cbv
  cases ya <;> cbv
  · refine Done.no fun e => ?_
    obtain ⟨z, hz, e1, e2, _⟩ := e.2.2.2.2.2.2 _ hxm
    rw [asc_eq hpw hz hym (e1.trans he.symm)] at e2
    cases e2
  refine ElemRo.at S.cx (x := (⟨ys, yd, yw, yh, true⟩ : Timer)) rfl (by omega) hy ?_; cbv
  refine ElemRo.at S.cx (x := (⟨xd, xs, xk⟩ : Twig)) rfl (by lia) hx ?_; cbv
  refine Test.neq (fun h8 => ?_) (fun h8 => ?_) <;> cbv
  · refine Done.no fun e => ?_
    obtain ⟨z, hz, e1, _, e3⟩ := e.2.2.2.2.2.2 _ hxm
    rw [asc_eq hpw hz hym (e1.trans he.symm)] at e3
    exact h8 e3
  refine Arith.go (by lia) (fun j' hj' => ?_); cbv
  refine Again.on j' (by lia) ⟨by lia, fun x hx' => ?_⟩ ?_
  · rw [show j'.toNat = j.toNat + 1 by lia, take_next hx] at hx'
    rcases List.mem_append.1 hx' with hx' | hx'
    · exact hj x hx'
    · rw [List.mem_singleton.1 hx']
      exact ⟨_, hym, he, rfl, h8⟩
  · (cbv; refine Less.to [] rfl rfl ?_ ?_ <;> repeat' (first | exact trivial | exact ⟨rfl, rfl⟩ | exact ⟨_, rfl, Nat.zero_le _, rfl⟩ | apply And.intro | exact rfl))

end Go.Proofs.YtgooambndfkgkaaGreat.AM
