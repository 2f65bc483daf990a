/- Contracts: heaps drawn. (printed by gdy.py) -/
import Derived.Test.YtmbckmfihcojoaaDX
import Derived.Test.YtmbckmfihcojoaaE18
import Derived.Test.YtmbckmfihcojoaaB39
namespace Go.Proofs.Ytmbckmfihcojoaa.AM
open Go Go.Proofs

set_option maxRecDepth 100000
set_option maxHeartbeats 4000000
set_option linter.unusedVariables false
set_option linter.unusedSimpArgs false

variable {P : Program} {A : Sy}

theorem merged_few (la lb : List Twig) : (Merged la lb).1.length ≤ 64 := by
  unfold Merged; split
  · rename_i h
    rw [Heap.flat_len, Heap.merge_size, ← Heap.flat_len, ← Heap.flat_len, (heapOf_is h.1.2.2).2, (heapOf_is h.2.1.2.2).2]
    exact h.2.2.1
  · exact Nat.zero_le _

theorem shifted_few (l : List Twig) : (Shifted l).2.1.length ≤ 64 := by
  unfold Shifted; split
  · exact Nat.zero_le _
  · split
    · rename_i x r h
      exact (withoutL_ok x.seq h).1
    · exact Nat.zero_le _

structure YSt where
  l : List Twig
  n : Int
  i : Int
  h : Int
  m : Nat


theorem l3Draw_c (S : Se P A) (code : List Int) (hb : code.length ≤ 4096) (hc : ∀ b ∈ code, 0 ≤ b ∧ b ≤ 255) (i h : Int) (hi : 0 ≤ i) (base : Int) (hba : 0 ≤ base ∧ base ≤ 1000) : SoundM P 217 true [.ptr 1000 0 0, .int .i64 base] [.box [.ro (A.enc cByte code), .int .i64 i, .int .i64 h]]
    (fun v os => ∃ (l : List Twig) (i' h' : Int), l.length ≤ 64 ∧ 0 ≤ i' ∧ v = .own 3 true (A.enc cTwig l) ∧ os = [some (.box [.ro (A.enc cByte code), .int .i64 i', .int .i64 h'])]) := by
  refine S.cx.byS [99999] (S.prog ▸ Try.func217) rfl rfl rfl rfl (fun ln hln hv ho => ?_)
  (cbv; repeat (refine Later.mk ?_; cbv))
  have hn0 := belowF_ok code hb hc i h hi 10
  refine ACall.valN (r := rCur) (os := oCur A code) (dp := false) S.cx (l1Below_c S code hb hc i h hi 10) ⟨rfl, (by repeat' (first | exact trivial | exact rfl | exact Nat.le_refl _ | exact S.cx.giveEq | exact S.cx.lendLe (by assumption) | exact S.cx.lendEq (by assumption) | exact S.cx.lendLe0 | exact S.cx.lendEq0 | exact S.cx.partLe (by assumption) | exact S.cx.partEq (by assumption) | exact .inl rfl | refine ⟨?_, ?_⟩)), (by repeat' (first | exact trivial | exact rfl | exact Nat.le_refl _ | exact S.cx.giveEq | exact S.cx.lendLe (by assumption) | exact S.cx.lendEq (by assumption) | exact S.cx.lendLe0 | exact S.cx.lendEq0 | exact S.cx.partLe (by assumption) | exact S.cx.partEq (by assumption) | exact .inl rfl | refine ⟨?_, ?_⟩))⟩ rfl (fun ln hln x hx => ⟨rfl, ?_⟩)
  obtain ⟨n0, i, h⟩ := x
  (cbv; repeat (refine Later.mk ?_; cbv))
  rw [← hx] at hn0
  dsimp only at hn0
  clear hx hi
  obtain ⟨hn0, hi⟩ := hn0
  have hn8 := hn0.2.1 (by decide)
  have hn7 := hn0.1
  refine ALoop.pre (Less.initE S.cx cTwig 999000001 3 true (t := 5) rfl (by first | exact .inr rfl | exact .inl rfl) rfl) ?_
  (cbv; repeat (refine Later.mk ?_; cbv))
  refine ALoop.goT (ι := YSt) (fun i => [(5, .ref false 999000001 0 i.m), (6, .int .i64 i.n)]) [] [1000, 999000001] (fun i => [(1000, .box [.ro (A.enc cByte code), .int .i64 i.i, .int .i64 i.h]), (999000001, .arr 3 true (A.enc cTwig i.l))]) (fun i => 0 ≤ i.i ∧ i.m = i.l.length ∧ i.l.length ≤ 64 ∧ 0 ≤ i.n ∧ i.n ≤ 10) (fun i => i.n.toNat) (⟨[], n0, i, h, 0⟩) [99999] S.cx.tab S.cx.mix S.eq ?_ ?_ ?_
  · exact ⟨hi, rfl, Nat.zero_le _, by dsimp only; lia, by dsimp only; lia⟩
  · ((cbv; repeat (refine Later.mk ?_; cbv)); refine Less.to [] rfl rfl ?_ ?_ <;> repeat' (first | exact trivial | exact ⟨rfl, rfl⟩ | exact ⟨_, rfl, Nat.zero_le _, rfl⟩ | apply And.intro | exact rfl))
  clear hi
  rintro ⟨l, n, i, h, m⟩ hk
  dsimp only at hk
  obtain ⟨hi, hm, hl64, hn0⟩ := hk
  refine Rnd.mk ?_; (cbv; repeat (refine Later.mk ?_; cbv))
  refine Test.gtr (fun hg => ?_) (fun hg => ?_) <;> (cbv; repeat (refine Later.mk ?_; cbv))
  rotate_left
  · have hbb := onceF_ok code hb hc i h hi 40
    refine ACall.valN (r := rCurB) (os := oCur A code) (dp := false) S.cx (l1Once_c S code hb hc i h hi 40) ⟨rfl, (by repeat' (first | exact trivial | exact rfl | exact Nat.le_refl _ | exact S.cx.giveEq | exact S.cx.lendLe (by assumption) | exact S.cx.lendEq (by assumption) | exact S.cx.lendLe0 | exact S.cx.lendEq0 | exact S.cx.partLe (by assumption) | exact S.cx.partEq (by assumption) | exact .inl rfl | refine ⟨?_, ?_⟩)), (by repeat' (first | exact trivial | exact rfl | exact Nat.le_refl _ | exact S.cx.giveEq | exact S.cx.lendLe (by assumption) | exact S.cx.lendEq (by assumption) | exact S.cx.lendLe0 | exact S.cx.lendEq0 | exact S.cx.partLe (by assumption) | exact S.cx.partEq (by assumption) | exact .inl rfl | refine ⟨?_, ?_⟩))⟩ rfl (fun ln hln x hx => ⟨rfl, ?_⟩)
    obtain ⟨b, i, h⟩ := x
    (cbv; repeat (refine Later.mk ?_; cbv))
    rw [← hx] at hbb
    dsimp only at hbb
    clear hx hi
    obtain ⟨hbb, hi⟩ := hbb
    cases b <;> (cbv; repeat (refine Later.mk ?_; cbv))
    · exact Done.to (.own 3 true (A.enc cTwig l)) [some (.box [.ro (A.enc cByte code), .int .i64 i, .int .i64 h])] rfl (by repeat' (first | exact trivial | exact rfl | exact resOwn S.cx rfl (by assumption) | exact resOwn S.cx rfl (S.cx.lenE _ _) | exact resOwn1 S.cx rfl (by assumption) | exact resOwnT S.cx rfl (by assumption) | exact S.cx.enc _ [] | refine ⟨?_, ?_⟩)) ⟨⟨⟨rfl, .inl rfl⟩, rfl, rfl, trivial⟩, trivial⟩ ⟨l, i, h, hl64, hi, rfl, rfl⟩
    clear hm hl64 hn0
    refine ALoop.pre (Less.initE S.cx cTwig 999000003 3 true (t := 5) rfl (by first | exact .inr rfl | exact .inl rfl) rfl) ?_
    (cbv; repeat (refine Later.mk ?_; cbv))
    refine ALoop.goT (ι := YSt) (fun i => [(5, .ref false 999000003 0 i.m), (10, .int .i64 i.n)]) [] [1000, 999000003] (fun i => [(1000, .box [.ro (A.enc cByte code), .int .i64 i.i, .int .i64 i.h]), (999000003, .arr 3 true (A.enc cTwig i.l))]) (fun i => 0 ≤ i.i ∧ i.m = i.l.length ∧ i.l.length ≤ 64 ∧ 0 ≤ i.n ∧ i.n ≤ 64) (fun i => (64 - i.n).toNat) (⟨[], 0, i, h, 0⟩) [99999] S.cx.tab S.cx.mix S.eq ?_ ?_ ?_
    · exact ⟨hi, rfl, Nat.zero_le _, by dsimp only; decide, by dsimp only; decide⟩
    · ((cbv; repeat (refine Later.mk ?_; cbv)); refine Less.to [] rfl rfl ?_ ?_ <;> repeat' (first | exact trivial | exact ⟨rfl, rfl⟩ | exact ⟨_, rfl, Nat.zero_le _, rfl⟩ | apply And.intro | exact rfl))
    clear hi
    rintro ⟨l, n, i, h, m⟩ hk
    dsimp only at hk
    obtain ⟨hi, hm, hl64, hn0⟩ := hk
    refine Rnd.mk ?_; (cbv; repeat (refine Later.mk ?_; cbv))
    have hy := belowF_ok code hb hc i h hi 2
    refine ACall.valN (r := rCur) (os := oCur A code) (dp := false) S.cx (l1Below_c S code hb hc i h hi 2) ⟨rfl, (by repeat' (first | exact trivial | exact rfl | exact Nat.le_refl _ | exact S.cx.giveEq | exact S.cx.lendLe (by assumption) | exact S.cx.lendEq (by assumption) | exact S.cx.lendLe0 | exact S.cx.lendEq0 | exact S.cx.partLe (by assumption) | exact S.cx.partEq (by assumption) | exact .inl rfl | refine ⟨?_, ?_⟩)), (by repeat' (first | exact trivial | exact rfl | exact Nat.le_refl _ | exact S.cx.giveEq | exact S.cx.lendLe (by assumption) | exact S.cx.lendEq (by assumption) | exact S.cx.lendLe0 | exact S.cx.lendEq0 | exact S.cx.partLe (by assumption) | exact S.cx.partEq (by assumption) | exact .inl rfl | refine ⟨?_, ?_⟩))⟩ rfl (fun ln hln x hx => ⟨rfl, ?_⟩)
    obtain ⟨y, i, h⟩ := x
    (cbv; repeat (refine Later.mk ?_; cbv))
    rw [← hx] at hy
    dsimp only at hy
    clear hx hi
    obtain ⟨hy, hi⟩ := hy
    have hy9 := hy.2.1 (by decide)
    refine Arith.go (by lia) (fun lim hlim => ?_); replace hlim : lim = 64 - y := hlim; (cbv; repeat (refine Later.mk ?_; cbv))
    refine Test.lss (fun hg2 => ?_) (fun hg2 => ?_) <;> (cbv; repeat (refine Later.mk ?_; cbv))
    · have hd := belowF_ok code hb hc i h hi 50
      refine ACall.valN (r := rCur) (os := oCur A code) (dp := false) S.cx (l1Below_c S code hb hc i h hi 50) ⟨rfl, (by repeat' (first | exact trivial | exact rfl | exact Nat.le_refl _ | exact S.cx.giveEq | exact S.cx.lendLe (by assumption) | exact S.cx.lendEq (by assumption) | exact S.cx.lendLe0 | exact S.cx.lendEq0 | exact S.cx.partLe (by assumption) | exact S.cx.partEq (by assumption) | exact .inl rfl | refine ⟨?_, ?_⟩)), (by repeat' (first | exact trivial | exact rfl | exact Nat.le_refl _ | exact S.cx.giveEq | exact S.cx.lendLe (by assumption) | exact S.cx.lendEq (by assumption) | exact S.cx.lendLe0 | exact S.cx.lendEq0 | exact S.cx.partLe (by assumption) | exact S.cx.partEq (by assumption) | exact .inl rfl | refine ⟨?_, ?_⟩))⟩ rfl (fun ln hln x hx => ⟨rfl, ?_⟩)
      obtain ⟨d, i, h⟩ := x
      (cbv; repeat (refine Later.mk ?_; cbv))
      rw [← hx] at hd
      dsimp only at hd
      clear hx hi
      obtain ⟨hd, hi⟩ := hd
      refine Arith.go (by lia) (fun sq hsq => ?_); (cbv; repeat (refine Later.mk ?_; cbv))
      refine ACall.valN (r := rTwB A) (os := fun _ => []) (dp := false) S.cx (specPut_c S l d sq) ⟨rfl, (by repeat' (first | exact trivial | exact rfl | exact Nat.le_refl _ | exact S.cx.giveEq | exact S.cx.lendLe (by assumption) | exact S.cx.lendEq (by assumption) | exact S.cx.lendLe0 | exact S.cx.lendEq0 | exact S.cx.partLe (by assumption) | exact S.cx.partEq (by assumption) | exact .inl rfl | refine ⟨?_, ?_⟩)), (by repeat' (first | exact trivial | exact rfl | exact Nat.le_refl _ | exact S.cx.giveEq | exact S.cx.lendLe (by assumption) | exact S.cx.lendEq (by assumption) | exact S.cx.lendLe0 | exact S.cx.lendEq0 | exact S.cx.partLe (by assumption) | exact S.cx.partEq (by assumption) | exact .inl rfl | refine ⟨?_, ?_⟩))⟩ rfl (fun ln hln x hx => ⟨rfl, ?_⟩)
      obtain ⟨w, is⟩ := x
      (cbv; repeat (refine Later.mk ?_; cbv))
      have hN := hln cTwig w
      generalize ln (A.enc cTwig w) = N at hN ⊢
      have hw64 : w.length ≤ 64 := by have := merged_few l [⟨d, sq, 0⟩]; rw [← hx] at this; exact this
      clear hx
      refine Arith.go (by lia) (fun n' hn' => ?_); (cbv; repeat (refine Later.mk ?_; cbv))
      replace hn' : n' = n + 1 := hn'
      refine Again.on (⟨w, n', i, h, N⟩ : YSt) (by dsimp only; lia) ⟨hi, hN, hw64, by dsimp only; lia, by dsimp only; lia⟩ ?_
      ((cbv; repeat (refine Later.mk ?_; cbv)); refine Less.to [(999000003, (19060000, 0))] rfl rfl ?_ ?_ <;> repeat' (first | exact trivial | exact ⟨rfl, rfl⟩ | exact ⟨_, rfl, Nat.zero_le _, rfl⟩ | apply And.intro | exact rfl))
    exact Done.to (.own 3 true (A.enc cTwig l)) [some (.box [.ro (A.enc cByte code), .int .i64 i, .int .i64 h])] rfl (by repeat' (first | exact trivial | exact rfl | exact resOwn S.cx rfl (by assumption) | exact resOwn S.cx rfl (S.cx.lenE _ _) | exact resOwn1 S.cx rfl (by assumption) | exact resOwnT S.cx rfl (by assumption) | exact S.cx.enc _ [] | refine ⟨?_, ?_⟩)) ⟨⟨⟨rfl, .inl rfl⟩, rfl, rfl, trivial⟩, trivial⟩ ⟨l, i, h, hl64, hi, rfl, rfl⟩
  have hbb := onceF_ok code hb hc i h hi 4
  refine ACall.valN (r := rCurB) (os := oCur A code) (dp := false) S.cx (l1Once_c S code hb hc i h hi 4) ⟨rfl, (by repeat' (first | exact trivial | exact rfl | exact Nat.le_refl _ | exact S.cx.giveEq | exact S.cx.lendLe (by assumption) | exact S.cx.lendEq (by assumption) | exact S.cx.lendLe0 | exact S.cx.lendEq0 | exact S.cx.partLe (by assumption) | exact S.cx.partEq (by assumption) | exact .inl rfl | refine ⟨?_, ?_⟩)), (by repeat' (first | exact trivial | exact rfl | exact Nat.le_refl _ | exact S.cx.giveEq | exact S.cx.lendLe (by assumption) | exact S.cx.lendEq (by assumption) | exact S.cx.lendLe0 | exact S.cx.lendEq0 | exact S.cx.partLe (by assumption) | exact S.cx.partEq (by assumption) | exact .inl rfl | refine ⟨?_, ?_⟩))⟩ rfl (fun ln hln x hx => ⟨rfl, ?_⟩)
  obtain ⟨b, i, h⟩ := x
  (cbv; repeat (refine Later.mk ?_; cbv))
  rw [← hx] at hbb
  dsimp only at hbb
  clear hx hi
  obtain ⟨hbb, hi⟩ := hbb
  cases b <;> (cbv; repeat (refine Later.mk ?_; cbv))
  · have hd := belowF_ok code hb hc i h hi 12
    refine ACall.valN (r := rCur) (os := oCur A code) (dp := false) S.cx (l1Below_c S code hb hc i h hi 12) ⟨rfl, (by repeat' (first | exact trivial | exact rfl | exact Nat.le_refl _ | exact S.cx.giveEq | exact S.cx.lendLe (by assumption) | exact S.cx.lendEq (by assumption) | exact S.cx.lendLe0 | exact S.cx.lendEq0 | exact S.cx.partLe (by assumption) | exact S.cx.partEq (by assumption) | exact .inl rfl | refine ⟨?_, ?_⟩)), (by repeat' (first | exact trivial | exact rfl | exact Nat.le_refl _ | exact S.cx.giveEq | exact S.cx.lendLe (by assumption) | exact S.cx.lendEq (by assumption) | exact S.cx.lendLe0 | exact S.cx.lendEq0 | exact S.cx.partLe (by assumption) | exact S.cx.partEq (by assumption) | exact .inl rfl | refine ⟨?_, ?_⟩))⟩ rfl (fun ln hln x hx => ⟨rfl, ?_⟩)
    obtain ⟨d, i, h⟩ := x
    (cbv; repeat (refine Later.mk ?_; cbv))
    rw [← hx] at hd
    dsimp only at hd
    clear hx hi
    obtain ⟨hd, hi⟩ := hd
    have hbb2 := onceF_ok code hb hc i h hi 12
    refine ACall.valN (r := rCurB) (os := oCur A code) (dp := false) S.cx (l1Once_c S code hb hc i h hi 12) ⟨rfl, (by repeat' (first | exact trivial | exact rfl | exact Nat.le_refl _ | exact S.cx.giveEq | exact S.cx.lendLe (by assumption) | exact S.cx.lendEq (by assumption) | exact S.cx.lendLe0 | exact S.cx.lendEq0 | exact S.cx.partLe (by assumption) | exact S.cx.partEq (by assumption) | exact .inl rfl | refine ⟨?_, ?_⟩)), (by repeat' (first | exact trivial | exact rfl | exact Nat.le_refl _ | exact S.cx.giveEq | exact S.cx.lendLe (by assumption) | exact S.cx.lendEq (by assumption) | exact S.cx.lendLe0 | exact S.cx.lendEq0 | exact S.cx.partLe (by assumption) | exact S.cx.partEq (by assumption) | exact .inl rfl | refine ⟨?_, ?_⟩))⟩ rfl (fun ln hln x hx => ⟨rfl, ?_⟩)
    obtain ⟨b2, i, h⟩ := x
    (cbv; repeat (refine Later.mk ?_; cbv))
    rw [← hx] at hbb2
    dsimp only at hbb2
    clear hx hi
    obtain ⟨hbb2, hi⟩ := hbb2
    cases b2 <;> (cbv; repeat (refine Later.mk ?_; cbv))
    · have hz := belowF_ok code hb hc i h hi 14
      refine ACall.valN (r := rCur) (os := oCur A code) (dp := false) S.cx (l1Below_c S code hb hc i h hi 14) ⟨rfl, (by repeat' (first | exact trivial | exact rfl | exact Nat.le_refl _ | exact S.cx.giveEq | exact S.cx.lendLe (by assumption) | exact S.cx.lendEq (by assumption) | exact S.cx.lendLe0 | exact S.cx.lendEq0 | exact S.cx.partLe (by assumption) | exact S.cx.partEq (by assumption) | exact .inl rfl | refine ⟨?_, ?_⟩)), (by repeat' (first | exact trivial | exact rfl | exact Nat.le_refl _ | exact S.cx.giveEq | exact S.cx.lendLe (by assumption) | exact S.cx.lendEq (by assumption) | exact S.cx.lendLe0 | exact S.cx.lendEq0 | exact S.cx.partLe (by assumption) | exact S.cx.partEq (by assumption) | exact .inl rfl | refine ⟨?_, ?_⟩))⟩ rfl (fun ln hln x hx => ⟨rfl, ?_⟩)
      obtain ⟨z, i, h⟩ := x
      (cbv; repeat (refine Later.mk ?_; cbv))
      rw [← hx] at hz
      dsimp only at hz
      clear hx hi
      obtain ⟨hz, hi⟩ := hz
      have hz9 := hz.2.1 (by decide)
      refine Arith.go (by lia) (fun sq hsq => ?_); (cbv; repeat (refine Later.mk ?_; cbv))
      refine ACall.valN (r := rTwB A) (os := fun _ => []) (dp := false) S.cx (specPut_c S l d sq) ⟨rfl, (by repeat' (first | exact trivial | exact rfl | exact Nat.le_refl _ | exact S.cx.giveEq | exact S.cx.lendLe (by assumption) | exact S.cx.lendEq (by assumption) | exact S.cx.lendLe0 | exact S.cx.lendEq0 | exact S.cx.partLe (by assumption) | exact S.cx.partEq (by assumption) | exact .inl rfl | refine ⟨?_, ?_⟩)), (by repeat' (first | exact trivial | exact rfl | exact Nat.le_refl _ | exact S.cx.giveEq | exact S.cx.lendLe (by assumption) | exact S.cx.lendEq (by assumption) | exact S.cx.lendLe0 | exact S.cx.lendEq0 | exact S.cx.partLe (by assumption) | exact S.cx.partEq (by assumption) | exact .inl rfl | refine ⟨?_, ?_⟩))⟩ rfl (fun ln hln x hx => ⟨rfl, ?_⟩)
      obtain ⟨w, is⟩ := x
      (cbv; repeat (refine Later.mk ?_; cbv))
      have hN := hln cTwig w
      generalize ln (A.enc cTwig w) = N at hN ⊢
      have hw64 : w.length ≤ 64 := by have := merged_few l [⟨d, sq, 0⟩]; rw [← hx] at this; exact this
      clear hx
      cases is <;> (cbv; repeat (refine Later.mk ?_; cbv))
      · refine Arith.go (by lia) (fun n' hn' => ?_); (cbv; repeat (refine Later.mk ?_; cbv))
        replace hn' : n' = n - 1 := hn'
        refine Again.on (⟨l, n', i, h, m⟩ : YSt) (by dsimp only; lia) ⟨hi, hm, hl64, by dsimp only; lia, by dsimp only; lia⟩ ?_
        ((cbv; repeat (refine Later.mk ?_; cbv)); refine Less.to [] rfl rfl ?_ ?_ <;> repeat' (first | exact trivial | exact ⟨rfl, rfl⟩ | exact ⟨_, rfl, Nat.zero_le _, rfl⟩ | apply And.intro | exact rfl))
      · refine Arith.go (by lia) (fun n' hn' => ?_); (cbv; repeat (refine Later.mk ?_; cbv))
        replace hn' : n' = n - 1 := hn'
        refine Again.on (⟨w, n', i, h, N⟩ : YSt) (by dsimp only; lia) ⟨hi, hN, hw64, by dsimp only; lia, by dsimp only; lia⟩ ?_
        ((cbv; repeat (refine Later.mk ?_; cbv)); refine Less.to [(999000001, (11060000, 0))] rfl rfl ?_ ?_ <;> repeat' (first | exact trivial | exact ⟨rfl, rfl⟩ | exact ⟨_, rfl, Nat.zero_le _, rfl⟩ | apply And.intro | exact rfl))
    · have hd2 := l2F_ok code hb hc i h hi
      refine ACall.valN (r := rCur) (os := oCur A code) (dp := false) S.cx (l2Draw_c S code hb hc i h hi) ⟨rfl, (by repeat' (first | exact trivial | exact rfl | exact Nat.le_refl _ | exact S.cx.giveEq | exact S.cx.lendLe (by assumption) | exact S.cx.lendEq (by assumption) | exact S.cx.lendLe0 | exact S.cx.lendEq0 | exact S.cx.partLe (by assumption) | exact S.cx.partEq (by assumption) | exact .inl rfl | refine ⟨?_, ?_⟩)), (by repeat' (first | exact trivial | exact rfl | exact Nat.le_refl _ | exact S.cx.giveEq | exact S.cx.lendLe (by assumption) | exact S.cx.lendEq (by assumption) | exact S.cx.lendLe0 | exact S.cx.lendEq0 | exact S.cx.partLe (by assumption) | exact S.cx.partEq (by assumption) | exact .inl rfl | refine ⟨?_, ?_⟩))⟩ rfl (fun ln hln x hx => ⟨rfl, ?_⟩)
      obtain ⟨d2, i, h⟩ := x
      (cbv; repeat (refine Later.mk ?_; cbv))
      rw [← hx] at hd2
      dsimp only at hd2
      clear hx hi
      obtain ⟨hd2, hi⟩ := hd2
      have hz := belowF_ok code hb hc i h hi 14
      refine ACall.valN (r := rCur) (os := oCur A code) (dp := false) S.cx (l1Below_c S code hb hc i h hi 14) ⟨rfl, (by repeat' (first | exact trivial | exact rfl | exact Nat.le_refl _ | exact S.cx.giveEq | exact S.cx.lendLe (by assumption) | exact S.cx.lendEq (by assumption) | exact S.cx.lendLe0 | exact S.cx.lendEq0 | exact S.cx.partLe (by assumption) | exact S.cx.partEq (by assumption) | exact .inl rfl | refine ⟨?_, ?_⟩)), (by repeat' (first | exact trivial | exact rfl | exact Nat.le_refl _ | exact S.cx.giveEq | exact S.cx.lendLe (by assumption) | exact S.cx.lendEq (by assumption) | exact S.cx.lendLe0 | exact S.cx.lendEq0 | exact S.cx.partLe (by assumption) | exact S.cx.partEq (by assumption) | exact .inl rfl | refine ⟨?_, ?_⟩))⟩ rfl (fun ln hln x hx => ⟨rfl, ?_⟩)
      obtain ⟨z, i, h⟩ := x
      (cbv; repeat (refine Later.mk ?_; cbv))
      rw [← hx] at hz
      dsimp only at hz
      clear hx hi
      obtain ⟨hz, hi⟩ := hz
      have hz9 := hz.2.1 (by decide)
      refine Arith.go (by lia) (fun sq hsq => ?_); (cbv; repeat (refine Later.mk ?_; cbv))
      refine ACall.valN (r := rTwB A) (os := fun _ => []) (dp := false) S.cx (specPut_c S l d2 sq) ⟨rfl, (by repeat' (first | exact trivial | exact rfl | exact Nat.le_refl _ | exact S.cx.giveEq | exact S.cx.lendLe (by assumption) | exact S.cx.lendEq (by assumption) | exact S.cx.lendLe0 | exact S.cx.lendEq0 | exact S.cx.partLe (by assumption) | exact S.cx.partEq (by assumption) | exact .inl rfl | refine ⟨?_, ?_⟩)), (by repeat' (first | exact trivial | exact rfl | exact Nat.le_refl _ | exact S.cx.giveEq | exact S.cx.lendLe (by assumption) | exact S.cx.lendEq (by assumption) | exact S.cx.lendLe0 | exact S.cx.lendEq0 | exact S.cx.partLe (by assumption) | exact S.cx.partEq (by assumption) | exact .inl rfl | refine ⟨?_, ?_⟩))⟩ rfl (fun ln hln x hx => ⟨rfl, ?_⟩)
      obtain ⟨w, is⟩ := x
      (cbv; repeat (refine Later.mk ?_; cbv))
      have hN := hln cTwig w
      generalize ln (A.enc cTwig w) = N at hN ⊢
      have hw64 : w.length ≤ 64 := by have := merged_few l [⟨d2, sq, 0⟩]; rw [← hx] at this; exact this
      clear hx
      cases is <;> (cbv; repeat (refine Later.mk ?_; cbv))
      · refine Arith.go (by lia) (fun n' hn' => ?_); (cbv; repeat (refine Later.mk ?_; cbv))
        replace hn' : n' = n - 1 := hn'
        refine Again.on (⟨l, n', i, h, m⟩ : YSt) (by dsimp only; lia) ⟨hi, hm, hl64, by dsimp only; lia, by dsimp only; lia⟩ ?_
        ((cbv; repeat (refine Later.mk ?_; cbv)); refine Less.to [] rfl rfl ?_ ?_ <;> repeat' (first | exact trivial | exact ⟨rfl, rfl⟩ | exact ⟨_, rfl, Nat.zero_le _, rfl⟩ | apply And.intro | exact rfl))
      · refine Arith.go (by lia) (fun n' hn' => ?_); (cbv; repeat (refine Later.mk ?_; cbv))
        replace hn' : n' = n - 1 := hn'
        refine Again.on (⟨w, n', i, h, N⟩ : YSt) (by dsimp only; lia) ⟨hi, hN, hw64, by dsimp only; lia, by dsimp only; lia⟩ ?_
        ((cbv; repeat (refine Later.mk ?_; cbv)); refine Less.to [(999000001, (11060000, 0))] rfl rfl ?_ ?_ <;> repeat' (first | exact trivial | exact ⟨rfl, rfl⟩ | exact ⟨_, rfl, Nat.zero_le _, rfl⟩ | apply And.intro | exact rfl))
  · refine ACall.valN (r := rTTB A) (os := fun _ => []) (dp := false) S.cx (specShifted_c S l) ⟨rfl, (by repeat' (first | exact trivial | exact rfl | exact Nat.le_refl _ | exact S.cx.giveEq | exact S.cx.lendLe (by assumption) | exact S.cx.lendEq (by assumption) | exact S.cx.lendLe0 | exact S.cx.lendEq0 | exact S.cx.partLe (by assumption) | exact S.cx.partEq (by assumption) | exact .inl rfl | refine ⟨?_, ?_⟩)), (by repeat' (first | exact trivial | exact rfl | exact Nat.le_refl _ | exact S.cx.giveEq | exact S.cx.lendLe (by assumption) | exact S.cx.lendEq (by assumption) | exact S.cx.lendLe0 | exact S.cx.lendEq0 | exact S.cx.partLe (by assumption) | exact S.cx.partEq (by assumption) | exact .inl rfl | refine ⟨?_, ?_⟩))⟩ rfl (fun ln hln x hx => ⟨rfl, ?_⟩)
    obtain ⟨⟨td, ts, tk⟩, w, is⟩ := x
    (cbv; repeat (refine Later.mk ?_; cbv))
    have hN := hln cTwig w
    generalize ln (A.enc cTwig w) = N at hN ⊢
    have hw64 : w.length ≤ 64 := by have := shifted_few l; rw [← hx] at this; exact this
    clear hx
    refine Arith.go (by lia) (fun n' hn' => ?_); (cbv; repeat (refine Later.mk ?_; cbv))
    replace hn' : n' = n - 1 := hn'
    refine Again.on (⟨w, n', i, h, N⟩ : YSt) (by dsimp only; lia) ⟨hi, hN, hw64, by dsimp only; lia, by dsimp only; lia⟩ ?_
    ((cbv; repeat (refine Later.mk ?_; cbv)); refine Less.to [(999000001, (7010100, 0))] rfl rfl ?_ ?_ <;> repeat' (first | exact trivial | exact ⟨rfl, rfl⟩ | exact ⟨_, rfl, Nat.zero_le _, rfl⟩ | apply And.intro | exact rfl))

theorem l3DrawAny_c (S : Se P A) (code : List Int) (hb : code.length ≤ 4096) (hc : ∀ b ∈ code, 0 ≤ b ∧ b ≤ 255) (i h : Int) (hi : 0 ≤ i) (base : Int) (hba : 0 ≤ base ∧ base ≤ 1000) : SoundM P 210 true [.ptr 1000 0 0, .int .i64 base] [.box [.ro (A.enc cByte code), .int .i64 i, .int .i64 h]]
    (fun v os => ∃ (l : List Twig) (i' h' : Int), l.length ≤ 64 ∧ 0 ≤ i' ∧ v = .own 3 true (A.enc cTwig l) ∧ os = [some (.box [.ro (A.enc cByte code), .int .i64 i', .int .i64 h'])]) := by
  refine S.cx.byS [99999] (S.prog ▸ Try.func210) rfl rfl rfl rfl (fun ln hln hv ho => ?_)
  (cbv; repeat (refine Later.mk ?_; cbv))
  refine ACall.ofN (dp := false) S.cx (l3Draw_c S code hb hc i h hi base hba) ⟨rfl, (by repeat' (first | exact trivial | exact rfl | exact Nat.le_refl _ | exact S.cx.giveEq | exact S.cx.lendLe (by assumption) | exact S.cx.lendEq (by assumption) | exact S.cx.lendLe0 | exact S.cx.lendEq0 | exact S.cx.partLe (by assumption) | exact S.cx.partEq (by assumption) | exact .inl rfl | refine ⟨?_, ?_⟩)), (by repeat' (first | exact trivial | exact rfl | exact Nat.le_refl _ | exact S.cx.giveEq | exact S.cx.lendLe (by assumption) | exact S.cx.lendEq (by assumption) | exact S.cx.lendLe0 | exact S.cx.lendEq0 | exact S.cx.partLe (by assumption) | exact S.cx.partEq (by assumption) | exact .inl rfl | refine ⟨?_, ?_⟩))⟩ (fun ln hln v os hv => ?_)
  clear hi
  obtain ⟨l, i, h, hl64, hi, rfl, rfl⟩ := hv
  refine ⟨rfl, ?_⟩; (cbv; repeat (refine Later.mk ?_; cbv))
  have hN := hln cTwig l
  generalize ln (A.enc cTwig l) = N at hN ⊢
  have hbb := onceF_ok code hb hc i h hi 6
  refine ACall.valN (r := rCurB) (os := oCur A code) (dp := false) S.cx (l1Once_c S code hb hc i h hi 6) ⟨rfl, (by repeat' (first | exact trivial | exact rfl | exact Nat.le_refl _ | exact S.cx.giveEq | exact S.cx.lendLe (by assumption) | exact S.cx.lendEq (by assumption) | exact S.cx.lendLe0 | exact S.cx.lendEq0 | exact S.cx.partLe (by assumption) | exact S.cx.partEq (by assumption) | exact .inl rfl | refine ⟨?_, ?_⟩)), (by repeat' (first | exact trivial | exact rfl | exact Nat.le_refl _ | exact S.cx.giveEq | exact S.cx.lendLe (by assumption) | exact S.cx.lendEq (by assumption) | exact S.cx.lendLe0 | exact S.cx.lendEq0 | exact S.cx.partLe (by assumption) | exact S.cx.partEq (by assumption) | exact .inl rfl | refine ⟨?_, ?_⟩))⟩ rfl (fun ln hln x hx => ⟨rfl, ?_⟩)
  obtain ⟨b, i, h⟩ := x
  (cbv; repeat (refine Later.mk ?_; cbv))
  rw [← hx] at hbb
  dsimp only at hbb
  clear hx hi
  obtain ⟨hbb, hi⟩ := hbb
  cases b <;> (cbv; repeat (refine Later.mk ?_; cbv))
  · exact Done.to (.own 3 true (A.enc cTwig l)) [some (.box [.ro (A.enc cByte code), .int .i64 i, .int .i64 h])] rfl (by repeat' (first | exact trivial | exact rfl | exact resOwn S.cx rfl (by assumption) | exact resOwn S.cx rfl (S.cx.lenE _ _) | exact resOwn1 S.cx rfl (by assumption) | exact resOwnT S.cx rfl (by assumption) | exact S.cx.enc _ [] | refine ⟨?_, ?_⟩)) ⟨⟨⟨rfl, .inl rfl⟩, rfl, rfl, trivial⟩, trivial⟩ ⟨l, i, h, hl64, hi, rfl, rfl⟩
  refine Len.nat (fun m hm hml => ?_); (cbv; repeat (refine Later.mk ?_; cbv))
  refine Test.gtr (fun hg => ?_) (fun hg => ?_) <;> (cbv; repeat (refine Later.mk ?_; cbv))
  rotate_left
  · exact Done.to (.own 3 true (A.enc cTwig l)) [some (.box [.ro (A.enc cByte code), .int .i64 i, .int .i64 h])] rfl (by repeat' (first | exact trivial | exact rfl | exact resOwn S.cx rfl (by assumption) | exact resOwn S.cx rfl (S.cx.lenE _ _) | exact resOwn1 S.cx rfl (by assumption) | exact resOwnT S.cx rfl (by assumption) | exact S.cx.enc _ [] | refine ⟨?_, ?_⟩)) ⟨⟨⟨rfl, .inl rfl⟩, rfl, rfl, trivial⟩, trivial⟩ ⟨l, i, h, hl64, hi, rfl, rfl⟩
  refine Len.nat (fun m2 hm2 hml2 => ?_); (cbv; repeat (refine Later.mk ?_; cbv))
  have hk := belowF_ok code hb hc i h hi m2
  refine ACall.valN (r := rCur) (os := oCur A code) (dp := false) S.cx (l1Below_c S code hb hc i h hi m2) ⟨rfl, (by repeat' (first | exact trivial | exact rfl | exact Nat.le_refl _ | exact S.cx.giveEq | exact S.cx.lendLe (by assumption) | exact S.cx.lendEq (by assumption) | exact S.cx.lendLe0 | exact S.cx.lendEq0 | exact S.cx.partLe (by assumption) | exact S.cx.partEq (by assumption) | exact .inl rfl | refine ⟨?_, ?_⟩)), (by repeat' (first | exact trivial | exact rfl | exact Nat.le_refl _ | exact S.cx.giveEq | exact S.cx.lendLe (by assumption) | exact S.cx.lendEq (by assumption) | exact S.cx.lendLe0 | exact S.cx.lendEq0 | exact S.cx.partLe (by assumption) | exact S.cx.partEq (by assumption) | exact .inl rfl | refine ⟨?_, ?_⟩))⟩ rfl (fun ln hln x hx => ⟨rfl, ?_⟩)
  obtain ⟨k, i, h⟩ := x
  (cbv; repeat (refine Later.mk ?_; cbv))
  rw [← hx] at hk
  dsimp only at hk
  clear hx hi
  obtain ⟨hk, hi⟩ := hk
  have hk2 := hk.2.1 (by lia)
  have hk1 := hk.1
  obtain ⟨x, hx⟩ : ∃ x, l[k.toNat]? = some x := ⟨_, List.getElem?_eq_getElem (by lia)⟩
  obtain ⟨xd, xs, xk⟩ := x
  have hy := belowF_ok code hb hc i h hi 3
  refine ACall.valN (r := rCur) (os := oCur A code) (dp := false) S.cx (l1Below_c S code hb hc i h hi 3) ⟨rfl, (by repeat' (first | exact trivial | exact rfl | exact Nat.le_refl _ | exact S.cx.giveEq | exact S.cx.lendLe (by assumption) | exact S.cx.lendEq (by assumption) | exact S.cx.lendLe0 | exact S.cx.lendEq0 | exact S.cx.partLe (by assumption) | exact S.cx.partEq (by assumption) | exact .inl rfl | refine ⟨?_, ?_⟩)), (by repeat' (first | exact trivial | exact rfl | exact Nat.le_refl _ | exact S.cx.giveEq | exact S.cx.lendLe (by assumption) | exact S.cx.lendEq (by assumption) | exact S.cx.lendLe0 | exact S.cx.lendEq0 | exact S.cx.partLe (by assumption) | exact S.cx.partEq (by assumption) | exact .inl rfl | refine ⟨?_, ?_⟩))⟩ rfl (fun ln hln x hx => ⟨rfl, ?_⟩)
  obtain ⟨y, i, h⟩ := x
  (cbv; repeat (refine Later.mk ?_; cbv))
  rw [← hx] at hy
  dsimp only at hy
  clear hx hi
  obtain ⟨hy, hi⟩ := hy
  refine Test.eql (fun g1 => ?_) (fun g1 => ?_) <;> (cbv; repeat (refine Later.mk ?_; cbv))
  · try (refine Drawn.mk ⟨by kernel_rfl, fun _ => ?_⟩)
    have hd := belowF_ok code hb hc i h hi 12
    refine ACall.valN (r := rCur) (os := oCur A code) (dp := false) S.cx (l1Below_c S code hb hc i h hi 12) ⟨rfl, (by repeat' (first | exact trivial | exact rfl | exact Nat.le_refl _ | exact S.cx.giveEq | exact S.cx.lendLe (by assumption) | exact S.cx.lendEq (by assumption) | exact S.cx.lendLe0 | exact S.cx.lendEq0 | exact S.cx.partLe (by assumption) | exact S.cx.partEq (by assumption) | exact .inl rfl | refine ⟨?_, ?_⟩)), (by repeat' (first | exact trivial | exact rfl | exact Nat.le_refl _ | exact S.cx.giveEq | exact S.cx.lendLe (by assumption) | exact S.cx.lendEq (by assumption) | exact S.cx.lendLe0 | exact S.cx.lendEq0 | exact S.cx.partLe (by assumption) | exact S.cx.partEq (by assumption) | exact .inl rfl | refine ⟨?_, ?_⟩))⟩ rfl (fun ln hln x hx => ⟨rfl, ?_⟩)
    obtain ⟨d, i, h⟩ := x
    (cbv; repeat (refine Later.mk ?_; cbv))
    rw [← hx] at hd
    dsimp only at hd
    clear hx hi
    obtain ⟨hd, hi⟩ := hd
    try (refine Drawn.mk ⟨by kernel_rfl, fun _ => ?_⟩)
    refine ElemRef.go rfl (by lia) (by lia) (by rw [S.cx.lenE']; lia) (fun row hrow => ?_); (cbv; repeat (refine Later.mk ?_; cbv))
    refine RowSet.enc S.cx (⟨xd, xs, xk⟩ : Twig) ⟨d, xs, xk⟩ (by rw [show row = k.toNat by lia]; exact hx) rfl (by show (1 : Nat) ≤ 3; decide) rfl (fun l2 hl2 => ?_); (cbv; repeat (refine Later.mk ?_; cbv))
    have hl2l : l2.length = l.length := by rw [hl2, List.length_set]
    have hN2 : N = l2.length := by omega
    exact Done.to (.own 3 true (A.enc cTwig l2)) [some (.box [.ro (A.enc cByte code), .int .i64 i, .int .i64 h])] rfl (by repeat' (first | exact trivial | exact rfl | exact resOwn S.cx rfl (by assumption) | exact resOwn S.cx rfl (S.cx.lenE _ _) | exact resOwn1 S.cx rfl (by assumption) | exact resOwnT S.cx rfl (by assumption) | exact S.cx.enc _ [] | refine ⟨?_, ?_⟩)) ⟨⟨⟨rfl, .inl rfl⟩, rfl, rfl, trivial⟩, trivial⟩ ⟨l2, i, h, by omega, hi, rfl, rfl⟩
  refine Test.eql (fun g2 => ?_) (fun g2 => ?_) <;> (cbv; repeat (refine Later.mk ?_; cbv))
  · try (refine Drawn.mk ⟨by kernel_rfl, fun _ => ?_⟩)
    have hd := belowF_ok code hb hc i h hi 14
    refine ACall.valN (r := rCur) (os := oCur A code) (dp := false) S.cx (l1Below_c S code hb hc i h hi 14) ⟨rfl, (by repeat' (first | exact trivial | exact rfl | exact Nat.le_refl _ | exact S.cx.giveEq | exact S.cx.lendLe (by assumption) | exact S.cx.lendEq (by assumption) | exact S.cx.lendLe0 | exact S.cx.lendEq0 | exact S.cx.partLe (by assumption) | exact S.cx.partEq (by assumption) | exact .inl rfl | refine ⟨?_, ?_⟩)), (by repeat' (first | exact trivial | exact rfl | exact Nat.le_refl _ | exact S.cx.giveEq | exact S.cx.lendLe (by assumption) | exact S.cx.lendEq (by assumption) | exact S.cx.lendLe0 | exact S.cx.lendEq0 | exact S.cx.partLe (by assumption) | exact S.cx.partEq (by assumption) | exact .inl rfl | refine ⟨?_, ?_⟩))⟩ rfl (fun ln hln x hx => ⟨rfl, ?_⟩)
    obtain ⟨d, i, h⟩ := x
    (cbv; repeat (refine Later.mk ?_; cbv))
    rw [← hx] at hd
    dsimp only at hd
    clear hx hi
    obtain ⟨hd, hi⟩ := hd
    try (refine Drawn.mk ⟨by kernel_rfl, fun _ => ?_⟩)
    refine ElemRef.go rfl (by lia) (by lia) (by rw [S.cx.lenE']; lia) (fun row hrow => ?_); (cbv; repeat (refine Later.mk ?_; cbv))
    refine RowSet.enc S.cx (⟨xd, xs, xk⟩ : Twig) ⟨xd, d, xk⟩ (by rw [show row = k.toNat by lia]; exact hx) rfl (by show (2 : Nat) ≤ 3; decide) rfl (fun l2 hl2 => ?_); (cbv; repeat (refine Later.mk ?_; cbv))
    have hl2l : l2.length = l.length := by rw [hl2, List.length_set]
    have hN2 : N = l2.length := by omega
    exact Done.to (.own 3 true (A.enc cTwig l2)) [some (.box [.ro (A.enc cByte code), .int .i64 i, .int .i64 h])] rfl (by repeat' (first | exact trivial | exact rfl | exact resOwn S.cx rfl (by assumption) | exact resOwn S.cx rfl (S.cx.lenE _ _) | exact resOwn1 S.cx rfl (by assumption) | exact resOwnT S.cx rfl (by assumption) | exact S.cx.enc _ [] | refine ⟨?_, ?_⟩)) ⟨⟨⟨rfl, .inl rfl⟩, rfl, rfl, trivial⟩, trivial⟩ ⟨l2, i, h, by omega, hi, rfl, rfl⟩
  refine Test.eql (fun g3 => ?_) (fun g3 => ?_) <;> (cbv; repeat (refine Later.mk ?_; cbv))
  · try (refine Drawn.mk ⟨by kernel_rfl, fun _ => ?_⟩)
    have hd := fromF_ok code hb hc i h hi (-1) 5
    refine ACall.valN (r := rCur) (os := oCur A code) (dp := false) S.cx (l1From_c S code hb hc i h hi (-1) 5 (by decide)) ⟨rfl, (by repeat' (first | exact trivial | exact rfl | exact Nat.le_refl _ | exact S.cx.giveEq | exact S.cx.lendLe (by assumption) | exact S.cx.lendEq (by assumption) | exact S.cx.lendLe0 | exact S.cx.lendEq0 | exact S.cx.partLe (by assumption) | exact S.cx.partEq (by assumption) | exact .inl rfl | refine ⟨?_, ?_⟩)), (by repeat' (first | exact trivial | exact rfl | exact Nat.le_refl _ | exact S.cx.giveEq | exact S.cx.lendLe (by assumption) | exact S.cx.lendEq (by assumption) | exact S.cx.lendLe0 | exact S.cx.lendEq0 | exact S.cx.partLe (by assumption) | exact S.cx.partEq (by assumption) | exact .inl rfl | refine ⟨?_, ?_⟩))⟩ rfl (fun ln hln x hx => ⟨rfl, ?_⟩)
    obtain ⟨d, i, h⟩ := x
    (cbv; repeat (refine Later.mk ?_; cbv))
    rw [← hx] at hd
    dsimp only at hd
    clear hx hi
    obtain ⟨hd, hi⟩ := hd
    try (refine Drawn.mk ⟨by kernel_rfl, fun _ => ?_⟩)
    refine ElemRef.go rfl (by lia) (by lia) (by rw [S.cx.lenE']; lia) (fun row hrow => ?_); (cbv; repeat (refine Later.mk ?_; cbv))
    refine RowSet.enc S.cx (⟨xd, xs, xk⟩ : Twig) ⟨xd, xs, d⟩ (by rw [show row = k.toNat by lia]; exact hx) rfl (by show (3 : Nat) ≤ 3; decide) rfl (fun l2 hl2 => ?_); (cbv; repeat (refine Later.mk ?_; cbv))
    have hl2l : l2.length = l.length := by rw [hl2, List.length_set]
    have hN2 : N = l2.length := by omega
    exact Done.to (.own 3 true (A.enc cTwig l2)) [some (.box [.ro (A.enc cByte code), .int .i64 i, .int .i64 h])] rfl (by repeat' (first | exact trivial | exact rfl | exact resOwn S.cx rfl (by assumption) | exact resOwn S.cx rfl (S.cx.lenE _ _) | exact resOwn1 S.cx rfl (by assumption) | exact resOwnT S.cx rfl (by assumption) | exact S.cx.enc _ [] | refine ⟨?_, ?_⟩)) ⟨⟨⟨rfl, .inl rfl⟩, rfl, rfl, trivial⟩, trivial⟩ ⟨l2, i, h, by omega, hi, rfl, rfl⟩
  exact Done.to (.own 3 true (A.enc cTwig l)) [some (.box [.ro (A.enc cByte code), .int .i64 i, .int .i64 h])] rfl (by repeat' (first | exact trivial | exact rfl | exact resOwn S.cx rfl (by assumption) | exact resOwn S.cx rfl (S.cx.lenE _ _) | exact resOwn1 S.cx rfl (by assumption) | exact resOwnT S.cx rfl (by assumption) | exact S.cx.enc _ [] | refine ⟨?_, ?_⟩)) ⟨⟨⟨rfl, .inl rfl⟩, rfl, rfl, trivial⟩, trivial⟩ ⟨l, i, h, hl64, hi, rfl, rfl⟩

end Go.Proofs.Ytmbckmfihcojoaa.AM
