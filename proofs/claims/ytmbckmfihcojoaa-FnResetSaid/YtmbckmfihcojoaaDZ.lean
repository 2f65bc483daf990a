/- Contracts: timers drawn; the law of reset timers. (printed by gdz.py) -/
import Derived.Test.YtmbckmfihcojoaaDY
import Derived.Test.YtmbckmfihcojoaaE21
import Derived.Test.YtmbckmfihcojoaaDP
namespace Go.Proofs.Ytmbckmfihcojoaa.AM
open Go Go.Proofs

set_option maxRecDepth 100000
set_option maxHeartbeats 4000000
set_option linter.unusedVariables false
set_option linter.unusedSimpArgs false

variable {P : Program} {A : Sy}

theorem nextDue_c (S : Se P A) (heap : List Twig) (list : List Timer) (next : Int) : Is1 P 107 [.agg (roTimers A ⟨heap, list, next⟩)] (.int .i64 (nextDueT ⟨heap, list, next⟩)) := by
  refine SoundM.knownH (p := fun n => n = nextDueT ⟨heap, list, next⟩) ?_ (fun n h => h)
  refine S.cx.by (S.prog ▸ Try.func107) rfl rfl rfl rfl (fun hv ho => ?_)
  cbv
  refine LenR.nat S.cx (fun N hN hm => ?_); cbv
  refine Test.eql (fun h => ?_) (fun h => ?_) <;> cbv
  · have e : heap = [] := List.length_eq_zero_iff.1 (by lia)
    exact Done.num (by rw [e]; rfl)
  obtain ⟨w, r, hwr⟩ : ∃ w r, heap = w :: r := by
    cases heap with
    | nil => simp at hN; omega
    | cons w r => exact ⟨w, r, rfl⟩
  have hw0 : heap[(0 : Int).toNat]? = some w := by rw [hwr]; rfl
  obtain ⟨wd, ws, wk⟩ := w
  try (refine Drawn.mk ⟨by kernel_rfl, fun _ => ?_⟩)
  refine ElemRo.at S.cx (x := (⟨wd, ws, wk⟩ : Twig)) rfl (by decide) hw0 ?_; cbv
  exact Done.num (by rw [hwr]; rfl)

theorem implNextDue_c (S : Se P A) (heap : List Twig) (list : List Timer) (next : Int) : Is1 P 45 [.agg (roTimers A ⟨heap, list, next⟩)] (.int .i64 (if TimersOk ⟨heap, list, next⟩ then nextDueT ⟨heap, list, next⟩ else 9223372036854775807)) := by
  refine SoundM.knownH (p := fun n => n = if TimersOk ⟨heap, list, next⟩ then nextDueT ⟨heap, list, next⟩ else 9223372036854775807) ?_ (fun n h => h)
  refine S.cx.by (S.prog ▸ Try.func45) rfl rfl rfl rfl (fun hv ho => ?_)
  cbv
  refine ACall.testD (dp := false) (implTimersOk_c S heap list next) ⟨rfl, (by repeat' (first | exact trivial | exact rfl | exact Nat.le_refl _ | exact S.cx.giveEq | exact S.cx.lendLe (by assumption) | exact S.cx.lendEq (by assumption) | exact S.cx.lendLe0 | exact S.cx.lendEq0 | exact S.cx.partLe (by assumption) | exact S.cx.partEq (by assumption) | exact .inl rfl | refine ⟨?_, ?_⟩)), (by repeat' (first | exact trivial | exact rfl | exact Nat.le_refl _ | exact S.cx.giveEq | exact S.cx.lendLe (by assumption) | exact S.cx.lendEq (by assumption) | exact S.cx.lendLe0 | exact S.cx.lendEq0 | exact S.cx.partLe (by assumption) | exact S.cx.partEq (by assumption) | exact .inl rfl | refine ⟨?_, ?_⟩))⟩ rfl (fun h => ?_) (fun h => ?_) <;> cbv
  · refine ACall.int (dp := false) (nextDue_c S heap list next) ⟨rfl, (by repeat' (first | exact trivial | exact rfl | exact Nat.le_refl _ | exact S.cx.giveEq | exact S.cx.lendLe (by assumption) | exact S.cx.lendEq (by assumption) | exact S.cx.lendLe0 | exact S.cx.lendEq0 | exact S.cx.partLe (by assumption) | exact S.cx.partEq (by assumption) | exact .inl rfl | refine ⟨?_, ?_⟩)), (by repeat' (first | exact trivial | exact rfl | exact Nat.le_refl _ | exact S.cx.giveEq | exact S.cx.lendLe (by assumption) | exact S.cx.lendEq (by assumption) | exact S.cx.lendLe0 | exact S.cx.lendEq0 | exact S.cx.partLe (by assumption) | exact S.cx.partEq (by assumption) | exact .inl rfl | refine ⟨?_, ?_⟩))⟩ rfl (fun n hn => ?_); cbv
    exact Done.num (by rw [hn, if_pos h])
  · exact Done.num (by rw [if_neg h])

structure ZSt where
  heap : List Twig
  list : List Timer
  next : Int
  n : Int
  i : Int
  h : Int
  hn : Nat
  ln : Nat

def ZSt.ok (s : ZSt) : Prop := 0 ≤ s.i ∧ s.hn = s.heap.length ∧ s.ln = s.list.length ∧ Few ⟨s.heap, s.list, s.next⟩ ∧ (0 ≤ s.n ∧ s.n ≤ 64)


theorem l4Draw_c (S : Se P A) (code : List Int) (hb : code.length ≤ 4096) (hc : ∀ b ∈ code, 0 ≤ b ∧ b ≤ 255) (i h : Int) (hi : 0 ≤ i) : SoundM P 209 true [.ptr 1000 0 0] [.box [.ro (A.enc cByte code), .int .i64 i, .int .i64 h]]
    (fun v os => ∃ (t : Timers) (i' h' : Int), (t.heap.length ≤ 64 ∧ t.list.length ≤ 64) ∧ 0 ≤ i' ∧ v = .agg (ownTimers A t) ∧ os = [some (.box [.ro (A.enc cByte code), .int .i64 i', .int .i64 h'])]) := by
  refine S.cx.byS [99999] (S.prog ▸ Try.func209) rfl rfl rfl rfl (fun ln hln hv ho => ?_)
  (cbv; repeat (refine Later.mk ?_; cbv))
  have hnx := belowF_ok code hb hc i h hi 3
  refine ACall.valN (r := rCur) (os := oCur A code) (dp := false) S.cx (l1Below_c S code hb hc i h hi 3) ⟨rfl, (by repeat' (first | exact trivial | exact rfl | exact Nat.le_refl _ | exact S.cx.giveEq | exact S.cx.lendLe (by assumption) | exact S.cx.lendEq (by assumption) | exact S.cx.lendLe0 | exact S.cx.lendEq0 | exact S.cx.partLe (by assumption) | exact S.cx.partEq (by assumption) | exact .inl rfl | refine ⟨?_, ?_⟩)), (by repeat' (first | exact trivial | exact rfl | exact Nat.le_refl _ | exact S.cx.giveEq | exact S.cx.lendLe (by assumption) | exact S.cx.lendEq (by assumption) | exact S.cx.lendLe0 | exact S.cx.lendEq0 | exact S.cx.partLe (by assumption) | exact S.cx.partEq (by assumption) | exact .inl rfl | refine ⟨?_, ?_⟩))⟩ rfl (fun ln hln x hx => ⟨rfl, ?_⟩)
  obtain ⟨nx, i, h⟩ := x
  (cbv; repeat (refine Later.mk ?_; cbv))
  rw [← hx] at hnx
  dsimp only at hnx
  clear hx hi
  obtain ⟨hnx, hi⟩ := hnx
  have hnx8 := hnx.2.1 (by decide)
  have hnx7 := hnx.1
  have hn0 := belowF_ok code hb hc i h hi 12
  refine ACall.valN (r := rCur) (os := oCur A code) (dp := false) S.cx (l1Below_c S code hb hc i h hi 12) ⟨rfl, (by repeat' (first | exact trivial | exact rfl | exact Nat.le_refl _ | exact S.cx.giveEq | exact S.cx.lendLe (by assumption) | exact S.cx.lendEq (by assumption) | exact S.cx.lendLe0 | exact S.cx.lendEq0 | exact S.cx.partLe (by assumption) | exact S.cx.partEq (by assumption) | exact .inl rfl | refine ⟨?_, ?_⟩)), (by repeat' (first | exact trivial | exact rfl | exact Nat.le_refl _ | exact S.cx.giveEq | exact S.cx.lendLe (by assumption) | exact S.cx.lendEq (by assumption) | exact S.cx.lendLe0 | exact S.cx.lendEq0 | exact S.cx.partLe (by assumption) | exact S.cx.partEq (by assumption) | exact .inl rfl | refine ⟨?_, ?_⟩))⟩ rfl (fun ln hln x hx => ⟨rfl, ?_⟩)
  obtain ⟨n0, i, h⟩ := x
  (cbv; repeat (refine Later.mk ?_; cbv))
  rw [← hx] at hn0
  dsimp only at hn0
  clear hx hi
  obtain ⟨hn0, hi⟩ := hn0
  have hn8 := hn0.2.1 (by decide)
  have hn7 := hn0.1
  refine ALoop.pre (Less.initCell S.cx cTwig 999000001 3 true 2030000 0 rfl rfl rfl) ?_
  (cbv; repeat (refine Later.mk ?_; cbv))
  refine ALoop.pre (Less.initCell S.cx cTimer 999000002 5 true 2030000 1 rfl rfl rfl) ?_
  (cbv; repeat (refine Later.mk ?_; cbv))
  refine ALoop.goT (ι := ZSt) (fun i => [(4, .int .i64 i.n)]) [] [1000, 2030000, 999000001, 999000002] (fun i => [(1000, .box [.ro (A.enc cByte code), .int .i64 i.i, .int .i64 i.h]), (2030000, .box [.ref false 999000001 0 i.hn, .ref false 999000002 0 i.ln, .int .i64 i.next]), (999000001, .arr 3 true (A.enc cTwig i.heap)), (999000002, .arr 5 true (A.enc cTimer i.list))]) (fun i => i.ok) (fun i => i.n.toNat) (⟨[], [], nx, n0, i, h, 0, 0⟩) [99999] S.cx.tab S.cx.mix S.eq ?_ ?_ ?_
  · exact ⟨hi, rfl, rfl, ⟨Nat.zero_le _, Nat.zero_le _, by dsimp only; lia, by dsimp only; lia⟩, by dsimp only; lia, by dsimp only; lia⟩
  · ((cbv; repeat (refine Later.mk ?_; cbv)); refine Less.to [] rfl rfl ?_ ?_ <;> repeat' (first | exact trivial | exact ⟨rfl, rfl⟩ | exact ⟨_, rfl, Nat.zero_le _, rfl⟩ | apply And.intro | exact rfl))
  clear hi
  rintro ⟨heap, list, next, n, i, h, hn, lnn⟩ hk
  unfold ZSt.ok at hk
  dsimp only at hk
  obtain ⟨hi, hhn, hlnn, hf, hn0⟩ := hk
  have hfn := hf.2.2
  dsimp only at hfn
  refine Rnd.mk ?_; (cbv; repeat (refine Later.mk ?_; cbv))
  refine Test.gtr (fun hg => ?_) (fun hg => ?_) <;> (cbv; repeat (refine Later.mk ?_; cbv))
  rotate_left
  · have hbb := onceF_ok code hb hc i h hi 40
    refine ACall.valN (r := rCurB) (os := oCur A code) (dp := false) S.cx (l1Once_c S code hb hc i h hi 40) ⟨rfl, (by repeat' (first | exact trivial | exact rfl | exact Nat.le_refl _ | exact S.cx.giveEq | exact S.cx.lendLe (by assumption) | exact S.cx.lendEq (by assumption) | exact S.cx.lendLe0 | exact S.cx.lendEq0 | exact S.cx.partLe (by assumption) | exact S.cx.partEq (by assumption) | exact .inl rfl | refine ⟨?_, ?_⟩)), (by repeat' (first | exact trivial | exact rfl | exact Nat.le_refl _ | exact S.cx.giveEq | exact S.cx.lendLe (by assumption) | exact S.cx.lendEq (by assumption) | exact S.cx.lendLe0 | exact S.cx.lendEq0 | exact S.cx.partLe (by assumption) | exact S.cx.partEq (by assumption) | exact .inl rfl | refine ⟨?_, ?_⟩))⟩ rfl (fun ln hln x hx => ⟨rfl, ?_⟩)
    obtain ⟨b, i, h⟩ := x
    (cbv; repeat (refine Later.mk ?_; cbv))
    rw [← hx] at hbb
    dsimp only at hbb
    clear hx hi
    obtain ⟨hbb, hi⟩ := hbb
    cases b <;> (cbv; repeat (refine Later.mk ?_; cbv))
    · exact Done.to (.agg (ownTimers A ⟨heap, list, next⟩)) [some (.box [.ro (A.enc cByte code), .int .i64 i, .int .i64 h])] rfl (by repeat' (first | exact trivial | exact rfl | exact resOwn S.cx rfl (by assumption) | exact resOwn S.cx rfl (S.cx.lenE _ _) | exact resOwn1 S.cx rfl (by assumption) | exact resOwnT S.cx rfl (by assumption) | exact S.cx.enc _ [] | refine ⟨?_, ?_⟩)) ⟨⟨⟨rfl, .inl rfl⟩, rfl, rfl, trivial⟩, trivial⟩ ⟨⟨heap, list, next⟩, i, h, ⟨hf.1, hf.2.1⟩, hi, rfl, rfl⟩
    have hy := belowF_ok code hb hc i h hi 2
    refine ACall.valN (r := rCur) (os := oCur A code) (dp := false) S.cx (l1Below_c S code hb hc i h hi 2) ⟨rfl, (by repeat' (first | exact trivial | exact rfl | exact Nat.le_refl _ | exact S.cx.giveEq | exact S.cx.lendLe (by assumption) | exact S.cx.lendEq (by assumption) | exact S.cx.lendLe0 | exact S.cx.lendEq0 | exact S.cx.partLe (by assumption) | exact S.cx.partEq (by assumption) | exact .inl rfl | refine ⟨?_, ?_⟩)), (by repeat' (first | exact trivial | exact rfl | exact Nat.le_refl _ | exact S.cx.giveEq | exact S.cx.lendLe (by assumption) | exact S.cx.lendEq (by assumption) | exact S.cx.lendLe0 | exact S.cx.lendEq0 | exact S.cx.partLe (by assumption) | exact S.cx.partEq (by assumption) | exact .inl rfl | refine ⟨?_, ?_⟩))⟩ rfl (fun ln hln x hx => ⟨rfl, ?_⟩)
    obtain ⟨y, i, h⟩ := x
    (cbv; repeat (refine Later.mk ?_; cbv))
    rw [← hx] at hy
    dsimp only at hy
    clear hx hi
    obtain ⟨hy, hi⟩ := hy
    have hy9 := hy.2.1 (by decide)
    have hy7 := hy.1
    refine Arith.go (by lia) (fun lim hlim => ?_); replace hlim : lim = 64 - y := hlim; (cbv; repeat (refine Later.mk ?_; cbv))
    clear hhn hlnn hf hn0 hfn
    refine ALoop.pre (Less.initCell S.cx cTwig 999000003 3 true 2030000 0 rfl rfl rfl) ?_
    (cbv; repeat (refine Later.mk ?_; cbv))
    refine ALoop.pre (Less.initCell S.cx cTimer 999000004 5 true 2030000 1 rfl rfl rfl) ?_
    (cbv; repeat (refine Later.mk ?_; cbv))
    refine ALoop.goT (ι := ZSt) (fun i => [(6, .int .i64 i.n)]) [] [1000, 2030000, 999000003, 999000004] (fun i => [(1000, .box [.ro (A.enc cByte code), .int .i64 i.i, .int .i64 i.h]), (2030000, .box [.ref false 999000003 0 i.hn, .ref false 999000004 0 i.ln, .int .i64 i.next]), (999000003, .arr 3 true (A.enc cTwig i.heap)), (999000004, .arr 5 true (A.enc cTimer i.list))]) (fun i => i.ok) (fun i => i.n.toNat) (⟨[], [], 0, lim, i, h, 0, 0⟩) [99999] S.cx.tab S.cx.mix S.eq ?_ ?_ ?_
    · exact ⟨hi, rfl, rfl, zero_Few, by dsimp only; lia, by dsimp only; lia⟩
    · ((cbv; repeat (refine Later.mk ?_; cbv)); refine Less.to [] rfl rfl ?_ ?_ <;> repeat' (first | exact trivial | exact ⟨rfl, rfl⟩ | exact ⟨_, rfl, Nat.zero_le _, rfl⟩ | apply And.intro | exact rfl))
    clear hi
    rintro ⟨heap, list, next, n, i, h, hn, lnn⟩ hk
    unfold ZSt.ok at hk
    dsimp only at hk
    obtain ⟨hi, hhn, hlnn, hf, hn0⟩ := hk
    have hfn := hf.2.2
    dsimp only at hfn
    refine Rnd.mk ?_; (cbv; repeat (refine Later.mk ?_; cbv))
    refine Test.gtr (fun hg => ?_) (fun hg => ?_) <;> (cbv; repeat (refine Later.mk ?_; cbv))
    · try (refine Drawn.mk ⟨by kernel_rfl, fun _ => ?_⟩)
      have hd := belowF_ok code hb hc i h hi 50
      refine ACall.valN (r := rCur) (os := oCur A code) (dp := false) S.cx (l1Below_c S code hb hc i h hi 50) ⟨rfl, (by repeat' (first | exact trivial | exact rfl | exact Nat.le_refl _ | exact S.cx.giveEq | exact S.cx.lendLe (by assumption) | exact S.cx.lendEq (by assumption) | exact S.cx.lendLe0 | exact S.cx.lendEq0 | exact S.cx.partLe (by assumption) | exact S.cx.partEq (by assumption) | exact .inl rfl | refine ⟨?_, ?_⟩)), (by repeat' (first | exact trivial | exact rfl | exact Nat.le_refl _ | exact S.cx.giveEq | exact S.cx.lendLe (by assumption) | exact S.cx.lendEq (by assumption) | exact S.cx.lendLe0 | exact S.cx.lendEq0 | exact S.cx.partLe (by assumption) | exact S.cx.partEq (by assumption) | exact .inl rfl | refine ⟨?_, ?_⟩))⟩ rfl (fun ln hln x hx => ⟨rfl, ?_⟩)
      obtain ⟨d, i, h⟩ := x
      (cbv; repeat (refine Later.mk ?_; cbv))
      rw [← hx] at hd
      dsimp only at hd
      clear hx hi
      obtain ⟨hd, hi⟩ := hd
      refine ACall.valN (r := rTI A) (os := fun _ => []) (dp := false) S.cx (specArmed_c S heap list next d 2 1 (Nat.le_trans hf.1 (by decide)) (Nat.le_trans hf.2.1 (by decide))) ⟨rfl, (by repeat' (first | exact trivial | exact rfl | exact Nat.le_refl _ | exact S.cx.giveEq | exact S.cx.lendLe (by assumption) | exact S.cx.lendEq (by assumption) | exact S.cx.lendLe0 | exact S.cx.lendEq0 | exact S.cx.partLe (by assumption) | exact S.cx.partEq (by assumption) | exact .inl rfl | refine ⟨?_, ?_⟩)), (by repeat' (first | exact trivial | exact rfl | exact Nat.le_refl _ | exact S.cx.giveEq | exact S.cx.lendLe (by assumption) | exact S.cx.lendEq (by assumption) | exact S.cx.lendLe0 | exact S.cx.lendEq0 | exact S.cx.partLe (by assumption) | exact S.cx.partEq (by assumption) | exact .inl rfl | refine ⟨?_, ?_⟩))⟩ rfl (fun ln hln x hx => ⟨rfl, ?_⟩)
      obtain ⟨⟨heap1, list1, next1⟩, b⟩ := x
      (cbv; repeat (refine Later.mk ?_; cbv))
      have hN1 := hln cTwig heap1
      generalize ln (A.enc cTwig heap1) = N1 at hN1 ⊢
      have hK1 := hln cTimer list1
      generalize ln (A.enc cTimer list1) = K1 at hK1 ⊢
      have hf2 := armed_Few ⟨heap, list, next⟩ d 2 1
      rw [← hx] at hf2
      clear hx
      refine Arith.go (by lia) (fun n' hn' => ?_); (cbv; repeat (refine Later.mk ?_; cbv))
      replace hn' : n' = n - 1 := hn'
      refine Again.on (⟨heap1, list1, next1, n', i, h, N1, K1⟩ : ZSt) (by dsimp only; lia) ⟨hi, hN1, hK1, hf2, by dsimp only; lia, by dsimp only; lia⟩ ?_
      ((cbv; repeat (refine Later.mk ?_; cbv)); refine Less.to [(999000003, (23030000, 0)), (999000004, (23030001, 0))] rfl rfl ?_ ?_ <;> repeat' (first | exact trivial | exact ⟨rfl, rfl⟩ | exact ⟨_, rfl, Nat.zero_le _, rfl⟩ | apply And.intro | exact rfl))
    exact Done.to (.agg (ownTimers A ⟨heap, list, next⟩)) [some (.box [.ro (A.enc cByte code), .int .i64 i, .int .i64 h])] rfl (by repeat' (first | exact trivial | exact rfl | exact resOwn S.cx rfl (by assumption) | exact resOwn S.cx rfl (S.cx.lenE _ _) | exact resOwn1 S.cx rfl (by assumption) | exact resOwnT S.cx rfl (by assumption) | exact S.cx.enc _ [] | refine ⟨?_, ?_⟩)) ⟨⟨⟨rfl, .inl rfl⟩, rfl, rfl, trivial⟩, trivial⟩ ⟨⟨heap, list, next⟩, i, h, ⟨hf.1, hf.2.1⟩, hi, rfl, rfl⟩
  refine Arith.go (by lia) (fun nx1 hnx1 => ?_); replace hnx1 : nx1 = next + 1 := hnx1; (cbv; repeat (refine Later.mk ?_; cbv))
  have hsq := belowF_ok code hb hc i h hi nx1
  refine ACall.valN (r := rCur) (os := oCur A code) (dp := false) S.cx (l1Below_c S code hb hc i h hi nx1) ⟨rfl, (by repeat' (first | exact trivial | exact rfl | exact Nat.le_refl _ | exact S.cx.giveEq | exact S.cx.lendLe (by assumption) | exact S.cx.lendEq (by assumption) | exact S.cx.lendLe0 | exact S.cx.lendEq0 | exact S.cx.partLe (by assumption) | exact S.cx.partEq (by assumption) | exact .inl rfl | refine ⟨?_, ?_⟩)), (by repeat' (first | exact trivial | exact rfl | exact Nat.le_refl _ | exact S.cx.giveEq | exact S.cx.lendLe (by assumption) | exact S.cx.lendEq (by assumption) | exact S.cx.lendLe0 | exact S.cx.lendEq0 | exact S.cx.partLe (by assumption) | exact S.cx.partEq (by assumption) | exact .inl rfl | refine ⟨?_, ?_⟩))⟩ rfl (fun ln hln x hx => ⟨rfl, ?_⟩)
  obtain ⟨sq, i, h⟩ := x
  (cbv; repeat (refine Later.mk ?_; cbv))
  rw [← hx] at hsq
  dsimp only at hsq
  clear hx hi
  obtain ⟨hsq, hi⟩ := hsq
  have hy := belowF_ok code hb hc i h hi 6
  refine ACall.valN (r := rCur) (os := oCur A code) (dp := false) S.cx (l1Below_c S code hb hc i h hi 6) ⟨rfl, (by repeat' (first | exact trivial | exact rfl | exact Nat.le_refl _ | exact S.cx.giveEq | exact S.cx.lendLe (by assumption) | exact S.cx.lendEq (by assumption) | exact S.cx.lendLe0 | exact S.cx.lendEq0 | exact S.cx.partLe (by assumption) | exact S.cx.partEq (by assumption) | exact .inl rfl | refine ⟨?_, ?_⟩)), (by repeat' (first | exact trivial | exact rfl | exact Nat.le_refl _ | exact S.cx.giveEq | exact S.cx.lendLe (by assumption) | exact S.cx.lendEq (by assumption) | exact S.cx.lendLe0 | exact S.cx.lendEq0 | exact S.cx.partLe (by assumption) | exact S.cx.partEq (by assumption) | exact .inl rfl | refine ⟨?_, ?_⟩))⟩ rfl (fun ln hln x hx => ⟨rfl, ?_⟩)
  obtain ⟨y, i, h⟩ := x
  (cbv; repeat (refine Later.mk ?_; cbv))
  rw [← hx] at hy
  dsimp only at hy
  clear hx hi
  obtain ⟨hy, hi⟩ := hy
  refine Test.eql (fun g0 => ?_) (fun g0 => ?_) <;> (cbv; repeat (refine Later.mk ?_; cbv))
  · refine ACall.valN (r := rTB A) (os := fun _ => []) (dp := false) S.cx (specStopped_c S heap list next sq (Nat.le_trans hf.1 (by decide)) (Nat.le_trans hf.2.1 (by decide))) ⟨rfl, (by repeat' (first | exact trivial | exact rfl | exact Nat.le_refl _ | exact S.cx.giveEq | exact S.cx.lendLe (by assumption) | exact S.cx.lendEq (by assumption) | exact S.cx.lendLe0 | exact S.cx.lendEq0 | exact S.cx.partLe (by assumption) | exact S.cx.partEq (by assumption) | exact .inl rfl | refine ⟨?_, ?_⟩)), (by repeat' (first | exact trivial | exact rfl | exact Nat.le_refl _ | exact S.cx.giveEq | exact S.cx.lendLe (by assumption) | exact S.cx.lendEq (by assumption) | exact S.cx.lendLe0 | exact S.cx.lendEq0 | exact S.cx.partLe (by assumption) | exact S.cx.partEq (by assumption) | exact .inl rfl | refine ⟨?_, ?_⟩))⟩ rfl (fun ln hln x hx => ⟨rfl, ?_⟩)
    obtain ⟨⟨heap1, list1, next1⟩, b⟩ := x
    (cbv; repeat (refine Later.mk ?_; cbv))
    have hN1 := hln cTwig heap1
    generalize ln (A.enc cTwig heap1) = N1 at hN1 ⊢
    have hK1 := hln cTimer list1
    generalize ln (A.enc cTimer list1) = K1 at hK1 ⊢
    have hf2 := stopped_Few ⟨heap, list, next⟩ sq
    rw [← hx] at hf2
    clear hx
    refine Arith.go (by lia) (fun n' hn' => ?_); (cbv; repeat (refine Later.mk ?_; cbv))
    replace hn' : n' = n - 1 := hn'
    refine Again.on (⟨heap1, list1, next1, n', i, h, N1, K1⟩ : ZSt) (by dsimp only; lia) ⟨hi, hN1, hK1, hf2, by dsimp only; lia, by dsimp only; lia⟩ ?_
    ((cbv; repeat (refine Later.mk ?_; cbv)); refine Less.to [(999000001, (10020000, 0)), (999000002, (10020001, 0))] rfl rfl ?_ ?_ <;> repeat' (first | exact trivial | exact ⟨rfl, rfl⟩ | exact ⟨_, rfl, Nat.zero_le _, rfl⟩ | apply And.intro | exact rfl))
  refine Test.eql (fun g1 => ?_) (fun g1 => ?_) <;> (cbv; repeat (refine Later.mk ?_; cbv))
  · try (refine Drawn.mk ⟨by kernel_rfl, fun _ => ?_⟩)
    have hd := belowF_ok code hb hc i h hi 12
    refine ACall.valN (r := rCur) (os := oCur A code) (dp := false) S.cx (l1Below_c S code hb hc i h hi 12) ⟨rfl, (by repeat' (first | exact trivial | exact rfl | exact Nat.le_refl _ | exact S.cx.giveEq | exact S.cx.lendLe (by assumption) | exact S.cx.lendEq (by assumption) | exact S.cx.lendLe0 | exact S.cx.lendEq0 | exact S.cx.partLe (by assumption) | exact S.cx.partEq (by assumption) | exact .inl rfl | refine ⟨?_, ?_⟩)), (by repeat' (first | exact trivial | exact rfl | exact Nat.le_refl _ | exact S.cx.giveEq | exact S.cx.lendLe (by assumption) | exact S.cx.lendEq (by assumption) | exact S.cx.lendLe0 | exact S.cx.lendEq0 | exact S.cx.partLe (by assumption) | exact S.cx.partEq (by assumption) | exact .inl rfl | refine ⟨?_, ?_⟩))⟩ rfl (fun ln hln x hx => ⟨rfl, ?_⟩)
    obtain ⟨d, i, h⟩ := x
    (cbv; repeat (refine Later.mk ?_; cbv))
    rw [← hx] at hd
    dsimp only at hd
    clear hx hi
    obtain ⟨hd, hi⟩ := hd
    refine ACall.valN (r := rTB A) (os := fun _ => []) (dp := false) S.cx (specReset_c S heap list next sq d (Nat.le_trans hf.1 (by decide)) (Nat.le_trans hf.2.1 (by decide))) ⟨rfl, (by repeat' (first | exact trivial | exact rfl | exact Nat.le_refl _ | exact S.cx.giveEq | exact S.cx.lendLe (by assumption) | exact S.cx.lendEq (by assumption) | exact S.cx.lendLe0 | exact S.cx.lendEq0 | exact S.cx.partLe (by assumption) | exact S.cx.partEq (by assumption) | exact .inl rfl | refine ⟨?_, ?_⟩)), (by repeat' (first | exact trivial | exact rfl | exact Nat.le_refl _ | exact S.cx.giveEq | exact S.cx.lendLe (by assumption) | exact S.cx.lendEq (by assumption) | exact S.cx.lendLe0 | exact S.cx.lendEq0 | exact S.cx.partLe (by assumption) | exact S.cx.partEq (by assumption) | exact .inl rfl | refine ⟨?_, ?_⟩))⟩ rfl (fun ln hln x hx => ⟨rfl, ?_⟩)
    obtain ⟨⟨heap1, list1, next1⟩, b⟩ := x
    (cbv; repeat (refine Later.mk ?_; cbv))
    have hN1 := hln cTwig heap1
    generalize ln (A.enc cTwig heap1) = N1 at hN1 ⊢
    have hK1 := hln cTimer list1
    generalize ln (A.enc cTimer list1) = K1 at hK1 ⊢
    have hf2 := reset_Few ⟨heap, list, next⟩ sq d
    rw [← hx] at hf2
    clear hx
    refine Arith.go (by lia) (fun n' hn' => ?_); (cbv; repeat (refine Later.mk ?_; cbv))
    replace hn' : n' = n - 1 := hn'
    refine Again.on (⟨heap1, list1, next1, n', i, h, N1, K1⟩ : ZSt) (by dsimp only; lia) ⟨hi, hN1, hK1, hf2, by dsimp only; lia, by dsimp only; lia⟩ ?_
    ((cbv; repeat (refine Later.mk ?_; cbv)); refine Less.to [(999000001, (12040000, 0)), (999000002, (12040001, 0))] rfl rfl ?_ ?_ <;> repeat' (first | exact trivial | exact ⟨rfl, rfl⟩ | exact ⟨_, rfl, Nat.zero_le _, rfl⟩ | apply And.intro | exact rfl))
  refine Test.eql (fun g2 => ?_) (fun g2 => ?_) <;> (cbv; repeat (refine Later.mk ?_; cbv))
  · try (refine Drawn.mk ⟨by kernel_rfl, fun _ => ?_⟩)
    have hd := belowF_ok code hb hc i h hi 12
    refine ACall.valN (r := rCur) (os := oCur A code) (dp := false) S.cx (l1Below_c S code hb hc i h hi 12) ⟨rfl, (by repeat' (first | exact trivial | exact rfl | exact Nat.le_refl _ | exact S.cx.giveEq | exact S.cx.lendLe (by assumption) | exact S.cx.lendEq (by assumption) | exact S.cx.lendLe0 | exact S.cx.lendEq0 | exact S.cx.partLe (by assumption) | exact S.cx.partEq (by assumption) | exact .inl rfl | refine ⟨?_, ?_⟩)), (by repeat' (first | exact trivial | exact rfl | exact Nat.le_refl _ | exact S.cx.giveEq | exact S.cx.lendLe (by assumption) | exact S.cx.lendEq (by assumption) | exact S.cx.lendLe0 | exact S.cx.lendEq0 | exact S.cx.partLe (by assumption) | exact S.cx.partEq (by assumption) | exact .inl rfl | refine ⟨?_, ?_⟩))⟩ rfl (fun ln hln x hx => ⟨rfl, ?_⟩)
    obtain ⟨d, i, h⟩ := x
    (cbv; repeat (refine Later.mk ?_; cbv))
    rw [← hx] at hd
    dsimp only at hd
    clear hx hi
    obtain ⟨hd, hi⟩ := hd
    refine ACall.valN (r := rTTimB A) (os := fun _ => []) (dp := false) S.cx (specFired_c S heap list next d (Nat.le_trans hf.1 (by decide)) (Nat.le_trans hf.2.1 (by decide))) ⟨rfl, (by repeat' (first | exact trivial | exact rfl | exact Nat.le_refl _ | exact S.cx.giveEq | exact S.cx.lendLe (by assumption) | exact S.cx.lendEq (by assumption) | exact S.cx.lendLe0 | exact S.cx.lendEq0 | exact S.cx.partLe (by assumption) | exact S.cx.partEq (by assumption) | exact .inl rfl | refine ⟨?_, ?_⟩)), (by repeat' (first | exact trivial | exact rfl | exact Nat.le_refl _ | exact S.cx.giveEq | exact S.cx.lendLe (by assumption) | exact S.cx.lendEq (by assumption) | exact S.cx.lendLe0 | exact S.cx.lendEq0 | exact S.cx.partLe (by assumption) | exact S.cx.partEq (by assumption) | exact .inl rfl | refine ⟨?_, ?_⟩))⟩ rfl (fun ln hln x hx => ⟨rfl, ?_⟩)
    obtain ⟨⟨heap1, list1, next1⟩, ⟨us, ud, uw, uh, ua⟩, b⟩ := x
    (cbv; repeat (refine Later.mk ?_; cbv))
    have hN1 := hln cTwig heap1
    generalize ln (A.enc cTwig heap1) = N1 at hN1 ⊢
    have hK1 := hln cTimer list1
    generalize ln (A.enc cTimer list1) = K1 at hK1 ⊢
    have hf2 := fired_Few ⟨heap, list, next⟩ d
    rw [← hx] at hf2
    clear hx
    refine Arith.go (by lia) (fun n' hn' => ?_); (cbv; repeat (refine Later.mk ?_; cbv))
    replace hn' : n' = n - 1 := hn'
    refine Again.on (⟨heap1, list1, next1, n', i, h, N1, K1⟩ : ZSt) (by dsimp only; lia) ⟨hi, hN1, hK1, hf2, by dsimp only; lia, by dsimp only; lia⟩ ?_
    ((cbv; repeat (refine Later.mk ?_; cbv)); refine Less.to [(999000001, (14030000, 0)), (999000002, (14030001, 0))] rfl rfl ?_ ?_ <;> repeat' (first | exact trivial | exact ⟨rfl, rfl⟩ | exact ⟨_, rfl, Nat.zero_le _, rfl⟩ | apply And.intro | exact rfl))
  refine Test.eql (fun g3 => ?_) (fun g3 => ?_) <;> (cbv; repeat (refine Later.mk ?_; cbv))
  · have hbb := onceF_ok code hb hc i h hi 3
    refine ACall.valN (r := rCurB) (os := oCur A code) (dp := false) S.cx (l1Once_c S code hb hc i h hi 3) ⟨rfl, (by repeat' (first | exact trivial | exact rfl | exact Nat.le_refl _ | exact S.cx.giveEq | exact S.cx.lendLe (by assumption) | exact S.cx.lendEq (by assumption) | exact S.cx.lendLe0 | exact S.cx.lendEq0 | exact S.cx.partLe (by assumption) | exact S.cx.partEq (by assumption) | exact .inl rfl | refine ⟨?_, ?_⟩)), (by repeat' (first | exact trivial | exact rfl | exact Nat.le_refl _ | exact S.cx.giveEq | exact S.cx.lendLe (by assumption) | exact S.cx.lendEq (by assumption) | exact S.cx.lendLe0 | exact S.cx.lendEq0 | exact S.cx.partLe (by assumption) | exact S.cx.partEq (by assumption) | exact .inl rfl | refine ⟨?_, ?_⟩))⟩ rfl (fun ln hln x hx => ⟨rfl, ?_⟩)
    obtain ⟨b, i, h⟩ := x
    (cbv; repeat (refine Later.mk ?_; cbv))
    rw [← hx] at hbb
    dsimp only at hbb
    clear hx hi
    obtain ⟨hbb, hi⟩ := hbb
    cases b <;> (cbv; repeat (refine Later.mk ?_; cbv))
    · refine Arith.go (by lia) (fun n' hn' => ?_); (cbv; repeat (refine Later.mk ?_; cbv))
      replace hn' : n' = n - 1 := hn'
      refine Again.on (⟨heap, list, next, n', i, h, hn, lnn⟩ : ZSt) (by dsimp only; lia) ⟨hi, hhn, hlnn, hf, by dsimp only; lia, by dsimp only; lia⟩ ?_
      ((cbv; repeat (refine Later.mk ?_; cbv)); refine Less.to [] rfl rfl ?_ ?_ <;> repeat' (first | exact trivial | exact ⟨rfl, rfl⟩ | exact ⟨_, rfl, Nat.zero_le _, rfl⟩ | apply And.intro | exact rfl))
    refine ACall.valN (r := rTB A) (os := fun _ => []) (dp := false) S.cx (specForgotten_c S heap list next sq (Nat.le_trans hf.1 (by decide)) (Nat.le_trans hf.2.1 (by decide))) ⟨rfl, (by repeat' (first | exact trivial | exact rfl | exact Nat.le_refl _ | exact S.cx.giveEq | exact S.cx.lendLe (by assumption) | exact S.cx.lendEq (by assumption) | exact S.cx.lendLe0 | exact S.cx.lendEq0 | exact S.cx.partLe (by assumption) | exact S.cx.partEq (by assumption) | exact .inl rfl | refine ⟨?_, ?_⟩)), (by repeat' (first | exact trivial | exact rfl | exact Nat.le_refl _ | exact S.cx.giveEq | exact S.cx.lendLe (by assumption) | exact S.cx.lendEq (by assumption) | exact S.cx.lendLe0 | exact S.cx.lendEq0 | exact S.cx.partLe (by assumption) | exact S.cx.partEq (by assumption) | exact .inl rfl | refine ⟨?_, ?_⟩))⟩ rfl (fun ln hln x hx => ⟨rfl, ?_⟩)
    obtain ⟨⟨heap1, list1, next1⟩, b⟩ := x
    (cbv; repeat (refine Later.mk ?_; cbv))
    have hN1 := hln cTwig heap1
    generalize ln (A.enc cTwig heap1) = N1 at hN1 ⊢
    have hK1 := hln cTimer list1
    generalize ln (A.enc cTimer list1) = K1 at hK1 ⊢
    have hf2 := forgotten_Few ⟨heap, list, next⟩ sq
    rw [← hx] at hf2
    clear hx
    refine Arith.go (by lia) (fun n' hn' => ?_); (cbv; repeat (refine Later.mk ?_; cbv))
    replace hn' : n' = n - 1 := hn'
    refine Again.on (⟨heap1, list1, next1, n', i, h, N1, K1⟩ : ZSt) (by dsimp only; lia) ⟨hi, hN1, hK1, hf2, by dsimp only; lia, by dsimp only; lia⟩ ?_
    ((cbv; repeat (refine Later.mk ?_; cbv)); refine Less.to [(999000001, (17020000, 0)), (999000002, (17020001, 0))] rfl rfl ?_ ?_ <;> repeat' (first | exact trivial | exact ⟨rfl, rfl⟩ | exact ⟨_, rfl, Nat.zero_le _, rfl⟩ | apply And.intro | exact rfl))
  try (refine Drawn.mk ⟨by kernel_rfl, fun _ => ?_⟩)
  have hd1 := belowF_ok code hb hc i h hi 12
  refine ACall.valN (r := rCur) (os := oCur A code) (dp := false) S.cx (l1Below_c S code hb hc i h hi 12) ⟨rfl, (by repeat' (first | exact trivial | exact rfl | exact Nat.le_refl _ | exact S.cx.giveEq | exact S.cx.lendLe (by assumption) | exact S.cx.lendEq (by assumption) | exact S.cx.lendLe0 | exact S.cx.lendEq0 | exact S.cx.partLe (by assumption) | exact S.cx.partEq (by assumption) | exact .inl rfl | refine ⟨?_, ?_⟩)), (by repeat' (first | exact trivial | exact rfl | exact Nat.le_refl _ | exact S.cx.giveEq | exact S.cx.lendLe (by assumption) | exact S.cx.lendEq (by assumption) | exact S.cx.lendLe0 | exact S.cx.lendEq0 | exact S.cx.partLe (by assumption) | exact S.cx.partEq (by assumption) | exact .inl rfl | refine ⟨?_, ?_⟩))⟩ rfl (fun ln hln x hx => ⟨rfl, ?_⟩)
  obtain ⟨d1, i, h⟩ := x
  (cbv; repeat (refine Later.mk ?_; cbv))
  rw [← hx] at hd1
  dsimp only at hd1
  clear hx hi
  obtain ⟨hd1, hi⟩ := hd1
  have hd2 := belowF_ok code hb hc i h hi 3
  refine ACall.valN (r := rCur) (os := oCur A code) (dp := false) S.cx (l1Below_c S code hb hc i h hi 3) ⟨rfl, (by repeat' (first | exact trivial | exact rfl | exact Nat.le_refl _ | exact S.cx.giveEq | exact S.cx.lendLe (by assumption) | exact S.cx.lendEq (by assumption) | exact S.cx.lendLe0 | exact S.cx.lendEq0 | exact S.cx.partLe (by assumption) | exact S.cx.partEq (by assumption) | exact .inl rfl | refine ⟨?_, ?_⟩)), (by repeat' (first | exact trivial | exact rfl | exact Nat.le_refl _ | exact S.cx.giveEq | exact S.cx.lendLe (by assumption) | exact S.cx.lendEq (by assumption) | exact S.cx.lendLe0 | exact S.cx.lendEq0 | exact S.cx.partLe (by assumption) | exact S.cx.partEq (by assumption) | exact .inl rfl | refine ⟨?_, ?_⟩))⟩ rfl (fun ln hln x hx => ⟨rfl, ?_⟩)
  obtain ⟨d2, i, h⟩ := x
  (cbv; repeat (refine Later.mk ?_; cbv))
  rw [← hx] at hd2
  dsimp only at hd2
  clear hx hi
  obtain ⟨hd2, hi⟩ := hd2
  have hd3 := belowF_ok code hb hc i h hi 3
  refine ACall.valN (r := rCur) (os := oCur A code) (dp := false) S.cx (l1Below_c S code hb hc i h hi 3) ⟨rfl, (by repeat' (first | exact trivial | exact rfl | exact Nat.le_refl _ | exact S.cx.giveEq | exact S.cx.lendLe (by assumption) | exact S.cx.lendEq (by assumption) | exact S.cx.lendLe0 | exact S.cx.lendEq0 | exact S.cx.partLe (by assumption) | exact S.cx.partEq (by assumption) | exact .inl rfl | refine ⟨?_, ?_⟩)), (by repeat' (first | exact trivial | exact rfl | exact Nat.le_refl _ | exact S.cx.giveEq | exact S.cx.lendLe (by assumption) | exact S.cx.lendEq (by assumption) | exact S.cx.lendLe0 | exact S.cx.lendEq0 | exact S.cx.partLe (by assumption) | exact S.cx.partEq (by assumption) | exact .inl rfl | refine ⟨?_, ?_⟩))⟩ rfl (fun ln hln x hx => ⟨rfl, ?_⟩)
  obtain ⟨d3, i, h⟩ := x
  (cbv; repeat (refine Later.mk ?_; cbv))
  rw [← hx] at hd3
  dsimp only at hd3
  clear hx hi
  obtain ⟨hd3, hi⟩ := hd3
  refine ACall.valN (r := rTI A) (os := fun _ => []) (dp := false) S.cx (specArmed_c S heap list next d1 d2 d3 (Nat.le_trans hf.1 (by decide)) (Nat.le_trans hf.2.1 (by decide))) ⟨rfl, (by repeat' (first | exact trivial | exact rfl | exact Nat.le_refl _ | exact S.cx.giveEq | exact S.cx.lendLe (by assumption) | exact S.cx.lendEq (by assumption) | exact S.cx.lendLe0 | exact S.cx.lendEq0 | exact S.cx.partLe (by assumption) | exact S.cx.partEq (by assumption) | exact .inl rfl | refine ⟨?_, ?_⟩)), (by repeat' (first | exact trivial | exact rfl | exact Nat.le_refl _ | exact S.cx.giveEq | exact S.cx.lendLe (by assumption) | exact S.cx.lendEq (by assumption) | exact S.cx.lendLe0 | exact S.cx.lendEq0 | exact S.cx.partLe (by assumption) | exact S.cx.partEq (by assumption) | exact .inl rfl | refine ⟨?_, ?_⟩))⟩ rfl (fun ln hln x hx => ⟨rfl, ?_⟩)
  obtain ⟨⟨heap1, list1, next1⟩, b⟩ := x
  (cbv; repeat (refine Later.mk ?_; cbv))
  have hN1 := hln cTwig heap1
  generalize ln (A.enc cTwig heap1) = N1 at hN1 ⊢
  have hK1 := hln cTimer list1
  generalize ln (A.enc cTimer list1) = K1 at hK1 ⊢
  have hf2 := armed_Few ⟨heap, list, next⟩ d1 d2 d3
  rw [← hx] at hf2
  clear hx
  refine Arith.go (by lia) (fun n' hn' => ?_); (cbv; repeat (refine Later.mk ?_; cbv))
  replace hn' : n' = n - 1 := hn'
  refine Again.on (⟨heap1, list1, next1, n', i, h, N1, K1⟩ : ZSt) (by dsimp only; lia) ⟨hi, hN1, hK1, hf2, by dsimp only; lia, by dsimp only; lia⟩ ?_
  ((cbv; repeat (refine Later.mk ?_; cbv)); refine Less.to [(999000001, (8070000, 0)), (999000002, (8070001, 0))] rfl rfl ?_ ?_ <;> repeat' (first | exact trivial | exact ⟨rfl, rfl⟩ | exact ⟨_, rfl, Nat.zero_le _, rfl⟩ | apply And.intro | exact rfl))

theorem l4DrawAny_c (S : Se P A) (code : List Int) (hb : code.length ≤ 4096) (hc : ∀ b ∈ code, 0 ≤ b ∧ b ≤ 255) (i h : Int) (hi : 0 ≤ i) : SoundM P 179 true [.ptr 1000 0 0] [.box [.ro (A.enc cByte code), .int .i64 i, .int .i64 h]]
    (fun v os => ∃ (t : Timers) (i' h' : Int), (t.heap.length ≤ 64 ∧ t.list.length ≤ 64) ∧ 0 ≤ i' ∧ v = .agg (ownTimers A t) ∧ os = [some (.box [.ro (A.enc cByte code), .int .i64 i', .int .i64 h'])]) := by
  refine S.cx.byS [99999] (S.prog ▸ Try.func179) rfl rfl rfl rfl (fun ln hln hv ho => ?_)
  (cbv; repeat (refine Later.mk ?_; cbv))
  refine ACall.ofN (dp := false) S.cx (l4Draw_c S code hb hc i h hi) ⟨rfl, (by repeat' (first | exact trivial | exact rfl | exact Nat.le_refl _ | exact S.cx.giveEq | exact S.cx.lendLe (by assumption) | exact S.cx.lendEq (by assumption) | exact S.cx.lendLe0 | exact S.cx.lendEq0 | exact S.cx.partLe (by assumption) | exact S.cx.partEq (by assumption) | exact .inl rfl | refine ⟨?_, ?_⟩)), (by repeat' (first | exact trivial | exact rfl | exact Nat.le_refl _ | exact S.cx.giveEq | exact S.cx.lendLe (by assumption) | exact S.cx.lendEq (by assumption) | exact S.cx.lendLe0 | exact S.cx.lendEq0 | exact S.cx.partLe (by assumption) | exact S.cx.partEq (by assumption) | exact .inl rfl | refine ⟨?_, ?_⟩))⟩ (fun ln hln v os hv => ?_)
  clear hi
  obtain ⟨⟨heap, list, next⟩, i, h, hf, hi, rfl, rfl⟩ := hv
  refine ⟨rfl, ?_⟩; (cbv; repeat (refine Later.mk ?_; cbv))
  dsimp only at hf
  have hN := hln cTwig heap
  generalize ln (A.enc cTwig heap) = N at hN ⊢
  have hK := hln cTimer list
  generalize ln (A.enc cTimer list) = K at hK ⊢
  have hbb := onceF_ok code hb hc i h hi 6
  refine ACall.valN (r := rCurB) (os := oCur A code) (dp := false) S.cx (l1Once_c S code hb hc i h hi 6) ⟨rfl, (by repeat' (first | exact trivial | exact rfl | exact Nat.le_refl _ | exact S.cx.giveEq | exact S.cx.lendLe (by assumption) | exact S.cx.lendEq (by assumption) | exact S.cx.lendLe0 | exact S.cx.lendEq0 | exact S.cx.partLe (by assumption) | exact S.cx.partEq (by assumption) | exact .inl rfl | refine ⟨?_, ?_⟩)), (by repeat' (first | exact trivial | exact rfl | exact Nat.le_refl _ | exact S.cx.giveEq | exact S.cx.lendLe (by assumption) | exact S.cx.lendEq (by assumption) | exact S.cx.lendLe0 | exact S.cx.lendEq0 | exact S.cx.partLe (by assumption) | exact S.cx.partEq (by assumption) | exact .inl rfl | refine ⟨?_, ?_⟩))⟩ rfl (fun ln hln x hx => ⟨rfl, ?_⟩)
  obtain ⟨b, i, h⟩ := x
  (cbv; repeat (refine Later.mk ?_; cbv))
  rw [← hx] at hbb
  dsimp only at hbb
  clear hx hi
  obtain ⟨hbb, hi⟩ := hbb
  cases b <;> (cbv; repeat (refine Later.mk ?_; cbv))
  · exact Done.to (.agg (ownTimers A ⟨heap, list, next⟩)) [some (.box [.ro (A.enc cByte code), .int .i64 i, .int .i64 h])] rfl (by repeat' (first | exact trivial | exact rfl | exact resOwn S.cx rfl (by assumption) | exact resOwn S.cx rfl (S.cx.lenE _ _) | exact resOwn1 S.cx rfl (by assumption) | exact resOwnT S.cx rfl (by assumption) | exact S.cx.enc _ [] | refine ⟨?_, ?_⟩)) ⟨⟨⟨rfl, .inl rfl⟩, rfl, rfl, trivial⟩, trivial⟩ ⟨⟨heap, list, next⟩, i, h, hf, hi, rfl, rfl⟩
  have hy := belowF_ok code hb hc i h hi 4
  refine ACall.valN (r := rCur) (os := oCur A code) (dp := false) S.cx (l1Below_c S code hb hc i h hi 4) ⟨rfl, (by repeat' (first | exact trivial | exact rfl | exact Nat.le_refl _ | exact S.cx.giveEq | exact S.cx.lendLe (by assumption) | exact S.cx.lendEq (by assumption) | exact S.cx.lendLe0 | exact S.cx.lendEq0 | exact S.cx.partLe (by assumption) | exact S.cx.partEq (by assumption) | exact .inl rfl | refine ⟨?_, ?_⟩)), (by repeat' (first | exact trivial | exact rfl | exact Nat.le_refl _ | exact S.cx.giveEq | exact S.cx.lendLe (by assumption) | exact S.cx.lendEq (by assumption) | exact S.cx.lendLe0 | exact S.cx.lendEq0 | exact S.cx.partLe (by assumption) | exact S.cx.partEq (by assumption) | exact .inl rfl | refine ⟨?_, ?_⟩))⟩ rfl (fun ln hln x hx => ⟨rfl, ?_⟩)
  obtain ⟨y, i, h⟩ := x
  (cbv; repeat (refine Later.mk ?_; cbv))
  rw [← hx] at hy
  dsimp only at hy
  clear hx hi
  obtain ⟨hy, hi⟩ := hy
  refine Test.eql (fun g0 => ?_) (fun g0 => ?_) <;> (cbv; repeat (refine Later.mk ?_; cbv))
  · have ha := belowF_ok code hb hc i h hi 4
    refine ACall.valN (r := rCur) (os := oCur A code) (dp := false) S.cx (l1Below_c S code hb hc i h hi 4) ⟨rfl, (by repeat' (first | exact trivial | exact rfl | exact Nat.le_refl _ | exact S.cx.giveEq | exact S.cx.lendLe (by assumption) | exact S.cx.lendEq (by assumption) | exact S.cx.lendLe0 | exact S.cx.lendEq0 | exact S.cx.partLe (by assumption) | exact S.cx.partEq (by assumption) | exact .inl rfl | refine ⟨?_, ?_⟩)), (by repeat' (first | exact trivial | exact rfl | exact Nat.le_refl _ | exact S.cx.giveEq | exact S.cx.lendLe (by assumption) | exact S.cx.lendEq (by assumption) | exact S.cx.lendLe0 | exact S.cx.lendEq0 | exact S.cx.partLe (by assumption) | exact S.cx.partEq (by assumption) | exact .inl rfl | refine ⟨?_, ?_⟩))⟩ rfl (fun ln hln x hx => ⟨rfl, ?_⟩)
    obtain ⟨a, i, h⟩ := x
    (cbv; repeat (refine Later.mk ?_; cbv))
    rw [← hx] at ha
    dsimp only at ha
    clear hx hi
    obtain ⟨ha, hi⟩ := ha
    have ha9 := ha.2.1 (by decide)
    have ha7 := ha.1
    refine ElemRef.go rfl (by lia) (by lia) (by simp only [List.length_cons, List.length_nil]; lia) (fun row hrow => ?_); (cbv; repeat (refine Later.mk ?_; cbv))
    refine Row.lit S.cx (f := cInt64) ([-1, 0, 1000000, 1000001] : List Int) rfl (by simp only [List.length_cons, List.length_nil]; lia) (fun x hxx => ?_); (cbv; repeat (refine Later.mk ?_; cbv))
    exact Done.to (.agg (ownTimers A ⟨heap, list, x⟩)) [some (.box [.ro (A.enc cByte code), .int .i64 i, .int .i64 h])] rfl (by repeat' (first | exact trivial | exact rfl | exact resOwn S.cx rfl (by assumption) | exact resOwn S.cx rfl (S.cx.lenE _ _) | exact resOwn1 S.cx rfl (by assumption) | exact resOwnT S.cx rfl (by assumption) | exact S.cx.enc _ [] | refine ⟨?_, ?_⟩)) ⟨⟨⟨rfl, .inl rfl⟩, rfl, rfl, trivial⟩, trivial⟩ ⟨⟨heap, list, x⟩, i, h, hf, hi, rfl, rfl⟩
  refine Test.eql (fun g1 => ?_) (fun g1 => ?_) <;> (cbv; repeat (refine Later.mk ?_; cbv))
  · refine ACall.ofN (dp := false) S.cx (l3DrawAny_c S code hb hc i h hi 0 (by decide)) ⟨rfl, (by repeat' (first | exact trivial | exact rfl | exact Nat.le_refl _ | exact S.cx.giveEq | exact S.cx.lendLe (by assumption) | exact S.cx.lendEq (by assumption) | exact S.cx.lendLe0 | exact S.cx.lendEq0 | exact S.cx.partLe (by assumption) | exact S.cx.partEq (by assumption) | exact .inl rfl | refine ⟨?_, ?_⟩)), (by repeat' (first | exact trivial | exact rfl | exact Nat.le_refl _ | exact S.cx.giveEq | exact S.cx.lendLe (by assumption) | exact S.cx.lendEq (by assumption) | exact S.cx.lendLe0 | exact S.cx.lendEq0 | exact S.cx.partLe (by assumption) | exact S.cx.partEq (by assumption) | exact .inl rfl | refine ⟨?_, ?_⟩))⟩ (fun ln hln v os hv => ?_)
    clear hi
    obtain ⟨heap2, i, h, hf2, hi, rfl, rfl⟩ := hv
    refine ⟨rfl, ?_⟩; (cbv; repeat (refine Later.mk ?_; cbv))
    have hN2 := hln cTwig heap2
    generalize ln (A.enc cTwig heap2) = N2 at hN2 ⊢
    exact Done.to (.agg (ownTimers A ⟨heap2, list, next⟩)) [some (.box [.ro (A.enc cByte code), .int .i64 i, .int .i64 h])] rfl (by repeat' (first | exact trivial | exact rfl | exact resOwn S.cx rfl (by assumption) | exact resOwn S.cx rfl (S.cx.lenE _ _) | exact resOwn1 S.cx rfl (by assumption) | exact resOwnT S.cx rfl (by assumption) | exact S.cx.enc _ [] | refine ⟨?_, ?_⟩)) ⟨⟨⟨rfl, .inl rfl⟩, rfl, rfl, trivial⟩, trivial⟩ ⟨⟨heap2, list, next⟩, i, h, ⟨hf2, hf.2⟩, hi, rfl, rfl⟩
  refine Test.eql (fun g2 => ?_) (fun g2 => ?_) <;> (cbv; repeat (refine Later.mk ?_; cbv))
  · refine Len.nat (fun m hm hml => ?_); (cbv; repeat (refine Later.mk ?_; cbv))
    refine Test.gtr (fun hg => ?_) (fun hg => ?_) <;> (cbv; repeat (refine Later.mk ?_; cbv))
    rotate_left
    · exact Done.to (.agg (ownTimers A ⟨heap, list, next⟩)) [some (.box [.ro (A.enc cByte code), .int .i64 i, .int .i64 h])] rfl (by repeat' (first | exact trivial | exact rfl | exact resOwn S.cx rfl (by assumption) | exact resOwn S.cx rfl (S.cx.lenE _ _) | exact resOwn1 S.cx rfl (by assumption) | exact resOwnT S.cx rfl (by assumption) | exact S.cx.enc _ [] | refine ⟨?_, ?_⟩)) ⟨⟨⟨rfl, .inl rfl⟩, rfl, rfl, trivial⟩, trivial⟩ ⟨⟨heap, list, next⟩, i, h, hf, hi, rfl, rfl⟩
    obtain ⟨x, hxx⟩ : ∃ x, list[(0 : Nat)]? = some x := ⟨_, List.getElem?_eq_getElem (by lia)⟩
    obtain ⟨xs, xd, xw, xh, xa⟩ := x
    try (refine Drawn.mk ⟨by kernel_rfl, fun _ => ?_⟩)
    refine ElemRef.go rfl (by lia) (by lia) (by rw [S.cx.lenE']; lia) (fun row hrow => ?_); (cbv; repeat (refine Later.mk ?_; cbv))
    refine Row.enc S.cx (by lia) (fun x' hx' => ?_)
    obtain rfl : x' = ⟨xs, xd, xw, xh, xa⟩ := by rw [show row = 0 by lia, hxx] at hx'; exact (Option.some.inj hx').symm
    cases xa <;> (cbv; repeat (refine Later.mk ?_; cbv))
    · refine ElemRef.go rfl (by lia) (by lia) (by rw [S.cx.lenE']; lia) (fun row4 hrow4 => ?_); (cbv; repeat (refine Later.mk ?_; cbv))
      have hr4 : row4 = 0 := by lia
      refine RowSet.enc S.cx (⟨xs, xd, xw, xh, false⟩ : Timer) ⟨xs, xd, xw, xh, true⟩ (by rw [hr4]; exact hxx) rfl (by show (5 : Nat) ≤ 5; decide) rfl (fun l2 hl2 => ?_); (cbv; repeat (refine Later.mk ?_; cbv))
      have hl2l : l2.length = list.length := by rw [hl2, List.length_set]
      have hK2 : K = l2.length := by omega
      exact Done.to (.agg (ownTimers A ⟨heap, l2, next⟩)) [some (.box [.ro (A.enc cByte code), .int .i64 i, .int .i64 h])] rfl (by repeat' (first | exact trivial | exact rfl | exact resOwn S.cx rfl (by assumption) | exact resOwn S.cx rfl (S.cx.lenE _ _) | exact resOwn1 S.cx rfl (by assumption) | exact resOwnT S.cx rfl (by assumption) | exact S.cx.enc _ [] | refine ⟨?_, ?_⟩)) ⟨⟨⟨rfl, .inl rfl⟩, rfl, rfl, trivial⟩, trivial⟩ ⟨⟨heap, l2, next⟩, i, h, ⟨hf.1, by dsimp only; omega⟩, hi, rfl, rfl⟩
    · refine ElemRef.go rfl (by lia) (by lia) (by rw [S.cx.lenE']; lia) (fun row4 hrow4 => ?_); (cbv; repeat (refine Later.mk ?_; cbv))
      have hr4 : row4 = 0 := by lia
      refine RowSet.enc S.cx (⟨xs, xd, xw, xh, true⟩ : Timer) ⟨xs, xd, xw, xh, false⟩ (by rw [hr4]; exact hxx) rfl (by show (5 : Nat) ≤ 5; decide) rfl (fun l2 hl2 => ?_); (cbv; repeat (refine Later.mk ?_; cbv))
      have hl2l : l2.length = list.length := by rw [hl2, List.length_set]
      have hK2 : K = l2.length := by omega
      exact Done.to (.agg (ownTimers A ⟨heap, l2, next⟩)) [some (.box [.ro (A.enc cByte code), .int .i64 i, .int .i64 h])] rfl (by repeat' (first | exact trivial | exact rfl | exact resOwn S.cx rfl (by assumption) | exact resOwn S.cx rfl (S.cx.lenE _ _) | exact resOwn1 S.cx rfl (by assumption) | exact resOwnT S.cx rfl (by assumption) | exact S.cx.enc _ [] | refine ⟨?_, ?_⟩)) ⟨⟨⟨rfl, .inl rfl⟩, rfl, rfl, trivial⟩, trivial⟩ ⟨⟨heap, l2, next⟩, i, h, ⟨hf.1, by dsimp only; omega⟩, hi, rfl, rfl⟩
  refine Test.eql (fun g3 => ?_) (fun g3 => ?_) <;> (cbv; repeat (refine Later.mk ?_; cbv))
  rotate_left
  · exact Done.to (.agg (ownTimers A ⟨heap, list, next⟩)) [some (.box [.ro (A.enc cByte code), .int .i64 i, .int .i64 h])] rfl (by repeat' (first | exact trivial | exact rfl | exact resOwn S.cx rfl (by assumption) | exact resOwn S.cx rfl (S.cx.lenE _ _) | exact resOwn1 S.cx rfl (by assumption) | exact resOwnT S.cx rfl (by assumption) | exact S.cx.enc _ [] | refine ⟨?_, ?_⟩)) ⟨⟨⟨rfl, .inl rfl⟩, rfl, rfl, trivial⟩, trivial⟩ ⟨⟨heap, list, next⟩, i, h, hf, hi, rfl, rfl⟩
  refine Len.nat (fun m hm hml => ?_); (cbv; repeat (refine Later.mk ?_; cbv))
  refine Test.gtr (fun hg => ?_) (fun hg => ?_) <;> (cbv; repeat (refine Later.mk ?_; cbv))
  rotate_left
  · exact Done.to (.agg (ownTimers A ⟨heap, list, next⟩)) [some (.box [.ro (A.enc cByte code), .int .i64 i, .int .i64 h])] rfl (by repeat' (first | exact trivial | exact rfl | exact resOwn S.cx rfl (by assumption) | exact resOwn S.cx rfl (S.cx.lenE _ _) | exact resOwn1 S.cx rfl (by assumption) | exact resOwnT S.cx rfl (by assumption) | exact S.cx.enc _ [] | refine ⟨?_, ?_⟩)) ⟨⟨⟨rfl, .inl rfl⟩, rfl, rfl, trivial⟩, trivial⟩ ⟨⟨heap, list, next⟩, i, h, hf, hi, rfl, rfl⟩
  obtain ⟨x, hxx⟩ : ∃ x, list[(0 : Nat)]? = some x := ⟨_, List.getElem?_eq_getElem (by lia)⟩
  obtain ⟨xs, xd, xw, xh, xa⟩ := x
  try (refine Drawn.mk ⟨by kernel_rfl, fun _ => ?_⟩)
  have hz := numF_ok code hb hc i h hi 99
  refine ACall.valN (r := rCur) (os := oCur A code) (dp := false) S.cx (l1Num_c S code hb hc i h hi 99 (by decide)) ⟨rfl, (by repeat' (first | exact trivial | exact rfl | exact Nat.le_refl _ | exact S.cx.giveEq | exact S.cx.lendLe (by assumption) | exact S.cx.lendEq (by assumption) | exact S.cx.lendLe0 | exact S.cx.lendEq0 | exact S.cx.partLe (by assumption) | exact S.cx.partEq (by assumption) | exact .inl rfl | refine ⟨?_, ?_⟩)), (by repeat' (first | exact trivial | exact rfl | exact Nat.le_refl _ | exact S.cx.giveEq | exact S.cx.lendLe (by assumption) | exact S.cx.lendEq (by assumption) | exact S.cx.lendLe0 | exact S.cx.lendEq0 | exact S.cx.partLe (by assumption) | exact S.cx.partEq (by assumption) | exact .inl rfl | refine ⟨?_, ?_⟩))⟩ rfl (fun ln hln x hx => ⟨rfl, ?_⟩)
  obtain ⟨z, i, h⟩ := x
  (cbv; repeat (refine Later.mk ?_; cbv))
  rw [← hx] at hz
  dsimp only at hz
  clear hx hi
  obtain ⟨hz, hi⟩ := hz
  refine ElemRef.go rfl (by lia) (by lia) (by rw [S.cx.lenE']; lia) (fun row3 hrow3 => ?_); (cbv; repeat (refine Later.mk ?_; cbv))
  have hr3 : row3 = 0 := by lia
  refine RowSet.enc S.cx (⟨xs, xd, xw, xh, xa⟩ : Timer) ⟨xs, xd, xw, z, xa⟩ (by rw [hr3]; exact hxx) rfl (by show (4 : Nat) ≤ 5; decide) rfl (fun l2 hl2 => ?_); (cbv; repeat (refine Later.mk ?_; cbv))
  have hl2l : l2.length = list.length := by rw [hl2, List.length_set]
  have hxx2 : l2[(0 : Nat)]? = some ⟨xs, xd, xw, z, xa⟩ := by rw [hl2, hr3, List.getElem?_set_self (by lia)]
  have hK2 : K = l2.length := by omega
  try (refine Drawn.mk ⟨by kernel_rfl, fun _ => ?_⟩)
  have hz2 := numF_ok code hb hc i h hi 2
  refine ACall.valN (r := rCur) (os := oCur A code) (dp := false) S.cx (l1Num_c S code hb hc i h hi 2 (by decide)) ⟨rfl, (by repeat' (first | exact trivial | exact rfl | exact Nat.le_refl _ | exact S.cx.giveEq | exact S.cx.lendLe (by assumption) | exact S.cx.lendEq (by assumption) | exact S.cx.lendLe0 | exact S.cx.lendEq0 | exact S.cx.partLe (by assumption) | exact S.cx.partEq (by assumption) | exact .inl rfl | refine ⟨?_, ?_⟩)), (by repeat' (first | exact trivial | exact rfl | exact Nat.le_refl _ | exact S.cx.giveEq | exact S.cx.lendLe (by assumption) | exact S.cx.lendEq (by assumption) | exact S.cx.lendLe0 | exact S.cx.lendEq0 | exact S.cx.partLe (by assumption) | exact S.cx.partEq (by assumption) | exact .inl rfl | refine ⟨?_, ?_⟩))⟩ rfl (fun ln hln x hx => ⟨rfl, ?_⟩)
  obtain ⟨z2, i, h⟩ := x
  (cbv; repeat (refine Later.mk ?_; cbv))
  rw [← hx] at hz2
  dsimp only at hz2
  clear hx hi
  obtain ⟨hz2, hi⟩ := hz2
  refine ElemRef.go rfl (by lia) (by lia) (by rw [S.cx.lenE']; lia) (fun row2 hrow2 => ?_); (cbv; repeat (refine Later.mk ?_; cbv))
  have hr2 : row2 = 0 := by lia
  refine RowSet.enc S.cx (⟨xs, xd, xw, z, xa⟩ : Timer) ⟨xs, xd, z2, z, xa⟩ (by rw [hr2]; exact hxx2) rfl (by show (3 : Nat) ≤ 5; decide) rfl (fun l3 hl3 => ?_); (cbv; repeat (refine Later.mk ?_; cbv))
  have hl3l : l3.length = l2.length := by rw [hl3, List.length_set]
  have hK3 : K = l3.length := by omega
  exact Done.to (.agg (ownTimers A ⟨heap, l3, next⟩)) [some (.box [.ro (A.enc cByte code), .int .i64 i, .int .i64 h])] rfl (by repeat' (first | exact trivial | exact rfl | exact resOwn S.cx rfl (by assumption) | exact resOwn S.cx rfl (S.cx.lenE _ _) | exact resOwn1 S.cx rfl (by assumption) | exact resOwnT S.cx rfl (by assumption) | exact S.cx.enc _ [] | refine ⟨?_, ?_⟩)) ⟨⟨⟨rfl, .inl rfl⟩, rfl, rfl, trivial⟩, trivial⟩ ⟨⟨heap, l3, next⟩, i, h, ⟨hf.1, by dsimp only; omega⟩, hi, rfl, rfl⟩

theorem l4DrawSeq_c (S : Se P A) (code : List Int) (hb : code.length ≤ 4096) (hc : ∀ b ∈ code, 0 ≤ b ∧ b ≤ 255) (i h : Int) (hi : 0 ≤ i) : SoundM P 129 true [.ptr 1000 0 0] [.box [.ro (A.enc cByte code), .int .i64 i, .int .i64 h]]
    (fun v os => ∃ (t : Timers) (s i' h' : Int), (t.heap.length ≤ 64 ∧ t.list.length ≤ 64) ∧ 0 ≤ i' ∧ v = .tup [.agg (ownTimers A t), .int .i64 s] ∧ os = [some (.box [.ro (A.enc cByte code), .int .i64 i', .int .i64 h'])]) := by
  refine S.cx.byS [99999] (S.prog ▸ Try.func129) rfl rfl rfl rfl (fun ln hln hv ho => ?_)
  (cbv; repeat (refine Later.mk ?_; cbv))
  refine ACall.ofN (dp := false) S.cx (l4DrawAny_c S code hb hc i h hi) ⟨rfl, (by repeat' (first | exact trivial | exact rfl | exact Nat.le_refl _ | exact S.cx.giveEq | exact S.cx.lendLe (by assumption) | exact S.cx.lendEq (by assumption) | exact S.cx.lendLe0 | exact S.cx.lendEq0 | exact S.cx.partLe (by assumption) | exact S.cx.partEq (by assumption) | exact .inl rfl | refine ⟨?_, ?_⟩)), (by repeat' (first | exact trivial | exact rfl | exact Nat.le_refl _ | exact S.cx.giveEq | exact S.cx.lendLe (by assumption) | exact S.cx.lendEq (by assumption) | exact S.cx.lendLe0 | exact S.cx.lendEq0 | exact S.cx.partLe (by assumption) | exact S.cx.partEq (by assumption) | exact .inl rfl | refine ⟨?_, ?_⟩))⟩ (fun ln hln v os hv => ?_)
  obtain ⟨⟨heap, list, next⟩, i, h, hf, hi, rfl, rfl⟩ := hv
  refine ⟨rfl, ?_⟩; (cbv; repeat (refine Later.mk ?_; cbv))
  dsimp only at hf
  have hN := hln cTwig heap
  generalize ln (A.enc cTwig heap) = N at hN ⊢
  have hK := hln cTimer list
  generalize ln (A.enc cTimer list) = K at hK ⊢
  refine Len.nat (fun m hm hml => ?_); (cbv; repeat (refine Later.mk ?_; cbv))
  refine Test.gtr (fun hg => ?_) (fun hg => ?_) <;> (cbv; repeat (refine Later.mk ?_; cbv))
  rotate_left
  · try (refine Drawn.mk ⟨by kernel_rfl, fun _ => ?_⟩)
    have hs := fromF_ok code hb hc i h hi (-1) 9
    refine ACall.valN (r := rCur) (os := oCur A code) (dp := false) S.cx (l1From_c S code hb hc i h hi (-1) 9 (by decide)) ⟨rfl, (by repeat' (first | exact trivial | exact rfl | exact Nat.le_refl _ | exact S.cx.giveEq | exact S.cx.lendLe (by assumption) | exact S.cx.lendEq (by assumption) | exact S.cx.lendLe0 | exact S.cx.lendEq0 | exact S.cx.partLe (by assumption) | exact S.cx.partEq (by assumption) | exact .inl rfl | refine ⟨?_, ?_⟩)), (by repeat' (first | exact trivial | exact rfl | exact Nat.le_refl _ | exact S.cx.giveEq | exact S.cx.lendLe (by assumption) | exact S.cx.lendEq (by assumption) | exact S.cx.lendLe0 | exact S.cx.lendEq0 | exact S.cx.partLe (by assumption) | exact S.cx.partEq (by assumption) | exact .inl rfl | refine ⟨?_, ?_⟩))⟩ rfl (fun ln hln x hx => ⟨rfl, ?_⟩)
    obtain ⟨s, i, h⟩ := x
    (cbv; repeat (refine Later.mk ?_; cbv))
    rw [← hx] at hs
    dsimp only at hs
    clear hx hi
    obtain ⟨hs, hi⟩ := hs
    exact Done.to (.tup [.agg (ownTimers A ⟨heap, list, next⟩), .int .i64 s]) [some (.box [.ro (A.enc cByte code), .int .i64 i, .int .i64 h])] rfl (by repeat' (first | exact trivial | exact rfl | exact resOwn S.cx rfl (by assumption) | exact resOwn S.cx rfl (S.cx.lenE _ _) | exact resOwn1 S.cx rfl (by assumption) | exact resOwnT S.cx rfl (by assumption) | exact S.cx.enc _ [] | refine ⟨?_, ?_⟩)) ⟨⟨⟨rfl, .inl rfl⟩, rfl, rfl, trivial⟩, trivial⟩ ⟨⟨heap, list, next⟩, s, i, h, hf, hi, rfl, rfl⟩
  have hbb := onceF_ok code hb hc i h hi 5
  refine ACall.valN (r := rCurB) (os := oCur A code) (dp := false) S.cx (l1Once_c S code hb hc i h hi 5) ⟨rfl, (by repeat' (first | exact trivial | exact rfl | exact Nat.le_refl _ | exact S.cx.giveEq | exact S.cx.lendLe (by assumption) | exact S.cx.lendEq (by assumption) | exact S.cx.lendLe0 | exact S.cx.lendEq0 | exact S.cx.partLe (by assumption) | exact S.cx.partEq (by assumption) | exact .inl rfl | refine ⟨?_, ?_⟩)), (by repeat' (first | exact trivial | exact rfl | exact Nat.le_refl _ | exact S.cx.giveEq | exact S.cx.lendLe (by assumption) | exact S.cx.lendEq (by assumption) | exact S.cx.lendLe0 | exact S.cx.lendEq0 | exact S.cx.partLe (by assumption) | exact S.cx.partEq (by assumption) | exact .inl rfl | refine ⟨?_, ?_⟩))⟩ rfl (fun ln hln x hx => ⟨rfl, ?_⟩)
  obtain ⟨b, i, h⟩ := x
  (cbv; repeat (refine Later.mk ?_; cbv))
  rw [← hx] at hbb
  dsimp only at hbb
  clear hx hi
  obtain ⟨hbb, hi⟩ := hbb
  cases b <;> (cbv; repeat (refine Later.mk ?_; cbv))
  rotate_left
  · try (refine Drawn.mk ⟨by kernel_rfl, fun _ => ?_⟩)
    have hs := fromF_ok code hb hc i h hi (-1) 9
    refine ACall.valN (r := rCur) (os := oCur A code) (dp := false) S.cx (l1From_c S code hb hc i h hi (-1) 9 (by decide)) ⟨rfl, (by repeat' (first | exact trivial | exact rfl | exact Nat.le_refl _ | exact S.cx.giveEq | exact S.cx.lendLe (by assumption) | exact S.cx.lendEq (by assumption) | exact S.cx.lendLe0 | exact S.cx.lendEq0 | exact S.cx.partLe (by assumption) | exact S.cx.partEq (by assumption) | exact .inl rfl | refine ⟨?_, ?_⟩)), (by repeat' (first | exact trivial | exact rfl | exact Nat.le_refl _ | exact S.cx.giveEq | exact S.cx.lendLe (by assumption) | exact S.cx.lendEq (by assumption) | exact S.cx.lendLe0 | exact S.cx.lendEq0 | exact S.cx.partLe (by assumption) | exact S.cx.partEq (by assumption) | exact .inl rfl | refine ⟨?_, ?_⟩))⟩ rfl (fun ln hln x hx => ⟨rfl, ?_⟩)
    obtain ⟨s, i, h⟩ := x
    (cbv; repeat (refine Later.mk ?_; cbv))
    rw [← hx] at hs
    dsimp only at hs
    clear hx hi
    obtain ⟨hs, hi⟩ := hs
    exact Done.to (.tup [.agg (ownTimers A ⟨heap, list, next⟩), .int .i64 s]) [some (.box [.ro (A.enc cByte code), .int .i64 i, .int .i64 h])] rfl (by repeat' (first | exact trivial | exact rfl | exact resOwn S.cx rfl (by assumption) | exact resOwn S.cx rfl (S.cx.lenE _ _) | exact resOwn1 S.cx rfl (by assumption) | exact resOwnT S.cx rfl (by assumption) | exact S.cx.enc _ [] | refine ⟨?_, ?_⟩)) ⟨⟨⟨rfl, .inl rfl⟩, rfl, rfl, trivial⟩, trivial⟩ ⟨⟨heap, list, next⟩, s, i, h, hf, hi, rfl, rfl⟩
  try (refine Drawn.mk ⟨by kernel_rfl, fun _ => ?_⟩)
  refine Len.dr (by simp only [maxLen]; omega) (fun m2 hm2 => ?_); (cbv; repeat (refine Later.mk ?_; cbv))
  have hk := belowF_ok code hb hc i h hi m2
  refine ACall.valN (r := rCur) (os := oCur A code) (dp := false) S.cx (l1Below_c S code hb hc i h hi m2) ⟨rfl, (by repeat' (first | exact trivial | exact rfl | exact Nat.le_refl _ | exact S.cx.giveEq | exact S.cx.lendLe (by assumption) | exact S.cx.lendEq (by assumption) | exact S.cx.lendLe0 | exact S.cx.lendEq0 | exact S.cx.partLe (by assumption) | exact S.cx.partEq (by assumption) | exact .inl rfl | refine ⟨?_, ?_⟩)), (by repeat' (first | exact trivial | exact rfl | exact Nat.le_refl _ | exact S.cx.giveEq | exact S.cx.lendLe (by assumption) | exact S.cx.lendEq (by assumption) | exact S.cx.lendLe0 | exact S.cx.lendEq0 | exact S.cx.partLe (by assumption) | exact S.cx.partEq (by assumption) | exact .inl rfl | refine ⟨?_, ?_⟩))⟩ rfl (fun ln hln x hx => ⟨rfl, ?_⟩)
  obtain ⟨k, i, h⟩ := x
  (cbv; repeat (refine Later.mk ?_; cbv))
  rw [← hx] at hk
  dsimp only at hk
  clear hx hi
  obtain ⟨hk, hi⟩ := hk
  have hk2 := hk.2.1 (by lia)
  have hk1 := hk.1
  refine ElemRef.go rfl (by lia) (by lia) (by rw [S.cx.lenE']; lia) (fun row hrow => ?_); (cbv; repeat (refine Later.mk ?_; cbv))
  refine Row.enc S.cx (by lia) (fun x hxx => ?_)
  obtain ⟨xs, xd, xw, xh, xa⟩ := x
  (cbv; repeat (refine Later.mk ?_; cbv))
  exact Done.to (.tup [.agg (ownTimers A ⟨heap, list, next⟩), .int .i64 xs]) [some (.box [.ro (A.enc cByte code), .int .i64 i, .int .i64 h])] rfl (by repeat' (first | exact trivial | exact rfl | exact resOwn S.cx rfl (by assumption) | exact resOwn S.cx rfl (S.cx.lenE _ _) | exact resOwn1 S.cx rfl (by assumption) | exact resOwnT S.cx rfl (by assumption) | exact S.cx.enc _ [] | refine ⟨?_, ?_⟩)) ⟨⟨⟨rfl, .inl rfl⟩, rfl, rfl, trivial⟩, trivial⟩ ⟨⟨heap, list, next⟩, xs, i, h, hf, hi, rfl, rfl⟩

theorem drawReset_c (S : Se P A) (code : List Int) (hb : code.length ≤ 4096) (hc : ∀ b ∈ code, 0 ≤ b ∧ b ≤ 255) : SoundM P 59 true [.ro (A.enc cByte code)] []
    (fun v os => (∃ (t : Timers) (s d : Int), (t.heap.length ≤ 64 ∧ t.list.length ≤ 64) ∧ v = .tup [.agg (ownTimers A t), .int .i64 s, .int .i64 d]) ∧ os = []) := by
  refine S.cx.byS [99999] (S.prog ▸ Try.func59) rfl rfl rfl rfl (fun ln hln hv ho => ?_)
  (cbv; repeat (refine Later.mk ?_; cbv))
  refine ACall.of (dp := false) (l1New_c S code hb hc) ⟨rfl, (by repeat' (first | exact trivial | exact rfl | exact Nat.le_refl _ | exact S.cx.giveEq | exact S.cx.lendLe (by assumption) | exact S.cx.lendEq (by assumption) | exact S.cx.lendLe0 | exact S.cx.lendEq0 | exact S.cx.partLe (by assumption) | exact S.cx.partEq (by assumption) | exact .inl rfl | refine ⟨?_, ?_⟩)), (by repeat' (first | exact trivial | exact rfl | exact Nat.le_refl _ | exact S.cx.giveEq | exact S.cx.lendLe (by assumption) | exact S.cx.lendEq (by assumption) | exact S.cx.lendLe0 | exact S.cx.lendEq0 | exact S.cx.partLe (by assumption) | exact S.cx.partEq (by assumption) | exact .inl rfl | refine ⟨?_, ?_⟩))⟩ (fun v os hv => ?_)
  obtain ⟨⟨h, rfl⟩, rfl⟩ := hv
  refine ⟨rfl, ?_⟩; (cbv; repeat (refine Later.mk ?_; cbv))
  refine ACall.ofN (dp := false) S.cx (l4DrawSeq_c S code hb hc 0 h (Int.le_refl 0)) ⟨rfl, (by repeat' (first | exact trivial | exact rfl | exact Nat.le_refl _ | exact S.cx.giveEq | exact S.cx.lendLe (by assumption) | exact S.cx.lendEq (by assumption) | exact S.cx.lendLe0 | exact S.cx.lendEq0 | exact S.cx.partLe (by assumption) | exact S.cx.partEq (by assumption) | exact .inl rfl | refine ⟨?_, ?_⟩)), (by repeat' (first | exact trivial | exact rfl | exact Nat.le_refl _ | exact S.cx.giveEq | exact S.cx.lendLe (by assumption) | exact S.cx.lendEq (by assumption) | exact S.cx.lendLe0 | exact S.cx.lendEq0 | exact S.cx.partLe (by assumption) | exact S.cx.partEq (by assumption) | exact .inl rfl | refine ⟨?_, ?_⟩))⟩ (fun ln hln v os hv => ?_)
  obtain ⟨⟨heap, list, next⟩, s, i, h, hf, hi, rfl, rfl⟩ := hv
  refine ⟨rfl, ?_⟩; (cbv; repeat (refine Later.mk ?_; cbv))
  dsimp only at hf
  have hN := hln cTwig heap
  generalize ln (A.enc cTwig heap) = N at hN ⊢
  have hK := hln cTimer list
  generalize ln (A.enc cTimer list) = K at hK ⊢
  have hbb := onceF_ok code hb hc i h hi 8
  refine ACall.valN (r := rCurB) (os := oCur A code) (dp := false) S.cx (l1Once_c S code hb hc i h hi 8) ⟨rfl, (by repeat' (first | exact trivial | exact rfl | exact Nat.le_refl _ | exact S.cx.giveEq | exact S.cx.lendLe (by assumption) | exact S.cx.lendEq (by assumption) | exact S.cx.lendLe0 | exact S.cx.lendEq0 | exact S.cx.partLe (by assumption) | exact S.cx.partEq (by assumption) | exact .inl rfl | refine ⟨?_, ?_⟩)), (by repeat' (first | exact trivial | exact rfl | exact Nat.le_refl _ | exact S.cx.giveEq | exact S.cx.lendLe (by assumption) | exact S.cx.lendEq (by assumption) | exact S.cx.lendLe0 | exact S.cx.lendEq0 | exact S.cx.partLe (by assumption) | exact S.cx.partEq (by assumption) | exact .inl rfl | refine ⟨?_, ?_⟩))⟩ rfl (fun ln hln x hx => ⟨rfl, ?_⟩)
  obtain ⟨b, i, h⟩ := x
  (cbv; repeat (refine Later.mk ?_; cbv))
  rw [← hx] at hbb
  dsimp only at hbb
  clear hx hi
  obtain ⟨hbb, hi⟩ := hbb
  cases b <;> (cbv; repeat (refine Later.mk ?_; cbv))
  · try (refine Drawn.mk ⟨by kernel_rfl, fun _ => ?_⟩)
    have hd := belowF_ok code hb hc i h hi 14
    refine ACall.valN (r := rCur) (os := oCur A code) (dp := false) S.cx (l1Below_c S code hb hc i h hi 14) ⟨rfl, (by repeat' (first | exact trivial | exact rfl | exact Nat.le_refl _ | exact S.cx.giveEq | exact S.cx.lendLe (by assumption) | exact S.cx.lendEq (by assumption) | exact S.cx.lendLe0 | exact S.cx.lendEq0 | exact S.cx.partLe (by assumption) | exact S.cx.partEq (by assumption) | exact .inl rfl | refine ⟨?_, ?_⟩)), (by repeat' (first | exact trivial | exact rfl | exact Nat.le_refl _ | exact S.cx.giveEq | exact S.cx.lendLe (by assumption) | exact S.cx.lendEq (by assumption) | exact S.cx.lendLe0 | exact S.cx.lendEq0 | exact S.cx.partLe (by assumption) | exact S.cx.partEq (by assumption) | exact .inl rfl | refine ⟨?_, ?_⟩))⟩ rfl (fun ln hln x hx => ⟨rfl, ?_⟩)
    obtain ⟨d, i, h⟩ := x
    (cbv; repeat (refine Later.mk ?_; cbv))
    rw [← hx] at hd
    dsimp only at hd
    clear hx hi
    obtain ⟨hd, hi⟩ := hd
    exact Done.to (.tup [.agg (ownTimers A ⟨heap, list, next⟩), .int .i64 s, .int .i64 d]) [] rfl (by repeat' (first | exact trivial | exact rfl | exact resOwn S.cx rfl (by assumption) | exact resOwn S.cx rfl (S.cx.lenE _ _) | exact resOwn1 S.cx rfl (by assumption) | exact resOwnT S.cx rfl (by assumption) | exact S.cx.enc _ [] | refine ⟨?_, ?_⟩)) trivial ⟨⟨⟨heap, list, next⟩, s, d, hf, rfl⟩, rfl⟩
  try (refine Drawn.mk ⟨by kernel_rfl, fun _ => ?_⟩)
  have hd := l2F_ok code hb hc i h hi
  refine ACall.valN (r := rCur) (os := oCur A code) (dp := false) S.cx (l2Draw_c S code hb hc i h hi) ⟨rfl, (by repeat' (first | exact trivial | exact rfl | exact Nat.le_refl _ | exact S.cx.giveEq | exact S.cx.lendLe (by assumption) | exact S.cx.lendEq (by assumption) | exact S.cx.lendLe0 | exact S.cx.lendEq0 | exact S.cx.partLe (by assumption) | exact S.cx.partEq (by assumption) | exact .inl rfl | refine ⟨?_, ?_⟩)), (by repeat' (first | exact trivial | exact rfl | exact Nat.le_refl _ | exact S.cx.giveEq | exact S.cx.lendLe (by assumption) | exact S.cx.lendEq (by assumption) | exact S.cx.lendLe0 | exact S.cx.lendEq0 | exact S.cx.partLe (by assumption) | exact S.cx.partEq (by assumption) | exact .inl rfl | refine ⟨?_, ?_⟩))⟩ rfl (fun ln hln x hx => ⟨rfl, ?_⟩)
  obtain ⟨d, i, h⟩ := x
  (cbv; repeat (refine Later.mk ?_; cbv))
  rw [← hx] at hd
  dsimp only at hd
  clear hx hi
  obtain ⟨hd, hi⟩ := hd
  exact Done.to (.tup [.agg (ownTimers A ⟨heap, list, next⟩), .int .i64 s, .int .i64 d]) [] rfl (by repeat' (first | exact trivial | exact rfl | exact resOwn S.cx rfl (by assumption) | exact resOwn S.cx rfl (S.cx.lenE _ _) | exact resOwn1 S.cx rfl (by assumption) | exact resOwnT S.cx rfl (by assumption) | exact S.cx.enc _ [] | refine ⟨?_, ?_⟩)) trivial ⟨⟨⟨heap, list, next⟩, s, d, hf, rfl⟩, rfl⟩

theorem resetLaw_c (S : Se P A) (code : List Int) : Is1 P 13 [.ro (A.enc cByte code)] (.bool true) := by
  refine S.cx.byS [99999] (S.prog ▸ Try.func13) rfl rfl rfl rfl (fun ln hln hv ho => ?_)
  (cbv; repeat (refine Later.mk ?_; cbv))
  have hc := code_bytes (code := code) S.cx (hv _ (List.mem_singleton.2 rfl))
  refine ACall.testD (dp := false) (big_c S code) ⟨rfl, (by repeat' (first | exact trivial | exact rfl | exact Nat.le_refl _ | exact S.cx.giveEq | exact S.cx.lendLe (by assumption) | exact S.cx.lendEq (by assumption) | exact S.cx.lendLe0 | exact S.cx.lendEq0 | exact S.cx.partLe (by assumption) | exact S.cx.partEq (by assumption) | exact .inl rfl | refine ⟨?_, ?_⟩)), (by repeat' (first | exact trivial | exact rfl | exact Nat.le_refl _ | exact S.cx.giveEq | exact S.cx.lendLe (by assumption) | exact S.cx.lendEq (by assumption) | exact S.cx.lendLe0 | exact S.cx.lendEq0 | exact S.cx.partLe (by assumption) | exact S.cx.partEq (by assumption) | exact .inl rfl | refine ⟨?_, ?_⟩))⟩ rfl (fun hbig => ?_) (fun hbig => ?_) <;> (cbv; repeat (refine Later.mk ?_; cbv))
  · exact Done.to (.bool true) [] rfl rfl trivial ⟨rfl, rfl⟩
  replace hbig : code.length ≤ 4096 := Nat.not_lt.1 hbig
  refine ACall.ofN (dp := false) S.cx (drawReset_c S code hbig hc) ⟨rfl, (by repeat' (first | exact trivial | exact rfl | exact Nat.le_refl _ | exact S.cx.giveEq | exact S.cx.lendLe (by assumption) | exact S.cx.lendEq (by assumption) | exact S.cx.lendLe0 | exact S.cx.lendEq0 | exact S.cx.partLe (by assumption) | exact S.cx.partEq (by assumption) | exact .inl rfl | refine ⟨?_, ?_⟩)), (by repeat' (first | exact trivial | exact rfl | exact Nat.le_refl _ | exact S.cx.giveEq | exact S.cx.lendLe (by assumption) | exact S.cx.lendEq (by assumption) | exact S.cx.lendLe0 | exact S.cx.lendEq0 | exact S.cx.partLe (by assumption) | exact S.cx.partEq (by assumption) | exact .inl rfl | refine ⟨?_, ?_⟩))⟩ (fun ln hln v os hv => ?_)
  obtain ⟨⟨⟨heap, list, next⟩, s, d, hf, rfl⟩, rfl⟩ := hv
  refine ⟨rfl, ?_⟩; (cbv; repeat (refine Later.mk ?_; cbv))
  dsimp only at hf
  have hN := hln cTwig heap
  generalize ln (A.enc cTwig heap) = N at hN ⊢
  have hK := hln cTimer list
  generalize ln (A.enc cTimer list) = K at hK ⊢
  obtain ⟨r1, r2, r3⟩ := reset_law ⟨heap, list, next⟩ s d
  have hf1 := reset_Few ⟨heap, list, next⟩ s d
  refine ACall.valN (r := rTB A) (os := fun _ => []) (dp := false) S.cx (implReset_c S heap list next s d (Nat.le_trans hf.1 (by decide)) (Nat.le_trans hf.2 (by decide))) ⟨rfl, (by repeat' (first | exact trivial | exact rfl | exact Nat.le_refl _ | exact S.cx.giveEq | exact S.cx.lendLe (by assumption) | exact S.cx.lendEq (by assumption) | exact S.cx.lendLe0 | exact S.cx.lendEq0 | exact S.cx.partLe (by assumption) | exact S.cx.partEq (by assumption) | exact .inl rfl | refine ⟨?_, ?_⟩)), (by repeat' (first | exact trivial | exact rfl | exact Nat.le_refl _ | exact S.cx.giveEq | exact S.cx.lendLe (by assumption) | exact S.cx.lendEq (by assumption) | exact S.cx.lendLe0 | exact S.cx.lendEq0 | exact S.cx.partLe (by assumption) | exact S.cx.partEq (by assumption) | exact .inl rfl | refine ⟨?_, ?_⟩))⟩ rfl (fun ln hln x hx => ⟨rfl, ?_⟩)
  obtain ⟨⟨heap1, list1, next1⟩, b1⟩ := x
  (cbv; repeat (refine Later.mk ?_; cbv))
  have hN1 := hln cTwig heap1
  generalize ln (A.enc cTwig heap1) = N1 at hN1 ⊢
  have hK1 := hln cTimer list1
  generalize ln (A.enc cTimer list1) = K1 at hK1 ⊢
  have hx1 := hx
  rw [← hx1] at r1 r2 r3 hf1
  refine ACall.valN (r := rTB A) (os := fun _ => []) (dp := false) S.cx (specReset_c S heap list next s d (Nat.le_trans hf.1 (by decide)) (Nat.le_trans hf.2 (by decide))) ⟨rfl, (by repeat' (first | exact trivial | exact rfl | exact Nat.le_refl _ | exact S.cx.giveEq | exact S.cx.lendLe (by assumption) | exact S.cx.lendEq (by assumption) | exact S.cx.lendLe0 | exact S.cx.lendEq0 | exact S.cx.partLe (by assumption) | exact S.cx.partEq (by assumption) | exact .inl rfl | refine ⟨?_, ?_⟩)), (by repeat' (first | exact trivial | exact rfl | exact Nat.le_refl _ | exact S.cx.giveEq | exact S.cx.lendLe (by assumption) | exact S.cx.lendEq (by assumption) | exact S.cx.lendLe0 | exact S.cx.lendEq0 | exact S.cx.partLe (by assumption) | exact S.cx.partEq (by assumption) | exact .inl rfl | refine ⟨?_, ?_⟩))⟩ rfl (fun ln hln x hx => ⟨rfl, ?_⟩)
  obtain ⟨⟨heap2, list2, next2⟩, b2⟩ := x
  (cbv; repeat (refine Later.mk ?_; cbv))
  have hN2 := hln cTwig heap2
  generalize ln (A.enc cTwig heap2) = N2 at hN2 ⊢
  have hK2 := hln cTimer list2
  generalize ln (A.enc cTimer list2) = K2 at hK2 ⊢
  cases hx.trans hx1.symm
  cases b1 <;> (cbv; repeat (refine Later.mk ?_; cbv))
  all_goals
    refine ACall.valN (r := rTB A) (os := fun _ => []) (dp := false) S.cx (implForgotten_c S heap1 list1 next1 s (Nat.le_trans hf1.1 (by decide)) (Nat.le_trans hf1.2.1 (by decide))) ⟨rfl, (by repeat' (first | exact trivial | exact rfl | exact Nat.le_refl _ | exact S.cx.giveEq | exact S.cx.lendLe (by assumption) | exact S.cx.lendEq (by assumption) | exact S.cx.lendLe0 | exact S.cx.lendEq0 | exact S.cx.partLe (by assumption) | exact S.cx.partEq (by assumption) | exact .inl rfl | refine ⟨?_, ?_⟩)), (by repeat' (first | exact trivial | exact rfl | exact Nat.le_refl _ | exact S.cx.giveEq | exact S.cx.lendLe (by assumption) | exact S.cx.lendEq (by assumption) | exact S.cx.lendLe0 | exact S.cx.lendEq0 | exact S.cx.partLe (by assumption) | exact S.cx.partEq (by assumption) | exact .inl rfl | refine ⟨?_, ?_⟩))⟩ rfl (fun ln hln x hx => ⟨rfl, ?_⟩)
    obtain ⟨⟨heap3, list3, next3⟩, b3⟩ := x
    (cbv; repeat (refine Later.mk ?_; cbv))
    have hN3 := hln cTwig heap3
    generalize ln (A.enc cTwig heap3) = N3 at hN3 ⊢
    have hK3 := hln cTimer list3
    generalize ln (A.enc cTimer list3) = K3 at hK3 ⊢
    have hx3 := hx
    dsimp only at r1 r2 r3
    rw [← hx3] at r1 r3
    dsimp only at r1 r3
    refine ACall.valN (r := rTB A) (os := fun _ => []) (dp := false) S.cx (specForgotten_c S heap list next s (Nat.le_trans hf.1 (by decide)) (Nat.le_trans hf.2 (by decide))) ⟨rfl, (by repeat' (first | exact trivial | exact rfl | exact Nat.le_refl _ | exact S.cx.giveEq | exact S.cx.lendLe (by assumption) | exact S.cx.lendEq (by assumption) | exact S.cx.lendLe0 | exact S.cx.lendEq0 | exact S.cx.partLe (by assumption) | exact S.cx.partEq (by assumption) | exact .inl rfl | refine ⟨?_, ?_⟩)), (by repeat' (first | exact trivial | exact rfl | exact Nat.le_refl _ | exact S.cx.giveEq | exact S.cx.lendLe (by assumption) | exact S.cx.lendEq (by assumption) | exact S.cx.lendLe0 | exact S.cx.lendEq0 | exact S.cx.partLe (by assumption) | exact S.cx.partEq (by assumption) | exact .inl rfl | refine ⟨?_, ?_⟩))⟩ rfl (fun ln hln x hx => ⟨rfl, ?_⟩)
    obtain ⟨⟨heap4, list4, next4⟩, b4⟩ := x
    (cbv; repeat (refine Later.mk ?_; cbv))
    have hN4 := hln cTwig heap4
    generalize ln (A.enc cTwig heap4) = N4 at hN4 ⊢
    have hK4 := hln cTimer list4
    generalize ln (A.enc cTimer list4) = K4 at hK4 ⊢
    have hx4 := hx
    rw [← hx4] at r1 r2 r3
    dsimp only at r1 r2 r3
    obtain rfl : b3 = b4 := r1
    cases b3 <;> (cbv; repeat (refine Later.mk ?_; cbv))
    · first
        | exact absurd (r2 rfl) (by decide)
        | exact Done.to (.bool true) [] rfl rfl trivial ⟨rfl, rfl⟩
    obtain ⟨q1, q2, q3, q4⟩ := r3 rfl
    refine ACall.testD (dp := false) (implTimersOk_c S heap1 list1 next1) ⟨rfl, (by repeat' (first | exact trivial | exact rfl | exact Nat.le_refl _ | exact S.cx.giveEq | exact S.cx.lendLe (by assumption) | exact S.cx.lendEq (by assumption) | exact S.cx.lendLe0 | exact S.cx.lendEq0 | exact S.cx.partLe (by assumption) | exact S.cx.partEq (by assumption) | exact .inl rfl | refine ⟨?_, ?_⟩)), (by repeat' (first | exact trivial | exact rfl | exact Nat.le_refl _ | exact S.cx.giveEq | exact S.cx.lendLe (by assumption) | exact S.cx.lendEq (by assumption) | exact S.cx.lendLe0 | exact S.cx.lendEq0 | exact S.cx.partLe (by assumption) | exact S.cx.partEq (by assumption) | exact .inl rfl | refine ⟨?_, ?_⟩))⟩ rfl (fun k1 => ?_) (fun k1 => ?_) <;> (cbv; repeat (refine Later.mk ?_; cbv))
    rotate_left
    · exact absurd q1 k1
    refine ACall.testD (dp := false) (implTimersOk_c S heap3 list3 next3) ⟨rfl, (by repeat' (first | exact trivial | exact rfl | exact Nat.le_refl _ | exact S.cx.giveEq | exact S.cx.lendLe (by assumption) | exact S.cx.lendEq (by assumption) | exact S.cx.lendLe0 | exact S.cx.lendEq0 | exact S.cx.partLe (by assumption) | exact S.cx.partEq (by assumption) | exact .inl rfl | refine ⟨?_, ?_⟩)), (by repeat' (first | exact trivial | exact rfl | exact Nat.le_refl _ | exact S.cx.giveEq | exact S.cx.lendLe (by assumption) | exact S.cx.lendEq (by assumption) | exact S.cx.lendLe0 | exact S.cx.lendEq0 | exact S.cx.partLe (by assumption) | exact S.cx.partEq (by assumption) | exact .inl rfl | refine ⟨?_, ?_⟩))⟩ rfl (fun k2 => ?_) (fun k2 => ?_) <;> (cbv; repeat (refine Later.mk ?_; cbv))
    rotate_left
    · exact absurd q2 k2
    refine Len.nat (fun m hm hml => ?_); (cbv; repeat (refine Later.mk ?_; cbv))
    refine Len.nat (fun m2 hm2 hml2 => ?_); (cbv; repeat (refine Later.mk ?_; cbv))
    refine Arith.go (by lia) (fun m3 hm3 => ?_); replace hm3 : m3 = m2 - 1 := hm3; (cbv; repeat (refine Later.mk ?_; cbv))
    refine Test.eql (fun k3 => ?_) (fun k3 => ?_) <;> (cbv; repeat (refine Later.mk ?_; cbv))
    rotate_left
    · exact absurd (by lia) k3
    refine ACall.int (dp := false) (implNextDue_c S heap1 list1 next1) ⟨rfl, (by repeat' (first | exact trivial | exact rfl | exact Nat.le_refl _ | exact S.cx.giveEq | exact S.cx.lendLe (by assumption) | exact S.cx.lendEq (by assumption) | exact S.cx.lendLe0 | exact S.cx.lendEq0 | exact S.cx.partLe (by assumption) | exact S.cx.partEq (by assumption) | exact .inl rfl | refine ⟨?_, ?_⟩)), (by repeat' (first | exact trivial | exact rfl | exact Nat.le_refl _ | exact S.cx.giveEq | exact S.cx.lendLe (by assumption) | exact S.cx.lendEq (by assumption) | exact S.cx.lendLe0 | exact S.cx.lendEq0 | exact S.cx.partLe (by assumption) | exact S.cx.partEq (by assumption) | exact .inl rfl | refine ⟨?_, ?_⟩))⟩ rfl (fun nd hnd => ?_); (cbv; repeat (refine Later.mk ?_; cbv))
    rw [if_pos q1] at hnd
    refine Test.leq (fun k4 => ?_) (fun k4 => ?_) <;> (cbv; repeat (refine Later.mk ?_; cbv))
    · exact Done.to (.bool true) [] rfl rfl trivial ⟨rfl, rfl⟩
    · exact absurd k4 (by omega)

end Go.Proofs.Ytmbckmfihcojoaa.AM
