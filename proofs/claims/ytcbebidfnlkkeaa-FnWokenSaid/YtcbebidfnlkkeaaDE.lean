/- Contracts: tasks drawn; the law of tasks. (printed by gde.py) -/
import Derived.Test.YtcbebidfnlkkeaaDD
import Derived.Test.YtcbebidfnlkkeaaH2
import Derived.Test.YtcbebidfnlkkeaaH3
namespace Go.Proofs.Ytcbebidfnlkkeaa.AM
open Go Go.Proofs

set_option maxRecDepth 100000
set_option maxHeartbeats 4000000
set_option linter.unusedVariables false
set_option linter.unusedSimpArgs false

variable {P : Program} {A : Sy}

theorem specNewTask_c (S : Se P A) (prog group : Int) : Is1 P 129 [.int .i64 prog, .int .i64 group] (.agg (cTask (if TaskOk ⟨prog, 0, 0, 0, 0, -1, 0, group, 0⟩ then ⟨prog, 0, 0, 0, 0, -1, 0, group, 0⟩ else task0))) := by
  refine S.cx.by (S.prog ▸ Try.func129) rfl rfl rfl rfl (fun hv ho => ?_)
  cbv
  refine ACall.testD (dp := false) (specTaskOk_c S _ _ _ _ _ _ _ _ _) ⟨rfl, (by repeat' (first | exact trivial | exact rfl | refine ⟨?_, ?_⟩)), trivial⟩ rfl (fun h => ?_) (fun h => ?_) <;> cbv
  · exact Done.agg (x := ⟨prog, 0, 0, 0, 0, -1, 0, group, 0⟩) (by repeat' (first | exact trivial | exact rfl | refine ⟨?_, ?_⟩)) rfl (if_pos h)
  · exact Done.agg (x := task0) (by repeat' (first | exact trivial | exact rfl | refine ⟨?_, ?_⟩)) rfl (if_neg h)

theorem l10Draw_c (S : Se P A) (code : List Int) (hb : code.length ≤ 4096) (hc : ∀ b ∈ code, 0 ≤ b ∧ b ≤ 255) (i h : Int) (hi : 0 ≤ i) : SoundM P 97 true [.ptr 1000 0 0] [.box [.ro (A.enc cByte code), .int .i64 i, .int .i64 h]]
    (fun v os => ∃ (t : Task) (i' h' : Int), 0 ≤ i' ∧ v = .agg (cTask t) ∧ os = [some (.box [.ro (A.enc cByte code), .int .i64 i', .int .i64 h'])]) := by
  refine S.cx.by (S.prog ▸ Try.func97) rfl rfl rfl rfl (fun hv ho => ?_)
  cbv
  have ha1 := belowF_ok code hb hc i h hi 3
  refine ACall.valN (r := rCur) (os := oCur A code) (dp := false) S.cx (l1Below_c S code hb hc i h hi 3) ⟨rfl, (by repeat' (first | exact trivial | exact rfl | exact Nat.le_refl _ | exact S.cx.giveEq | exact S.cx.lendLe (by assumption) | exact S.cx.lendEq (by assumption) | exact S.cx.lendLe0 | exact S.cx.lendEq0 | exact S.cx.partLe (by assumption) | exact S.cx.partEq (by assumption) | exact .inl rfl | refine ⟨?_, ?_⟩)), (by repeat' (first | exact trivial | exact rfl | exact Nat.le_refl _ | exact S.cx.giveEq | exact S.cx.lendLe (by assumption) | exact S.cx.lendEq (by assumption) | exact S.cx.lendLe0 | exact S.cx.lendEq0 | exact S.cx.partLe (by assumption) | exact S.cx.partEq (by assumption) | exact .inl rfl | refine ⟨?_, ?_⟩))⟩ rfl (fun ln hln x hx => ⟨rfl, ?_⟩)
  obtain ⟨a1, i, h⟩ := x
  cbv
  rw [← hx] at ha1
  dsimp only at ha1
  clear hx hi
  obtain ⟨ha1, hi⟩ := ha1
  have ha2 := fromF_ok code hb hc i h hi (-1) 1
  refine ACall.valN (r := rCur) (os := oCur A code) (dp := false) S.cx (l1From_c S code hb hc i h hi (-1) 1 (by decide)) ⟨rfl, (by repeat' (first | exact trivial | exact rfl | exact Nat.le_refl _ | exact S.cx.giveEq | exact S.cx.lendLe (by assumption) | exact S.cx.lendEq (by assumption) | exact S.cx.lendLe0 | exact S.cx.lendEq0 | exact S.cx.partLe (by assumption) | exact S.cx.partEq (by assumption) | exact .inl rfl | refine ⟨?_, ?_⟩)), (by repeat' (first | exact trivial | exact rfl | exact Nat.le_refl _ | exact S.cx.giveEq | exact S.cx.lendLe (by assumption) | exact S.cx.lendEq (by assumption) | exact S.cx.lendLe0 | exact S.cx.lendEq0 | exact S.cx.partLe (by assumption) | exact S.cx.partEq (by assumption) | exact .inl rfl | refine ⟨?_, ?_⟩))⟩ rfl (fun ln hln x hx => ⟨rfl, ?_⟩)
  obtain ⟨a2, i, h⟩ := x
  cbv
  rw [← hx] at ha2
  dsimp only at ha2
  clear hx hi
  obtain ⟨ha2, hi⟩ := ha2
  refine ACall.valN (r := (fun x : Task => .agg (cTask x))) (os := fun _ => []) (dp := false) S.cx (specNewTask_c S a1 a2) ⟨rfl, (by repeat' (first | exact trivial | exact rfl | exact Nat.le_refl _ | exact S.cx.giveEq | exact S.cx.lendLe (by assumption) | exact S.cx.lendEq (by assumption) | exact S.cx.lendLe0 | exact S.cx.lendEq0 | exact S.cx.partLe (by assumption) | exact S.cx.partEq (by assumption) | exact .inl rfl | refine ⟨?_, ?_⟩)), (by repeat' (first | exact trivial | exact rfl | exact Nat.le_refl _ | exact S.cx.giveEq | exact S.cx.lendLe (by assumption) | exact S.cx.lendEq (by assumption) | exact S.cx.lendLe0 | exact S.cx.lendEq0 | exact S.cx.partLe (by assumption) | exact S.cx.partEq (by assumption) | exact .inl rfl | refine ⟨?_, ?_⟩))⟩ rfl (fun ln hln x hx => ⟨rfl, ?_⟩)
  obtain ⟨prog0, pc0, state0, why0, what0, timer0, reg0, group0, err0⟩ := x
  cbv
  clear hx
  have hb1 := belowF_ok code hb hc i h hi 4
  refine ACall.valN (r := rCur) (os := oCur A code) (dp := false) S.cx (l1Below_c S code hb hc i h hi 4) ⟨rfl, (by repeat' (first | exact trivial | exact rfl | exact Nat.le_refl _ | exact S.cx.giveEq | exact S.cx.lendLe (by assumption) | exact S.cx.lendEq (by assumption) | exact S.cx.lendLe0 | exact S.cx.lendEq0 | exact S.cx.partLe (by assumption) | exact S.cx.partEq (by assumption) | exact .inl rfl | refine ⟨?_, ?_⟩)), (by repeat' (first | exact trivial | exact rfl | exact Nat.le_refl _ | exact S.cx.giveEq | exact S.cx.lendLe (by assumption) | exact S.cx.lendEq (by assumption) | exact S.cx.lendLe0 | exact S.cx.lendEq0 | exact S.cx.partLe (by assumption) | exact S.cx.partEq (by assumption) | exact .inl rfl | refine ⟨?_, ?_⟩))⟩ rfl (fun ln hln x hx => ⟨rfl, ?_⟩)
  obtain ⟨b1, i, h⟩ := x
  cbv
  rw [← hx] at hb1
  dsimp only at hb1
  clear hx hi
  obtain ⟨hb1, hi⟩ := hb1
  have hb2 := belowF_ok code hb hc i h hi 5
  refine ACall.valN (r := rCur) (os := oCur A code) (dp := false) S.cx (l1Below_c S code hb hc i h hi 5) ⟨rfl, (by repeat' (first | exact trivial | exact rfl | exact Nat.le_refl _ | exact S.cx.giveEq | exact S.cx.lendLe (by assumption) | exact S.cx.lendEq (by assumption) | exact S.cx.lendLe0 | exact S.cx.lendEq0 | exact S.cx.partLe (by assumption) | exact S.cx.partEq (by assumption) | exact .inl rfl | refine ⟨?_, ?_⟩)), (by repeat' (first | exact trivial | exact rfl | exact Nat.le_refl _ | exact S.cx.giveEq | exact S.cx.lendLe (by assumption) | exact S.cx.lendEq (by assumption) | exact S.cx.lendLe0 | exact S.cx.lendEq0 | exact S.cx.partLe (by assumption) | exact S.cx.partEq (by assumption) | exact .inl rfl | refine ⟨?_, ?_⟩))⟩ rfl (fun ln hln x hx => ⟨rfl, ?_⟩)
  obtain ⟨b2, i, h⟩ := x
  cbv
  rw [← hx] at hb2
  dsimp only at hb2
  clear hx hi
  obtain ⟨hb2, hi⟩ := hb2
  have hb3 := belowF_ok code hb hc i h hi 4
  refine ACall.valN (r := rCur) (os := oCur A code) (dp := false) S.cx (l1Below_c S code hb hc i h hi 4) ⟨rfl, (by repeat' (first | exact trivial | exact rfl | exact Nat.le_refl _ | exact S.cx.giveEq | exact S.cx.lendLe (by assumption) | exact S.cx.lendEq (by assumption) | exact S.cx.lendLe0 | exact S.cx.lendEq0 | exact S.cx.partLe (by assumption) | exact S.cx.partEq (by assumption) | exact .inl rfl | refine ⟨?_, ?_⟩)), (by repeat' (first | exact trivial | exact rfl | exact Nat.le_refl _ | exact S.cx.giveEq | exact S.cx.lendLe (by assumption) | exact S.cx.lendEq (by assumption) | exact S.cx.lendLe0 | exact S.cx.lendEq0 | exact S.cx.partLe (by assumption) | exact S.cx.partEq (by assumption) | exact .inl rfl | refine ⟨?_, ?_⟩))⟩ rfl (fun ln hln x hx => ⟨rfl, ?_⟩)
  obtain ⟨b3, i, h⟩ := x
  cbv
  rw [← hx] at hb3
  dsimp only at hb3
  clear hx hi
  obtain ⟨hb3, hi⟩ := hb3
  refine Test.eql (fun g1 => ?_) (fun g1 => ?_) <;> cbv
  · try (refine Drawn.mk ⟨by kernel_rfl, fun _ => ?_⟩)
    have hc1 := belowF_ok code hb hc i h hi 5
    refine ACall.valN (r := rCur) (os := oCur A code) (dp := false) S.cx (l1Below_c S code hb hc i h hi 5) ⟨rfl, (by repeat' (first | exact trivial | exact rfl | exact Nat.le_refl _ | exact S.cx.giveEq | exact S.cx.lendLe (by assumption) | exact S.cx.lendEq (by assumption) | exact S.cx.lendLe0 | exact S.cx.lendEq0 | exact S.cx.partLe (by assumption) | exact S.cx.partEq (by assumption) | exact .inl rfl | refine ⟨?_, ?_⟩)), (by repeat' (first | exact trivial | exact rfl | exact Nat.le_refl _ | exact S.cx.giveEq | exact S.cx.lendLe (by assumption) | exact S.cx.lendEq (by assumption) | exact S.cx.lendLe0 | exact S.cx.lendEq0 | exact S.cx.partLe (by assumption) | exact S.cx.partEq (by assumption) | exact .inl rfl | refine ⟨?_, ?_⟩))⟩ rfl (fun ln hln x hx => ⟨rfl, ?_⟩)
    obtain ⟨c1, i, h⟩ := x
    cbv
    rw [← hx] at hc1
    dsimp only at hc1
    clear hx hi
    obtain ⟨hc1, hi⟩ := hc1
    refine ACall.valN (r := (fun x : Task => .agg (cTask x))) (os := fun _ => []) (dp := false) S.cx (specParked_c S prog0 b1 state0 why0 what0 timer0 b2 group0 err0 1 c1 (-1)) ⟨rfl, (by repeat' (first | exact trivial | exact rfl | exact Nat.le_refl _ | exact S.cx.giveEq | exact S.cx.lendLe (by assumption) | exact S.cx.lendEq (by assumption) | exact S.cx.lendLe0 | exact S.cx.lendEq0 | exact S.cx.partLe (by assumption) | exact S.cx.partEq (by assumption) | exact .inl rfl | refine ⟨?_, ?_⟩)), (by repeat' (first | exact trivial | exact rfl | exact Nat.le_refl _ | exact S.cx.giveEq | exact S.cx.lendLe (by assumption) | exact S.cx.lendEq (by assumption) | exact S.cx.lendLe0 | exact S.cx.lendEq0 | exact S.cx.partLe (by assumption) | exact S.cx.partEq (by assumption) | exact .inl rfl | refine ⟨?_, ?_⟩))⟩ rfl (fun ln hln x hx => ⟨rfl, ?_⟩)
    obtain ⟨prog1, pc1, state1, why1, what1, timer1, reg1, group1, err1⟩ := x
    cbv
    clear hx
    exact Done.to (.agg (cTask ⟨prog1, pc1, state1, why1, what1, timer1, reg1, group1, err1⟩)) [some (.box [.ro (A.enc cByte code), .int .i64 i, .int .i64 h])] rfl (by repeat' (first | exact trivial | exact rfl | refine ⟨?_, ?_⟩)) ⟨⟨⟨rfl, .inl rfl⟩, rfl, rfl, trivial⟩, trivial⟩ ⟨⟨prog1, pc1, state1, why1, what1, timer1, reg1, group1, err1⟩, i, h, hi, rfl, rfl⟩
  refine Test.eql (fun g2 => ?_) (fun g2 => ?_) <;> cbv
  · have hc1 := onceF_ok code hb hc i h hi 2
    refine ACall.valN (r := rCurB) (os := oCur A code) (dp := false) S.cx (l1Once_c S code hb hc i h hi 2) ⟨rfl, (by repeat' (first | exact trivial | exact rfl | exact Nat.le_refl _ | exact S.cx.giveEq | exact S.cx.lendLe (by assumption) | exact S.cx.lendEq (by assumption) | exact S.cx.lendLe0 | exact S.cx.lendEq0 | exact S.cx.partLe (by assumption) | exact S.cx.partEq (by assumption) | exact .inl rfl | refine ⟨?_, ?_⟩)), (by repeat' (first | exact trivial | exact rfl | exact Nat.le_refl _ | exact S.cx.giveEq | exact S.cx.lendLe (by assumption) | exact S.cx.lendEq (by assumption) | exact S.cx.lendLe0 | exact S.cx.lendEq0 | exact S.cx.partLe (by assumption) | exact S.cx.partEq (by assumption) | exact .inl rfl | refine ⟨?_, ?_⟩))⟩ rfl (fun ln hln x hx => ⟨rfl, ?_⟩)
    obtain ⟨c1, i, h⟩ := x
    cbv
    rw [← hx] at hc1
    dsimp only at hc1
    clear hx hi
    obtain ⟨hc1, hi⟩ := hc1
    cases c1 <;> cbv
    rotate_left
    · try (refine Drawn.mk ⟨by kernel_rfl, fun _ => ?_⟩)
      have hc2 := belowF_ok code hb hc i h hi 5
      refine ACall.valN (r := rCur) (os := oCur A code) (dp := false) S.cx (l1Below_c S code hb hc i h hi 5) ⟨rfl, (by repeat' (first | exact trivial | exact rfl | exact Nat.le_refl _ | exact S.cx.giveEq | exact S.cx.lendLe (by assumption) | exact S.cx.lendEq (by assumption) | exact S.cx.lendLe0 | exact S.cx.lendEq0 | exact S.cx.partLe (by assumption) | exact S.cx.partEq (by assumption) | exact .inl rfl | refine ⟨?_, ?_⟩)), (by repeat' (first | exact trivial | exact rfl | exact Nat.le_refl _ | exact S.cx.giveEq | exact S.cx.lendLe (by assumption) | exact S.cx.lendEq (by assumption) | exact S.cx.lendLe0 | exact S.cx.lendEq0 | exact S.cx.partLe (by assumption) | exact S.cx.partEq (by assumption) | exact .inl rfl | refine ⟨?_, ?_⟩))⟩ rfl (fun ln hln x hx => ⟨rfl, ?_⟩)
      obtain ⟨c2, i, h⟩ := x
      cbv
      rw [← hx] at hc2
      dsimp only at hc2
      clear hx hi
      obtain ⟨hc2, hi⟩ := hc2
      have hc3 := belowF_ok code hb hc i h hi 5
      refine ACall.valN (r := rCur) (os := oCur A code) (dp := false) S.cx (l1Below_c S code hb hc i h hi 5) ⟨rfl, (by repeat' (first | exact trivial | exact rfl | exact Nat.le_refl _ | exact S.cx.giveEq | exact S.cx.lendLe (by assumption) | exact S.cx.lendEq (by assumption) | exact S.cx.lendLe0 | exact S.cx.lendEq0 | exact S.cx.partLe (by assumption) | exact S.cx.partEq (by assumption) | exact .inl rfl | refine ⟨?_, ?_⟩)), (by repeat' (first | exact trivial | exact rfl | exact Nat.le_refl _ | exact S.cx.giveEq | exact S.cx.lendLe (by assumption) | exact S.cx.lendEq (by assumption) | exact S.cx.lendLe0 | exact S.cx.lendEq0 | exact S.cx.partLe (by assumption) | exact S.cx.partEq (by assumption) | exact .inl rfl | refine ⟨?_, ?_⟩))⟩ rfl (fun ln hln x hx => ⟨rfl, ?_⟩)
      obtain ⟨c3, i, h⟩ := x
      cbv
      rw [← hx] at hc3
      dsimp only at hc3
      clear hx hi
      obtain ⟨hc3, hi⟩ := hc3
      refine ACall.valN (r := (fun x : Task => .agg (cTask x))) (os := fun _ => []) (dp := false) S.cx (specParked_c S prog0 b1 state0 why0 what0 timer0 b2 group0 err0 2 c2 c3) ⟨rfl, (by repeat' (first | exact trivial | exact rfl | exact Nat.le_refl _ | exact S.cx.giveEq | exact S.cx.lendLe (by assumption) | exact S.cx.lendEq (by assumption) | exact S.cx.lendLe0 | exact S.cx.lendEq0 | exact S.cx.partLe (by assumption) | exact S.cx.partEq (by assumption) | exact .inl rfl | refine ⟨?_, ?_⟩)), (by repeat' (first | exact trivial | exact rfl | exact Nat.le_refl _ | exact S.cx.giveEq | exact S.cx.lendLe (by assumption) | exact S.cx.lendEq (by assumption) | exact S.cx.lendLe0 | exact S.cx.lendEq0 | exact S.cx.partLe (by assumption) | exact S.cx.partEq (by assumption) | exact .inl rfl | refine ⟨?_, ?_⟩))⟩ rfl (fun ln hln x hx => ⟨rfl, ?_⟩)
      obtain ⟨prog1, pc1, state1, why1, what1, timer1, reg1, group1, err1⟩ := x
      cbv
      clear hx
      exact Done.to (.agg (cTask ⟨prog1, pc1, state1, why1, what1, timer1, reg1, group1, err1⟩)) [some (.box [.ro (A.enc cByte code), .int .i64 i, .int .i64 h])] rfl (by repeat' (first | exact trivial | exact rfl | refine ⟨?_, ?_⟩)) ⟨⟨⟨rfl, .inl rfl⟩, rfl, rfl, trivial⟩, trivial⟩ ⟨⟨prog1, pc1, state1, why1, what1, timer1, reg1, group1, err1⟩, i, h, hi, rfl, rfl⟩
    · try (refine Drawn.mk ⟨by kernel_rfl, fun _ => ?_⟩)
      have hc2 := fromF_ok code hb hc i h hi 3 4
      refine ACall.valN (r := rCur) (os := oCur A code) (dp := false) S.cx (l1From_c S code hb hc i h hi 3 4 (by decide)) ⟨rfl, (by repeat' (first | exact trivial | exact rfl | exact Nat.le_refl _ | exact S.cx.giveEq | exact S.cx.lendLe (by assumption) | exact S.cx.lendEq (by assumption) | exact S.cx.lendLe0 | exact S.cx.lendEq0 | exact S.cx.partLe (by assumption) | exact S.cx.partEq (by assumption) | exact .inl rfl | refine ⟨?_, ?_⟩)), (by repeat' (first | exact trivial | exact rfl | exact Nat.le_refl _ | exact S.cx.giveEq | exact S.cx.lendLe (by assumption) | exact S.cx.lendEq (by assumption) | exact S.cx.lendLe0 | exact S.cx.lendEq0 | exact S.cx.partLe (by assumption) | exact S.cx.partEq (by assumption) | exact .inl rfl | refine ⟨?_, ?_⟩))⟩ rfl (fun ln hln x hx => ⟨rfl, ?_⟩)
      obtain ⟨c2, i, h⟩ := x
      cbv
      rw [← hx] at hc2
      dsimp only at hc2
      clear hx hi
      obtain ⟨hc2, hi⟩ := hc2
      have hc3 := belowF_ok code hb hc i h hi 2
      refine ACall.valN (r := rCur) (os := oCur A code) (dp := false) S.cx (l1Below_c S code hb hc i h hi 2) ⟨rfl, (by repeat' (first | exact trivial | exact rfl | exact Nat.le_refl _ | exact S.cx.giveEq | exact S.cx.lendLe (by assumption) | exact S.cx.lendEq (by assumption) | exact S.cx.lendLe0 | exact S.cx.lendEq0 | exact S.cx.partLe (by assumption) | exact S.cx.partEq (by assumption) | exact .inl rfl | refine ⟨?_, ?_⟩)), (by repeat' (first | exact trivial | exact rfl | exact Nat.le_refl _ | exact S.cx.giveEq | exact S.cx.lendLe (by assumption) | exact S.cx.lendEq (by assumption) | exact S.cx.lendLe0 | exact S.cx.lendEq0 | exact S.cx.partLe (by assumption) | exact S.cx.partEq (by assumption) | exact .inl rfl | refine ⟨?_, ?_⟩))⟩ rfl (fun ln hln x hx => ⟨rfl, ?_⟩)
      obtain ⟨c3, i, h⟩ := x
      cbv
      rw [← hx] at hc3
      dsimp only at hc3
      clear hx hi
      obtain ⟨hc3, hi⟩ := hc3
      refine ACall.valN (r := (fun x : Task => .agg (cTask x))) (os := fun _ => []) (dp := false) S.cx (specParked_c S prog0 b1 state0 why0 what0 timer0 b2 group0 err0 c2 c3 (-1)) ⟨rfl, (by repeat' (first | exact trivial | exact rfl | exact Nat.le_refl _ | exact S.cx.giveEq | exact S.cx.lendLe (by assumption) | exact S.cx.lendEq (by assumption) | exact S.cx.lendLe0 | exact S.cx.lendEq0 | exact S.cx.partLe (by assumption) | exact S.cx.partEq (by assumption) | exact .inl rfl | refine ⟨?_, ?_⟩)), (by repeat' (first | exact trivial | exact rfl | exact Nat.le_refl _ | exact S.cx.giveEq | exact S.cx.lendLe (by assumption) | exact S.cx.lendEq (by assumption) | exact S.cx.lendLe0 | exact S.cx.lendEq0 | exact S.cx.partLe (by assumption) | exact S.cx.partEq (by assumption) | exact .inl rfl | refine ⟨?_, ?_⟩))⟩ rfl (fun ln hln x hx => ⟨rfl, ?_⟩)
      obtain ⟨prog1, pc1, state1, why1, what1, timer1, reg1, group1, err1⟩ := x
      cbv
      clear hx
      exact Done.to (.agg (cTask ⟨prog1, pc1, state1, why1, what1, timer1, reg1, group1, err1⟩)) [some (.box [.ro (A.enc cByte code), .int .i64 i, .int .i64 h])] rfl (by repeat' (first | exact trivial | exact rfl | refine ⟨?_, ?_⟩)) ⟨⟨⟨rfl, .inl rfl⟩, rfl, rfl, trivial⟩, trivial⟩ ⟨⟨prog1, pc1, state1, why1, what1, timer1, reg1, group1, err1⟩, i, h, hi, rfl, rfl⟩
  refine Test.eql (fun g3 => ?_) (fun g3 => ?_) <;> cbv
  · try (refine Drawn.mk ⟨by kernel_rfl, fun _ => ?_⟩)
    have hc1 := belowF_ok code hb hc i h hi 3
    refine ACall.valN (r := rCur) (os := oCur A code) (dp := false) S.cx (l1Below_c S code hb hc i h hi 3) ⟨rfl, (by repeat' (first | exact trivial | exact rfl | exact Nat.le_refl _ | exact S.cx.giveEq | exact S.cx.lendLe (by assumption) | exact S.cx.lendEq (by assumption) | exact S.cx.lendLe0 | exact S.cx.lendEq0 | exact S.cx.partLe (by assumption) | exact S.cx.partEq (by assumption) | exact .inl rfl | refine ⟨?_, ?_⟩)), (by repeat' (first | exact trivial | exact rfl | exact Nat.le_refl _ | exact S.cx.giveEq | exact S.cx.lendLe (by assumption) | exact S.cx.lendEq (by assumption) | exact S.cx.lendLe0 | exact S.cx.lendEq0 | exact S.cx.partLe (by assumption) | exact S.cx.partEq (by assumption) | exact .inl rfl | refine ⟨?_, ?_⟩))⟩ rfl (fun ln hln x hx => ⟨rfl, ?_⟩)
    obtain ⟨c1, i, h⟩ := x
    cbv
    rw [← hx] at hc1
    dsimp only at hc1
    clear hx hi
    obtain ⟨hc1, hi⟩ := hc1
    refine ACall.valN (r := (fun x : Task => .agg (cTask x))) (os := fun _ => []) (dp := false) S.cx (specEnded_c S prog0 b1 state0 why0 what0 timer0 b2 group0 err0 c1) ⟨rfl, (by repeat' (first | exact trivial | exact rfl | exact Nat.le_refl _ | exact S.cx.giveEq | exact S.cx.lendLe (by assumption) | exact S.cx.lendEq (by assumption) | exact S.cx.lendLe0 | exact S.cx.lendEq0 | exact S.cx.partLe (by assumption) | exact S.cx.partEq (by assumption) | exact .inl rfl | refine ⟨?_, ?_⟩)), (by repeat' (first | exact trivial | exact rfl | exact Nat.le_refl _ | exact S.cx.giveEq | exact S.cx.lendLe (by assumption) | exact S.cx.lendEq (by assumption) | exact S.cx.lendLe0 | exact S.cx.lendEq0 | exact S.cx.partLe (by assumption) | exact S.cx.partEq (by assumption) | exact .inl rfl | refine ⟨?_, ?_⟩))⟩ rfl (fun ln hln x hx => ⟨rfl, ?_⟩)
    obtain ⟨prog1, pc1, state1, why1, what1, timer1, reg1, group1, err1⟩ := x
    cbv
    clear hx
    exact Done.to (.agg (cTask ⟨prog1, pc1, state1, why1, what1, timer1, reg1, group1, err1⟩)) [some (.box [.ro (A.enc cByte code), .int .i64 i, .int .i64 h])] rfl (by repeat' (first | exact trivial | exact rfl | refine ⟨?_, ?_⟩)) ⟨⟨⟨rfl, .inl rfl⟩, rfl, rfl, trivial⟩, trivial⟩ ⟨⟨prog1, pc1, state1, why1, what1, timer1, reg1, group1, err1⟩, i, h, hi, rfl, rfl⟩
  · exact Done.to (.agg (cTask ⟨prog0, b1, state0, why0, what0, timer0, b2, group0, err0⟩)) [some (.box [.ro (A.enc cByte code), .int .i64 i, .int .i64 h])] rfl (by repeat' (first | exact trivial | exact rfl | refine ⟨?_, ?_⟩)) ⟨⟨⟨rfl, .inl rfl⟩, rfl, rfl, trivial⟩, trivial⟩ ⟨⟨prog0, b1, state0, why0, what0, timer0, b2, group0, err0⟩, i, h, hi, rfl, rfl⟩

theorem Row.lit (C : Cx P tab A) {α : Type} {f : α → List AV} (l : List α) {rows : List (List AV)} (hr : rows = l.map f) {row : Nat} {K : List AV → Prop} (hl : row < l.length) (h : ∀ x, l[row]? = some x → K (f x)) : Row rows row K := by
  rw [hr, ← C.enc f l]; exact Row.enc C hl h

theorem l1Min_c (S : Se P A) (a b : Int) : Is1 P 140 [.int .i64 a, .int .i64 b] (.int .i64 (min a b)) := by
  refine SoundM.knownH2 (p := fun n => n = min a b) ?_ (fun n h => h)
  refine S.cx.by (S.prog ▸ Try.func140) rfl rfl rfl rfl (fun hv ho => ?_)
  cbv
  refine Test.lss (fun h => ?_) (fun h => ?_) <;> cbv
  · exact Done.num (by omega)
  · exact Done.num (by omega)

theorem l1Odd_c (S : Se P A) (code : List Int) (hb : code.length ≤ 4096) (hc : ∀ b ∈ code, 0 ≤ b ∧ b ≤ 255) (i h : Int) (hi : 0 ≤ i) : SoundM P 134 true [.ptr 1000 0 0] [.box [.ro (A.enc cByte code), .int .i64 i, .int .i64 h]]
    (fun v os => ∃ (x i' h' : Int), (-9223372036854775808 ≤ x ∧ x ≤ 9223372036854775807) ∧ 0 ≤ i' ∧ v = .int .i64 x ∧ os = [some (.box [.ro (A.enc cByte code), .int .i64 i', .int .i64 h'])]) := by
  refine S.cx.by (S.prog ▸ Try.func134) rfl rfl rfl rfl (fun hv ho => ?_)
  cbv
  have ha := belowF_ok code hb hc i h hi 10
  refine ACall.valN (r := rCur) (os := oCur A code) (dp := false) S.cx (l1Below_c S code hb hc i h hi 10) ⟨rfl, (by repeat' (first | exact trivial | exact rfl | exact Nat.le_refl _ | exact S.cx.giveEq | exact S.cx.lendLe (by assumption) | exact S.cx.lendEq (by assumption) | exact S.cx.lendLe0 | exact S.cx.lendEq0 | exact S.cx.partLe (by assumption) | exact S.cx.partEq (by assumption) | exact .inl rfl | refine ⟨?_, ?_⟩)), (by repeat' (first | exact trivial | exact rfl | exact Nat.le_refl _ | exact S.cx.giveEq | exact S.cx.lendLe (by assumption) | exact S.cx.lendEq (by assumption) | exact S.cx.lendLe0 | exact S.cx.lendEq0 | exact S.cx.partLe (by assumption) | exact S.cx.partEq (by assumption) | exact .inl rfl | refine ⟨?_, ?_⟩))⟩ rfl (fun ln hln x hx => ⟨rfl, ?_⟩)
  obtain ⟨a, i, h⟩ := x
  cbv
  rw [← hx] at ha
  dsimp only at ha
  clear hx hi
  obtain ⟨ha, hi⟩ := ha
  have ha9 := ha.2.1 (by decide)
  refine ElemRef.go rfl (by lia) (by lia) (by simp only [List.length_cons, List.length_nil]; lia) (fun row hrow => ?_); cbv
  refine Row.lit S.cx (f := cInt64) ([-1, 0, 1, 2147483648, -2147483648, 1099511627776, 4611686018427387904, -4611686018427387904, 9223372036854775807, -9223372036854775808] : List Int) rfl (by simp only [List.length_cons, List.length_nil]; lia) (fun x hx => ?_); cbv
  have hxb : -9223372036854775808 ≤ x ∧ x ≤ 9223372036854775807 := (by decide : ∀ x ∈ ([-1, 0, 1, 2147483648, -2147483648, 1099511627776, 4611686018427387904, -4611686018427387904, 9223372036854775807, -9223372036854775808] : List Int), -9223372036854775808 ≤ x ∧ x ≤ 9223372036854775807) x (mem_at hx)
  exact Done.to (.int .i64 x) [some (.box [.ro (A.enc cByte code), .int .i64 i, .int .i64 h])] rfl rfl ⟨⟨⟨rfl, .inl rfl⟩, rfl, rfl, trivial⟩, trivial⟩ ⟨x, i, h, hxb, hi, rfl, rfl⟩

theorem l1Num_c (S : Se P A) (code : List Int) (hb : code.length ≤ 4096) (hc : ∀ b ∈ code, 0 ≤ b ∧ b ≤ 255) (i h : Int) (hi : 0 ≤ i) (most : Int) (hm : 0 ≤ most ∧ most ≤ 1000000000) : SoundM P 114 true [.ptr 1000 0 0, .int .i64 most] [.box [.ro (A.enc cByte code), .int .i64 i, .int .i64 h]]
    (fun v os => ∃ (x i' h' : Int), (-9223372036854775808 ≤ x ∧ x ≤ 9223372036854775807) ∧ 0 ≤ i' ∧ v = .int .i64 x ∧ os = [some (.box [.ro (A.enc cByte code), .int .i64 i', .int .i64 h'])]) := by
  refine S.cx.by (S.prog ▸ Try.func114) rfl rfl rfl rfl (fun hv ho => ?_)
  cbv
  have hbb := onceF_ok code hb hc i h hi 10
  refine ACall.valN (r := rCurB) (os := oCur A code) (dp := false) S.cx (l1Once_c S code hb hc i h hi 10) ⟨rfl, (by repeat' (first | exact trivial | exact rfl | exact Nat.le_refl _ | exact S.cx.giveEq | exact S.cx.lendLe (by assumption) | exact S.cx.lendEq (by assumption) | exact S.cx.lendLe0 | exact S.cx.lendEq0 | exact S.cx.partLe (by assumption) | exact S.cx.partEq (by assumption) | exact .inl rfl | refine ⟨?_, ?_⟩)), (by repeat' (first | exact trivial | exact rfl | exact Nat.le_refl _ | exact S.cx.giveEq | exact S.cx.lendLe (by assumption) | exact S.cx.lendEq (by assumption) | exact S.cx.lendLe0 | exact S.cx.lendEq0 | exact S.cx.partLe (by assumption) | exact S.cx.partEq (by assumption) | exact .inl rfl | refine ⟨?_, ?_⟩))⟩ rfl (fun ln hln x hx => ⟨rfl, ?_⟩)
  obtain ⟨b, i, h⟩ := x
  cbv
  rw [← hx] at hbb
  dsimp only at hbb
  clear hx hi
  obtain ⟨hbb, hi⟩ := hbb
  cases b <;> cbv
  rotate_left
  · refine Arith.go (by lia) (fun m1 hm1 => ?_); replace hm1 : m1 = most + 1 := hm1; cbv
    refine ACall.of (dp := false) (l1Odd_c S code hb hc i h hi) ⟨rfl, (by repeat' (first | exact trivial | exact rfl | exact Nat.le_refl _ | exact S.cx.giveEq | exact S.cx.lendLe (by assumption) | exact S.cx.lendEq (by assumption) | exact S.cx.lendLe0 | exact S.cx.lendEq0 | exact S.cx.partLe (by assumption) | exact S.cx.partEq (by assumption) | exact .inl rfl | refine ⟨?_, ?_⟩)), (by repeat' (first | exact trivial | exact rfl | exact Nat.le_refl _ | exact S.cx.giveEq | exact S.cx.lendLe (by assumption) | exact S.cx.lendEq (by assumption) | exact S.cx.lendLe0 | exact S.cx.lendEq0 | exact S.cx.partLe (by assumption) | exact S.cx.partEq (by assumption) | exact .inl rfl | refine ⟨?_, ?_⟩))⟩ (fun v os hv => ?_)
    clear hi
    obtain ⟨od, i, h, hod, hi, rfl, rfl⟩ := hv
    refine ⟨rfl, ?_⟩; cbv
    have ha := belowF_ok code hb hc i h hi 4
    refine ACall.valN (r := rCur) (os := oCur A code) (dp := false) S.cx (l1Below_c S code hb hc i h hi 4) ⟨rfl, (by repeat' (first | exact trivial | exact rfl | exact Nat.le_refl _ | exact S.cx.giveEq | exact S.cx.lendLe (by assumption) | exact S.cx.lendEq (by assumption) | exact S.cx.lendLe0 | exact S.cx.lendEq0 | exact S.cx.partLe (by assumption) | exact S.cx.partEq (by assumption) | exact .inl rfl | refine ⟨?_, ?_⟩)), (by repeat' (first | exact trivial | exact rfl | exact Nat.le_refl _ | exact S.cx.giveEq | exact S.cx.lendLe (by assumption) | exact S.cx.lendEq (by assumption) | exact S.cx.lendLe0 | exact S.cx.lendEq0 | exact S.cx.partLe (by assumption) | exact S.cx.partEq (by assumption) | exact .inl rfl | refine ⟨?_, ?_⟩))⟩ rfl (fun ln hln x hx => ⟨rfl, ?_⟩)
    obtain ⟨a, i, h⟩ := x
    cbv
    rw [← hx] at ha
    dsimp only at ha
    clear hx hi
    obtain ⟨ha, hi⟩ := ha
    have ha9 := ha.2.1 (by decide)
    refine ElemRef.go rfl (by lia) (by lia) (by simp only [List.length_cons, List.length_nil]; lia) (fun row hrow => ?_); cbv
    refine Row.lit S.cx (f := cInt64) ([-1, most, m1, od] : List Int) rfl (by simp only [List.length_cons, List.length_nil]; lia) (fun x hx => ?_); cbv
    have hxb : -9223372036854775808 ≤ x ∧ x ≤ 9223372036854775807 := by
      have := mem_at hx
      simp only [List.mem_cons, List.not_mem_nil, or_false] at this
      rcases this with rfl | rfl | rfl | rfl <;> omega
    exact Done.to (.int .i64 x) [some (.box [.ro (A.enc cByte code), .int .i64 i, .int .i64 h])] rfl rfl ⟨⟨⟨rfl, .inl rfl⟩, rfl, rfl, trivial⟩, trivial⟩ ⟨x, i, h, hxb, hi, rfl, rfl⟩
  have hbb := onceF_ok code hb hc i h hi 2
  refine ACall.valN (r := rCurB) (os := oCur A code) (dp := false) S.cx (l1Once_c S code hb hc i h hi 2) ⟨rfl, (by repeat' (first | exact trivial | exact rfl | exact Nat.le_refl _ | exact S.cx.giveEq | exact S.cx.lendLe (by assumption) | exact S.cx.lendEq (by assumption) | exact S.cx.lendLe0 | exact S.cx.lendEq0 | exact S.cx.partLe (by assumption) | exact S.cx.partEq (by assumption) | exact .inl rfl | refine ⟨?_, ?_⟩)), (by repeat' (first | exact trivial | exact rfl | exact Nat.le_refl _ | exact S.cx.giveEq | exact S.cx.lendLe (by assumption) | exact S.cx.lendEq (by assumption) | exact S.cx.lendLe0 | exact S.cx.lendEq0 | exact S.cx.partLe (by assumption) | exact S.cx.partEq (by assumption) | exact .inl rfl | refine ⟨?_, ?_⟩))⟩ rfl (fun ln hln x hx => ⟨rfl, ?_⟩)
  obtain ⟨b, i, h⟩ := x
  cbv
  rw [← hx] at hbb
  dsimp only at hbb
  clear hx hi
  obtain ⟨hbb, hi⟩ := hbb
  cases b <;> cbv
  · refine Arith.go (by lia) (fun m1 hm1 => ?_); replace hm1 : m1 = most + 1 := hm1; cbv
    have ha := belowF_ok code hb hc i h hi m1
    refine ACall.valN (r := rCur) (os := oCur A code) (dp := false) S.cx (l1Below_c S code hb hc i h hi m1) ⟨rfl, (by repeat' (first | exact trivial | exact rfl | exact Nat.le_refl _ | exact S.cx.giveEq | exact S.cx.lendLe (by assumption) | exact S.cx.lendEq (by assumption) | exact S.cx.lendLe0 | exact S.cx.lendEq0 | exact S.cx.partLe (by assumption) | exact S.cx.partEq (by assumption) | exact .inl rfl | refine ⟨?_, ?_⟩)), (by repeat' (first | exact trivial | exact rfl | exact Nat.le_refl _ | exact S.cx.giveEq | exact S.cx.lendLe (by assumption) | exact S.cx.lendEq (by assumption) | exact S.cx.lendLe0 | exact S.cx.lendEq0 | exact S.cx.partLe (by assumption) | exact S.cx.partEq (by assumption) | exact .inl rfl | refine ⟨?_, ?_⟩))⟩ rfl (fun ln hln x hx => ⟨rfl, ?_⟩)
    obtain ⟨a, i, h⟩ := x
    cbv
    rw [← hx] at ha
    dsimp only at ha
    clear hx hi
    obtain ⟨ha, hi⟩ := ha
    have ha8 := ha.2.1 (by omega)
    exact Done.to (.int .i64 a) [some (.box [.ro (A.enc cByte code), .int .i64 i, .int .i64 h])] rfl rfl ⟨⟨⟨rfl, .inl rfl⟩, rfl, rfl, trivial⟩, trivial⟩ ⟨a, i, h, ⟨by omega, by omega⟩, hi, rfl, rfl⟩
  · refine ACall.int (dp := false) (l1Min_c S most 4) ⟨rfl, (by repeat' (first | exact trivial | exact rfl | exact Nat.le_refl _ | exact S.cx.giveEq | exact S.cx.lendLe (by assumption) | exact S.cx.lendEq (by assumption) | exact S.cx.lendLe0 | exact S.cx.lendEq0 | exact S.cx.partLe (by assumption) | exact S.cx.partEq (by assumption) | exact .inl rfl | refine ⟨?_, ?_⟩)), (by repeat' (first | exact trivial | exact rfl | exact Nat.le_refl _ | exact S.cx.giveEq | exact S.cx.lendLe (by assumption) | exact S.cx.lendEq (by assumption) | exact S.cx.lendLe0 | exact S.cx.lendEq0 | exact S.cx.partLe (by assumption) | exact S.cx.partEq (by assumption) | exact .inl rfl | refine ⟨?_, ?_⟩))⟩ rfl (fun mn hmn => ?_); cbv
    refine Arith.go (by lia) (fun m1 hm1 => ?_); replace hm1 : m1 = mn + 1 := hm1; cbv
    have ha := belowF_ok code hb hc i h hi m1
    refine ACall.valN (r := rCur) (os := oCur A code) (dp := false) S.cx (l1Below_c S code hb hc i h hi m1) ⟨rfl, (by repeat' (first | exact trivial | exact rfl | exact Nat.le_refl _ | exact S.cx.giveEq | exact S.cx.lendLe (by assumption) | exact S.cx.lendEq (by assumption) | exact S.cx.lendLe0 | exact S.cx.lendEq0 | exact S.cx.partLe (by assumption) | exact S.cx.partEq (by assumption) | exact .inl rfl | refine ⟨?_, ?_⟩)), (by repeat' (first | exact trivial | exact rfl | exact Nat.le_refl _ | exact S.cx.giveEq | exact S.cx.lendLe (by assumption) | exact S.cx.lendEq (by assumption) | exact S.cx.lendLe0 | exact S.cx.lendEq0 | exact S.cx.partLe (by assumption) | exact S.cx.partEq (by assumption) | exact .inl rfl | refine ⟨?_, ?_⟩))⟩ rfl (fun ln hln x hx => ⟨rfl, ?_⟩)
    obtain ⟨a, i, h⟩ := x
    cbv
    rw [← hx] at ha
    dsimp only at ha
    clear hx hi
    obtain ⟨ha, hi⟩ := ha
    have ha8 := ha.2.1 (by omega)
    exact Done.to (.int .i64 a) [some (.box [.ro (A.enc cByte code), .int .i64 i, .int .i64 h])] rfl rfl ⟨⟨⟨rfl, .inl rfl⟩, rfl, rfl, trivial⟩, trivial⟩ ⟨a, i, h, ⟨by omega, by omega⟩, hi, rfl, rfl⟩

theorem l10DrawAny_c (S : Se P A) (code : List Int) (hb : code.length ≤ 4096) (hc : ∀ b ∈ code, 0 ≤ b ∧ b ≤ 255) (i h : Int) (hi : 0 ≤ i) : SoundM P 96 true [.ptr 1000 0 0] [.box [.ro (A.enc cByte code), .int .i64 i, .int .i64 h]]
    (fun v os => ∃ (t : Task) (i' h' : Int), 0 ≤ i' ∧ v = .agg (cTask t) ∧ os = [some (.box [.ro (A.enc cByte code), .int .i64 i', .int .i64 h'])]) := by
  refine S.cx.by (S.prog ▸ Try.func96) rfl rfl rfl rfl (fun hv ho => ?_)
  cbv
  refine ACall.of (dp := false) (l10Draw_c S code hb hc i h hi) ⟨rfl, (by repeat' (first | exact trivial | exact rfl | exact Nat.le_refl _ | exact S.cx.giveEq | exact S.cx.lendLe (by assumption) | exact S.cx.lendEq (by assumption) | exact S.cx.lendLe0 | exact S.cx.lendEq0 | exact S.cx.partLe (by assumption) | exact S.cx.partEq (by assumption) | exact .inl rfl | refine ⟨?_, ?_⟩)), (by repeat' (first | exact trivial | exact rfl | exact Nat.le_refl _ | exact S.cx.giveEq | exact S.cx.lendLe (by assumption) | exact S.cx.lendEq (by assumption) | exact S.cx.lendLe0 | exact S.cx.lendEq0 | exact S.cx.partLe (by assumption) | exact S.cx.partEq (by assumption) | exact .inl rfl | refine ⟨?_, ?_⟩))⟩ (fun v os hv => ?_)
  clear hi
  obtain ⟨⟨prog0, pc0, state0, why0, what0, timer0, reg0, group0, err0⟩, i, h, hi, rfl, rfl⟩ := hv
  refine ⟨rfl, ?_⟩; cbv
  have hbb := onceF_ok code hb hc i h hi 8
  refine ACall.valN (r := rCurB) (os := oCur A code) (dp := false) S.cx (l1Once_c S code hb hc i h hi 8) ⟨rfl, (by repeat' (first | exact trivial | exact rfl | exact Nat.le_refl _ | exact S.cx.giveEq | exact S.cx.lendLe (by assumption) | exact S.cx.lendEq (by assumption) | exact S.cx.lendLe0 | exact S.cx.lendEq0 | exact S.cx.partLe (by assumption) | exact S.cx.partEq (by assumption) | exact .inl rfl | refine ⟨?_, ?_⟩)), (by repeat' (first | exact trivial | exact rfl | exact Nat.le_refl _ | exact S.cx.giveEq | exact S.cx.lendLe (by assumption) | exact S.cx.lendEq (by assumption) | exact S.cx.lendLe0 | exact S.cx.lendEq0 | exact S.cx.partLe (by assumption) | exact S.cx.partEq (by assumption) | exact .inl rfl | refine ⟨?_, ?_⟩))⟩ rfl (fun ln hln x hx => ⟨rfl, ?_⟩)
  obtain ⟨b, i, h⟩ := x
  cbv
  rw [← hx] at hbb
  dsimp only at hbb
  clear hx hi
  obtain ⟨hbb, hi⟩ := hbb
  cases b <;> cbv
  · exact Done.to (.agg (cTask ⟨prog0, pc0, state0, why0, what0, timer0, reg0, group0, err0⟩)) [some (.box [.ro (A.enc cByte code), .int .i64 i, .int .i64 h])] rfl (by repeat' (first | exact trivial | exact rfl | refine ⟨?_, ?_⟩)) ⟨⟨⟨rfl, .inl rfl⟩, rfl, rfl, trivial⟩, trivial⟩ ⟨⟨prog0, pc0, state0, why0, what0, timer0, reg0, group0, err0⟩, i, h, hi, rfl, rfl⟩
  refine ACall.of (dp := false) (l1Num_c S code hb hc i h hi 12 (by decide)) ⟨rfl, (by repeat' (first | exact trivial | exact rfl | exact Nat.le_refl _ | exact S.cx.giveEq | exact S.cx.lendLe (by assumption) | exact S.cx.lendEq (by assumption) | exact S.cx.lendLe0 | exact S.cx.lendEq0 | exact S.cx.partLe (by assumption) | exact S.cx.partEq (by assumption) | exact .inl rfl | refine ⟨?_, ?_⟩)), (by repeat' (first | exact trivial | exact rfl | exact Nat.le_refl _ | exact S.cx.giveEq | exact S.cx.lendLe (by assumption) | exact S.cx.lendEq (by assumption) | exact S.cx.lendLe0 | exact S.cx.lendEq0 | exact S.cx.partLe (by assumption) | exact S.cx.partEq (by assumption) | exact .inl rfl | refine ⟨?_, ?_⟩))⟩ (fun v os hv => ?_)
  clear hi
  obtain ⟨x, i, h, hxx, hi, rfl, rfl⟩ := hv
  refine ⟨rfl, ?_⟩; cbv
  have hy := belowF_ok code hb hc i h hi 9
  refine ACall.valN (r := rCur) (os := oCur A code) (dp := false) S.cx (l1Below_c S code hb hc i h hi 9) ⟨rfl, (by repeat' (first | exact trivial | exact rfl | exact Nat.le_refl _ | exact S.cx.giveEq | exact S.cx.lendLe (by assumption) | exact S.cx.lendEq (by assumption) | exact S.cx.lendLe0 | exact S.cx.lendEq0 | exact S.cx.partLe (by assumption) | exact S.cx.partEq (by assumption) | exact .inl rfl | refine ⟨?_, ?_⟩)), (by repeat' (first | exact trivial | exact rfl | exact Nat.le_refl _ | exact S.cx.giveEq | exact S.cx.lendLe (by assumption) | exact S.cx.lendEq (by assumption) | exact S.cx.lendLe0 | exact S.cx.lendEq0 | exact S.cx.partLe (by assumption) | exact S.cx.partEq (by assumption) | exact .inl rfl | refine ⟨?_, ?_⟩))⟩ rfl (fun ln hln x hx => ⟨rfl, ?_⟩)
  obtain ⟨y, i, h⟩ := x
  cbv
  rw [← hx] at hy
  dsimp only at hy
  clear hx hi
  obtain ⟨hy, hi⟩ := hy
  refine Test.eql (fun g0 => ?_) (fun g0 => ?_) <;> cbv
  · exact Done.to (.agg (cTask ⟨x, pc0, state0, why0, what0, timer0, reg0, group0, err0⟩)) [some (.box [.ro (A.enc cByte code), .int .i64 i, .int .i64 h])] rfl (by repeat' (first | exact trivial | exact rfl | refine ⟨?_, ?_⟩)) ⟨⟨⟨rfl, .inl rfl⟩, rfl, rfl, trivial⟩, trivial⟩ ⟨⟨x, pc0, state0, why0, what0, timer0, reg0, group0, err0⟩, i, h, hi, rfl, rfl⟩
  refine Test.eql (fun g1 => ?_) (fun g1 => ?_) <;> cbv
  · exact Done.to (.agg (cTask ⟨prog0, x, state0, why0, what0, timer0, reg0, group0, err0⟩)) [some (.box [.ro (A.enc cByte code), .int .i64 i, .int .i64 h])] rfl (by repeat' (first | exact trivial | exact rfl | refine ⟨?_, ?_⟩)) ⟨⟨⟨rfl, .inl rfl⟩, rfl, rfl, trivial⟩, trivial⟩ ⟨⟨prog0, x, state0, why0, what0, timer0, reg0, group0, err0⟩, i, h, hi, rfl, rfl⟩
  refine Test.eql (fun g2 => ?_) (fun g2 => ?_) <;> cbv
  · exact Done.to (.agg (cTask ⟨prog0, pc0, x, why0, what0, timer0, reg0, group0, err0⟩)) [some (.box [.ro (A.enc cByte code), .int .i64 i, .int .i64 h])] rfl (by repeat' (first | exact trivial | exact rfl | refine ⟨?_, ?_⟩)) ⟨⟨⟨rfl, .inl rfl⟩, rfl, rfl, trivial⟩, trivial⟩ ⟨⟨prog0, pc0, x, why0, what0, timer0, reg0, group0, err0⟩, i, h, hi, rfl, rfl⟩
  refine Test.eql (fun g3 => ?_) (fun g3 => ?_) <;> cbv
  · exact Done.to (.agg (cTask ⟨prog0, pc0, state0, x, what0, timer0, reg0, group0, err0⟩)) [some (.box [.ro (A.enc cByte code), .int .i64 i, .int .i64 h])] rfl (by repeat' (first | exact trivial | exact rfl | refine ⟨?_, ?_⟩)) ⟨⟨⟨rfl, .inl rfl⟩, rfl, rfl, trivial⟩, trivial⟩ ⟨⟨prog0, pc0, state0, x, what0, timer0, reg0, group0, err0⟩, i, h, hi, rfl, rfl⟩
  refine Test.eql (fun g4 => ?_) (fun g4 => ?_) <;> cbv
  · refine ACall.of (dp := false) (l1Num_c S code hb hc i h hi 59 (by decide)) ⟨rfl, (by repeat' (first | exact trivial | exact rfl | exact Nat.le_refl _ | exact S.cx.giveEq | exact S.cx.lendLe (by assumption) | exact S.cx.lendEq (by assumption) | exact S.cx.lendLe0 | exact S.cx.lendEq0 | exact S.cx.partLe (by assumption) | exact S.cx.partEq (by assumption) | exact .inl rfl | refine ⟨?_, ?_⟩)), (by repeat' (first | exact trivial | exact rfl | exact Nat.le_refl _ | exact S.cx.giveEq | exact S.cx.lendLe (by assumption) | exact S.cx.lendEq (by assumption) | exact S.cx.lendLe0 | exact S.cx.lendEq0 | exact S.cx.partLe (by assumption) | exact S.cx.partEq (by assumption) | exact .inl rfl | refine ⟨?_, ?_⟩))⟩ (fun v os hv => ?_)
    clear hi
    obtain ⟨z, i, h, hz, hi, rfl, rfl⟩ := hv
    refine ⟨rfl, ?_⟩; cbv
    exact Done.to (.agg (cTask ⟨prog0, pc0, state0, why0, z, timer0, reg0, group0, err0⟩)) [some (.box [.ro (A.enc cByte code), .int .i64 i, .int .i64 h])] rfl (by repeat' (first | exact trivial | exact rfl | refine ⟨?_, ?_⟩)) ⟨⟨⟨rfl, .inl rfl⟩, rfl, rfl, trivial⟩, trivial⟩ ⟨⟨prog0, pc0, state0, why0, z, timer0, reg0, group0, err0⟩, i, h, hi, rfl, rfl⟩
  refine Test.eql (fun g5 => ?_) (fun g5 => ?_) <;> cbv
  · refine ACall.of (dp := false) (l1Num_c S code hb hc i h hi 1000000 (by decide)) ⟨rfl, (by repeat' (first | exact trivial | exact rfl | exact Nat.le_refl _ | exact S.cx.giveEq | exact S.cx.lendLe (by assumption) | exact S.cx.lendEq (by assumption) | exact S.cx.lendLe0 | exact S.cx.lendEq0 | exact S.cx.partLe (by assumption) | exact S.cx.partEq (by assumption) | exact .inl rfl | refine ⟨?_, ?_⟩)), (by repeat' (first | exact trivial | exact rfl | exact Nat.le_refl _ | exact S.cx.giveEq | exact S.cx.lendLe (by assumption) | exact S.cx.lendEq (by assumption) | exact S.cx.lendLe0 | exact S.cx.lendEq0 | exact S.cx.partLe (by assumption) | exact S.cx.partEq (by assumption) | exact .inl rfl | refine ⟨?_, ?_⟩))⟩ (fun v os hv => ?_)
    clear hi
    obtain ⟨z, i, h, hz, hi, rfl, rfl⟩ := hv
    refine ⟨rfl, ?_⟩; cbv
    exact Done.to (.agg (cTask ⟨prog0, pc0, state0, why0, what0, z, reg0, group0, err0⟩)) [some (.box [.ro (A.enc cByte code), .int .i64 i, .int .i64 h])] rfl (by repeat' (first | exact trivial | exact rfl | refine ⟨?_, ?_⟩)) ⟨⟨⟨rfl, .inl rfl⟩, rfl, rfl, trivial⟩, trivial⟩ ⟨⟨prog0, pc0, state0, why0, what0, z, reg0, group0, err0⟩, i, h, hi, rfl, rfl⟩
  refine Test.eql (fun g6 => ?_) (fun g6 => ?_) <;> cbv
  · refine ACall.of (dp := false) (l1Num_c S code hb hc i h hi 999 (by decide)) ⟨rfl, (by repeat' (first | exact trivial | exact rfl | exact Nat.le_refl _ | exact S.cx.giveEq | exact S.cx.lendLe (by assumption) | exact S.cx.lendEq (by assumption) | exact S.cx.lendLe0 | exact S.cx.lendEq0 | exact S.cx.partLe (by assumption) | exact S.cx.partEq (by assumption) | exact .inl rfl | refine ⟨?_, ?_⟩)), (by repeat' (first | exact trivial | exact rfl | exact Nat.le_refl _ | exact S.cx.giveEq | exact S.cx.lendLe (by assumption) | exact S.cx.lendEq (by assumption) | exact S.cx.lendLe0 | exact S.cx.lendEq0 | exact S.cx.partLe (by assumption) | exact S.cx.partEq (by assumption) | exact .inl rfl | refine ⟨?_, ?_⟩))⟩ (fun v os hv => ?_)
    clear hi
    obtain ⟨z, i, h, hz, hi, rfl, rfl⟩ := hv
    refine ⟨rfl, ?_⟩; cbv
    exact Done.to (.agg (cTask ⟨prog0, pc0, state0, why0, what0, timer0, z, group0, err0⟩)) [some (.box [.ro (A.enc cByte code), .int .i64 i, .int .i64 h])] rfl (by repeat' (first | exact trivial | exact rfl | refine ⟨?_, ?_⟩)) ⟨⟨⟨rfl, .inl rfl⟩, rfl, rfl, trivial⟩, trivial⟩ ⟨⟨prog0, pc0, state0, why0, what0, timer0, z, group0, err0⟩, i, h, hi, rfl, rfl⟩
  refine Test.eql (fun g7 => ?_) (fun g7 => ?_) <;> cbv
  · exact Done.to (.agg (cTask ⟨prog0, pc0, state0, why0, what0, timer0, reg0, x, err0⟩)) [some (.box [.ro (A.enc cByte code), .int .i64 i, .int .i64 h])] rfl (by repeat' (first | exact trivial | exact rfl | refine ⟨?_, ?_⟩)) ⟨⟨⟨rfl, .inl rfl⟩, rfl, rfl, trivial⟩, trivial⟩ ⟨⟨prog0, pc0, state0, why0, what0, timer0, reg0, x, err0⟩, i, h, hi, rfl, rfl⟩
  refine Test.eql (fun g8 => ?_) (fun g8 => ?_) <;> cbv
  · refine ACall.of (dp := false) (l1Num_c S code hb hc i h hi 99 (by decide)) ⟨rfl, (by repeat' (first | exact trivial | exact rfl | exact Nat.le_refl _ | exact S.cx.giveEq | exact S.cx.lendLe (by assumption) | exact S.cx.lendEq (by assumption) | exact S.cx.lendLe0 | exact S.cx.lendEq0 | exact S.cx.partLe (by assumption) | exact S.cx.partEq (by assumption) | exact .inl rfl | refine ⟨?_, ?_⟩)), (by repeat' (first | exact trivial | exact rfl | exact Nat.le_refl _ | exact S.cx.giveEq | exact S.cx.lendLe (by assumption) | exact S.cx.lendEq (by assumption) | exact S.cx.lendLe0 | exact S.cx.lendEq0 | exact S.cx.partLe (by assumption) | exact S.cx.partEq (by assumption) | exact .inl rfl | refine ⟨?_, ?_⟩))⟩ (fun v os hv => ?_)
    clear hi
    obtain ⟨z, i, h, hz, hi, rfl, rfl⟩ := hv
    refine ⟨rfl, ?_⟩; cbv
    exact Done.to (.agg (cTask ⟨prog0, pc0, state0, why0, what0, timer0, reg0, group0, z⟩)) [some (.box [.ro (A.enc cByte code), .int .i64 i, .int .i64 h])] rfl (by repeat' (first | exact trivial | exact rfl | refine ⟨?_, ?_⟩)) ⟨⟨⟨rfl, .inl rfl⟩, rfl, rfl, trivial⟩, trivial⟩ ⟨⟨prog0, pc0, state0, why0, what0, timer0, reg0, group0, z⟩, i, h, hi, rfl, rfl⟩
  exact Done.to (.agg (cTask ⟨prog0, pc0, state0, why0, what0, timer0, reg0, group0, err0⟩)) [some (.box [.ro (A.enc cByte code), .int .i64 i, .int .i64 h])] rfl (by repeat' (first | exact trivial | exact rfl | refine ⟨?_, ?_⟩)) ⟨⟨⟨rfl, .inl rfl⟩, rfl, rfl, trivial⟩, trivial⟩ ⟨⟨prog0, pc0, state0, why0, what0, timer0, reg0, group0, err0⟩, i, h, hi, rfl, rfl⟩

theorem drawParked_c (S : Se P A) (code : List Int) (hb : code.length ≤ 4096) (hc : ∀ b ∈ code, 0 ≤ b ∧ b ≤ 255) : SoundM P 46 true [.ro (A.enc cByte code)] []
    (fun v os => (∃ (t : Task) (a b c : Int), v = .tup [.agg (cTask t), .int .i64 a, .int .i64 b, .int .i64 c]) ∧ os = []) := by
  refine S.cx.by (S.prog ▸ Try.func46) rfl rfl rfl rfl (fun hv ho => ?_)
  cbv
  refine ACall.of (dp := false) (l1New_c S code hb hc) ⟨rfl, (by repeat' (first | exact trivial | exact rfl | exact Nat.le_refl _ | exact S.cx.giveEq | exact S.cx.lendLe (by assumption) | exact S.cx.lendEq (by assumption) | exact S.cx.lendLe0 | exact S.cx.lendEq0 | exact S.cx.partLe (by assumption) | exact S.cx.partEq (by assumption) | exact .inl rfl | refine ⟨?_, ?_⟩)), (by repeat' (first | exact trivial | exact rfl | exact Nat.le_refl _ | exact S.cx.giveEq | exact S.cx.lendLe (by assumption) | exact S.cx.lendEq (by assumption) | exact S.cx.lendLe0 | exact S.cx.lendEq0 | exact S.cx.partLe (by assumption) | exact S.cx.partEq (by assumption) | exact .inl rfl | refine ⟨?_, ?_⟩))⟩ (fun v os hv => ?_)
  obtain ⟨⟨h, rfl⟩, rfl⟩ := hv
  refine ⟨rfl, ?_⟩; cbv
  refine ACall.of (dp := false) (l10DrawAny_c S code hb hc 0 h (Int.le_refl 0)) ⟨rfl, (by repeat' (first | exact trivial | exact rfl | exact Nat.le_refl _ | exact S.cx.giveEq | exact S.cx.lendLe (by assumption) | exact S.cx.lendEq (by assumption) | exact S.cx.lendLe0 | exact S.cx.lendEq0 | exact S.cx.partLe (by assumption) | exact S.cx.partEq (by assumption) | exact .inl rfl | refine ⟨?_, ?_⟩)), (by repeat' (first | exact trivial | exact rfl | exact Nat.le_refl _ | exact S.cx.giveEq | exact S.cx.lendLe (by assumption) | exact S.cx.lendEq (by assumption) | exact S.cx.lendLe0 | exact S.cx.lendEq0 | exact S.cx.partLe (by assumption) | exact S.cx.partEq (by assumption) | exact .inl rfl | refine ⟨?_, ?_⟩))⟩ (fun v os hv => ?_)
  obtain ⟨⟨prog0, pc0, state0, why0, what0, timer0, reg0, group0, err0⟩, i, h, hi, rfl, rfl⟩ := hv
  refine ⟨rfl, ?_⟩; cbv
  refine ACall.of (dp := false) (l10Draw_c S code hb hc i h hi) ⟨rfl, (by repeat' (first | exact trivial | exact rfl | exact Nat.le_refl _ | exact S.cx.giveEq | exact S.cx.lendLe (by assumption) | exact S.cx.lendEq (by assumption) | exact S.cx.lendLe0 | exact S.cx.lendEq0 | exact S.cx.partLe (by assumption) | exact S.cx.partEq (by assumption) | exact .inl rfl | refine ⟨?_, ?_⟩)), (by repeat' (first | exact trivial | exact rfl | exact Nat.le_refl _ | exact S.cx.giveEq | exact S.cx.lendLe (by assumption) | exact S.cx.lendEq (by assumption) | exact S.cx.lendLe0 | exact S.cx.lendEq0 | exact S.cx.partLe (by assumption) | exact S.cx.partEq (by assumption) | exact .inl rfl | refine ⟨?_, ?_⟩))⟩ (fun v os hv => ?_)
  clear hi
  obtain ⟨⟨prog1, pc1, state1, why1, what1, timer1, reg1, group1, err1⟩, i, h, hi, rfl, rfl⟩ := hv
  refine ⟨rfl, ?_⟩; cbv
  refine Test.eql (fun g => ?_) (fun g => ?_) <;> cbv
  · try (refine Drawn.mk ⟨by kernel_rfl, fun _ => ?_⟩)
    have ha1 := fromF_ok code hb hc i h hi 0 5
    refine ACall.valN (r := rCur) (os := oCur A code) (dp := false) S.cx (l1From_c S code hb hc i h hi 0 5 (by decide)) ⟨rfl, (by repeat' (first | exact trivial | exact rfl | exact Nat.le_refl _ | exact S.cx.giveEq | exact S.cx.lendLe (by assumption) | exact S.cx.lendEq (by assumption) | exact S.cx.lendLe0 | exact S.cx.lendEq0 | exact S.cx.partLe (by assumption) | exact S.cx.partEq (by assumption) | exact .inl rfl | refine ⟨?_, ?_⟩)), (by repeat' (first | exact trivial | exact rfl | exact Nat.le_refl _ | exact S.cx.giveEq | exact S.cx.lendLe (by assumption) | exact S.cx.lendEq (by assumption) | exact S.cx.lendLe0 | exact S.cx.lendEq0 | exact S.cx.partLe (by assumption) | exact S.cx.partEq (by assumption) | exact .inl rfl | refine ⟨?_, ?_⟩))⟩ rfl (fun ln hln x hx => ⟨rfl, ?_⟩)
    obtain ⟨a1, i, h⟩ := x
    cbv
    rw [← hx] at ha1
    dsimp only at ha1
    clear hx hi
    obtain ⟨ha1, hi⟩ := ha1
    have ha2 := belowF_ok code hb hc i h hi 3
    refine ACall.valN (r := rCur) (os := oCur A code) (dp := false) S.cx (l1Below_c S code hb hc i h hi 3) ⟨rfl, (by repeat' (first | exact trivial | exact rfl | exact Nat.le_refl _ | exact S.cx.giveEq | exact S.cx.lendLe (by assumption) | exact S.cx.lendEq (by assumption) | exact S.cx.lendLe0 | exact S.cx.lendEq0 | exact S.cx.partLe (by assumption) | exact S.cx.partEq (by assumption) | exact .inl rfl | refine ⟨?_, ?_⟩)), (by repeat' (first | exact trivial | exact rfl | exact Nat.le_refl _ | exact S.cx.giveEq | exact S.cx.lendLe (by assumption) | exact S.cx.lendEq (by assumption) | exact S.cx.lendLe0 | exact S.cx.lendEq0 | exact S.cx.partLe (by assumption) | exact S.cx.partEq (by assumption) | exact .inl rfl | refine ⟨?_, ?_⟩))⟩ rfl (fun ln hln x hx => ⟨rfl, ?_⟩)
    obtain ⟨a2, i, h⟩ := x
    cbv
    rw [← hx] at ha2
    dsimp only at ha2
    clear hx hi
    obtain ⟨ha2, hi⟩ := ha2
    exact Done.to (.tup [.agg (cTask ⟨prog0, pc0, state0, why0, what0, timer0, reg0, group0, err0⟩), .int .i64 a1, .int .i64 a2, .int .i64 (-1)]) [] rfl (by repeat' (first | exact trivial | exact rfl | refine ⟨?_, ?_⟩)) trivial ⟨⟨⟨prog0, pc0, state0, why0, what0, timer0, reg0, group0, err0⟩, a1, a2, -1, rfl⟩, rfl⟩
  · try (refine Drawn.mk ⟨by kernel_rfl, fun _ => ?_⟩)
    exact Done.to (.tup [.agg (cTask ⟨prog0, pc0, state0, why0, what0, timer0, reg0, group0, err0⟩), .int .i64 why1, .int .i64 what1, .int .i64 timer1]) [] rfl (by repeat' (first | exact trivial | exact rfl | refine ⟨?_, ?_⟩)) trivial ⟨⟨⟨prog0, pc0, state0, why0, what0, timer0, reg0, group0, err0⟩, why1, what1, timer1, rfl⟩, rfl⟩

theorem tasks_plain {t p : Task} (ht : TaskOk t) {why what timer : Int} (hp : p = Parked t why what timer) : TaskOk p ∧ (t.state ≠ 0 → p = t) ∧ (p.state = 2 → Readied p 3 = p ∧ Ended p 4 = p) ∧
    (p.state ≠ 2 → (p.pc < 12 → (Readied p 3).pc = p.pc + 1 ∧ (Readied p 3).state = 0 ∧ (Readied p 3).reg = 3) ∧ TaskOk (Ended p 4) ∧ (Ended p 4).state = 2 ∧ (Ended p 4).err = 4) := by
  have hpk : TaskOk p := by
    rw [hp, Parked, if_pos ht]
    split
    · rename_i h; exact h.2
    · exact ht
  refine ⟨hpk, fun h => ?_, fun h => ?_, fun h => ?_⟩
  · rw [hp, Parked, if_pos ht, if_neg (fun e => h e.1)]
  · exact ⟨by rw [Readied, if_pos hpk, if_neg (fun e => e.1 h)], by rw [Ended, if_pos hpk, if_neg (fun e => e.1 h)]⟩
  · have h1 := hpk
    obtain ⟨a1, a2, a3, a4, a5, a6⟩ := h1
    refine ⟨fun hpc => ?_, ?_⟩
    · have hk : TaskOk { p with pc := p.pc + 1, state := 0, why := 0, what := 0, timer := -1, reg := 3 } := by
        have he : p.err = 0 := by
          rcases a6 with a6 | a6
          · exact a6.2.1
          · rcases a6.2.2.2.2.2.2 with g | g
            · exact absurd g h
            · exact g
        exact ⟨a1, ⟨by dsimp only; omega, by dsimp only; omega⟩, ⟨by dsimp only; omega, by dsimp only; omega⟩, a4, a5, .inr ⟨by dsimp only; omega, by dsimp only; omega, by dsimp only; omega, rfl, rfl, rfl, .inr he⟩⟩
      rw [Readied, if_pos hpk, if_pos ⟨h, hk⟩]
      exact ⟨rfl, rfl, rfl⟩
    · have hk : TaskOk { p with state := 2, why := 0, what := 0, timer := -1, err := 4 } :=
        ⟨a1, a2, a3, a4, ⟨by dsimp only; omega, by dsimp only; omega⟩, .inr ⟨by dsimp only; omega, by dsimp only; omega, by dsimp only; omega, rfl, rfl, rfl, .inl rfl⟩⟩
      rw [Ended, if_pos hpk, if_pos ⟨h, hk⟩]
      exact ⟨hk, rfl, rfl⟩

theorem done_stays {e : Task} (he : TaskOk e) (hs : e.state = 2) (n m a b c : Int) : Ended e n = e ∧ Readied e m = e ∧ Parked e a b c = e :=
  ⟨by rw [Ended, if_pos he, if_neg (fun h => h.1 hs)], by rw [Readied, if_pos he, if_neg (fun h => h.1 hs)], by rw [Parked, if_pos he, if_neg (fun h => by have := h.1; omega)]⟩

theorem lawTasks_c (S : Se P A) (code : List Int) : Is1 P 8 [.ro (A.enc cByte code)] (.bool true) := by
  refine S.cx.byC [] (S.prog ▸ Try.func8) rfl rfl rfl rfl (fun ln hln hv ho => ?_)
  cbv
  have hc := code_bytes (code := code) S.cx (hv _ (List.mem_singleton.2 rfl))
  refine ACall.testD (dp := false) (big_c S code) ⟨rfl, (by repeat' (first | exact trivial | exact rfl | exact Nat.le_refl _ | exact S.cx.giveEq | exact S.cx.lendLe (by assumption) | exact S.cx.lendEq (by assumption) | exact S.cx.lendLe0 | exact S.cx.lendEq0 | exact S.cx.partLe (by assumption) | exact S.cx.partEq (by assumption) | exact .inl rfl | refine ⟨?_, ?_⟩)), (by repeat' (first | exact trivial | exact rfl | exact Nat.le_refl _ | exact S.cx.giveEq | exact S.cx.lendLe (by assumption) | exact S.cx.lendEq (by assumption) | exact S.cx.lendLe0 | exact S.cx.lendEq0 | exact S.cx.partLe (by assumption) | exact S.cx.partEq (by assumption) | exact .inl rfl | refine ⟨?_, ?_⟩))⟩ rfl (fun hbig => ?_) (fun hbig => ?_) <;> cbv
  · exact Done.to (.bool true) [] rfl rfl trivial ⟨rfl, rfl⟩
  replace hbig : code.length ≤ 4096 := Nat.not_lt.1 hbig
  refine ACall.of (dp := false) (drawParked_c S code hbig hc) ⟨rfl, (by repeat' (first | exact trivial | exact rfl | exact Nat.le_refl _ | exact S.cx.giveEq | exact S.cx.lendLe (by assumption) | exact S.cx.lendEq (by assumption) | exact S.cx.lendLe0 | exact S.cx.lendEq0 | exact S.cx.partLe (by assumption) | exact S.cx.partEq (by assumption) | exact .inl rfl | refine ⟨?_, ?_⟩)), (by repeat' (first | exact trivial | exact rfl | exact Nat.le_refl _ | exact S.cx.giveEq | exact S.cx.lendLe (by assumption) | exact S.cx.lendEq (by assumption) | exact S.cx.lendLe0 | exact S.cx.lendEq0 | exact S.cx.partLe (by assumption) | exact S.cx.partEq (by assumption) | exact .inl rfl | refine ⟨?_, ?_⟩))⟩ (fun v os hv => ?_)
  obtain ⟨⟨⟨prog0, pc0, state0, why0, what0, timer0, reg0, group0, err0⟩, a, b, c, rfl⟩, rfl⟩ := hv
  refine ⟨rfl, ?_⟩; cbv
  refine ACall.testD (dp := false) (specTaskOk_c S prog0 pc0 state0 why0 what0 timer0 reg0 group0 err0) ⟨rfl, (by repeat' (first | exact trivial | exact rfl | refine ⟨?_, ?_⟩)), trivial⟩ rfl (fun ht => ?_) (fun ht => ?_) <;> cbv
  rotate_left
  · refine ACall.testD (dp := false) (implTaskOk_c S prog0 pc0 state0 why0 what0 timer0 reg0 group0 err0) ⟨rfl, (by repeat' (first | exact trivial | exact rfl | refine ⟨?_, ?_⟩)), trivial⟩ rfl (fun h2 => ?_) (fun h2 => ?_) <;> cbv
    · exact absurd h2 ht
    refine ACall.valN (r := (fun x : Task => .agg (cTask x))) (os := fun _ => []) (dp := false) S.cx (implParked_c S prog0 pc0 state0 why0 what0 timer0 reg0 group0 err0 a b c) ⟨rfl, (by repeat' (first | exact trivial | exact rfl | exact Nat.le_refl _ | exact S.cx.giveEq | exact S.cx.lendLe (by assumption) | exact S.cx.lendEq (by assumption) | exact S.cx.lendLe0 | exact S.cx.lendEq0 | exact S.cx.partLe (by assumption) | exact S.cx.partEq (by assumption) | exact .inl rfl | refine ⟨?_, ?_⟩)), (by repeat' (first | exact trivial | exact rfl | exact Nat.le_refl _ | exact S.cx.giveEq | exact S.cx.lendLe (by assumption) | exact S.cx.lendEq (by assumption) | exact S.cx.lendLe0 | exact S.cx.lendEq0 | exact S.cx.partLe (by assumption) | exact S.cx.partEq (by assumption) | exact .inl rfl | refine ⟨?_, ?_⟩))⟩ rfl (fun ln hln x hx => ⟨rfl, ?_⟩)
    obtain ⟨prog1, pc1, state1, why1, what1, timer1, reg1, group1, err1⟩ := x
    cbv
    have hx1 := hx
    have e : Parked ⟨prog0, pc0, state0, why0, what0, timer0, reg0, group0, err0⟩ a b c = task0 := by rw [Parked, if_neg ht]
    rw [e] at hx1
    cases hx1
    refine ⟨⟨by rw [S.prog]; kernel_rfl⟩, SEq.mk fun bb hbb => ?_⟩
    obtain rfl : bb = true := hbb.2 (rfl)
    cbv
    exact Done.to (.bool true) [] rfl rfl trivial ⟨rfl, rfl⟩
  refine ACall.valN (r := (fun x : Task => .agg (cTask x))) (os := fun _ => []) (dp := false) S.cx (implParked_c S prog0 pc0 state0 why0 what0 timer0 reg0 group0 err0 a b c) ⟨rfl, (by repeat' (first | exact trivial | exact rfl | exact Nat.le_refl _ | exact S.cx.giveEq | exact S.cx.lendLe (by assumption) | exact S.cx.lendEq (by assumption) | exact S.cx.lendLe0 | exact S.cx.lendEq0 | exact S.cx.partLe (by assumption) | exact S.cx.partEq (by assumption) | exact .inl rfl | refine ⟨?_, ?_⟩)), (by repeat' (first | exact trivial | exact rfl | exact Nat.le_refl _ | exact S.cx.giveEq | exact S.cx.lendLe (by assumption) | exact S.cx.lendEq (by assumption) | exact S.cx.lendLe0 | exact S.cx.lendEq0 | exact S.cx.partLe (by assumption) | exact S.cx.partEq (by assumption) | exact .inl rfl | refine ⟨?_, ?_⟩))⟩ rfl (fun ln hln x hx => ⟨rfl, ?_⟩)
  obtain ⟨prog1, pc1, state1, why1, what1, timer1, reg1, group1, err1⟩ := x
  cbv
  have hx1 := hx
  obtain ⟨q1, q2, q3, q4⟩ := tasks_plain ht hx1
  dsimp only at q2 q3 q4
  try (refine Drawn.mk ⟨by kernel_rfl, fun _ => ?_⟩)
  refine ACall.testD (dp := false) (implTaskOk_c S prog1 pc1 state1 why1 what1 timer1 reg1 group1 err1) ⟨rfl, (by repeat' (first | exact trivial | exact rfl | refine ⟨?_, ?_⟩)), trivial⟩ rfl (fun h2 => ?_) (fun h2 => ?_) <;> cbv
  rotate_left
  · exact absurd q1 h2
  refine ACall.valN (r := (fun x : Task => .agg (cTask x))) (os := fun _ => []) (dp := false) S.cx (specParked_c S prog0 pc0 state0 why0 what0 timer0 reg0 group0 err0 a b c) ⟨rfl, (by repeat' (first | exact trivial | exact rfl | exact Nat.le_refl _ | exact S.cx.giveEq | exact S.cx.lendLe (by assumption) | exact S.cx.lendEq (by assumption) | exact S.cx.lendLe0 | exact S.cx.lendEq0 | exact S.cx.partLe (by assumption) | exact S.cx.partEq (by assumption) | exact .inl rfl | refine ⟨?_, ?_⟩)), (by repeat' (first | exact trivial | exact rfl | exact Nat.le_refl _ | exact S.cx.giveEq | exact S.cx.lendLe (by assumption) | exact S.cx.lendEq (by assumption) | exact S.cx.lendLe0 | exact S.cx.lendEq0 | exact S.cx.partLe (by assumption) | exact S.cx.partEq (by assumption) | exact .inl rfl | refine ⟨?_, ?_⟩))⟩ rfl (fun ln hln x hx => ⟨rfl, ?_⟩)
  obtain ⟨prog2, pc2, state2, why2, what2, timer2, reg2, group2, err2⟩ := x
  cbv
  have hx2 := hx
  cases hx2.trans hx1.symm
  refine ⟨⟨by rw [S.prog]; kernel_rfl⟩, SEq.mk fun bb hbb => ?_⟩
  obtain rfl : bb = true := hbb.2 (rfl)
  cbv
  refine Test.neq (fun h3 => ?_) (fun h3 => ?_) <;> cbv
  · refine ⟨⟨by rw [S.prog]; kernel_rfl⟩, SEq.mk fun bb hbb => ?_⟩
    obtain rfl : bb = true := hbb.2 (congrArg cTask (q2 h3))
    cbv
    refine ACall.valN (r := (fun x : Task => .agg (cTask x))) (os := fun _ => []) (dp := false) S.cx (implReadied_c S prog1 pc1 state1 why1 what1 timer1 reg1 group1 err1 3) ⟨rfl, (by repeat' (first | exact trivial | exact rfl | exact Nat.le_refl _ | exact S.cx.giveEq | exact S.cx.lendLe (by assumption) | exact S.cx.lendEq (by assumption) | exact S.cx.lendLe0 | exact S.cx.lendEq0 | exact S.cx.partLe (by assumption) | exact S.cx.partEq (by assumption) | exact .inl rfl | refine ⟨?_, ?_⟩)), (by repeat' (first | exact trivial | exact rfl | exact Nat.le_refl _ | exact S.cx.giveEq | exact S.cx.lendLe (by assumption) | exact S.cx.lendEq (by assumption) | exact S.cx.lendLe0 | exact S.cx.lendEq0 | exact S.cx.partLe (by assumption) | exact S.cx.partEq (by assumption) | exact .inl rfl | refine ⟨?_, ?_⟩))⟩ rfl (fun ln hln x hx => ⟨rfl, ?_⟩)
    obtain ⟨prog3, pc3, state3, why3, what3, timer3, reg3, group3, err3⟩ := x
    cbv
    have hx3 := hx
    refine ACall.valN (r := (fun x : Task => .agg (cTask x))) (os := fun _ => []) (dp := false) S.cx (implEnded_c S prog1 pc1 state1 why1 what1 timer1 reg1 group1 err1 4) ⟨rfl, (by repeat' (first | exact trivial | exact rfl | exact Nat.le_refl _ | exact S.cx.giveEq | exact S.cx.lendLe (by assumption) | exact S.cx.lendEq (by assumption) | exact S.cx.lendLe0 | exact S.cx.lendEq0 | exact S.cx.partLe (by assumption) | exact S.cx.partEq (by assumption) | exact .inl rfl | refine ⟨?_, ?_⟩)), (by repeat' (first | exact trivial | exact rfl | exact Nat.le_refl _ | exact S.cx.giveEq | exact S.cx.lendLe (by assumption) | exact S.cx.lendEq (by assumption) | exact S.cx.lendLe0 | exact S.cx.lendEq0 | exact S.cx.partLe (by assumption) | exact S.cx.partEq (by assumption) | exact .inl rfl | refine ⟨?_, ?_⟩))⟩ rfl (fun ln hln x hx => ⟨rfl, ?_⟩)
    obtain ⟨prog4, pc4, state4, why4, what4, timer4, reg4, group4, err4⟩ := x
    cbv
    have hx4 := hx
    refine Test.eql (fun h4 => ?_) (fun h4 => ?_) <;> cbv
    · have e := q3 h4
      refine ⟨⟨by rw [S.prog]; kernel_rfl⟩, SEq.mk fun bb hbb => ?_⟩
      obtain rfl : bb = true := hbb.2 (congrArg cTask (hx3.trans e.1))
      cbv
      refine ⟨⟨by rw [S.prog]; kernel_rfl⟩, SEq.mk fun bb hbb => ?_⟩
      obtain rfl : bb = true := hbb.2 (congrArg cTask (hx4.trans e.2))
      cbv
      exact Done.to (.bool true) [] rfl rfl trivial ⟨rfl, rfl⟩
    have e := q4 h4
    rw [← hx3, ← hx4] at e
    dsimp only at e
    refine Test.lss (fun h5 => ?_) (fun h5 => ?_) <;> cbv
    · refine Arith.go (by have := q1.2.1; dsimp only at this; lia) (fun m hm => ?_); replace hm : m = pc1 + 1 := hm; cbv
      have e1 := e.1 h5
      refine Test.neq (fun k1 => ?_) (fun k1 => ?_) <;> cbv
      · exact absurd (by omega) k1
      refine Test.neq (fun k2 => ?_) (fun k2 => ?_) <;> cbv
      · exact absurd e1.2.1 k2
      refine Test.neq (fun k3 => ?_) (fun k3 => ?_) <;> cbv
      · exact absurd e1.2.2 k3
      try (refine Drawn.mk ⟨by kernel_rfl, fun _ => ?_⟩)
      refine Test.eql (fun k1 => ?_) (fun k1 => ?_) <;> cbv
      rotate_left
      · exact absurd e.2.2.1 k1
      refine Test.eql (fun k2 => ?_) (fun k2 => ?_) <;> cbv
      rotate_left
      · exact absurd e.2.2.2 k2
      have hds := done_stays e.2.1 e.2.2.1 5 1 a b c
      refine ACall.valN (r := (fun x : Task => .agg (cTask x))) (os := fun _ => []) (dp := false) S.cx (implEnded_c S prog4 pc4 state4 why4 what4 timer4 reg4 group4 err4 5) ⟨rfl, (by repeat' (first | exact trivial | exact rfl | exact Nat.le_refl _ | exact S.cx.giveEq | exact S.cx.lendLe (by assumption) | exact S.cx.lendEq (by assumption) | exact S.cx.lendLe0 | exact S.cx.lendEq0 | exact S.cx.partLe (by assumption) | exact S.cx.partEq (by assumption) | exact .inl rfl | refine ⟨?_, ?_⟩)), (by repeat' (first | exact trivial | exact rfl | exact Nat.le_refl _ | exact S.cx.giveEq | exact S.cx.lendLe (by assumption) | exact S.cx.lendEq (by assumption) | exact S.cx.lendLe0 | exact S.cx.lendEq0 | exact S.cx.partLe (by assumption) | exact S.cx.partEq (by assumption) | exact .inl rfl | refine ⟨?_, ?_⟩))⟩ rfl (fun ln hln x hx => ⟨rfl, ?_⟩)
      obtain ⟨prog5, pc5, state5, why5, what5, timer5, reg5, group5, err5⟩ := x
      cbv
      have hx5 := hx
      refine ⟨⟨by rw [S.prog]; kernel_rfl⟩, SEq.mk fun bb hbb => ?_⟩
      obtain rfl : bb = true := hbb.2 (congrArg cTask (hx5.trans hds.1))
      cbv
      refine ACall.valN (r := (fun x : Task => .agg (cTask x))) (os := fun _ => []) (dp := false) S.cx (implReadied_c S prog4 pc4 state4 why4 what4 timer4 reg4 group4 err4 1) ⟨rfl, (by repeat' (first | exact trivial | exact rfl | exact Nat.le_refl _ | exact S.cx.giveEq | exact S.cx.lendLe (by assumption) | exact S.cx.lendEq (by assumption) | exact S.cx.lendLe0 | exact S.cx.lendEq0 | exact S.cx.partLe (by assumption) | exact S.cx.partEq (by assumption) | exact .inl rfl | refine ⟨?_, ?_⟩)), (by repeat' (first | exact trivial | exact rfl | exact Nat.le_refl _ | exact S.cx.giveEq | exact S.cx.lendLe (by assumption) | exact S.cx.lendEq (by assumption) | exact S.cx.lendLe0 | exact S.cx.lendEq0 | exact S.cx.partLe (by assumption) | exact S.cx.partEq (by assumption) | exact .inl rfl | refine ⟨?_, ?_⟩))⟩ rfl (fun ln hln x hx => ⟨rfl, ?_⟩)
      obtain ⟨prog6, pc6, state6, why6, what6, timer6, reg6, group6, err6⟩ := x
      cbv
      have hx6 := hx
      refine ⟨⟨by rw [S.prog]; kernel_rfl⟩, SEq.mk fun bb hbb => ?_⟩
      obtain rfl : bb = true := hbb.2 (congrArg cTask (hx6.trans hds.2.1))
      cbv
      refine ACall.valN (r := (fun x : Task => .agg (cTask x))) (os := fun _ => []) (dp := false) S.cx (implParked_c S prog4 pc4 state4 why4 what4 timer4 reg4 group4 err4 a b c) ⟨rfl, (by repeat' (first | exact trivial | exact rfl | exact Nat.le_refl _ | exact S.cx.giveEq | exact S.cx.lendLe (by assumption) | exact S.cx.lendEq (by assumption) | exact S.cx.lendLe0 | exact S.cx.lendEq0 | exact S.cx.partLe (by assumption) | exact S.cx.partEq (by assumption) | exact .inl rfl | refine ⟨?_, ?_⟩)), (by repeat' (first | exact trivial | exact rfl | exact Nat.le_refl _ | exact S.cx.giveEq | exact S.cx.lendLe (by assumption) | exact S.cx.lendEq (by assumption) | exact S.cx.lendLe0 | exact S.cx.lendEq0 | exact S.cx.partLe (by assumption) | exact S.cx.partEq (by assumption) | exact .inl rfl | refine ⟨?_, ?_⟩))⟩ rfl (fun ln hln x hx => ⟨rfl, ?_⟩)
      obtain ⟨prog7, pc7, state7, why7, what7, timer7, reg7, group7, err7⟩ := x
      cbv
      have hx7 := hx
      refine ⟨⟨by rw [S.prog]; kernel_rfl⟩, SEq.mk fun bb hbb => ?_⟩
      obtain rfl : bb = true := hbb.2 (congrArg cTask (hx7.trans hds.2.2))
      cbv
      exact Done.to (.bool true) [] rfl rfl trivial ⟨rfl, rfl⟩
    try (refine Drawn.mk ⟨by kernel_rfl, fun _ => ?_⟩)
    refine Test.eql (fun k1 => ?_) (fun k1 => ?_) <;> cbv
    rotate_left
    · exact absurd e.2.2.1 k1
    refine Test.eql (fun k2 => ?_) (fun k2 => ?_) <;> cbv
    rotate_left
    · exact absurd e.2.2.2 k2
    have hds := done_stays e.2.1 e.2.2.1 5 1 a b c
    refine ACall.valN (r := (fun x : Task => .agg (cTask x))) (os := fun _ => []) (dp := false) S.cx (implEnded_c S prog4 pc4 state4 why4 what4 timer4 reg4 group4 err4 5) ⟨rfl, (by repeat' (first | exact trivial | exact rfl | exact Nat.le_refl _ | exact S.cx.giveEq | exact S.cx.lendLe (by assumption) | exact S.cx.lendEq (by assumption) | exact S.cx.lendLe0 | exact S.cx.lendEq0 | exact S.cx.partLe (by assumption) | exact S.cx.partEq (by assumption) | exact .inl rfl | refine ⟨?_, ?_⟩)), (by repeat' (first | exact trivial | exact rfl | exact Nat.le_refl _ | exact S.cx.giveEq | exact S.cx.lendLe (by assumption) | exact S.cx.lendEq (by assumption) | exact S.cx.lendLe0 | exact S.cx.lendEq0 | exact S.cx.partLe (by assumption) | exact S.cx.partEq (by assumption) | exact .inl rfl | refine ⟨?_, ?_⟩))⟩ rfl (fun ln hln x hx => ⟨rfl, ?_⟩)
    obtain ⟨prog5, pc5, state5, why5, what5, timer5, reg5, group5, err5⟩ := x
    cbv
    have hx5 := hx
    refine ⟨⟨by rw [S.prog]; kernel_rfl⟩, SEq.mk fun bb hbb => ?_⟩
    obtain rfl : bb = true := hbb.2 (congrArg cTask (hx5.trans hds.1))
    cbv
    refine ACall.valN (r := (fun x : Task => .agg (cTask x))) (os := fun _ => []) (dp := false) S.cx (implReadied_c S prog4 pc4 state4 why4 what4 timer4 reg4 group4 err4 1) ⟨rfl, (by repeat' (first | exact trivial | exact rfl | exact Nat.le_refl _ | exact S.cx.giveEq | exact S.cx.lendLe (by assumption) | exact S.cx.lendEq (by assumption) | exact S.cx.lendLe0 | exact S.cx.lendEq0 | exact S.cx.partLe (by assumption) | exact S.cx.partEq (by assumption) | exact .inl rfl | refine ⟨?_, ?_⟩)), (by repeat' (first | exact trivial | exact rfl | exact Nat.le_refl _ | exact S.cx.giveEq | exact S.cx.lendLe (by assumption) | exact S.cx.lendEq (by assumption) | exact S.cx.lendLe0 | exact S.cx.lendEq0 | exact S.cx.partLe (by assumption) | exact S.cx.partEq (by assumption) | exact .inl rfl | refine ⟨?_, ?_⟩))⟩ rfl (fun ln hln x hx => ⟨rfl, ?_⟩)
    obtain ⟨prog6, pc6, state6, why6, what6, timer6, reg6, group6, err6⟩ := x
    cbv
    have hx6 := hx
    refine ⟨⟨by rw [S.prog]; kernel_rfl⟩, SEq.mk fun bb hbb => ?_⟩
    obtain rfl : bb = true := hbb.2 (congrArg cTask (hx6.trans hds.2.1))
    cbv
    refine ACall.valN (r := (fun x : Task => .agg (cTask x))) (os := fun _ => []) (dp := false) S.cx (implParked_c S prog4 pc4 state4 why4 what4 timer4 reg4 group4 err4 a b c) ⟨rfl, (by repeat' (first | exact trivial | exact rfl | exact Nat.le_refl _ | exact S.cx.giveEq | exact S.cx.lendLe (by assumption) | exact S.cx.lendEq (by assumption) | exact S.cx.lendLe0 | exact S.cx.lendEq0 | exact S.cx.partLe (by assumption) | exact S.cx.partEq (by assumption) | exact .inl rfl | refine ⟨?_, ?_⟩)), (by repeat' (first | exact trivial | exact rfl | exact Nat.le_refl _ | exact S.cx.giveEq | exact S.cx.lendLe (by assumption) | exact S.cx.lendEq (by assumption) | exact S.cx.lendLe0 | exact S.cx.lendEq0 | exact S.cx.partLe (by assumption) | exact S.cx.partEq (by assumption) | exact .inl rfl | refine ⟨?_, ?_⟩))⟩ rfl (fun ln hln x hx => ⟨rfl, ?_⟩)
    obtain ⟨prog7, pc7, state7, why7, what7, timer7, reg7, group7, err7⟩ := x
    cbv
    have hx7 := hx
    refine ⟨⟨by rw [S.prog]; kernel_rfl⟩, SEq.mk fun bb hbb => ?_⟩
    obtain rfl : bb = true := hbb.2 (congrArg cTask (hx7.trans hds.2.2))
    cbv
    exact Done.to (.bool true) [] rfl rfl trivial ⟨rfl, rfl⟩
  refine ACall.valN (r := (fun x : Task => .agg (cTask x))) (os := fun _ => []) (dp := false) S.cx (implReadied_c S prog1 pc1 state1 why1 what1 timer1 reg1 group1 err1 3) ⟨rfl, (by repeat' (first | exact trivial | exact rfl | exact Nat.le_refl _ | exact S.cx.giveEq | exact S.cx.lendLe (by assumption) | exact S.cx.lendEq (by assumption) | exact S.cx.lendLe0 | exact S.cx.lendEq0 | exact S.cx.partLe (by assumption) | exact S.cx.partEq (by assumption) | exact .inl rfl | refine ⟨?_, ?_⟩)), (by repeat' (first | exact trivial | exact rfl | exact Nat.le_refl _ | exact S.cx.giveEq | exact S.cx.lendLe (by assumption) | exact S.cx.lendEq (by assumption) | exact S.cx.lendLe0 | exact S.cx.lendEq0 | exact S.cx.partLe (by assumption) | exact S.cx.partEq (by assumption) | exact .inl rfl | refine ⟨?_, ?_⟩))⟩ rfl (fun ln hln x hx => ⟨rfl, ?_⟩)
  obtain ⟨prog3, pc3, state3, why3, what3, timer3, reg3, group3, err3⟩ := x
  cbv
  have hx3 := hx
  refine ACall.valN (r := (fun x : Task => .agg (cTask x))) (os := fun _ => []) (dp := false) S.cx (implEnded_c S prog1 pc1 state1 why1 what1 timer1 reg1 group1 err1 4) ⟨rfl, (by repeat' (first | exact trivial | exact rfl | exact Nat.le_refl _ | exact S.cx.giveEq | exact S.cx.lendLe (by assumption) | exact S.cx.lendEq (by assumption) | exact S.cx.lendLe0 | exact S.cx.lendEq0 | exact S.cx.partLe (by assumption) | exact S.cx.partEq (by assumption) | exact .inl rfl | refine ⟨?_, ?_⟩)), (by repeat' (first | exact trivial | exact rfl | exact Nat.le_refl _ | exact S.cx.giveEq | exact S.cx.lendLe (by assumption) | exact S.cx.lendEq (by assumption) | exact S.cx.lendLe0 | exact S.cx.lendEq0 | exact S.cx.partLe (by assumption) | exact S.cx.partEq (by assumption) | exact .inl rfl | refine ⟨?_, ?_⟩))⟩ rfl (fun ln hln x hx => ⟨rfl, ?_⟩)
  obtain ⟨prog4, pc4, state4, why4, what4, timer4, reg4, group4, err4⟩ := x
  cbv
  have hx4 := hx
  refine Test.eql (fun h4 => ?_) (fun h4 => ?_) <;> cbv
  · have e := q3 h4
    refine ⟨⟨by rw [S.prog]; kernel_rfl⟩, SEq.mk fun bb hbb => ?_⟩
    obtain rfl : bb = true := hbb.2 (congrArg cTask (hx3.trans e.1))
    cbv
    refine ⟨⟨by rw [S.prog]; kernel_rfl⟩, SEq.mk fun bb hbb => ?_⟩
    obtain rfl : bb = true := hbb.2 (congrArg cTask (hx4.trans e.2))
    cbv
    exact Done.to (.bool true) [] rfl rfl trivial ⟨rfl, rfl⟩
  have e := q4 h4
  rw [← hx3, ← hx4] at e
  dsimp only at e
  refine Test.lss (fun h5 => ?_) (fun h5 => ?_) <;> cbv
  · refine Arith.go (by have := q1.2.1; dsimp only at this; lia) (fun m hm => ?_); replace hm : m = pc1 + 1 := hm; cbv
    have e1 := e.1 h5
    refine Test.neq (fun k1 => ?_) (fun k1 => ?_) <;> cbv
    · exact absurd (by omega) k1
    refine Test.neq (fun k2 => ?_) (fun k2 => ?_) <;> cbv
    · exact absurd e1.2.1 k2
    refine Test.neq (fun k3 => ?_) (fun k3 => ?_) <;> cbv
    · exact absurd e1.2.2 k3
    try (refine Drawn.mk ⟨by kernel_rfl, fun _ => ?_⟩)
    refine Test.eql (fun k1 => ?_) (fun k1 => ?_) <;> cbv
    rotate_left
    · exact absurd e.2.2.1 k1
    refine Test.eql (fun k2 => ?_) (fun k2 => ?_) <;> cbv
    rotate_left
    · exact absurd e.2.2.2 k2
    have hds := done_stays e.2.1 e.2.2.1 5 1 a b c
    refine ACall.valN (r := (fun x : Task => .agg (cTask x))) (os := fun _ => []) (dp := false) S.cx (implEnded_c S prog4 pc4 state4 why4 what4 timer4 reg4 group4 err4 5) ⟨rfl, (by repeat' (first | exact trivial | exact rfl | exact Nat.le_refl _ | exact S.cx.giveEq | exact S.cx.lendLe (by assumption) | exact S.cx.lendEq (by assumption) | exact S.cx.lendLe0 | exact S.cx.lendEq0 | exact S.cx.partLe (by assumption) | exact S.cx.partEq (by assumption) | exact .inl rfl | refine ⟨?_, ?_⟩)), (by repeat' (first | exact trivial | exact rfl | exact Nat.le_refl _ | exact S.cx.giveEq | exact S.cx.lendLe (by assumption) | exact S.cx.lendEq (by assumption) | exact S.cx.lendLe0 | exact S.cx.lendEq0 | exact S.cx.partLe (by assumption) | exact S.cx.partEq (by assumption) | exact .inl rfl | refine ⟨?_, ?_⟩))⟩ rfl (fun ln hln x hx => ⟨rfl, ?_⟩)
    obtain ⟨prog5, pc5, state5, why5, what5, timer5, reg5, group5, err5⟩ := x
    cbv
    have hx5 := hx
    refine ⟨⟨by rw [S.prog]; kernel_rfl⟩, SEq.mk fun bb hbb => ?_⟩
    obtain rfl : bb = true := hbb.2 (congrArg cTask (hx5.trans hds.1))
    cbv
    refine ACall.valN (r := (fun x : Task => .agg (cTask x))) (os := fun _ => []) (dp := false) S.cx (implReadied_c S prog4 pc4 state4 why4 what4 timer4 reg4 group4 err4 1) ⟨rfl, (by repeat' (first | exact trivial | exact rfl | exact Nat.le_refl _ | exact S.cx.giveEq | exact S.cx.lendLe (by assumption) | exact S.cx.lendEq (by assumption) | exact S.cx.lendLe0 | exact S.cx.lendEq0 | exact S.cx.partLe (by assumption) | exact S.cx.partEq (by assumption) | exact .inl rfl | refine ⟨?_, ?_⟩)), (by repeat' (first | exact trivial | exact rfl | exact Nat.le_refl _ | exact S.cx.giveEq | exact S.cx.lendLe (by assumption) | exact S.cx.lendEq (by assumption) | exact S.cx.lendLe0 | exact S.cx.lendEq0 | exact S.cx.partLe (by assumption) | exact S.cx.partEq (by assumption) | exact .inl rfl | refine ⟨?_, ?_⟩))⟩ rfl (fun ln hln x hx => ⟨rfl, ?_⟩)
    obtain ⟨prog6, pc6, state6, why6, what6, timer6, reg6, group6, err6⟩ := x
    cbv
    have hx6 := hx
    refine ⟨⟨by rw [S.prog]; kernel_rfl⟩, SEq.mk fun bb hbb => ?_⟩
    obtain rfl : bb = true := hbb.2 (congrArg cTask (hx6.trans hds.2.1))
    cbv
    refine ACall.valN (r := (fun x : Task => .agg (cTask x))) (os := fun _ => []) (dp := false) S.cx (implParked_c S prog4 pc4 state4 why4 what4 timer4 reg4 group4 err4 a b c) ⟨rfl, (by repeat' (first | exact trivial | exact rfl | exact Nat.le_refl _ | exact S.cx.giveEq | exact S.cx.lendLe (by assumption) | exact S.cx.lendEq (by assumption) | exact S.cx.lendLe0 | exact S.cx.lendEq0 | exact S.cx.partLe (by assumption) | exact S.cx.partEq (by assumption) | exact .inl rfl | refine ⟨?_, ?_⟩)), (by repeat' (first | exact trivial | exact rfl | exact Nat.le_refl _ | exact S.cx.giveEq | exact S.cx.lendLe (by assumption) | exact S.cx.lendEq (by assumption) | exact S.cx.lendLe0 | exact S.cx.lendEq0 | exact S.cx.partLe (by assumption) | exact S.cx.partEq (by assumption) | exact .inl rfl | refine ⟨?_, ?_⟩))⟩ rfl (fun ln hln x hx => ⟨rfl, ?_⟩)
    obtain ⟨prog7, pc7, state7, why7, what7, timer7, reg7, group7, err7⟩ := x
    cbv
    have hx7 := hx
    refine ⟨⟨by rw [S.prog]; kernel_rfl⟩, SEq.mk fun bb hbb => ?_⟩
    obtain rfl : bb = true := hbb.2 (congrArg cTask (hx7.trans hds.2.2))
    cbv
    exact Done.to (.bool true) [] rfl rfl trivial ⟨rfl, rfl⟩
  try (refine Drawn.mk ⟨by kernel_rfl, fun _ => ?_⟩)
  refine Test.eql (fun k1 => ?_) (fun k1 => ?_) <;> cbv
  rotate_left
  · exact absurd e.2.2.1 k1
  refine Test.eql (fun k2 => ?_) (fun k2 => ?_) <;> cbv
  rotate_left
  · exact absurd e.2.2.2 k2
  have hds := done_stays e.2.1 e.2.2.1 5 1 a b c
  refine ACall.valN (r := (fun x : Task => .agg (cTask x))) (os := fun _ => []) (dp := false) S.cx (implEnded_c S prog4 pc4 state4 why4 what4 timer4 reg4 group4 err4 5) ⟨rfl, (by repeat' (first | exact trivial | exact rfl | exact Nat.le_refl _ | exact S.cx.giveEq | exact S.cx.lendLe (by assumption) | exact S.cx.lendEq (by assumption) | exact S.cx.lendLe0 | exact S.cx.lendEq0 | exact S.cx.partLe (by assumption) | exact S.cx.partEq (by assumption) | exact .inl rfl | refine ⟨?_, ?_⟩)), (by repeat' (first | exact trivial | exact rfl | exact Nat.le_refl _ | exact S.cx.giveEq | exact S.cx.lendLe (by assumption) | exact S.cx.lendEq (by assumption) | exact S.cx.lendLe0 | exact S.cx.lendEq0 | exact S.cx.partLe (by assumption) | exact S.cx.partEq (by assumption) | exact .inl rfl | refine ⟨?_, ?_⟩))⟩ rfl (fun ln hln x hx => ⟨rfl, ?_⟩)
  obtain ⟨prog5, pc5, state5, why5, what5, timer5, reg5, group5, err5⟩ := x
  cbv
  have hx5 := hx
  refine ⟨⟨by rw [S.prog]; kernel_rfl⟩, SEq.mk fun bb hbb => ?_⟩
  obtain rfl : bb = true := hbb.2 (congrArg cTask (hx5.trans hds.1))
  cbv
  refine ACall.valN (r := (fun x : Task => .agg (cTask x))) (os := fun _ => []) (dp := false) S.cx (implReadied_c S prog4 pc4 state4 why4 what4 timer4 reg4 group4 err4 1) ⟨rfl, (by repeat' (first | exact trivial | exact rfl | exact Nat.le_refl _ | exact S.cx.giveEq | exact S.cx.lendLe (by assumption) | exact S.cx.lendEq (by assumption) | exact S.cx.lendLe0 | exact S.cx.lendEq0 | exact S.cx.partLe (by assumption) | exact S.cx.partEq (by assumption) | exact .inl rfl | refine ⟨?_, ?_⟩)), (by repeat' (first | exact trivial | exact rfl | exact Nat.le_refl _ | exact S.cx.giveEq | exact S.cx.lendLe (by assumption) | exact S.cx.lendEq (by assumption) | exact S.cx.lendLe0 | exact S.cx.lendEq0 | exact S.cx.partLe (by assumption) | exact S.cx.partEq (by assumption) | exact .inl rfl | refine ⟨?_, ?_⟩))⟩ rfl (fun ln hln x hx => ⟨rfl, ?_⟩)
  obtain ⟨prog6, pc6, state6, why6, what6, timer6, reg6, group6, err6⟩ := x
  cbv
  have hx6 := hx
  refine ⟨⟨by rw [S.prog]; kernel_rfl⟩, SEq.mk fun bb hbb => ?_⟩
  obtain rfl : bb = true := hbb.2 (congrArg cTask (hx6.trans hds.2.1))
  cbv
  refine ACall.valN (r := (fun x : Task => .agg (cTask x))) (os := fun _ => []) (dp := false) S.cx (implParked_c S prog4 pc4 state4 why4 what4 timer4 reg4 group4 err4 a b c) ⟨rfl, (by repeat' (first | exact trivial | exact rfl | exact Nat.le_refl _ | exact S.cx.giveEq | exact S.cx.lendLe (by assumption) | exact S.cx.lendEq (by assumption) | exact S.cx.lendLe0 | exact S.cx.lendEq0 | exact S.cx.partLe (by assumption) | exact S.cx.partEq (by assumption) | exact .inl rfl | refine ⟨?_, ?_⟩)), (by repeat' (first | exact trivial | exact rfl | exact Nat.le_refl _ | exact S.cx.giveEq | exact S.cx.lendLe (by assumption) | exact S.cx.lendEq (by assumption) | exact S.cx.lendLe0 | exact S.cx.lendEq0 | exact S.cx.partLe (by assumption) | exact S.cx.partEq (by assumption) | exact .inl rfl | refine ⟨?_, ?_⟩))⟩ rfl (fun ln hln x hx => ⟨rfl, ?_⟩)
  obtain ⟨prog7, pc7, state7, why7, what7, timer7, reg7, group7, err7⟩ := x
  cbv
  have hx7 := hx
  refine ⟨⟨by rw [S.prog]; kernel_rfl⟩, SEq.mk fun bb hbb => ?_⟩
  obtain rfl : bb = true := hbb.2 (congrArg cTask (hx7.trans hds.2.2))
  cbv
  exact Done.to (.bool true) [] rfl rfl trivial ⟨rfl, rfl⟩


end Go.Proofs.Ytcbebidfnlkkeaa.AM
