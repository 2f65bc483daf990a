/- Contracts: trees and spreads drawn; the law of steps. (printed by gds.py) -/
import Derived.Test.YtcbebidfnlkkeaaDX
import Derived.Test.YtcbebidfnlkkeaaSP
import Derived.Test.YtcbebidfnlkkeaaB39
namespace Go.Proofs.Ytcbebidfnlkkeaa.AM
open Go Go.Proofs

set_option maxRecDepth 100000
set_option maxHeartbeats 4000000
set_option linter.unusedVariables false
set_option linter.unusedSimpArgs false

variable {P : Program} {A : Sy}

theorem plainNode : Plain cNode := fun _ => rfl
theorem plainB9 : Plain cBool := fun _ => rfl
theorem plainI9 : Plain cInt64 := fun _ => rfl

theorem l5DrawNode_c (S : Se P A) (code : List Int) (hb : code.length ≤ 4096) (hc : ∀ b ∈ code, 0 ≤ b ∧ b ≤ 255) (i h : Int) (hi : 0 ≤ i) (n : Int) (hn : 1 ≤ n ∧ n ≤ 1000) : SoundM P 150 true [.ptr 1000 0 0, .int .i64 n] [.box [.ro (A.enc cByte code), .int .i64 i, .int .i64 h]]
    (fun v os => ∃ (x : Node) (i' h' : Int), 0 ≤ i' ∧ v = .agg (cNode x) ∧ os = [some (.box [.ro (A.enc cByte code), .int .i64 i', .int .i64 h'])]) := by
  refine S.cx.byS [99999] (S.prog ▸ Try.func150) rfl rfl rfl rfl (fun ln hln hv ho => ?_)
  (cbv; repeat (refine Later.mk ?_; cbv))
  have hk := fromF_ok code hb hc i h hi 1 4
  refine ACall.valN (r := rCur) (os := oCur A code) (dp := false) S.cx (l1From_c S code hb hc i h hi 1 4 (by decide)) ⟨rfl, (by repeat' (first | exact trivial | exact rfl | exact Nat.le_refl _ | exact S.cx.giveEq | exact S.cx.lendLe (by assumption) | exact S.cx.lendEq (by assumption) | exact S.cx.lendLe0 | exact S.cx.lendEq0 | exact S.cx.partLe (by assumption) | exact S.cx.partEq (by assumption) | exact .inl rfl | refine ⟨?_, ?_⟩)), (by repeat' (first | exact trivial | exact rfl | exact Nat.le_refl _ | exact S.cx.giveEq | exact S.cx.lendLe (by assumption) | exact S.cx.lendEq (by assumption) | exact S.cx.lendLe0 | exact S.cx.lendEq0 | exact S.cx.partLe (by assumption) | exact S.cx.partEq (by assumption) | exact .inl rfl | refine ⟨?_, ?_⟩))⟩ rfl (fun ln hln x hx => ⟨rfl, ?_⟩)
  obtain ⟨k, i, h⟩ := x
  (cbv; repeat (refine Later.mk ?_; cbv))
  rw [← hx] at hk
  dsimp only at hk
  clear hx hi
  obtain ⟨hk, hi⟩ := hk
  refine Arith.go (by lia) (fun n1 hn1 => ?_); replace hn1 : n1 = n - 1 := hn1; (cbv; repeat (refine Later.mk ?_; cbv))
  refine ACall.int (dp := false) (l1Min_c S n 4) ⟨rfl, (by repeat' (first | exact trivial | exact rfl | exact Nat.le_refl _ | exact S.cx.giveEq | exact S.cx.lendLe (by assumption) | exact S.cx.lendEq (by assumption) | exact S.cx.lendLe0 | exact S.cx.lendEq0 | exact S.cx.partLe (by assumption) | exact S.cx.partEq (by assumption) | exact .inl rfl | refine ⟨?_, ?_⟩)), (by repeat' (first | exact trivial | exact rfl | exact Nat.le_refl _ | exact S.cx.giveEq | exact S.cx.lendLe (by assumption) | exact S.cx.lendEq (by assumption) | exact S.cx.lendLe0 | exact S.cx.lendEq0 | exact S.cx.partLe (by assumption) | exact S.cx.partEq (by assumption) | exact .inl rfl | refine ⟨?_, ?_⟩))⟩ rfl (fun mn hmn => ?_); (cbv; repeat (refine Later.mk ?_; cbv))
  have hz := belowF_ok code hb hc i h hi mn
  refine ACall.valN (r := rCur) (os := oCur A code) (dp := false) S.cx (l1Below_c S code hb hc i h hi mn) ⟨rfl, (by repeat' (first | exact trivial | exact rfl | exact Nat.le_refl _ | exact S.cx.giveEq | exact S.cx.lendLe (by assumption) | exact S.cx.lendEq (by assumption) | exact S.cx.lendLe0 | exact S.cx.lendEq0 | exact S.cx.partLe (by assumption) | exact S.cx.partEq (by assumption) | exact .inl rfl | refine ⟨?_, ?_⟩)), (by repeat' (first | exact trivial | exact rfl | exact Nat.le_refl _ | exact S.cx.giveEq | exact S.cx.lendLe (by assumption) | exact S.cx.lendEq (by assumption) | exact S.cx.lendLe0 | exact S.cx.lendEq0 | exact S.cx.partLe (by assumption) | exact S.cx.partEq (by assumption) | exact .inl rfl | refine ⟨?_, ?_⟩))⟩ rfl (fun ln hln x hx => ⟨rfl, ?_⟩)
  obtain ⟨z, i, h⟩ := x
  (cbv; repeat (refine Later.mk ?_; cbv))
  rw [← hx] at hz
  dsimp only at hz
  clear hx hi
  obtain ⟨hz, hi⟩ := hz
  have hz2 := hz.2.1 (by omega)
  have hz1 := hz.1
  refine Arith.go (by lia) (fun up hup => ?_); (cbv; repeat (refine Later.mk ?_; cbv))
  refine Test.eql (fun g2 => ?_) (fun g2 => ?_) <;> (cbv; repeat (refine Later.mk ?_; cbv))
  · have hd := belowF_ok code hb hc i h hi 16
    refine ACall.valN (r := rCur) (os := oCur A code) (dp := false) S.cx (l1Below_c S code hb hc i h hi 16) ⟨rfl, (by repeat' (first | exact trivial | exact rfl | exact Nat.le_refl _ | exact S.cx.giveEq | exact S.cx.lendLe (by assumption) | exact S.cx.lendEq (by assumption) | exact S.cx.lendLe0 | exact S.cx.lendEq0 | exact S.cx.partLe (by assumption) | exact S.cx.partEq (by assumption) | exact .inl rfl | refine ⟨?_, ?_⟩)), (by repeat' (first | exact trivial | exact rfl | exact Nat.le_refl _ | exact S.cx.giveEq | exact S.cx.lendLe (by assumption) | exact S.cx.lendEq (by assumption) | exact S.cx.lendLe0 | exact S.cx.lendEq0 | exact S.cx.partLe (by assumption) | exact S.cx.partEq (by assumption) | exact .inl rfl | refine ⟨?_, ?_⟩))⟩ rfl (fun ln hln x hx => ⟨rfl, ?_⟩)
    obtain ⟨d, i, h⟩ := x
    (cbv; repeat (refine Later.mk ?_; cbv))
    rw [← hx] at hd
    dsimp only at hd
    clear hx hi
    obtain ⟨hd, hi⟩ := hd
    have hbb := onceF_ok code hb hc i h hi 10
    refine ACall.valN (r := rCurB) (os := oCur A code) (dp := false) S.cx (l1Once_c S code hb hc i h hi 10) ⟨rfl, (by repeat' (first | exact trivial | exact rfl | exact Nat.le_refl _ | exact S.cx.giveEq | exact S.cx.lendLe (by assumption) | exact S.cx.lendEq (by assumption) | exact S.cx.lendLe0 | exact S.cx.lendEq0 | exact S.cx.partLe (by assumption) | exact S.cx.partEq (by assumption) | exact .inl rfl | refine ⟨?_, ?_⟩)), (by repeat' (first | exact trivial | exact rfl | exact Nat.le_refl _ | exact S.cx.giveEq | exact S.cx.lendLe (by assumption) | exact S.cx.lendEq (by assumption) | exact S.cx.lendLe0 | exact S.cx.lendEq0 | exact S.cx.partLe (by assumption) | exact S.cx.partEq (by assumption) | exact .inl rfl | refine ⟨?_, ?_⟩))⟩ rfl (fun ln hln x hx => ⟨rfl, ?_⟩)
    obtain ⟨b, i, h⟩ := x
    (cbv; repeat (refine Later.mk ?_; cbv))
    rw [← hx] at hbb
    dsimp only at hbb
    clear hx hi
    obtain ⟨hbb, hi⟩ := hbb
    cases b <;> (cbv; repeat (refine Later.mk ?_; cbv))
    · exact Done.to (.agg (cNode ⟨k, up, d, 0, 0⟩)) [some (.box [.ro (A.enc cByte code), .int .i64 i, .int .i64 h])] rfl (by repeat' (first | exact trivial | exact rfl | refine ⟨?_, ?_⟩)) ⟨⟨⟨rfl, .inl rfl⟩, rfl, rfl, trivial⟩, trivial⟩ ⟨⟨k, up, d, 0, 0⟩, i, h, hi, rfl, rfl⟩
    have hd2 := l2F_ok code hb hc i h hi
    refine ACall.valN (r := rCur) (os := oCur A code) (dp := false) S.cx (l2Draw_c S code hb hc i h hi) ⟨rfl, (by repeat' (first | exact trivial | exact rfl | exact Nat.le_refl _ | exact S.cx.giveEq | exact S.cx.lendLe (by assumption) | exact S.cx.lendEq (by assumption) | exact S.cx.lendLe0 | exact S.cx.lendEq0 | exact S.cx.partLe (by assumption) | exact S.cx.partEq (by assumption) | exact .inl rfl | refine ⟨?_, ?_⟩)), (by repeat' (first | exact trivial | exact rfl | exact Nat.le_refl _ | exact S.cx.giveEq | exact S.cx.lendLe (by assumption) | exact S.cx.lendEq (by assumption) | exact S.cx.lendLe0 | exact S.cx.lendEq0 | exact S.cx.partLe (by assumption) | exact S.cx.partEq (by assumption) | exact .inl rfl | refine ⟨?_, ?_⟩))⟩ rfl (fun ln hln x hx => ⟨rfl, ?_⟩)
    obtain ⟨d2, i, h⟩ := x
    (cbv; repeat (refine Later.mk ?_; cbv))
    rw [← hx] at hd2
    dsimp only at hd2
    clear hx hi
    obtain ⟨hd2, hi⟩ := hd2
    exact Done.to (.agg (cNode ⟨k, up, d2, 0, 0⟩)) [some (.box [.ro (A.enc cByte code), .int .i64 i, .int .i64 h])] rfl (by repeat' (first | exact trivial | exact rfl | refine ⟨?_, ?_⟩)) ⟨⟨⟨rfl, .inl rfl⟩, rfl, rfl, trivial⟩, trivial⟩ ⟨⟨k, up, d2, 0, 0⟩, i, h, hi, rfl, rfl⟩
  refine Test.eql (fun g3 => ?_) (fun g3 => ?_) <;> (cbv; repeat (refine Later.mk ?_; cbv))
  · have ha := belowF_ok code hb hc i h hi 3
    refine ACall.valN (r := rCur) (os := oCur A code) (dp := false) S.cx (l1Below_c S code hb hc i h hi 3) ⟨rfl, (by repeat' (first | exact trivial | exact rfl | exact Nat.le_refl _ | exact S.cx.giveEq | exact S.cx.lendLe (by assumption) | exact S.cx.lendEq (by assumption) | exact S.cx.lendLe0 | exact S.cx.lendEq0 | exact S.cx.partLe (by assumption) | exact S.cx.partEq (by assumption) | exact .inl rfl | refine ⟨?_, ?_⟩)), (by repeat' (first | exact trivial | exact rfl | exact Nat.le_refl _ | exact S.cx.giveEq | exact S.cx.lendLe (by assumption) | exact S.cx.lendEq (by assumption) | exact S.cx.lendLe0 | exact S.cx.lendEq0 | exact S.cx.partLe (by assumption) | exact S.cx.partEq (by assumption) | exact .inl rfl | refine ⟨?_, ?_⟩))⟩ rfl (fun ln hln x hx => ⟨rfl, ?_⟩)
    obtain ⟨a, i, h⟩ := x
    (cbv; repeat (refine Later.mk ?_; cbv))
    rw [← hx] at ha
    dsimp only at ha
    clear hx hi
    obtain ⟨ha, hi⟩ := ha
    have ha2 := ha.2.1 (by decide)
    have ha1 := ha.1
    refine Arith.go (by lia) (fun ky hky => ?_); (cbv; repeat (refine Later.mk ?_; cbv))
    have hw := belowF_ok code hb hc i h hi 9
    refine ACall.valN (r := rCur) (os := oCur A code) (dp := false) S.cx (l1Below_c S code hb hc i h hi 9) ⟨rfl, (by repeat' (first | exact trivial | exact rfl | exact Nat.le_refl _ | exact S.cx.giveEq | exact S.cx.lendLe (by assumption) | exact S.cx.lendEq (by assumption) | exact S.cx.lendLe0 | exact S.cx.lendEq0 | exact S.cx.partLe (by assumption) | exact S.cx.partEq (by assumption) | exact .inl rfl | refine ⟨?_, ?_⟩)), (by repeat' (first | exact trivial | exact rfl | exact Nat.le_refl _ | exact S.cx.giveEq | exact S.cx.lendLe (by assumption) | exact S.cx.lendEq (by assumption) | exact S.cx.lendLe0 | exact S.cx.lendEq0 | exact S.cx.partLe (by assumption) | exact S.cx.partEq (by assumption) | exact .inl rfl | refine ⟨?_, ?_⟩))⟩ rfl (fun ln hln x hx => ⟨rfl, ?_⟩)
    obtain ⟨w, i, h⟩ := x
    (cbv; repeat (refine Later.mk ?_; cbv))
    rw [← hx] at hw
    dsimp only at hw
    clear hx hi
    obtain ⟨hw, hi⟩ := hw
    exact Done.to (.agg (cNode ⟨k, up, 9223372036854775807, ky, w⟩)) [some (.box [.ro (A.enc cByte code), .int .i64 i, .int .i64 h])] rfl (by repeat' (first | exact trivial | exact rfl | refine ⟨?_, ?_⟩)) ⟨⟨⟨rfl, .inl rfl⟩, rfl, rfl, trivial⟩, trivial⟩ ⟨⟨k, up, 9223372036854775807, ky, w⟩, i, h, hi, rfl, rfl⟩
  refine Test.eql (fun g4 => ?_) (fun g4 => ?_) <;> (cbv; repeat (refine Later.mk ?_; cbv))
  · have hbb := onceF_ok code hb hc i h hi 3
    refine ACall.valN (r := rCurB) (os := oCur A code) (dp := false) S.cx (l1Once_c S code hb hc i h hi 3) ⟨rfl, (by repeat' (first | exact trivial | exact rfl | exact Nat.le_refl _ | exact S.cx.giveEq | exact S.cx.lendLe (by assumption) | exact S.cx.lendEq (by assumption) | exact S.cx.lendLe0 | exact S.cx.lendEq0 | exact S.cx.partLe (by assumption) | exact S.cx.partEq (by assumption) | exact .inl rfl | refine ⟨?_, ?_⟩)), (by repeat' (first | exact trivial | exact rfl | exact Nat.le_refl _ | exact S.cx.giveEq | exact S.cx.lendLe (by assumption) | exact S.cx.lendEq (by assumption) | exact S.cx.lendLe0 | exact S.cx.lendEq0 | exact S.cx.partLe (by assumption) | exact S.cx.partEq (by assumption) | exact .inl rfl | refine ⟨?_, ?_⟩))⟩ rfl (fun ln hln x hx => ⟨rfl, ?_⟩)
    obtain ⟨b, i, h⟩ := x
    (cbv; repeat (refine Later.mk ?_; cbv))
    rw [← hx] at hbb
    dsimp only at hbb
    clear hx hi
    obtain ⟨hbb, hi⟩ := hbb
    cases b <;> (cbv; repeat (refine Later.mk ?_; cbv))
    · exact Done.to (.agg (cNode ⟨1, up, 9223372036854775807, 0, 0⟩)) [some (.box [.ro (A.enc cByte code), .int .i64 i, .int .i64 h])] rfl (by repeat' (first | exact trivial | exact rfl | refine ⟨?_, ?_⟩)) ⟨⟨⟨rfl, .inl rfl⟩, rfl, rfl, trivial⟩, trivial⟩ ⟨⟨1, up, 9223372036854775807, 0, 0⟩, i, h, hi, rfl, rfl⟩
    exact Done.to (.agg (cNode ⟨k, up, 9223372036854775807, 0, 0⟩)) [some (.box [.ro (A.enc cByte code), .int .i64 i, .int .i64 h])] rfl (by repeat' (first | exact trivial | exact rfl | refine ⟨?_, ?_⟩)) ⟨⟨⟨rfl, .inl rfl⟩, rfl, rfl, trivial⟩, trivial⟩ ⟨⟨k, up, 9223372036854775807, 0, 0⟩, i, h, hi, rfl, rfl⟩
  exact Done.to (.agg (cNode ⟨k, up, 9223372036854775807, 0, 0⟩)) [some (.box [.ro (A.enc cByte code), .int .i64 i, .int .i64 h])] rfl (by repeat' (first | exact trivial | exact rfl | refine ⟨?_, ?_⟩)) ⟨⟨⟨rfl, .inl rfl⟩, rfl, rfl, trivial⟩, trivial⟩ ⟨⟨k, up, 9223372036854775807, 0, 0⟩, i, h, hi, rfl, rfl⟩

theorem l5BendNode_c (S : Se P A) (code : List Int) (hb : code.length ≤ 4096) (hc : ∀ b ∈ code, 0 ≤ b ∧ b ≤ 255) (i h : Int) (hi : 0 ≤ i) (kind up due key value : Int) : SoundM P 148 true [.ptr 1000 0 0, .agg (cNode ⟨kind, up, due, key, value⟩)] [.box [.ro (A.enc cByte code), .int .i64 i, .int .i64 h]]
    (fun v os => ∃ (x : Node) (i' h' : Int), 0 ≤ i' ∧ v = .agg (cNode x) ∧ os = [some (.box [.ro (A.enc cByte code), .int .i64 i', .int .i64 h'])]) := by
  refine S.cx.byS [99999] (S.prog ▸ Try.func148) rfl rfl rfl rfl (fun ln hln hv ho => ?_)
  (cbv; repeat (refine Later.mk ?_; cbv))
  have hy := belowF_ok code hb hc i h hi 5
  refine ACall.valN (r := rCur) (os := oCur A code) (dp := false) S.cx (l1Below_c S code hb hc i h hi 5) ⟨rfl, (by repeat' (first | exact trivial | exact rfl | exact Nat.le_refl _ | exact S.cx.giveEq | exact S.cx.lendLe (by assumption) | exact S.cx.lendEq (by assumption) | exact S.cx.lendLe0 | exact S.cx.lendEq0 | exact S.cx.partLe (by assumption) | exact S.cx.partEq (by assumption) | exact .inl rfl | refine ⟨?_, ?_⟩)), (by repeat' (first | exact trivial | exact rfl | exact Nat.le_refl _ | exact S.cx.giveEq | exact S.cx.lendLe (by assumption) | exact S.cx.lendEq (by assumption) | exact S.cx.lendLe0 | exact S.cx.lendEq0 | exact S.cx.partLe (by assumption) | exact S.cx.partEq (by assumption) | exact .inl rfl | refine ⟨?_, ?_⟩))⟩ rfl (fun ln hln x hx => ⟨rfl, ?_⟩)
  obtain ⟨y, i, h⟩ := x
  (cbv; repeat (refine Later.mk ?_; cbv))
  rw [← hx] at hy
  dsimp only at hy
  clear hx hi
  obtain ⟨hy, hi⟩ := hy
  refine Test.eql (fun g0 => ?_) (fun g0 => ?_) <;> (cbv; repeat (refine Later.mk ?_; cbv))
  · have hv1 := fromF_ok code hb hc i h hi (-1) 5
    refine ACall.valN (r := rCur) (os := oCur A code) (dp := false) S.cx (l1From_c S code hb hc i h hi (-1) 5 (by decide)) ⟨rfl, (by repeat' (first | exact trivial | exact rfl | exact Nat.le_refl _ | exact S.cx.giveEq | exact S.cx.lendLe (by assumption) | exact S.cx.lendEq (by assumption) | exact S.cx.lendLe0 | exact S.cx.lendEq0 | exact S.cx.partLe (by assumption) | exact S.cx.partEq (by assumption) | exact .inl rfl | refine ⟨?_, ?_⟩)), (by repeat' (first | exact trivial | exact rfl | exact Nat.le_refl _ | exact S.cx.giveEq | exact S.cx.lendLe (by assumption) | exact S.cx.lendEq (by assumption) | exact S.cx.lendLe0 | exact S.cx.lendEq0 | exact S.cx.partLe (by assumption) | exact S.cx.partEq (by assumption) | exact .inl rfl | refine ⟨?_, ?_⟩))⟩ rfl (fun ln hln x hx => ⟨rfl, ?_⟩)
    obtain ⟨v1, i, h⟩ := x
    (cbv; repeat (refine Later.mk ?_; cbv))
    rw [← hx] at hv1
    dsimp only at hv1
    clear hx hi
    obtain ⟨hv1, hi⟩ := hv1
    exact Done.to (.agg (cNode ⟨v1, up, due, key, value⟩)) [some (.box [.ro (A.enc cByte code), .int .i64 i, .int .i64 h])] rfl (by repeat' (first | exact trivial | exact rfl | refine ⟨?_, ?_⟩)) ⟨⟨⟨rfl, .inl rfl⟩, rfl, rfl, trivial⟩, trivial⟩ ⟨⟨v1, up, due, key, value⟩, i, h, hi, rfl, rfl⟩
  refine Test.eql (fun g1 => ?_) (fun g1 => ?_) <;> (cbv; repeat (refine Later.mk ?_; cbv))
  · have hv1 := fromF_ok code hb hc i h hi (-2) 9
    refine ACall.valN (r := rCur) (os := oCur A code) (dp := false) S.cx (l1From_c S code hb hc i h hi (-2) 9 (by decide)) ⟨rfl, (by repeat' (first | exact trivial | exact rfl | exact Nat.le_refl _ | exact S.cx.giveEq | exact S.cx.lendLe (by assumption) | exact S.cx.lendEq (by assumption) | exact S.cx.lendLe0 | exact S.cx.lendEq0 | exact S.cx.partLe (by assumption) | exact S.cx.partEq (by assumption) | exact .inl rfl | refine ⟨?_, ?_⟩)), (by repeat' (first | exact trivial | exact rfl | exact Nat.le_refl _ | exact S.cx.giveEq | exact S.cx.lendLe (by assumption) | exact S.cx.lendEq (by assumption) | exact S.cx.lendLe0 | exact S.cx.lendEq0 | exact S.cx.partLe (by assumption) | exact S.cx.partEq (by assumption) | exact .inl rfl | refine ⟨?_, ?_⟩))⟩ rfl (fun ln hln x hx => ⟨rfl, ?_⟩)
    obtain ⟨v1, i, h⟩ := x
    (cbv; repeat (refine Later.mk ?_; cbv))
    rw [← hx] at hv1
    dsimp only at hv1
    clear hx hi
    obtain ⟨hv1, hi⟩ := hv1
    exact Done.to (.agg (cNode ⟨kind, v1, due, key, value⟩)) [some (.box [.ro (A.enc cByte code), .int .i64 i, .int .i64 h])] rfl (by repeat' (first | exact trivial | exact rfl | refine ⟨?_, ?_⟩)) ⟨⟨⟨rfl, .inl rfl⟩, rfl, rfl, trivial⟩, trivial⟩ ⟨⟨kind, v1, due, key, value⟩, i, h, hi, rfl, rfl⟩
  refine Test.eql (fun g2 => ?_) (fun g2 => ?_) <;> (cbv; repeat (refine Later.mk ?_; cbv))
  · have hv1 := belowF_ok code hb hc i h hi 9
    refine ACall.valN (r := rCur) (os := oCur A code) (dp := false) S.cx (l1Below_c S code hb hc i h hi 9) ⟨rfl, (by repeat' (first | exact trivial | exact rfl | exact Nat.le_refl _ | exact S.cx.giveEq | exact S.cx.lendLe (by assumption) | exact S.cx.lendEq (by assumption) | exact S.cx.lendLe0 | exact S.cx.lendEq0 | exact S.cx.partLe (by assumption) | exact S.cx.partEq (by assumption) | exact .inl rfl | refine ⟨?_, ?_⟩)), (by repeat' (first | exact trivial | exact rfl | exact Nat.le_refl _ | exact S.cx.giveEq | exact S.cx.lendLe (by assumption) | exact S.cx.lendEq (by assumption) | exact S.cx.lendLe0 | exact S.cx.lendEq0 | exact S.cx.partLe (by assumption) | exact S.cx.partEq (by assumption) | exact .inl rfl | refine ⟨?_, ?_⟩))⟩ rfl (fun ln hln x hx => ⟨rfl, ?_⟩)
    obtain ⟨v1, i, h⟩ := x
    (cbv; repeat (refine Later.mk ?_; cbv))
    rw [← hx] at hv1
    dsimp only at hv1
    clear hx hi
    obtain ⟨hv1, hi⟩ := hv1
    exact Done.to (.agg (cNode ⟨kind, up, v1, key, value⟩)) [some (.box [.ro (A.enc cByte code), .int .i64 i, .int .i64 h])] rfl (by repeat' (first | exact trivial | exact rfl | refine ⟨?_, ?_⟩)) ⟨⟨⟨rfl, .inl rfl⟩, rfl, rfl, trivial⟩, trivial⟩ ⟨⟨kind, up, v1, key, value⟩, i, h, hi, rfl, rfl⟩
  refine Test.eql (fun g3 => ?_) (fun g3 => ?_) <;> (cbv; repeat (refine Later.mk ?_; cbv))
  · have hv1 := fromF_ok code hb hc i h hi 0 10
    refine ACall.valN (r := rCur) (os := oCur A code) (dp := false) S.cx (l1From_c S code hb hc i h hi 0 10 (by decide)) ⟨rfl, (by repeat' (first | exact trivial | exact rfl | exact Nat.le_refl _ | exact S.cx.giveEq | exact S.cx.lendLe (by assumption) | exact S.cx.lendEq (by assumption) | exact S.cx.lendLe0 | exact S.cx.lendEq0 | exact S.cx.partLe (by assumption) | exact S.cx.partEq (by assumption) | exact .inl rfl | refine ⟨?_, ?_⟩)), (by repeat' (first | exact trivial | exact rfl | exact Nat.le_refl _ | exact S.cx.giveEq | exact S.cx.lendLe (by assumption) | exact S.cx.lendEq (by assumption) | exact S.cx.lendLe0 | exact S.cx.lendEq0 | exact S.cx.partLe (by assumption) | exact S.cx.partEq (by assumption) | exact .inl rfl | refine ⟨?_, ?_⟩))⟩ rfl (fun ln hln x hx => ⟨rfl, ?_⟩)
    obtain ⟨v1, i, h⟩ := x
    (cbv; repeat (refine Later.mk ?_; cbv))
    rw [← hx] at hv1
    dsimp only at hv1
    clear hx hi
    obtain ⟨hv1, hi⟩ := hv1
    exact Done.to (.agg (cNode ⟨kind, up, due, v1, value⟩)) [some (.box [.ro (A.enc cByte code), .int .i64 i, .int .i64 h])] rfl (by repeat' (first | exact trivial | exact rfl | refine ⟨?_, ?_⟩)) ⟨⟨⟨rfl, .inl rfl⟩, rfl, rfl, trivial⟩, trivial⟩ ⟨⟨kind, up, due, v1, value⟩, i, h, hi, rfl, rfl⟩
  refine Test.eql (fun g4 => ?_) (fun g4 => ?_) <;> (cbv; repeat (refine Later.mk ?_; cbv))
  · have hv1 := numF_ok code hb hc i h hi 999
    refine ACall.valN (r := rCur) (os := oCur A code) (dp := false) S.cx (l1Num_c S code hb hc i h hi 999 (by decide)) ⟨rfl, (by repeat' (first | exact trivial | exact rfl | exact Nat.le_refl _ | exact S.cx.giveEq | exact S.cx.lendLe (by assumption) | exact S.cx.lendEq (by assumption) | exact S.cx.lendLe0 | exact S.cx.lendEq0 | exact S.cx.partLe (by assumption) | exact S.cx.partEq (by assumption) | exact .inl rfl | refine ⟨?_, ?_⟩)), (by repeat' (first | exact trivial | exact rfl | exact Nat.le_refl _ | exact S.cx.giveEq | exact S.cx.lendLe (by assumption) | exact S.cx.lendEq (by assumption) | exact S.cx.lendLe0 | exact S.cx.lendEq0 | exact S.cx.partLe (by assumption) | exact S.cx.partEq (by assumption) | exact .inl rfl | refine ⟨?_, ?_⟩))⟩ rfl (fun ln hln x hx => ⟨rfl, ?_⟩)
    obtain ⟨v1, i, h⟩ := x
    (cbv; repeat (refine Later.mk ?_; cbv))
    rw [← hx] at hv1
    dsimp only at hv1
    clear hx hi
    obtain ⟨hv1, hi⟩ := hv1
    exact Done.to (.agg (cNode ⟨kind, up, due, key, v1⟩)) [some (.box [.ro (A.enc cByte code), .int .i64 i, .int .i64 h])] rfl (by repeat' (first | exact trivial | exact rfl | refine ⟨?_, ?_⟩)) ⟨⟨⟨rfl, .inl rfl⟩, rfl, rfl, trivial⟩, trivial⟩ ⟨⟨kind, up, due, key, v1⟩, i, h, hi, rfl, rfl⟩
  exact Done.to (.agg (cNode ⟨kind, up, due, key, value⟩)) [some (.box [.ro (A.enc cByte code), .int .i64 i, .int .i64 h])] rfl (by repeat' (first | exact trivial | exact rfl | refine ⟨?_, ?_⟩)) ⟨⟨⟨rfl, .inl rfl⟩, rfl, rfl, trivial⟩, trivial⟩ ⟨⟨kind, up, due, key, value⟩, i, h, hi, rfl, rfl⟩

structure NSt where
  l : List Node
  n : Int
  i : Int
  h : Int
  m : Nat
  p : Bool

theorem l5Draw_c (S : Se P A) (code : List Int) (hb : code.length ≤ 4096) (hc : ∀ b ∈ code, 0 ≤ b ∧ b ≤ 255) (i h : Int) (hi : 0 ≤ i) : SoundM P 147 true [.ptr 1000 0 0] [.box [.ro (A.enc cByte code), .int .i64 i, .int .i64 h]]
    (fun v os => ∃ (l : List Node) (i' h' : Int), (1 ≤ l.length ∧ l.length ≤ 100) ∧ 0 ≤ i' ∧ v = .own 5 true (A.enc cNode l) ∧ os = [some (.box [.ro (A.enc cByte code), .int .i64 i', .int .i64 h'])]) := by
  refine S.cx.byS [99999] (S.prog ▸ Try.func147) rfl rfl rfl rfl (fun ln hln hv ho => ?_)
  (cbv; repeat (refine Later.mk ?_; cbv))
  rw [show ([[AV.int .i64 0, AV.int .i64 (-1), AV.int .i64 9223372036854775807, AV.int .i64 0, AV.int .i64 0]] : List (List AV)) = A.enc cNode [⟨0, -1, 9223372036854775807, 0, 0⟩] from by rw [S.cx.enc]; rfl]
  have hn0 := belowF_ok code hb hc i h hi 9
  refine ACall.valN (r := rCur) (os := oCur A code) (dp := false) S.cx (l1Below_c S code hb hc i h hi 9) ⟨rfl, (by repeat' (first | exact trivial | exact rfl | exact Nat.le_refl _ | exact S.cx.giveEq | exact S.cx.lendLe (by assumption) | exact S.cx.lendEq (by assumption) | exact S.cx.lendLe0 | exact S.cx.lendEq0 | exact S.cx.partLe (by assumption) | exact S.cx.partEq (by assumption) | exact .inl rfl | refine ⟨?_, ?_⟩)), (by repeat' (first | exact trivial | exact rfl | exact Nat.le_refl _ | exact S.cx.giveEq | exact S.cx.lendLe (by assumption) | exact S.cx.lendEq (by assumption) | exact S.cx.lendLe0 | exact S.cx.lendEq0 | exact S.cx.partLe (by assumption) | exact S.cx.partEq (by assumption) | exact .inl rfl | refine ⟨?_, ?_⟩))⟩ rfl (fun ln hln x hx => ⟨rfl, ?_⟩)
  obtain ⟨n0, i, h⟩ := x
  (cbv; repeat (refine Later.mk ?_; cbv))
  rw [← hx] at hn0
  dsimp only at hn0
  clear hx hi
  obtain ⟨hn0, hi⟩ := hn0
  have hn8 := hn0.2.1 (by decide)
  have hn7 := hn0.1
  refine Arith.go (by lia) (fun n9 hn9 => ?_); replace hn9 : n9 = 1 + n0 := hn9; (cbv; repeat (refine Later.mk ?_; cbv))
  refine ALoop.goT (ι := NSt) (fun i => [(3, .ref i.p 2010000 0 i.m), (4, .int .i64 i.n)]) [7] [1000, 2010000] (fun i => [(1000, .box [.ro (A.enc cByte code), .int .i64 i.i, .int .i64 i.h]), (2010000, .arr 5 true (A.enc cNode i.l))]) (fun i => 0 ≤ i.i ∧ i.m = i.l.length ∧ 1 ≤ i.l.length ∧ i.l.length + i.n.toNat ≤ 20) (fun i => i.n.toNat) (⟨[⟨0, -1, 9223372036854775807, 0, 0⟩], n9, i, h, 1, true⟩) [99999] S.cx.tab S.cx.mix S.eq ?_ ?_ ?_
  · exact ⟨hi, rfl, Nat.le_refl _, by simp only [List.length_cons, List.length_nil]; lia⟩
  · ((cbv; repeat (refine Later.mk ?_; cbv)); refine Less.to [] rfl rfl ?_ ?_ <;> repeat' (first | exact trivial | exact ⟨rfl, rfl⟩ | exact ⟨_, rfl, Nat.zero_le _, rfl⟩ | apply And.intro | exact rfl))
  clear hi
  rintro ⟨l, n, i, h, m, p⟩ hk
  dsimp only at hk
  obtain ⟨hi, hm, hl1, hln⟩ := hk
  refine Rnd.mk ?_; (cbv; repeat (refine Later.mk ?_; cbv))
  refine Test.gtr (fun hg => ?_) (fun hg => ?_) <;> (cbv; repeat (refine Later.mk ?_; cbv))
  rotate_left
  · have hbb := onceF_ok code hb hc i h hi 40
    refine ACall.valN (r := rCurB) (os := oCur A code) (dp := false) S.cx (l1Once_c S code hb hc i h hi 40) ⟨rfl, (by repeat' (first | exact trivial | exact rfl | exact Nat.le_refl _ | exact S.cx.giveEq | exact S.cx.lendLe (by assumption) | exact S.cx.lendEq (by assumption) | exact S.cx.lendLe0 | exact S.cx.lendEq0 | exact S.cx.partLe (by assumption) | exact S.cx.partEq (by assumption) | exact .inl rfl | refine ⟨?_, ?_⟩)), (by repeat' (first | exact trivial | exact rfl | exact Nat.le_refl _ | exact S.cx.giveEq | exact S.cx.lendLe (by assumption) | exact S.cx.lendEq (by assumption) | exact S.cx.lendLe0 | exact S.cx.lendEq0 | exact S.cx.partLe (by assumption) | exact S.cx.partEq (by assumption) | exact .inl rfl | refine ⟨?_, ?_⟩))⟩ rfl (fun ln hln x hx => ⟨rfl, ?_⟩)
    obtain ⟨b, i, h⟩ := x
    (cbv; repeat (refine Later.mk ?_; cbv))
    rw [← hx] at hbb
    dsimp only at hbb
    clear hx hi
    obtain ⟨hbb, hi⟩ := hbb
    cases b <;> (cbv; repeat (refine Later.mk ?_; cbv))
    · exact Done.to (.own 5 true (A.enc cNode l)) [some (.box [.ro (A.enc cByte code), .int .i64 i, .int .i64 h])] rfl (by repeat' (first | exact trivial | exact rfl | exact resOwn S.cx rfl (by assumption) | exact resOwn S.cx rfl (S.cx.lenE _ _) | exact resOwn1 S.cx rfl (by assumption) | exact resOwnT S.cx rfl (by assumption) | exact S.cx.enc _ [] | refine ⟨?_, ?_⟩)) ⟨⟨⟨rfl, .inl rfl⟩, rfl, rfl, trivial⟩, trivial⟩ ⟨l, i, h, ⟨hl1, by omega⟩, hi, rfl, rfl⟩
    refine Len.nat (fun m2 hm2 hml2 => ?_); (cbv; repeat (refine Later.mk ?_; cbv))
    refine Arith.go (by lia) (fun q1 hq1 => ?_); replace hq1 : q1 = 60 - m2 := hq1; (cbv; repeat (refine Later.mk ?_; cbv))
    have hz := belowF_ok code hb hc i h hi 2
    refine ACall.valN (r := rCur) (os := oCur A code) (dp := false) S.cx (l1Below_c S code hb hc i h hi 2) ⟨rfl, (by repeat' (first | exact trivial | exact rfl | exact Nat.le_refl _ | exact S.cx.giveEq | exact S.cx.lendLe (by assumption) | exact S.cx.lendEq (by assumption) | exact S.cx.lendLe0 | exact S.cx.lendEq0 | exact S.cx.partLe (by assumption) | exact S.cx.partEq (by assumption) | exact .inl rfl | refine ⟨?_, ?_⟩)), (by repeat' (first | exact trivial | exact rfl | exact Nat.le_refl _ | exact S.cx.giveEq | exact S.cx.lendLe (by assumption) | exact S.cx.lendEq (by assumption) | exact S.cx.lendLe0 | exact S.cx.lendEq0 | exact S.cx.partLe (by assumption) | exact S.cx.partEq (by assumption) | exact .inl rfl | refine ⟨?_, ?_⟩))⟩ rfl (fun ln hln x hx => ⟨rfl, ?_⟩)
    obtain ⟨z, i, h⟩ := x
    (cbv; repeat (refine Later.mk ?_; cbv))
    rw [← hx] at hz
    dsimp only at hz
    clear hx hi
    obtain ⟨hz, hi⟩ := hz
    have hz2 := hz.2.1 (by decide)
    have hz1 := hz.1
    refine Arith.go (by lia) (fun q2 hq2 => ?_); replace hq2 : q2 = q1 - z := hq2; (cbv; repeat (refine Later.mk ?_; cbv))
    refine ALoop.goT (ι := NSt) (fun i => [(3, .ref i.p 2010000 0 i.m), (5, .int .i64 i.n)]) [30] [1000, 2010000] (fun i => [(1000, .box [.ro (A.enc cByte code), .int .i64 i.i, .int .i64 i.h]), (2010000, .arr 5 true (A.enc cNode i.l))]) (fun i => 0 ≤ i.i ∧ i.m = i.l.length ∧ 1 ≤ i.l.length ∧ i.l.length + i.n.toNat ≤ 70) (fun i => i.n.toNat) (⟨l, q2, i, h, m, p⟩) [99999] S.cx.tab S.cx.mix S.eq ?_ ?_ ?_
    · exact ⟨hi, hm, hl1, by dsimp only; lia⟩
    · ((cbv; repeat (refine Later.mk ?_; cbv)); refine Less.to [] rfl rfl ?_ ?_ <;> repeat' (first | exact trivial | exact ⟨rfl, rfl⟩ | exact ⟨_, rfl, Nat.zero_le _, rfl⟩ | apply And.intro | exact rfl))
    clear hi
    rintro ⟨l, n, i, h, m, p⟩ hk
    dsimp only at hk
    obtain ⟨hi, hm, hl1, hln⟩ := hk
    refine Rnd.mk ?_; (cbv; repeat (refine Later.mk ?_; cbv))
    refine Test.gtr (fun hg => ?_) (fun hg => ?_) <;> (cbv; repeat (refine Later.mk ?_; cbv))
    rotate_left
    · exact Done.to (.own 5 true (A.enc cNode l)) [some (.box [.ro (A.enc cByte code), .int .i64 i, .int .i64 h])] rfl (by repeat' (first | exact trivial | exact rfl | exact resOwn S.cx rfl (by assumption) | exact resOwn S.cx rfl (S.cx.lenE _ _) | exact resOwn1 S.cx rfl (by assumption) | exact resOwnT S.cx rfl (by assumption) | exact S.cx.enc _ [] | refine ⟨?_, ?_⟩)) ⟨⟨⟨rfl, .inl rfl⟩, rfl, rfl, trivial⟩, trivial⟩ ⟨l, i, h, ⟨hl1, by omega⟩, hi, rfl, rfl⟩
    refine Len.nat (fun m3 hm3 hml3 => ?_); (cbv; repeat (refine Later.mk ?_; cbv))
    refine ACall.of (dp := false) (l5DrawNode_c S code hb hc i h hi m3 (by lia)) ⟨rfl, (by repeat' (first | exact trivial | exact rfl | exact Nat.le_refl _ | exact S.cx.giveEq | exact S.cx.lendLe (by assumption) | exact S.cx.lendEq (by assumption) | exact S.cx.lendLe0 | exact S.cx.lendEq0 | exact S.cx.partLe (by assumption) | exact S.cx.partEq (by assumption) | exact .inl rfl | refine ⟨?_, ?_⟩)), (by repeat' (first | exact trivial | exact rfl | exact Nat.le_refl _ | exact S.cx.giveEq | exact S.cx.lendLe (by assumption) | exact S.cx.lendEq (by assumption) | exact S.cx.lendLe0 | exact S.cx.lendEq0 | exact S.cx.partLe (by assumption) | exact S.cx.partEq (by assumption) | exact .inl rfl | refine ⟨?_, ?_⟩))⟩ (fun v os hv => ?_)
    clear hi
    obtain ⟨⟨kind, up, due, key, value⟩, i, h, hi, rfl, rfl⟩ := hv
    refine ⟨rfl, ?_⟩; (cbv; repeat (refine Later.mk ?_; cbv))
    refine Part.one ?_; (cbv; repeat (refine Later.mk ?_; cbv))
    refine AppRef.push S.cx (⟨kind, up, due, key, value⟩ : Node) (by assumption) rfl rfl plainNode (fun _ => rfl) (by simp only [maxBytes]; omega) (fun m9 w hw hml9 => ?_); (cbv; repeat (refine Later.mk ?_; cbv))
    have hwl : w.length = l.length + 1 := by rw [hw, List.length_append]; rfl
    refine Arith.go (by lia) (fun n' hn' => ?_); (cbv; repeat (refine Later.mk ?_; cbv))
    replace hn' : n' = n - 1 := hn'
    refine Again.on (⟨w, n', i, h, m9, false⟩ : NSt) (by dsimp only; lia) ⟨hi, hml9, by dsimp only; omega, by dsimp only; lia⟩ ?_
    ((cbv; repeat (refine Later.mk ?_; cbv)); refine Less.to [(2010000, (13060000, 0))] rfl rfl ?_ ?_ <;> repeat' (first | exact trivial | exact ⟨rfl, rfl⟩ | exact ⟨_, rfl, Nat.zero_le _, rfl⟩ | apply And.intro | exact rfl))
  have hbb := onceF_ok code hb hc i h hi 12
  refine ACall.valN (r := rCurB) (os := oCur A code) (dp := false) S.cx (l1Once_c S code hb hc i h hi 12) ⟨rfl, (by repeat' (first | exact trivial | exact rfl | exact Nat.le_refl _ | exact S.cx.giveEq | exact S.cx.lendLe (by assumption) | exact S.cx.lendEq (by assumption) | exact S.cx.lendLe0 | exact S.cx.lendEq0 | exact S.cx.partLe (by assumption) | exact S.cx.partEq (by assumption) | exact .inl rfl | refine ⟨?_, ?_⟩)), (by repeat' (first | exact trivial | exact rfl | exact Nat.le_refl _ | exact S.cx.giveEq | exact S.cx.lendLe (by assumption) | exact S.cx.lendEq (by assumption) | exact S.cx.lendLe0 | exact S.cx.lendEq0 | exact S.cx.partLe (by assumption) | exact S.cx.partEq (by assumption) | exact .inl rfl | refine ⟨?_, ?_⟩))⟩ rfl (fun ln hln x hx => ⟨rfl, ?_⟩)
  obtain ⟨b, i, h⟩ := x
  (cbv; repeat (refine Later.mk ?_; cbv))
  rw [← hx] at hbb
  dsimp only at hbb
  clear hx hi
  obtain ⟨hbb, hi⟩ := hbb
  cases b <;> (cbv; repeat (refine Later.mk ?_; cbv))
  · refine Len.nat (fun m3 hm3 hml3 => ?_); (cbv; repeat (refine Later.mk ?_; cbv))
    refine ACall.of (dp := false) (l5DrawNode_c S code hb hc i h hi m3 (by lia)) ⟨rfl, (by repeat' (first | exact trivial | exact rfl | exact Nat.le_refl _ | exact S.cx.giveEq | exact S.cx.lendLe (by assumption) | exact S.cx.lendEq (by assumption) | exact S.cx.lendLe0 | exact S.cx.lendEq0 | exact S.cx.partLe (by assumption) | exact S.cx.partEq (by assumption) | exact .inl rfl | refine ⟨?_, ?_⟩)), (by repeat' (first | exact trivial | exact rfl | exact Nat.le_refl _ | exact S.cx.giveEq | exact S.cx.lendLe (by assumption) | exact S.cx.lendEq (by assumption) | exact S.cx.lendLe0 | exact S.cx.lendEq0 | exact S.cx.partLe (by assumption) | exact S.cx.partEq (by assumption) | exact .inl rfl | refine ⟨?_, ?_⟩))⟩ (fun v os hv => ?_)
    clear hi
    obtain ⟨⟨kind, up, due, key, value⟩, i, h, hi, rfl, rfl⟩ := hv
    refine ⟨rfl, ?_⟩; (cbv; repeat (refine Later.mk ?_; cbv))
    refine Part.one ?_; (cbv; repeat (refine Later.mk ?_; cbv))
    refine AppRef.push S.cx (⟨kind, up, due, key, value⟩ : Node) (by assumption) rfl rfl plainNode (fun _ => rfl) (by simp only [maxBytes]; omega) (fun m9 w hw hml9 => ?_); (cbv; repeat (refine Later.mk ?_; cbv))
    have hwl : w.length = l.length + 1 := by rw [hw, List.length_append]; rfl
    refine Arith.go (by lia) (fun n' hn' => ?_); (cbv; repeat (refine Later.mk ?_; cbv))
    replace hn' : n' = n - 1 := hn'
    refine Again.on (⟨w, n', i, h, m9, false⟩ : NSt) (by dsimp only; lia) ⟨hi, hml9, by dsimp only; omega, by dsimp only; lia⟩ ?_
    ((cbv; repeat (refine Later.mk ?_; cbv)); refine Less.to [(2010000, (8060000, 0))] rfl rfl ?_ ?_ <;> repeat' (first | exact trivial | exact ⟨rfl, rfl⟩ | exact ⟨_, rfl, Nat.zero_le _, rfl⟩ | apply And.intro | exact rfl))
  refine Part.one ?_; (cbv; repeat (refine Later.mk ?_; cbv))
  refine AppRef.push S.cx (⟨0, -1, 9223372036854775807, 0, 0⟩ : Node) (by assumption) rfl rfl plainNode (fun _ => rfl) (by simp only [maxBytes]; omega) (fun m9 w hw hml9 => ?_); (cbv; repeat (refine Later.mk ?_; cbv))
  have hwl : w.length = l.length + 1 := by rw [hw, List.length_append]; rfl
  refine Arith.go (by lia) (fun n' hn' => ?_); (cbv; repeat (refine Later.mk ?_; cbv))
  replace hn' : n' = n - 1 := hn'
  refine Again.on (⟨w, n', i, h, m9, false⟩ : NSt) (by dsimp only; lia) ⟨hi, hml9, by dsimp only; omega, by dsimp only; lia⟩ ?_
  ((cbv; repeat (refine Later.mk ?_; cbv)); refine Less.to [(2010000, (7030000, 0))] rfl rfl ?_ ?_ <;> repeat' (first | exact trivial | exact ⟨rfl, rfl⟩ | exact ⟨_, rfl, Nat.zero_le _, rfl⟩ | apply And.intro | exact rfl))

theorem l5DrawAny_c (S : Se P A) (code : List Int) (hb : code.length ≤ 4096) (hc : ∀ b ∈ code, 0 ≤ b ∧ b ≤ 255) (i h : Int) (hi : 0 ≤ i) : SoundM P 133 true [.ptr 1000 0 0] [.box [.ro (A.enc cByte code), .int .i64 i, .int .i64 h]]
    (fun v os => ∃ (l : List Node) (i' h' : Int), (1 ≤ l.length ∧ l.length ≤ 100) ∧ 0 ≤ i' ∧ v = .own 5 true (A.enc cNode l) ∧ os = [some (.box [.ro (A.enc cByte code), .int .i64 i', .int .i64 h'])]) := by
  refine S.cx.byS [99999] (S.prog ▸ Try.func133) rfl rfl rfl rfl (fun ln hln hv ho => ?_)
  (cbv; repeat (refine Later.mk ?_; cbv))
  refine ACall.ofN (dp := false) S.cx (l5Draw_c S code hb hc i h hi) ⟨rfl, (by repeat' (first | exact trivial | exact rfl | exact Nat.le_refl _ | exact S.cx.giveEq | exact S.cx.lendLe (by assumption) | exact S.cx.lendEq (by assumption) | exact S.cx.lendLe0 | exact S.cx.lendEq0 | exact S.cx.partLe (by assumption) | exact S.cx.partEq (by assumption) | exact .inl rfl | refine ⟨?_, ?_⟩)), (by repeat' (first | exact trivial | exact rfl | exact Nat.le_refl _ | exact S.cx.giveEq | exact S.cx.lendLe (by assumption) | exact S.cx.lendEq (by assumption) | exact S.cx.lendLe0 | exact S.cx.lendEq0 | exact S.cx.partLe (by assumption) | exact S.cx.partEq (by assumption) | exact .inl rfl | refine ⟨?_, ?_⟩))⟩ (fun ln hln v os hv => ?_)
  clear hi
  obtain ⟨l, i, h, hl, hi, rfl, rfl⟩ := hv
  refine ⟨rfl, ?_⟩; (cbv; repeat (refine Later.mk ?_; cbv))
  have hN := hln cNode l
  generalize ln (A.enc cNode l) = N at hN ⊢
  have hbb := onceF_ok code hb hc i h hi 8
  refine ACall.valN (r := rCurB) (os := oCur A code) (dp := false) S.cx (l1Once_c S code hb hc i h hi 8) ⟨rfl, (by repeat' (first | exact trivial | exact rfl | exact Nat.le_refl _ | exact S.cx.giveEq | exact S.cx.lendLe (by assumption) | exact S.cx.lendEq (by assumption) | exact S.cx.lendLe0 | exact S.cx.lendEq0 | exact S.cx.partLe (by assumption) | exact S.cx.partEq (by assumption) | exact .inl rfl | refine ⟨?_, ?_⟩)), (by repeat' (first | exact trivial | exact rfl | exact Nat.le_refl _ | exact S.cx.giveEq | exact S.cx.lendLe (by assumption) | exact S.cx.lendEq (by assumption) | exact S.cx.lendLe0 | exact S.cx.lendEq0 | exact S.cx.partLe (by assumption) | exact S.cx.partEq (by assumption) | exact .inl rfl | refine ⟨?_, ?_⟩))⟩ rfl (fun ln hln x hx => ⟨rfl, ?_⟩)
  obtain ⟨b, i, h⟩ := x
  (cbv; repeat (refine Later.mk ?_; cbv))
  rw [← hx] at hbb
  dsimp only at hbb
  clear hx hi
  obtain ⟨hbb, hi⟩ := hbb
  cases b <;> (cbv; repeat (refine Later.mk ?_; cbv))
  · exact Done.to (.own 5 true (A.enc cNode l)) [some (.box [.ro (A.enc cByte code), .int .i64 i, .int .i64 h])] rfl (by repeat' (first | exact trivial | exact rfl | exact resOwn S.cx rfl (by assumption) | exact resOwn S.cx rfl (S.cx.lenE _ _) | exact resOwn1 S.cx rfl (by assumption) | exact resOwnT S.cx rfl (by assumption) | exact S.cx.enc _ [] | refine ⟨?_, ?_⟩)) ⟨⟨⟨rfl, .inl rfl⟩, rfl, rfl, trivial⟩, trivial⟩ ⟨l, i, h, hl, hi, rfl, rfl⟩
  refine Len.nat (fun m hm hml => ?_); (cbv; repeat (refine Later.mk ?_; cbv))
  have hk := belowF_ok code hb hc i h hi m
  refine ACall.valN (r := rCur) (os := oCur A code) (dp := false) S.cx (l1Below_c S code hb hc i h hi m) ⟨rfl, (by repeat' (first | exact trivial | exact rfl | exact Nat.le_refl _ | exact S.cx.giveEq | exact S.cx.lendLe (by assumption) | exact S.cx.lendEq (by assumption) | exact S.cx.lendLe0 | exact S.cx.lendEq0 | exact S.cx.partLe (by assumption) | exact S.cx.partEq (by assumption) | exact .inl rfl | refine ⟨?_, ?_⟩)), (by repeat' (first | exact trivial | exact rfl | exact Nat.le_refl _ | exact S.cx.giveEq | exact S.cx.lendLe (by assumption) | exact S.cx.lendEq (by assumption) | exact S.cx.lendLe0 | exact S.cx.lendEq0 | exact S.cx.partLe (by assumption) | exact S.cx.partEq (by assumption) | exact .inl rfl | refine ⟨?_, ?_⟩))⟩ rfl (fun ln hln x hx => ⟨rfl, ?_⟩)
  obtain ⟨k, i, h⟩ := x
  (cbv; repeat (refine Later.mk ?_; cbv))
  rw [← hx] at hk
  dsimp only at hk
  clear hx hi
  obtain ⟨hk, hi⟩ := hk
  have hk2 := hk.2.1 (by lia)
  have hk1 := hk.1
  refine ElemRef.go rfl (by lia) (by lia) (by rw [S.cx.lenE']; lia) (fun row hrow => ?_); (cbv; repeat (refine Later.mk ?_; cbv))
  refine Row.enc S.cx (by lia) (fun x hxx => ?_)
  obtain ⟨kind, up, due, key, value⟩ := x
  (cbv; repeat (refine Later.mk ?_; cbv))
  refine ACall.of (dp := false) (l5BendNode_c S code hb hc i h hi kind up due key value) ⟨rfl, (by repeat' (first | exact trivial | exact rfl | exact Nat.le_refl _ | exact S.cx.giveEq | exact S.cx.lendLe (by assumption) | exact S.cx.lendEq (by assumption) | exact S.cx.lendLe0 | exact S.cx.lendEq0 | exact S.cx.partLe (by assumption) | exact S.cx.partEq (by assumption) | exact .inl rfl | refine ⟨?_, ?_⟩)), (by repeat' (first | exact trivial | exact rfl | exact Nat.le_refl _ | exact S.cx.giveEq | exact S.cx.lendLe (by assumption) | exact S.cx.lendEq (by assumption) | exact S.cx.lendLe0 | exact S.cx.lendEq0 | exact S.cx.partLe (by assumption) | exact S.cx.partEq (by assumption) | exact .inl rfl | refine ⟨?_, ?_⟩))⟩ (fun v os hv => ?_)
  clear hi
  obtain ⟨⟨kind2, up2, due2, key2, value2⟩, i, h, hi, rfl, rfl⟩ := hv
  refine ⟨rfl, ?_⟩; (cbv; repeat (refine Later.mk ?_; cbv))
  refine ElemRef.go rfl (by lia) (by lia) (by rw [S.cx.lenE']; lia) (fun row2 hrow2 => ?_); (cbv; repeat (refine Later.mk ?_; cbv))
  refine RowSet.enc S.cx (⟨kind, up, due, key, value⟩ : Node) ⟨kind2, up2, due2, key2, value2⟩ (by rw [show row2 = row by omega]; exact hxx) rfl (by show (5 : Nat) ≤ 5; decide) rfl (fun l2 hl2 => ?_); (cbv; repeat (refine Later.mk ?_; cbv))
  have hl2l : l2.length = l.length := by rw [hl2, List.length_set]
  have hN2 : N = l2.length := by omega
  exact Done.to (.own 5 true (A.enc cNode l2)) [some (.box [.ro (A.enc cByte code), .int .i64 i, .int .i64 h])] rfl (by repeat' (first | exact trivial | exact rfl | exact resOwn S.cx rfl (by assumption) | exact resOwn S.cx rfl (S.cx.lenE _ _) | exact resOwn1 S.cx rfl (by assumption) | exact resOwnT S.cx rfl (by assumption) | exact S.cx.enc _ [] | refine ⟨?_, ?_⟩)) ⟨⟨⟨rfl, .inl rfl⟩, rfl, rfl, trivial⟩, trivial⟩ ⟨l2, i, h, by omega, hi, rfl, rfl⟩

structure PSt where
  told : List Bool
  work : List Int
  n : Int
  i : Int
  h : Int
  un : Nat
  wn : Nat

def PSt.ok (t : List Node) (s : PSt) : Prop := 0 ≤ s.i ∧ s.un = s.told.length ∧ s.wn = s.work.length ∧ SpreadOk t ⟨s.told, s.work⟩ ∧ s.n ≤ 300

theorem l7Draw_c (S : Se P A) (code : List Int) (hb : code.length ≤ 4096) (hc : ∀ b ∈ code, 0 ≤ b ∧ b ≤ 255) (i h : Int) (hi : 0 ≤ i) (t : List Node) (ht : TreeOk t) (N : Nat) (hN : N = t.length) : SoundM P 142 true [.ptr 1000 0 0, .ref false 2000 0 N] [.box [.ro (A.enc cByte code), .int .i64 i, .int .i64 h], .arr 5 true (A.enc cNode t)]
    (fun v os => ∃ (s : Spread) (i' h' : Int), SpreadOk t s ∧ 0 ≤ i' ∧ v = .agg (ownSpread A s) ∧ os = [some (.box [.ro (A.enc cByte code), .int .i64 i', .int .i64 h']), some (.arr 5 true (A.enc cNode t))]) := by
  have ht60 := ht.1
  refine S.cx.byS [99999] (S.prog ▸ Try.func142) rfl rfl rfl rfl (fun ln hln hv ho => ?_)
  (cbv; repeat (refine Later.mk ?_; cbv))
  refine Len.nat (fun L0 hL0 hmL => ?_); (cbv; repeat (refine Later.mk ?_; cbv))
  refine MakeS.enc S.cx (f := cBool) (false : Bool) rfl (by lia) (by simp only [maxBytes]; lia) (fun U z hU hz => ?_); (cbv; repeat (refine Later.mk ?_; cbv))
  have hUz : U = z.length := by rw [hz]; simp
  have hok0 : SpreadOk t ⟨z, []⟩ := ⟨ht, by dsimp only; lia, Nat.zero_le _, by simp⟩
  have hn0 := belowF_ok code hb hc i h hi 4
  refine ACall.valN (r := rCur) (os := oCur A code) (dp := false) S.cx (l1Below_c S code hb hc i h hi 4) ⟨rfl, (by repeat' (first | exact trivial | exact rfl | exact Nat.le_refl _ | exact S.cx.giveEq | exact S.cx.lendLe (by assumption) | exact S.cx.lendEq (by assumption) | exact S.cx.lendLe0 | exact S.cx.lendEq0 | exact S.cx.partLe (by assumption) | exact S.cx.partEq (by assumption) | exact .inl rfl | refine ⟨?_, ?_⟩)), (by repeat' (first | exact trivial | exact rfl | exact Nat.le_refl _ | exact S.cx.giveEq | exact S.cx.lendLe (by assumption) | exact S.cx.lendEq (by assumption) | exact S.cx.lendLe0 | exact S.cx.lendEq0 | exact S.cx.partLe (by assumption) | exact S.cx.partEq (by assumption) | exact .inl rfl | refine ⟨?_, ?_⟩))⟩ rfl (fun ln hln x hx => ⟨rfl, ?_⟩)
  obtain ⟨n0, i, h⟩ := x
  (cbv; repeat (refine Later.mk ?_; cbv))
  rw [← hx] at hn0
  dsimp only at hn0
  clear hx hi
  obtain ⟨hn0, hi⟩ := hn0
  have hn8 := hn0.2.1 (by decide)
  refine ALoop.pre (Less.initCell S.cx cInt64 999000001 1 true 2040000 1 rfl rfl rfl) ?_
  (cbv; repeat (refine Later.mk ?_; cbv))
  refine ALoop.goT (ι := PSt) (fun i => [(6, .int .i64 i.n)]) [11, 12] [1000, 2040000, 2020000, 999000001] (fun i => [(1000, .box [.ro (A.enc cByte code), .int .i64 i.i, .int .i64 i.h]), (2040000, .box [.ref false 2020000 0 i.un, .ref false 999000001 0 i.wn]), (2020000, .arr 1 true (A.enc cBool i.told)), (999000001, .arr 1 true (A.enc cInt64 i.work))]) (fun i => i.ok t) (fun i => i.n.toNat) (⟨z, [], n0, i, h, U, 0⟩) [99999] S.cx.tab S.cx.mix S.eq ?_ ?_ ?_
  · exact ⟨hi, hUz, rfl, hok0, by dsimp only; lia⟩
  · ((cbv; repeat (refine Later.mk ?_; cbv)); refine Less.to [] rfl rfl ?_ ?_ <;> repeat' (first | exact trivial | exact ⟨rfl, rfl⟩ | exact ⟨_, rfl, Nat.zero_le _, rfl⟩ | apply And.intro | exact rfl))
  clear hi
  rintro ⟨told, work, n, i, h, un, wn⟩ hk
  unfold PSt.ok at hk
  dsimp only at hk
  obtain ⟨hi, hun, hwn, hok, hn0⟩ := hk
  refine Rnd.mk ?_; (cbv; repeat (refine Later.mk ?_; cbv))
  refine Test.gtr (fun hg => ?_) (fun hg => ?_) <;> (cbv; repeat (refine Later.mk ?_; cbv))
  rotate_left
  · have hn1 := belowF_ok code hb hc i h hi 6
    refine ACall.valN (r := rCur) (os := oCur A code) (dp := false) S.cx (l1Below_c S code hb hc i h hi 6) ⟨rfl, (by repeat' (first | exact trivial | exact rfl | exact Nat.le_refl _ | exact S.cx.giveEq | exact S.cx.lendLe (by assumption) | exact S.cx.lendEq (by assumption) | exact S.cx.lendLe0 | exact S.cx.lendEq0 | exact S.cx.partLe (by assumption) | exact S.cx.partEq (by assumption) | exact .inl rfl | refine ⟨?_, ?_⟩)), (by repeat' (first | exact trivial | exact rfl | exact Nat.le_refl _ | exact S.cx.giveEq | exact S.cx.lendLe (by assumption) | exact S.cx.lendEq (by assumption) | exact S.cx.lendLe0 | exact S.cx.lendEq0 | exact S.cx.partLe (by assumption) | exact S.cx.partEq (by assumption) | exact .inl rfl | refine ⟨?_, ?_⟩))⟩ rfl (fun ln hln x hx => ⟨rfl, ?_⟩)
    obtain ⟨n1, i, h⟩ := x
    (cbv; repeat (refine Later.mk ?_; cbv))
    rw [← hx] at hn1
    dsimp only at hn1
    clear hx hi
    obtain ⟨hn1, hi⟩ := hn1
    have hn18 := hn1.2.1 (by decide)
    refine ALoop.goT (ι := PSt) (fun i => [(7, .int .i64 i.n)]) [] [1000, 2040000, 2020000, 999000001] (fun i => [(1000, .box [.ro (A.enc cByte code), .int .i64 i.i, .int .i64 i.h]), (2040000, .box [.ref false 2020000 0 i.un, .ref false 999000001 0 i.wn]), (2020000, .arr 1 true (A.enc cBool i.told)), (999000001, .arr 1 true (A.enc cInt64 i.work))]) (fun i => i.ok t) (fun i => i.n.toNat) (⟨told, work, n1, i, h, un, wn⟩) [99999] S.cx.tab S.cx.mix S.eq ?_ ?_ ?_
    · exact ⟨hi, hun, hwn, hok, by dsimp only; lia⟩
    · ((cbv; repeat (refine Later.mk ?_; cbv)); refine Less.to [] rfl rfl ?_ ?_ <;> repeat' (first | exact trivial | exact ⟨rfl, rfl⟩ | exact ⟨_, rfl, Nat.zero_le _, rfl⟩ | apply And.intro | exact rfl))
    clear hi
    rintro ⟨told, work, n, i, h, un, wn⟩ hk
    unfold PSt.ok at hk
    dsimp only at hk
    obtain ⟨hi, hun, hwn, hok, hn0⟩ := hk
    refine Rnd.mk ?_; (cbv; repeat (refine Later.mk ?_; cbv))
    refine Test.gtr (fun hg => ?_) (fun hg => ?_) <;> (cbv; repeat (refine Later.mk ?_; cbv))
    rotate_left
    · have hbb := onceF_ok code hb hc i h hi 30
      refine ACall.valN (r := rCurB) (os := oCur A code) (dp := false) S.cx (l1Once_c S code hb hc i h hi 30) ⟨rfl, (by repeat' (first | exact trivial | exact rfl | exact Nat.le_refl _ | exact S.cx.giveEq | exact S.cx.lendLe (by assumption) | exact S.cx.lendEq (by assumption) | exact S.cx.lendLe0 | exact S.cx.lendEq0 | exact S.cx.partLe (by assumption) | exact S.cx.partEq (by assumption) | exact .inl rfl | refine ⟨?_, ?_⟩)), (by repeat' (first | exact trivial | exact rfl | exact Nat.le_refl _ | exact S.cx.giveEq | exact S.cx.lendLe (by assumption) | exact S.cx.lendEq (by assumption) | exact S.cx.lendLe0 | exact S.cx.lendEq0 | exact S.cx.partLe (by assumption) | exact S.cx.partEq (by assumption) | exact .inl rfl | refine ⟨?_, ?_⟩))⟩ rfl (fun ln hln x hx => ⟨rfl, ?_⟩)
      obtain ⟨b, i, h⟩ := x
      (cbv; repeat (refine Later.mk ?_; cbv))
      rw [← hx] at hbb
      dsimp only at hbb
      clear hx hi
      obtain ⟨hbb, hi⟩ := hbb
      cases b <;> (cbv; repeat (refine Later.mk ?_; cbv))
      · exact Done.to (.agg (ownSpread A ⟨told, work⟩)) [some (.box [.ro (A.enc cByte code), .int .i64 i, .int .i64 h]), some (.arr 5 true (A.enc cNode t))] rfl (by repeat' (first | exact trivial | exact rfl | exact resOwn S.cx rfl (by assumption) | exact resOwn S.cx rfl (S.cx.lenE _ _) | exact resOwn1 S.cx rfl (by assumption) | exact resOwnT S.cx rfl (by assumption) | exact S.cx.enc _ [] | refine ⟨?_, ?_⟩)) ⟨⟨⟨rfl, .inl rfl⟩, rfl, rfl, trivial⟩, (by repeat' (first | exact trivial | exact rfl | exact resOwn S.cx rfl (by assumption) | exact resOwn S.cx rfl (S.cx.lenE _ _) | exact resOwn1 S.cx rfl (by assumption) | exact resOwnT S.cx rfl (by assumption) | exact S.cx.enc _ [] | refine ⟨?_, ?_⟩))⟩ ⟨⟨told, work⟩, i, h, hok, hi, rfl, rfl⟩
      have hwb : work.length ≤ 240 := hok.2.2.1
      (try (refine Drawn.mk ⟨by kernel_rfl, fun _ => ?_⟩)); (repeat (refine Later.mk ?_; cbv))
      refine Len.dr (by simp only [maxLen]; omega) (fun wl hwl => ?_); (cbv; repeat (refine Later.mk ?_; cbv))
      refine Arith.go (by lia) (fun q1 hq1 => ?_); replace hq1 : q1 = 240 - wl := hq1; (cbv; repeat (refine Later.mk ?_; cbv))
      have hz3 := belowF_ok code hb hc i h hi 3
      refine ACall.valN (r := rCur) (os := oCur A code) (dp := false) S.cx (l1Below_c S code hb hc i h hi 3) ⟨rfl, (by repeat' (first | exact trivial | exact rfl | exact Nat.le_refl _ | exact S.cx.giveEq | exact S.cx.lendLe (by assumption) | exact S.cx.lendEq (by assumption) | exact S.cx.lendLe0 | exact S.cx.lendEq0 | exact S.cx.partLe (by assumption) | exact S.cx.partEq (by assumption) | exact .inl rfl | refine ⟨?_, ?_⟩)), (by repeat' (first | exact trivial | exact rfl | exact Nat.le_refl _ | exact S.cx.giveEq | exact S.cx.lendLe (by assumption) | exact S.cx.lendEq (by assumption) | exact S.cx.lendLe0 | exact S.cx.lendEq0 | exact S.cx.partLe (by assumption) | exact S.cx.partEq (by assumption) | exact .inl rfl | refine ⟨?_, ?_⟩))⟩ rfl (fun ln hln x hx => ⟨rfl, ?_⟩)
      obtain ⟨z3, i, h⟩ := x
      (cbv; repeat (refine Later.mk ?_; cbv))
      rw [← hx] at hz3
      dsimp only at hz3
      clear hx hi
      obtain ⟨hz3, hi⟩ := hz3
      have hz38 := hz3.2.1 (by decide)
      have hz37 := hz3.1
      refine Arith.go (by lia) (fun q2 hq2 => ?_); replace hq2 : q2 = q1 - z3 := hq2; (cbv; repeat (refine Later.mk ?_; cbv))
      refine ALoop.goT (ι := PSt) (fun i => [(8, .int .i64 i.n)]) [44] [1000, 2040000, 2020000, 999000001] (fun i => [(1000, .box [.ro (A.enc cByte code), .int .i64 i.i, .int .i64 i.h]), (2040000, .box [.ref false 2020000 0 i.un, .ref false 999000001 0 i.wn]), (2020000, .arr 1 true (A.enc cBool i.told)), (999000001, .arr 1 true (A.enc cInt64 i.work))]) (fun i => i.ok t) (fun i => i.n.toNat) (⟨told, work, q2, i, h, un, wn⟩) [99999] S.cx.tab S.cx.mix S.eq ?_ ?_ ?_
      · exact ⟨hi, hun, hwn, hok, by dsimp only; lia⟩
      · ((cbv; repeat (refine Later.mk ?_; cbv)); refine Less.to [] rfl rfl ?_ ?_ <;> repeat' (first | exact trivial | exact ⟨rfl, rfl⟩ | exact ⟨_, rfl, Nat.zero_le _, rfl⟩ | apply And.intro | exact rfl))
      clear hi
      rintro ⟨told, work, n, i, h, un, wn⟩ hk
      unfold PSt.ok at hk
      dsimp only at hk
      obtain ⟨hi, hun, hwn, hok, hn0⟩ := hk
      refine Rnd.mk ?_; (cbv; repeat (refine Later.mk ?_; cbv))
      refine Test.gtr (fun hg => ?_) (fun hg => ?_) <;> (cbv; repeat (refine Later.mk ?_; cbv))
      rotate_left
      · exact Done.to (.agg (ownSpread A ⟨told, work⟩)) [some (.box [.ro (A.enc cByte code), .int .i64 i, .int .i64 h]), some (.arr 5 true (A.enc cNode t))] rfl (by repeat' (first | exact trivial | exact rfl | exact resOwn S.cx rfl (by assumption) | exact resOwn S.cx rfl (S.cx.lenE _ _) | exact resOwn1 S.cx rfl (by assumption) | exact resOwnT S.cx rfl (by assumption) | exact S.cx.enc _ [] | refine ⟨?_, ?_⟩)) ⟨⟨⟨rfl, .inl rfl⟩, rfl, rfl, trivial⟩, (by repeat' (first | exact trivial | exact rfl | exact resOwn S.cx rfl (by assumption) | exact resOwn S.cx rfl (S.cx.lenE _ _) | exact resOwn1 S.cx rfl (by assumption) | exact resOwnT S.cx rfl (by assumption) | exact S.cx.enc _ [] | refine ⟨?_, ?_⟩))⟩ ⟨⟨told, work⟩, i, h, hok, hi, rfl, rfl⟩
      (try (refine Drawn.mk ⟨by kernel_rfl, fun _ => ?_⟩)); (repeat (refine Later.mk ?_; cbv))
      refine Len.dr (by simp only [maxLen]; omega) (fun tl htl => ?_); (cbv; repeat (refine Later.mk ?_; cbv))
      have hk := belowF_ok code hb hc i h hi tl
      refine ACall.valN (r := rCur) (os := oCur A code) (dp := false) S.cx (l1Below_c S code hb hc i h hi tl) ⟨rfl, (by repeat' (first | exact trivial | exact rfl | exact Nat.le_refl _ | exact S.cx.giveEq | exact S.cx.lendLe (by assumption) | exact S.cx.lendEq (by assumption) | exact S.cx.lendLe0 | exact S.cx.lendEq0 | exact S.cx.partLe (by assumption) | exact S.cx.partEq (by assumption) | exact .inl rfl | refine ⟨?_, ?_⟩)), (by repeat' (first | exact trivial | exact rfl | exact Nat.le_refl _ | exact S.cx.giveEq | exact S.cx.lendLe (by assumption) | exact S.cx.lendEq (by assumption) | exact S.cx.lendLe0 | exact S.cx.lendEq0 | exact S.cx.partLe (by assumption) | exact S.cx.partEq (by assumption) | exact .inl rfl | refine ⟨?_, ?_⟩))⟩ rfl (fun ln hln x hx => ⟨rfl, ?_⟩)
      obtain ⟨k, i, h⟩ := x
      (cbv; repeat (refine Later.mk ?_; cbv))
      rw [← hx] at hk
      dsimp only at hk
      clear hx hi
      obtain ⟨hk, hi⟩ := hk
      refine ACall.valN (r := rSpB A) (os := fun _ => []) (dp := false) S.cx (specBegun_c S t told work k) ⟨rfl, (by repeat' (first | exact trivial | exact rfl | exact Nat.le_refl _ | exact S.cx.giveEq | exact S.cx.lendLe (by assumption) | exact S.cx.lendEq (by assumption) | exact S.cx.lendLe0 | exact S.cx.lendEq0 | exact S.cx.partLe (by assumption) | exact S.cx.partEq (by assumption) | exact .inl rfl | refine ⟨?_, ?_⟩)), (by repeat' (first | exact trivial | exact rfl | exact Nat.le_refl _ | exact S.cx.giveEq | exact S.cx.lendLe (by assumption) | exact S.cx.lendEq (by assumption) | exact S.cx.lendLe0 | exact S.cx.lendEq0 | exact S.cx.partLe (by assumption) | exact S.cx.partEq (by assumption) | exact .inl rfl | refine ⟨?_, ?_⟩))⟩ rfl (fun ln hln x hx => ⟨rfl, ?_⟩)
      obtain ⟨⟨told1, work1⟩, b⟩ := x
      (cbv; repeat (refine Later.mk ?_; cbv))
      have hN1 := hln cBool told1
      generalize ln (A.enc cBool told1) = N1 at hN1 ⊢
      have hM1 := hln cInt64 work1
      generalize ln (A.enc cInt64 work1) = M1 at hM1 ⊢
      have hok2 := begun_ok hok k
      rw [← hx] at hok2
      clear hx
      refine Arith.go (by lia) (fun n' hn' => ?_); (cbv; repeat (refine Later.mk ?_; cbv))
      replace hn' : n' = n - 1 := hn'
      refine Again.on (⟨told1, work1, n', i, h, N1, M1⟩ : PSt) (by dsimp only; lia) ⟨hi, hN1, hM1, hok2, by dsimp only; lia⟩ ?_
      ((cbv; repeat (refine Later.mk ?_; cbv)); refine Less.to [(2020000, (15060000, 0)), (999000001, (15060001, 0))] rfl rfl ?_ ?_ <;> repeat' (first | exact trivial | exact ⟨rfl, rfl⟩ | exact ⟨_, rfl, Nat.zero_le _, rfl⟩ | apply And.intro | exact rfl))
    refine ACall.valN (r := rSpI A) (os := fun _ => []) (dp := false) S.cx (specSpreadStep_c S t told work) ⟨rfl, (by repeat' (first | exact trivial | exact rfl | exact Nat.le_refl _ | exact S.cx.giveEq | exact S.cx.lendLe (by assumption) | exact S.cx.lendEq (by assumption) | exact S.cx.lendLe0 | exact S.cx.lendEq0 | exact S.cx.partLe (by assumption) | exact S.cx.partEq (by assumption) | exact .inl rfl | refine ⟨?_, ?_⟩)), (by repeat' (first | exact trivial | exact rfl | exact Nat.le_refl _ | exact S.cx.giveEq | exact S.cx.lendLe (by assumption) | exact S.cx.lendEq (by assumption) | exact S.cx.lendLe0 | exact S.cx.lendEq0 | exact S.cx.partLe (by assumption) | exact S.cx.partEq (by assumption) | exact .inl rfl | refine ⟨?_, ?_⟩))⟩ rfl (fun ln hln x hx => ⟨rfl, ?_⟩)
    obtain ⟨⟨told1, work1⟩, b⟩ := x
    (cbv; repeat (refine Later.mk ?_; cbv))
    have hN1 := hln cBool told1
    generalize ln (A.enc cBool told1) = N1 at hN1 ⊢
    have hM1 := hln cInt64 work1
    generalize ln (A.enc cInt64 work1) = M1 at hM1 ⊢
    have hok2 := sstep_ok hok
    rw [← hx] at hok2
    clear hx
    refine Arith.go (by lia) (fun n' hn' => ?_); (cbv; repeat (refine Later.mk ?_; cbv))
    replace hn' : n' = n - 1 := hn'
    refine Again.on (⟨told1, work1, n', i, h, N1, M1⟩ : PSt) (by dsimp only; lia) ⟨hi, hN1, hM1, hok2, by dsimp only; lia⟩ ?_
    ((cbv; repeat (refine Later.mk ?_; cbv)); refine Less.to [(2020000, (10020000, 0)), (999000001, (10020001, 0))] rfl rfl ?_ ?_ <;> repeat' (first | exact trivial | exact ⟨rfl, rfl⟩ | exact ⟨_, rfl, Nat.zero_le _, rfl⟩ | apply And.intro | exact rfl))
  (try (refine Drawn.mk ⟨by kernel_rfl, fun _ => ?_⟩)); (repeat (refine Later.mk ?_; cbv))
  refine Len.dr (by simp only [maxLen]; omega) (fun tl htl => ?_); (cbv; repeat (refine Later.mk ?_; cbv))
  have hk := belowF_ok code hb hc i h hi tl
  refine ACall.valN (r := rCur) (os := oCur A code) (dp := false) S.cx (l1Below_c S code hb hc i h hi tl) ⟨rfl, (by repeat' (first | exact trivial | exact rfl | exact Nat.le_refl _ | exact S.cx.giveEq | exact S.cx.lendLe (by assumption) | exact S.cx.lendEq (by assumption) | exact S.cx.lendLe0 | exact S.cx.lendEq0 | exact S.cx.partLe (by assumption) | exact S.cx.partEq (by assumption) | exact .inl rfl | refine ⟨?_, ?_⟩)), (by repeat' (first | exact trivial | exact rfl | exact Nat.le_refl _ | exact S.cx.giveEq | exact S.cx.lendLe (by assumption) | exact S.cx.lendEq (by assumption) | exact S.cx.lendLe0 | exact S.cx.lendEq0 | exact S.cx.partLe (by assumption) | exact S.cx.partEq (by assumption) | exact .inl rfl | refine ⟨?_, ?_⟩))⟩ rfl (fun ln hln x hx => ⟨rfl, ?_⟩)
  obtain ⟨k, i, h⟩ := x
  (cbv; repeat (refine Later.mk ?_; cbv))
  rw [← hx] at hk
  dsimp only at hk
  clear hx hi
  obtain ⟨hk, hi⟩ := hk
  refine ACall.valN (r := rSpB A) (os := fun _ => []) (dp := false) S.cx (specBegun_c S t told work k) ⟨rfl, (by repeat' (first | exact trivial | exact rfl | exact Nat.le_refl _ | exact S.cx.giveEq | exact S.cx.lendLe (by assumption) | exact S.cx.lendEq (by assumption) | exact S.cx.lendLe0 | exact S.cx.lendEq0 | exact S.cx.partLe (by assumption) | exact S.cx.partEq (by assumption) | exact .inl rfl | refine ⟨?_, ?_⟩)), (by repeat' (first | exact trivial | exact rfl | exact Nat.le_refl _ | exact S.cx.giveEq | exact S.cx.lendLe (by assumption) | exact S.cx.lendEq (by assumption) | exact S.cx.lendLe0 | exact S.cx.lendEq0 | exact S.cx.partLe (by assumption) | exact S.cx.partEq (by assumption) | exact .inl rfl | refine ⟨?_, ?_⟩))⟩ rfl (fun ln hln x hx => ⟨rfl, ?_⟩)
  obtain ⟨⟨told1, work1⟩, b⟩ := x
  (cbv; repeat (refine Later.mk ?_; cbv))
  have hN1 := hln cBool told1
  generalize ln (A.enc cBool told1) = N1 at hN1 ⊢
  have hM1 := hln cInt64 work1
  generalize ln (A.enc cInt64 work1) = M1 at hM1 ⊢
  have hok2 := begun_ok hok k
  rw [← hx] at hok2
  clear hx
  refine Arith.go (by lia) (fun n' hn' => ?_); (cbv; repeat (refine Later.mk ?_; cbv))
  replace hn' : n' = n - 1 := hn'
  refine Again.on (⟨told1, work1, n', i, h, N1, M1⟩ : PSt) (by dsimp only; lia) ⟨hi, hN1, hM1, hok2, by dsimp only; lia⟩ ?_
  ((cbv; repeat (refine Later.mk ?_; cbv)); refine Less.to [(2020000, (6060000, 0)), (999000001, (6060001, 0))] rfl rfl ?_ ?_ <;> repeat' (first | exact trivial | exact ⟨rfl, rfl⟩ | exact ⟨_, rfl, Nat.zero_le _, rfl⟩ | apply And.intro | exact rfl))

theorem l7DrawAny_c (S : Se P A) (code : List Int) (hb : code.length ≤ 4096) (hc : ∀ b ∈ code, 0 ≤ b ∧ b ≤ 255) (i h : Int) (hi : 0 ≤ i) : SoundM P 117 true [.ptr 1000 0 0] [.box [.ro (A.enc cByte code), .int .i64 i, .int .i64 h]]
    (fun v os => ∃ (l : List Node) (s : Spread) (i' h' : Int), (l.length ≤ 100 ∧ s.told.length ≤ 200 ∧ s.work.length ≤ 300) ∧ 0 ≤ i' ∧ v = .tup [.own 5 true (A.enc cNode l), .agg (ownSpread A s)] ∧ os = [some (.box [.ro (A.enc cByte code), .int .i64 i', .int .i64 h'])]) := by
  refine S.cx.byS [99999] (S.prog ▸ Try.func117) rfl rfl rfl rfl (fun ln hln hv ho => ?_)
  (cbv; repeat (refine Later.mk ?_; cbv))
  refine ACall.ofN (dp := false) S.cx (l5DrawAny_c S code hb hc i h hi) ⟨rfl, (by repeat' (first | exact trivial | exact rfl | exact Nat.le_refl _ | exact S.cx.giveEq | exact S.cx.lendLe (by assumption) | exact S.cx.lendEq (by assumption) | exact S.cx.lendLe0 | exact S.cx.lendEq0 | exact S.cx.partLe (by assumption) | exact S.cx.partEq (by assumption) | exact .inl rfl | refine ⟨?_, ?_⟩)), (by repeat' (first | exact trivial | exact rfl | exact Nat.le_refl _ | exact S.cx.giveEq | exact S.cx.lendLe (by assumption) | exact S.cx.lendEq (by assumption) | exact S.cx.lendLe0 | exact S.cx.lendEq0 | exact S.cx.partLe (by assumption) | exact S.cx.partEq (by assumption) | exact .inl rfl | refine ⟨?_, ?_⟩))⟩ (fun ln hln v os hv => ?_)
  clear hi
  obtain ⟨l, i, h, hl, hi, rfl, rfl⟩ := hv
  refine ⟨rfl, ?_⟩; (cbv; repeat (refine Later.mk ?_; cbv))
  have hN := hln cNode l
  generalize ln (A.enc cNode l) = N at hN ⊢
  refine ACall.testD (dp := false) (specTreeOk_c S l) ⟨rfl, (by repeat' (first | exact trivial | exact rfl | exact Nat.le_refl _ | exact S.cx.giveEq | exact S.cx.lendLe (by assumption) | exact S.cx.lendEq (by assumption) | exact S.cx.lendLe0 | exact S.cx.lendEq0 | exact S.cx.partLe (by assumption) | exact S.cx.partEq (by assumption) | exact .inl rfl | refine ⟨?_, ?_⟩)), (by repeat' (first | exact trivial | exact rfl | exact Nat.le_refl _ | exact S.cx.giveEq | exact S.cx.lendLe (by assumption) | exact S.cx.lendEq (by assumption) | exact S.cx.lendLe0 | exact S.cx.lendEq0 | exact S.cx.partLe (by assumption) | exact S.cx.partEq (by assumption) | exact .inl rfl | refine ⟨?_, ?_⟩))⟩ rfl (fun ht => ?_) (fun ht => ?_) <;> (cbv; repeat (refine Later.mk ?_; cbv))
  rotate_left
  · (try (refine Drawn.mk ⟨by kernel_rfl, fun _ => ?_⟩)); (repeat (refine Later.mk ?_; cbv))
    refine Len.dr (by simp only [maxLen]; omega) (fun m hm => ?_); (cbv; repeat (refine Later.mk ?_; cbv))
    refine MakeS.enc S.cx (f := cBool) (false : Bool) rfl (by lia) (by simp only [maxBytes]; lia) (fun U z hU hz => ?_); (cbv; repeat (refine Later.mk ?_; cbv))
    have hUz : U = z.length := by rw [hz]; simp
    exact Done.to (.tup [.own 5 true (A.enc cNode l), .agg (ownSpread A ⟨z, []⟩)]) [some (.box [.ro (A.enc cByte code), .int .i64 i, .int .i64 h])] rfl ⟨resOwnT S.cx rfl (by assumption), ⟨resOwn S.cx rfl (by assumption), S.cx.enc cInt64 [], trivial⟩, trivial⟩ ⟨⟨⟨rfl, .inl rfl⟩, rfl, rfl, trivial⟩, trivial⟩ ⟨l, ⟨z, []⟩, i, h, ⟨by omega, by dsimp only; lia, Nat.zero_le _⟩, hi, rfl, rfl⟩
  refine ACall.ofN (dp := false) S.cx (l7Draw_c S code hb hc i h hi l ht N hN) ⟨rfl, (by repeat' (first | exact trivial | exact rfl | exact Nat.le_refl _ | exact S.cx.giveEq | exact S.cx.lendLe (by assumption) | exact S.cx.lendEq (by assumption) | exact S.cx.lendLe0 | exact S.cx.lendEq0 | exact S.cx.partLe (by assumption) | exact S.cx.partEq (by assumption) | exact .inl rfl | refine ⟨?_, ?_⟩)), (by repeat' (first | exact trivial | exact rfl | exact Nat.le_refl _ | exact S.cx.giveEq | exact S.cx.lendLe (by assumption) | exact S.cx.lendEq (by assumption) | exact S.cx.lendLe0 | exact S.cx.lendEq0 | exact S.cx.partLe (by assumption) | exact S.cx.partEq (by assumption) | exact .inl rfl | refine ⟨?_, ?_⟩))⟩ (fun ln hln v os hv => ?_)
  clear hi
  obtain ⟨⟨told, work⟩, i, h, hok, hi, rfl, rfl⟩ := hv
  refine ⟨rfl, ?_⟩; (cbv; repeat (refine Later.mk ?_; cbv))
  have hU := hln cBool told
  generalize ln (A.enc cBool told) = U at hU ⊢
  have hM := hln cInt64 work
  generalize ln (A.enc cInt64 work) = M at hM ⊢
  have k1 := hok.1.1
  have k2 := hok.2.1
  have k3 := hok.2.2.1
  dsimp only at k2 k3
  have hbb := onceF_ok code hb hc i h hi 6
  refine ACall.valN (r := rCurB) (os := oCur A code) (dp := false) S.cx (l1Once_c S code hb hc i h hi 6) ⟨rfl, (by repeat' (first | exact trivial | exact rfl | exact Nat.le_refl _ | exact S.cx.giveEq | exact S.cx.lendLe (by assumption) | exact S.cx.lendEq (by assumption) | exact S.cx.lendLe0 | exact S.cx.lendEq0 | exact S.cx.partLe (by assumption) | exact S.cx.partEq (by assumption) | exact .inl rfl | refine ⟨?_, ?_⟩)), (by repeat' (first | exact trivial | exact rfl | exact Nat.le_refl _ | exact S.cx.giveEq | exact S.cx.lendLe (by assumption) | exact S.cx.lendEq (by assumption) | exact S.cx.lendLe0 | exact S.cx.lendEq0 | exact S.cx.partLe (by assumption) | exact S.cx.partEq (by assumption) | exact .inl rfl | refine ⟨?_, ?_⟩))⟩ rfl (fun ln hln x hx => ⟨rfl, ?_⟩)
  obtain ⟨b, i, h⟩ := x
  (cbv; repeat (refine Later.mk ?_; cbv))
  rw [← hx] at hbb
  dsimp only at hbb
  clear hx hi
  obtain ⟨hbb, hi⟩ := hbb
  cases b <;> (cbv; repeat (refine Later.mk ?_; cbv))
  · (try (refine Drawn.mk ⟨by kernel_rfl, fun _ => ?_⟩)); (repeat (refine Later.mk ?_; cbv))
    exact Done.to (.tup [.own 5 true (A.enc cNode l), .agg (ownSpread A ⟨told, work⟩)]) [some (.box [.ro (A.enc cByte code), .int .i64 i, .int .i64 h])] rfl (by repeat' (first | exact trivial | exact rfl | exact resOwn S.cx rfl (by assumption) | exact resOwn S.cx rfl (S.cx.lenE _ _) | exact resOwn1 S.cx rfl (by assumption) | exact resOwnT S.cx rfl (by assumption) | exact S.cx.enc _ [] | refine ⟨?_, ?_⟩)) ⟨⟨⟨rfl, .inl rfl⟩, rfl, rfl, trivial⟩, trivial⟩ ⟨l, ⟨told, work⟩, i, h, ⟨by omega, by dsimp only; omega, by dsimp only; omega⟩, hi, rfl, rfl⟩
  have hy := belowF_ok code hb hc i h hi 3
  refine ACall.valN (r := rCur) (os := oCur A code) (dp := false) S.cx (l1Below_c S code hb hc i h hi 3) ⟨rfl, (by repeat' (first | exact trivial | exact rfl | exact Nat.le_refl _ | exact S.cx.giveEq | exact S.cx.lendLe (by assumption) | exact S.cx.lendEq (by assumption) | exact S.cx.lendLe0 | exact S.cx.lendEq0 | exact S.cx.partLe (by assumption) | exact S.cx.partEq (by assumption) | exact .inl rfl | refine ⟨?_, ?_⟩)), (by repeat' (first | exact trivial | exact rfl | exact Nat.le_refl _ | exact S.cx.giveEq | exact S.cx.lendLe (by assumption) | exact S.cx.lendEq (by assumption) | exact S.cx.lendLe0 | exact S.cx.lendEq0 | exact S.cx.partLe (by assumption) | exact S.cx.partEq (by assumption) | exact .inl rfl | refine ⟨?_, ?_⟩))⟩ rfl (fun ln hln x hx => ⟨rfl, ?_⟩)
  obtain ⟨y, i, h⟩ := x
  (cbv; repeat (refine Later.mk ?_; cbv))
  rw [← hx] at hy
  dsimp only at hy
  clear hx hi
  obtain ⟨hy, hi⟩ := hy
  refine Test.eql (fun g0 => ?_) (fun g0 => ?_) <;> (cbv; repeat (refine Later.mk ?_; cbv))
  · refine Part.one ?_; (cbv; repeat (refine Later.mk ?_; cbv))
    refine AppRef.push S.cx true (by assumption) rfl rfl plainB9 (fun _ => rfl) (by simp only [maxBytes]; omega) (fun m9 w9 hw9 hml9 => ?_); (cbv; repeat (refine Later.mk ?_; cbv))
    have hwl : w9.length = told.length + 1 := by rw [hw9, List.length_append]; rfl
    (try (refine Drawn.mk ⟨by kernel_rfl, fun _ => ?_⟩)); (repeat (refine Later.mk ?_; cbv))
    exact Done.to (.tup [.own 5 true (A.enc cNode l), .agg (ownSpread A ⟨w9, work⟩)]) [some (.box [.ro (A.enc cByte code), .int .i64 i, .int .i64 h])] rfl (by repeat' (first | exact trivial | exact rfl | exact resOwn S.cx rfl (by assumption) | exact resOwn S.cx rfl (S.cx.lenE _ _) | exact resOwn1 S.cx rfl (by assumption) | exact resOwnT S.cx rfl (by assumption) | exact S.cx.enc _ [] | refine ⟨?_, ?_⟩)) ⟨⟨⟨rfl, .inl rfl⟩, rfl, rfl, trivial⟩, trivial⟩ ⟨l, ⟨w9, work⟩, i, h, ⟨by omega, by dsimp only; omega, by dsimp only; omega⟩, hi, rfl, rfl⟩
  refine Test.eql (fun g1 => ?_) (fun g1 => ?_) <;> (cbv; repeat (refine Later.mk ?_; cbv))
  · (try (refine Drawn.mk ⟨by kernel_rfl, fun _ => ?_⟩)); (repeat (refine Later.mk ?_; cbv))
    refine Len.dr (by simp only [maxLen]; omega) (fun m hm => ?_); (cbv; repeat (refine Later.mk ?_; cbv))
    have hq := fromF_ok code hb hc i h hi (-1) m
    refine ACall.valN (r := rCur) (os := oCur A code) (dp := false) S.cx (l1From_c S code hb hc i h hi (-1) m (by lia)) ⟨rfl, (by repeat' (first | exact trivial | exact rfl | exact Nat.le_refl _ | exact S.cx.giveEq | exact S.cx.lendLe (by assumption) | exact S.cx.lendEq (by assumption) | exact S.cx.lendLe0 | exact S.cx.lendEq0 | exact S.cx.partLe (by assumption) | exact S.cx.partEq (by assumption) | exact .inl rfl | refine ⟨?_, ?_⟩)), (by repeat' (first | exact trivial | exact rfl | exact Nat.le_refl _ | exact S.cx.giveEq | exact S.cx.lendLe (by assumption) | exact S.cx.lendEq (by assumption) | exact S.cx.lendLe0 | exact S.cx.lendEq0 | exact S.cx.partLe (by assumption) | exact S.cx.partEq (by assumption) | exact .inl rfl | refine ⟨?_, ?_⟩))⟩ rfl (fun ln hln x hx => ⟨rfl, ?_⟩)
    obtain ⟨q, i, h⟩ := x
    (cbv; repeat (refine Later.mk ?_; cbv))
    rw [← hx] at hq
    dsimp only at hq
    clear hx hi
    obtain ⟨hq, hi⟩ := hq
    refine Part.one ?_; (cbv; repeat (refine Later.mk ?_; cbv))
    refine AppRef.push S.cx q (by assumption) rfl rfl plainI9 (fun _ => rfl) (by simp only [maxBytes]; omega) (fun m9 w9 hw9 hml9 => ?_); (cbv; repeat (refine Later.mk ?_; cbv))
    have hwl : w9.length = work.length + 1 := by rw [hw9, List.length_append]; rfl
    (try (refine Drawn.mk ⟨by kernel_rfl, fun _ => ?_⟩)); (repeat (refine Later.mk ?_; cbv))
    exact Done.to (.tup [.own 5 true (A.enc cNode l), .agg (ownSpread A ⟨told, w9⟩)]) [some (.box [.ro (A.enc cByte code), .int .i64 i, .int .i64 h])] rfl (by repeat' (first | exact trivial | exact rfl | exact resOwn S.cx rfl (by assumption) | exact resOwn S.cx rfl (S.cx.lenE _ _) | exact resOwn1 S.cx rfl (by assumption) | exact resOwnT S.cx rfl (by assumption) | exact S.cx.enc _ [] | refine ⟨?_, ?_⟩)) ⟨⟨⟨rfl, .inl rfl⟩, rfl, rfl, trivial⟩, trivial⟩ ⟨l, ⟨told, w9⟩, i, h, ⟨by omega, by dsimp only; omega, by dsimp only; omega⟩, hi, rfl, rfl⟩
  refine Test.eql (fun g2 => ?_) (fun g2 => ?_) <;> (cbv; repeat (refine Later.mk ?_; cbv))
  rotate_left
  · (try (refine Drawn.mk ⟨by kernel_rfl, fun _ => ?_⟩)); (repeat (refine Later.mk ?_; cbv))
    exact Done.to (.tup [.own 5 true (A.enc cNode l), .agg (ownSpread A ⟨told, work⟩)]) [some (.box [.ro (A.enc cByte code), .int .i64 i, .int .i64 h])] rfl (by repeat' (first | exact trivial | exact rfl | exact resOwn S.cx rfl (by assumption) | exact resOwn S.cx rfl (S.cx.lenE _ _) | exact resOwn1 S.cx rfl (by assumption) | exact resOwnT S.cx rfl (by assumption) | exact S.cx.enc _ [] | refine ⟨?_, ?_⟩)) ⟨⟨⟨rfl, .inl rfl⟩, rfl, rfl, trivial⟩, trivial⟩ ⟨l, ⟨told, work⟩, i, h, ⟨by omega, by dsimp only; omega, by dsimp only; omega⟩, hi, rfl, rfl⟩
  (try (refine Drawn.mk ⟨by kernel_rfl, fun _ => ?_⟩)); (repeat (refine Later.mk ?_; cbv))
  refine Len.dr (by simp only [maxLen]; omega) (fun m hm => ?_); (cbv; repeat (refine Later.mk ?_; cbv))
  have hk := belowF_ok code hb hc i h hi m
  refine ACall.valN (r := rCur) (os := oCur A code) (dp := false) S.cx (l1Below_c S code hb hc i h hi m) ⟨rfl, (by repeat' (first | exact trivial | exact rfl | exact Nat.le_refl _ | exact S.cx.giveEq | exact S.cx.lendLe (by assumption) | exact S.cx.lendEq (by assumption) | exact S.cx.lendLe0 | exact S.cx.lendEq0 | exact S.cx.partLe (by assumption) | exact S.cx.partEq (by assumption) | exact .inl rfl | refine ⟨?_, ?_⟩)), (by repeat' (first | exact trivial | exact rfl | exact Nat.le_refl _ | exact S.cx.giveEq | exact S.cx.lendLe (by assumption) | exact S.cx.lendEq (by assumption) | exact S.cx.lendLe0 | exact S.cx.lendEq0 | exact S.cx.partLe (by assumption) | exact S.cx.partEq (by assumption) | exact .inl rfl | refine ⟨?_, ?_⟩))⟩ rfl (fun ln hln x hx => ⟨rfl, ?_⟩)
  obtain ⟨k, i, h⟩ := x
  (cbv; repeat (refine Later.mk ?_; cbv))
  rw [← hx] at hk
  dsimp only at hk
  clear hx hi
  obtain ⟨hk, hi⟩ := hk
  have hk2 := hk.2.1 (by lia)
  have hk1 := hk.1
  have hbb := onceF_ok code hb hc i h hi 2
  refine ACall.valN (r := rCurB) (os := oCur A code) (dp := false) S.cx (l1Once_c S code hb hc i h hi 2) ⟨rfl, (by repeat' (first | exact trivial | exact rfl | exact Nat.le_refl _ | exact S.cx.giveEq | exact S.cx.lendLe (by assumption) | exact S.cx.lendEq (by assumption) | exact S.cx.lendLe0 | exact S.cx.lendEq0 | exact S.cx.partLe (by assumption) | exact S.cx.partEq (by assumption) | exact .inl rfl | refine ⟨?_, ?_⟩)), (by repeat' (first | exact trivial | exact rfl | exact Nat.le_refl _ | exact S.cx.giveEq | exact S.cx.lendLe (by assumption) | exact S.cx.lendEq (by assumption) | exact S.cx.lendLe0 | exact S.cx.lendEq0 | exact S.cx.partLe (by assumption) | exact S.cx.partEq (by assumption) | exact .inl rfl | refine ⟨?_, ?_⟩))⟩ rfl (fun ln hln x hx => ⟨rfl, ?_⟩)
  obtain ⟨b, i, h⟩ := x
  (cbv; repeat (refine Later.mk ?_; cbv))
  rw [← hx] at hbb
  dsimp only at hbb
  clear hx hi
  obtain ⟨hbb, hi⟩ := hbb
  refine ElemRef.go rfl (by lia) (by lia) (by rw [S.cx.lenE']; lia) (fun row hrow => ?_); (cbv; repeat (refine Later.mk ?_; cbv))
  obtain ⟨x, hxx⟩ : ∃ x, told[row]? = some x := ⟨_, List.getElem?_eq_getElem (by lia)⟩
  refine RowSet.enc S.cx x b hxx rfl (Nat.le_refl _) rfl (fun t2 ht2 => ?_); (cbv; repeat (refine Later.mk ?_; cbv))
  have ht2l : t2.length = told.length := by rw [ht2, List.length_set]
  have hU2 : U = t2.length := by omega
  (try (refine Drawn.mk ⟨by kernel_rfl, fun _ => ?_⟩)); (repeat (refine Later.mk ?_; cbv))
  exact Done.to (.tup [.own 5 true (A.enc cNode l), .agg (ownSpread A ⟨t2, work⟩)]) [some (.box [.ro (A.enc cByte code), .int .i64 i, .int .i64 h])] rfl (by repeat' (first | exact trivial | exact rfl | exact resOwn S.cx rfl (by assumption) | exact resOwn S.cx rfl (S.cx.lenE _ _) | exact resOwn1 S.cx rfl (by assumption) | exact resOwnT S.cx rfl (by assumption) | exact S.cx.enc _ [] | refine ⟨?_, ?_⟩)) ⟨⟨⟨rfl, .inl rfl⟩, rfl, rfl, trivial⟩, trivial⟩ ⟨l, ⟨t2, work⟩, i, h, ⟨by omega, by dsimp only; omega, by dsimp only; omega⟩, hi, rfl, rfl⟩

theorem drawStep_c (S : Se P A) (code : List Int) (hb : code.length ≤ 4096) (hc : ∀ b ∈ code, 0 ≤ b ∧ b ≤ 255) : SoundM P 70 true [.ro (A.enc cByte code)] []
    (fun v os => (∃ (l : List Node) (s : Spread), (l.length ≤ 100 ∧ s.told.length ≤ 200 ∧ s.work.length ≤ 300) ∧ v = .tup [.own 5 true (A.enc cNode l), .agg (ownSpread A s)]) ∧ os = []) := by
  refine S.cx.byS [99999] (S.prog ▸ Try.func70) rfl rfl rfl rfl (fun ln hln hv ho => ?_)
  (cbv; repeat (refine Later.mk ?_; cbv))
  refine ACall.of (dp := false) (l1New_c S code hb hc) ⟨rfl, (by repeat' (first | exact trivial | exact rfl | exact Nat.le_refl _ | exact S.cx.giveEq | exact S.cx.lendLe (by assumption) | exact S.cx.lendEq (by assumption) | exact S.cx.lendLe0 | exact S.cx.lendEq0 | exact S.cx.partLe (by assumption) | exact S.cx.partEq (by assumption) | exact .inl rfl | refine ⟨?_, ?_⟩)), (by repeat' (first | exact trivial | exact rfl | exact Nat.le_refl _ | exact S.cx.giveEq | exact S.cx.lendLe (by assumption) | exact S.cx.lendEq (by assumption) | exact S.cx.lendLe0 | exact S.cx.lendEq0 | exact S.cx.partLe (by assumption) | exact S.cx.partEq (by assumption) | exact .inl rfl | refine ⟨?_, ?_⟩))⟩ (fun v os hv => ?_)
  obtain ⟨⟨h, rfl⟩, rfl⟩ := hv
  refine ⟨rfl, ?_⟩; (cbv; repeat (refine Later.mk ?_; cbv))
  refine ACall.ofN (dp := false) S.cx (l7DrawAny_c S code hb hc 0 h (Int.le_refl 0)) ⟨rfl, (by repeat' (first | exact trivial | exact rfl | exact Nat.le_refl _ | exact S.cx.giveEq | exact S.cx.lendLe (by assumption) | exact S.cx.lendEq (by assumption) | exact S.cx.lendLe0 | exact S.cx.lendEq0 | exact S.cx.partLe (by assumption) | exact S.cx.partEq (by assumption) | exact .inl rfl | refine ⟨?_, ?_⟩)), (by repeat' (first | exact trivial | exact rfl | exact Nat.le_refl _ | exact S.cx.giveEq | exact S.cx.lendLe (by assumption) | exact S.cx.lendEq (by assumption) | exact S.cx.lendLe0 | exact S.cx.lendEq0 | exact S.cx.partLe (by assumption) | exact S.cx.partEq (by assumption) | exact .inl rfl | refine ⟨?_, ?_⟩))⟩ (fun ln hln v os hv => ?_)
  obtain ⟨l, ⟨told, work⟩, i, h, hl, hi, rfl, rfl⟩ := hv
  refine ⟨rfl, ?_⟩; (cbv; repeat (refine Later.mk ?_; cbv))
  have hN := hln cNode l
  generalize ln (A.enc cNode l) = N at hN ⊢
  have hU := hln cBool told
  generalize ln (A.enc cBool told) = U at hU ⊢
  have hM := hln cInt64 work
  generalize ln (A.enc cInt64 work) = M at hM ⊢
  exact Done.to (.tup [.own 5 true (A.enc cNode l), .agg (ownSpread A ⟨told, work⟩)]) [] rfl (by repeat' (first | exact trivial | exact rfl | exact resOwn S.cx rfl (by assumption) | exact resOwn S.cx rfl (S.cx.lenE _ _) | exact resOwn1 S.cx rfl (by assumption) | exact resOwnT S.cx rfl (by assumption) | exact S.cx.enc _ [] | refine ⟨?_, ?_⟩)) trivial ⟨⟨l, ⟨told, work⟩, hl, rfl⟩, rfl⟩

structure LSt2 where
  told : List Bool
  work : List Int
  i : Int
  k : Nat
  un : Nat
  wn : Nat

def LSt2.ok (t : List Node) (s : LSt2) : Prop := (s.i = s.k ∧ s.k ≤ 400) ∧ s.un = s.told.length ∧ s.wn = s.work.length ∧ (s.k = 0 ∨ SpreadOk t ⟨s.told, s.work⟩) ∧ (SpreadOk t ⟨s.told, s.work⟩ → phi t ⟨s.told, s.work⟩ + s.k ≤ 300 ∨ Stuck t ⟨s.told, s.work⟩)

theorem stepsLaw_c (S : Se P A) (code : List Int) : Is1 P 13 [.ro (A.enc cByte code)] (.bool true) := by
  refine S.cx.byS [99999] (S.prog ▸ Try.func13) rfl rfl rfl rfl (fun ln hln hv ho => ?_)
  (cbv; repeat (refine Later.mk ?_; cbv))
  have hc := code_bytes (code := code) S.cx (hv _ (List.mem_singleton.2 rfl))
  refine ACall.testD (dp := false) (big_c S code) ⟨rfl, (by repeat' (first | exact trivial | exact rfl | exact Nat.le_refl _ | exact S.cx.giveEq | exact S.cx.lendLe (by assumption) | exact S.cx.lendEq (by assumption) | exact S.cx.lendLe0 | exact S.cx.lendEq0 | exact S.cx.partLe (by assumption) | exact S.cx.partEq (by assumption) | exact .inl rfl | refine ⟨?_, ?_⟩)), (by repeat' (first | exact trivial | exact rfl | exact Nat.le_refl _ | exact S.cx.giveEq | exact S.cx.lendLe (by assumption) | exact S.cx.lendEq (by assumption) | exact S.cx.lendLe0 | exact S.cx.lendEq0 | exact S.cx.partLe (by assumption) | exact S.cx.partEq (by assumption) | exact .inl rfl | refine ⟨?_, ?_⟩))⟩ rfl (fun hbig => ?_) (fun hbig => ?_) <;> (cbv; repeat (refine Later.mk ?_; cbv))
  · exact Done.to (.bool true) [] rfl rfl trivial ⟨rfl, rfl⟩
  replace hbig : code.length ≤ 4096 := Nat.not_lt.1 hbig
  refine ACall.ofN (dp := false) S.cx (drawStep_c S code hbig hc) ⟨rfl, (by repeat' (first | exact trivial | exact rfl | exact Nat.le_refl _ | exact S.cx.giveEq | exact S.cx.lendLe (by assumption) | exact S.cx.lendEq (by assumption) | exact S.cx.lendLe0 | exact S.cx.lendEq0 | exact S.cx.partLe (by assumption) | exact S.cx.partEq (by assumption) | exact .inl rfl | refine ⟨?_, ?_⟩)), (by repeat' (first | exact trivial | exact rfl | exact Nat.le_refl _ | exact S.cx.giveEq | exact S.cx.lendLe (by assumption) | exact S.cx.lendEq (by assumption) | exact S.cx.lendLe0 | exact S.cx.lendEq0 | exact S.cx.partLe (by assumption) | exact S.cx.partEq (by assumption) | exact .inl rfl | refine ⟨?_, ?_⟩))⟩ (fun ln hln v os hv => ?_)
  obtain ⟨⟨t, ⟨told, work⟩, hl, rfl⟩, rfl⟩ := hv
  refine ⟨rfl, ?_⟩; (cbv; repeat (refine Later.mk ?_; cbv))
  dsimp only at hl
  have hN := hln cNode t
  generalize ln (A.enc cNode t) = N at hN ⊢
  have hU := hln cBool told
  generalize ln (A.enc cBool told) = U at hU ⊢
  have hM := hln cInt64 work
  generalize ln (A.enc cInt64 work) = M at hM ⊢
  refine ALoop.goT (ι := LSt2) (fun i => [(5, .int .i64 i.i)]) [13, 14, 15, 16, 17] [4050000, 4010100, 4010101] (fun i => [(4050000, .box [.ref false 4010100 0 i.un, .ref false 4010101 0 i.wn]), (4010100, .arr 1 true (A.enc cBool i.told)), (4010101, .arr 1 true (A.enc cInt64 i.work))]) (fun i => i.ok t) (fun i => (400 - i.i).toNat) (⟨told, work, 0, 0, U, M⟩) [99999] S.cx.tab S.cx.mix S.eq ?_ ?_ ?_
  · exact ⟨⟨rfl, Nat.zero_le _⟩, hU, hM, .inl rfl, fun h => .inl (phi_le h)⟩
  · ((cbv; repeat (refine Later.mk ?_; cbv)); refine Less.to [] rfl rfl ?_ ?_ <;> repeat' (first | exact trivial | exact ⟨rfl, rfl⟩ | exact ⟨_, rfl, Nat.zero_le _, rfl⟩ | apply And.intro | exact rfl))
  clear hU hM
  rintro ⟨told, work, j0, k, un, wn⟩ hk
  unfold LSt2.ok at hk
  dsimp only at hk
  obtain ⟨⟨hjk, hk4⟩, hun, hwn, hks, hph⟩ := hk
  refine Rnd.mk ?_; (cbv; repeat (refine Later.mk ?_; cbv))
  refine Test.lss (fun h400 => ?_) (fun h400 => ?_) <;> (cbv; repeat (refine Later.mk ?_; cbv))
  rotate_left
  · have hok : SpreadOk t ⟨told, work⟩ := hks.resolve_left (by lia)
    have hst : Stuck t ⟨told, work⟩ := (hph hok).resolve_left (by lia)
    have hw0 : 0 < work.length := List.length_pos_iff.2 hst.1
    refine Len.nat (fun m hm hml => ?_); (cbv; repeat (refine Later.mk ?_; cbv))
    refine Test.gtr (fun h1 => ?_) (fun h1 => ?_) <;> (cbv; repeat (refine Later.mk ?_; cbv))
    · exact Done.to (.bool true) [] rfl rfl trivial ⟨rfl, rfl⟩
    · exact absurd h1 (by lia)
  refine ACall.valN (r := rSpI A) (os := fun _ => []) (dp := false) S.cx (implSpreadStep_c S t told work) ⟨rfl, (by repeat' (first | exact trivial | exact rfl | exact Nat.le_refl _ | exact S.cx.giveEq | exact S.cx.lendLe (by assumption) | exact S.cx.lendEq (by assumption) | exact S.cx.lendLe0 | exact S.cx.lendEq0 | exact S.cx.partLe (by assumption) | exact S.cx.partEq (by assumption) | exact .inl rfl | refine ⟨?_, ?_⟩)), (by repeat' (first | exact trivial | exact rfl | exact Nat.le_refl _ | exact S.cx.giveEq | exact S.cx.lendLe (by assumption) | exact S.cx.lendEq (by assumption) | exact S.cx.lendLe0 | exact S.cx.lendEq0 | exact S.cx.partLe (by assumption) | exact S.cx.partEq (by assumption) | exact .inl rfl | refine ⟨?_, ?_⟩))⟩ rfl (fun ln hln x hx => ⟨rfl, ?_⟩)
  obtain ⟨⟨told1, work1⟩, n1⟩ := x
  (cbv; repeat (refine Later.mk ?_; cbv))
  have hN1 := hln cBool told1
  generalize ln (A.enc cBool told1) = N1 at hN1 ⊢
  have hM1 := hln cInt64 work1
  generalize ln (A.enc cInt64 work1) = M1 at hM1 ⊢
  have hx1 := hx
  refine ACall.valN (r := rSpI A) (os := fun _ => []) (dp := false) S.cx (specSpreadStep_c S t told work) ⟨rfl, (by repeat' (first | exact trivial | exact rfl | exact Nat.le_refl _ | exact S.cx.giveEq | exact S.cx.lendLe (by assumption) | exact S.cx.lendEq (by assumption) | exact S.cx.lendLe0 | exact S.cx.lendEq0 | exact S.cx.partLe (by assumption) | exact S.cx.partEq (by assumption) | exact .inl rfl | refine ⟨?_, ?_⟩)), (by repeat' (first | exact trivial | exact rfl | exact Nat.le_refl _ | exact S.cx.giveEq | exact S.cx.lendLe (by assumption) | exact S.cx.lendEq (by assumption) | exact S.cx.lendLe0 | exact S.cx.lendEq0 | exact S.cx.partLe (by assumption) | exact S.cx.partEq (by assumption) | exact .inl rfl | refine ⟨?_, ?_⟩))⟩ rfl (fun ln hln x hx => ⟨rfl, ?_⟩)
  obtain ⟨⟨told2, work2⟩, n2⟩ := x
  (cbv; repeat (refine Later.mk ?_; cbv))
  have hN2 := hln cBool told2
  generalize ln (A.enc cBool told2) = N2 at hN2 ⊢
  have hM2 := hln cInt64 work2
  generalize ln (A.enc cInt64 work2) = M2 at hM2 ⊢
  cases hx.trans hx1.symm
  refine Test.neq (fun h1 => ?_) (fun h1 => ?_) <;> (cbv; repeat (refine Later.mk ?_; cbv))
  · exact absurd rfl h1
  refine ACall.testD (dp := false) (specSpreadOk_c S t told work) ⟨rfl, (by repeat' (first | exact trivial | exact rfl | exact Nat.le_refl _ | exact S.cx.giveEq | exact S.cx.lendLe (by assumption) | exact S.cx.lendEq (by assumption) | exact S.cx.lendLe0 | exact S.cx.lendEq0 | exact S.cx.partLe (by assumption) | exact S.cx.partEq (by assumption) | exact .inl rfl | refine ⟨?_, ?_⟩)), (by repeat' (first | exact trivial | exact rfl | exact Nat.le_refl _ | exact S.cx.giveEq | exact S.cx.lendLe (by assumption) | exact S.cx.lendEq (by assumption) | exact S.cx.lendLe0 | exact S.cx.lendEq0 | exact S.cx.partLe (by assumption) | exact S.cx.partEq (by assumption) | exact .inl rfl | refine ⟨?_, ?_⟩))⟩ rfl (fun hok => ?_) (fun hok => ?_) <;> (cbv; repeat (refine Later.mk ?_; cbv))
  rotate_left
  · rw [SpreadStep, if_neg hok] at hx1
    have ht0 : told1 = [] := congrArg (fun x => x.1.told) hx1
    refine Len.nat (fun m hm hml => ?_); (cbv; repeat (refine Later.mk ?_; cbv))
    refine Test.eql (fun h2 => ?_) (fun h2 => ?_) <;> (cbv; repeat (refine Later.mk ?_; cbv))
    · exact Done.to (.bool true) [] rfl rfl trivial ⟨rfl, rfl⟩
    · exact absurd (by rw [ht0] at hN1; simp at hN1; omega) h2
  have hph := hph hok
  rw [SpreadStep, if_pos hok] at hx1
  simp only [Prod.mk.injEq] at hx1
  obtain ⟨hs1, hn1⟩ := hx1
  have hok1 := step_ok hok
  have htold := fun m (h0 : 0 ≤ m) (hm : m.toNat < t.length) => step_told hok h0 hm
  rw [← hs1] at hok1
  rw [← hs1, ← hn1] at htold
  have q1 := hok1.2.1
  have q0 := hok.2.1
  dsimp only at q0 q1 htold
  refine Len.nat (fun m hm hml => ?_); (cbv; repeat (refine Later.mk ?_; cbv))
  refine Len.nat (fun m2 hm2 hml2 => ?_); (cbv; repeat (refine Later.mk ?_; cbv))
  refine Test.neq (fun h2 => ?_) (fun h2 => ?_) <;> (cbv; repeat (refine Later.mk ?_; cbv))
  · exact absurd (by lia) h2
  refine ALoop.goT (ι := Int) (fun i => [(10, .int .i64 i)]) [] [] (fun i => []) (fun i => 0 ≤ i) (fun i => (t.length - i).toNat) (0) [99999] S.cx.tab S.cx.mix S.eq ?_ ?_ ?_
  · exact Int.le_refl _
  · ((cbv; repeat (refine Later.mk ?_; cbv)); refine Less.to [] rfl rfl ?_ ?_ <;> repeat' (first | exact trivial | exact ⟨rfl, rfl⟩ | exact ⟨_, rfl, Nat.zero_le _, rfl⟩ | apply And.intro | exact rfl))
  intro m hm0
  replace hm0 : 0 ≤ m := hm0
  refine Rnd.mk ?_; (cbv; repeat (refine Later.mk ?_; cbv))
  refine Len.nat (fun m3 hm3 hml3 => ?_); (cbv; repeat (refine Later.mk ?_; cbv))
  refine Test.lss (fun h3 => ?_) (fun h3 => ?_) <;> (cbv; repeat (refine Later.mk ?_; cbv))
  · obtain ⟨b0, b1, e0, e1, c1, c0⟩ := htold m hm0 (by lia)
    (try (refine Drawn.mk ⟨by kernel_rfl, fun _ => ?_⟩)); (repeat (refine Later.mk ?_; cbv))
    refine ElemRef.go rfl (by lia) (by lia) (by rw [S.cx.lenE']; lia) (fun row hrow => ?_); (cbv; repeat (refine Later.mk ?_; cbv))
    refine Row.enc S.cx (by lia) (fun x hxx => ?_)
    obtain rfl : x = b1 := by rw [show row = m.toNat by omega, e1] at hxx; exact (Option.some.inj hxx).symm
    (cbv; repeat (refine Later.mk ?_; cbv))
    refine ElemRef.go rfl (by lia) (by lia) (by rw [S.cx.lenE']; lia) (fun row2 hrow2 => ?_); (cbv; repeat (refine Later.mk ?_; cbv))
    refine Row.enc S.cx (by lia) (fun y hyy => ?_)
    obtain rfl : y = b0 := by rw [show row2 = m.toNat by omega, e0] at hyy; exact (Option.some.inj hyy).symm
    cases y <;> cases x <;> (cbv; repeat (refine Later.mk ?_; cbv))
    · refine Test.eql (fun g1 => ?_) (fun g1 => ?_) <;> (cbv; repeat (refine Later.mk ?_; cbv))
      · exact absurd ((c0 rfl).2 g1) (by simp)
      refine Test.eql (fun g2 => ?_) (fun g2 => ?_) <;> (cbv; repeat (refine Later.mk ?_; cbv))
      · exact absurd g2 g1
      refine Arith.go (by lia) (fun m' hm' => ?_); (cbv; repeat (refine Later.mk ?_; cbv))
      replace hm' : m' = m + 1 := hm'
      refine Again.on m' (by lia) (by show (0 : Int) ≤ m'; omega) ?_
      ((cbv; repeat (refine Later.mk ?_; cbv)); refine Less.to [] rfl rfl ?_ ?_ <;> repeat' (first | exact trivial | exact ⟨rfl, rfl⟩ | exact ⟨_, rfl, Nat.zero_le _, rfl⟩ | apply And.intro | exact rfl))
    · refine Test.eql (fun g1 => ?_) (fun g1 => ?_) <;> (cbv; repeat (refine Later.mk ?_; cbv))
      rotate_left
      · exact absurd ((c0 rfl).1 rfl) g1
      refine Test.eql (fun g2 => ?_) (fun g2 => ?_) <;> (cbv; repeat (refine Later.mk ?_; cbv))
      rotate_left
      · exact absurd g1 g2
      refine ElemRef.go rfl (by lia) (by lia) (by rw [S.cx.lenE']; lia) (fun row3 hrow3 => ?_); (cbv; repeat (refine Later.mk ?_; cbv))
      refine Row.enc S.cx (by lia) (fun z hzz => ?_)
      obtain rfl : z = false := by rw [show row3 = m.toNat by omega, e0] at hzz; exact (Option.some.inj hzz).symm
      (cbv; repeat (refine Later.mk ?_; cbv))
      refine Arith.go (by lia) (fun m' hm' => ?_); (cbv; repeat (refine Later.mk ?_; cbv))
      replace hm' : m' = m + 1 := hm'
      refine Again.on m' (by lia) (by show (0 : Int) ≤ m'; omega) ?_
      ((cbv; repeat (refine Later.mk ?_; cbv)); refine Less.to [] rfl rfl ?_ ?_ <;> repeat' (first | exact trivial | exact ⟨rfl, rfl⟩ | exact ⟨_, rfl, Nat.zero_le _, rfl⟩ | apply And.intro | exact rfl))
    · exact absurd (c1 rfl).1 (by simp)
    · refine Test.eql (fun g1 => ?_) (fun g1 => ?_) <;> (cbv; repeat (refine Later.mk ?_; cbv))
      · exact absurd g1 (c1 rfl).2
      refine Arith.go (by lia) (fun m' hm' => ?_); (cbv; repeat (refine Later.mk ?_; cbv))
      replace hm' : m' = m + 1 := hm'
      refine Again.on m' (by lia) (by show (0 : Int) ≤ m'; omega) ?_
      ((cbv; repeat (refine Later.mk ?_; cbv)); refine Less.to [] rfl rfl ?_ ?_ <;> repeat' (first | exact trivial | exact ⟨rfl, rfl⟩ | exact ⟨_, rfl, Nat.zero_le _, rfl⟩ | apply And.intro | exact rfl))
  refine Len.nat (fun m4 hm4 hml4 => ?_); (cbv; repeat (refine Later.mk ?_; cbv))
  refine Test.eql (fun h4 => ?_) (fun h4 => ?_) <;> (cbv; repeat (refine Later.mk ?_; cbv))
  · have hw0 : work = [] := List.length_eq_zero_iff.1 (by lia)
    have hs2 := step_none (t := t) (s := ⟨told, work⟩) hw0
    rw [← hs1] at hs2
    have hw1 : work1 = work := congrArg Spread.work hs2
    refine Len.nat (fun m5 hm5 hml5 => ?_); (cbv; repeat (refine Later.mk ?_; cbv))
    refine Test.eql (fun h5 => ?_) (fun h5 => ?_) <;> (cbv; repeat (refine Later.mk ?_; cbv))
    · exact Done.to (.bool true) [] rfl rfl trivial ⟨rfl, rfl⟩
    · exact absurd (by rw [hw1, hw0] at hM1; simp at hM1; omega) h5
  have hwne : work ≠ [] := fun e => h4 (by rw [e] at hwn; simp at hwn; omega)
  have hph1 := step_next hok (i := k) hwne hph
  rw [← hs1] at hph1
  refine Arith.go (by lia) (fun j' hj' => ?_); (cbv; repeat (refine Later.mk ?_; cbv))
  replace hj' : j' = j0 + 1 := hj'
  refine Again.on (⟨told1, work1, j', k + 1, N1, M1⟩ : LSt2) (by dsimp only; lia) ⟨⟨by dsimp only; lia, by dsimp only; lia⟩, hN1, hM1, .inr hok1, fun _ => hph1⟩ ?_
  ((cbv; repeat (refine Later.mk ?_; cbv)); refine Less.to [(4010100, (8020000, 0)), (4010101, (8020001, 0))] rfl rfl ?_ ?_ <;> repeat' (first | exact trivial | exact ⟨rfl, rfl⟩ | exact ⟨_, rfl, Nat.zero_le _, rfl⟩ | apply And.intro | exact rfl))

end Go.Proofs.Ytcbebidfnlkkeaa.AM
