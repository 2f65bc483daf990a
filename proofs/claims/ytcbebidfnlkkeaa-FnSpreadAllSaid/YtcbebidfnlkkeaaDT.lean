/- Contracts: trees drawn; the law of SpreadAll. (printed by gsb.py) -/
import Derived.Test.YtcbebidfnlkkeaaDX
import Derived.Test.YtcbebidfnlkkeaaSA
import Derived.Test.YtcbebidfnlkkeaaB39
namespace Go.Proofs.Ytcbebidfnlkkeaa.AM
open Go Go.Proofs

set_option maxRecDepth 100000
set_option maxHeartbeats 4000000
set_option linter.unusedVariables false
set_option linter.unusedSimpArgs false

variable {P : Program} {A : Sy}

theorem plainNode : Plain cNode := fun _ => rfl
theorem plainB9 : Plain cBool := fun _ => rfl
theorem plainI9 : Plain cInt64 := fun _ => rfl

theorem l5DrawNode_c (S : Se P A) (code : List Int) (hb : code.length ≤ 4096) (hc : ∀ b ∈ code, 0 ≤ b ∧ b ≤ 255) (i h : Int) (hi : 0 ≤ i) (n : Int) (hn : 1 ≤ n ∧ n ≤ 1000) : SoundM P 150 true [.ptr 1000 0 0, .int .i64 n] [.box [.ro (A.enc cByte code), .int .i64 i, .int .i64 h]]
    (fun v os => ∃ (x : Node) (i' h' : Int), 0 ≤ i' ∧ v = .agg (cNode x) ∧ os = [some (.box [.ro (A.enc cByte code), .int .i64 i', .int .i64 h'])]) := by
  refine S.cx.byS [99999] (S.prog ▸ Try.func150) rfl rfl rfl rfl (fun ln hln hv ho => ?_)
  (cbv; repeat (refine Later.mk ?_; cbv))
  have hk := fromF_ok code hb hc i h hi 1 4
  refine ACall.valN (r := rCur) (os := oCur A code) (dp := false) S.cx (l1From_c S code hb hc i h hi 1 4 (by decide)) ⟨rfl, (by repeat' (first | exact trivial | exact rfl | exact Nat.le_refl _ | exact S.cx.giveEq | exact S.cx.lendLe (by assumption) | exact S.cx.lendEq (by assumption) | exact S.cx.lendLe0 | exact S.cx.lendEq0 | exact S.cx.partLe (by assumption) | exact S.cx.partEq (by assumption) | exact S.cx.enc _ [] | exact .inl rfl | refine ⟨?_, ?_⟩)), (by repeat' (first | exact trivial | exact rfl | exact Nat.le_refl _ | exact S.cx.giveEq | exact S.cx.lendLe (by assumption) | exact S.cx.lendEq (by assumption) | exact S.cx.lendLe0 | exact S.cx.lendEq0 | exact S.cx.partLe (by assumption) | exact S.cx.partEq (by assumption) | exact S.cx.enc _ [] | exact .inl rfl | refine ⟨?_, ?_⟩))⟩ rfl (fun ln hln x hx => ⟨rfl, ?_⟩)
  obtain ⟨k, i, h⟩ := x
  (cbv; repeat (refine Later.mk ?_; cbv))
  rw [← hx] at hk
  dsimp only at hk
  clear hx hi
  obtain ⟨hk, hi⟩ := hk
  refine Arith.go (by lia) (fun n1 hn1 => ?_); replace hn1 : n1 = n - 1 := hn1; (cbv; repeat (refine Later.mk ?_; cbv))
  refine ACall.int (dp := false) (l1Min_c S n 4) ⟨rfl, (by repeat' (first | exact trivial | exact rfl | exact Nat.le_refl _ | exact S.cx.giveEq | exact S.cx.lendLe (by assumption) | exact S.cx.lendEq (by assumption) | exact S.cx.lendLe0 | exact S.cx.lendEq0 | exact S.cx.partLe (by assumption) | exact S.cx.partEq (by assumption) | exact S.cx.enc _ [] | exact .inl rfl | refine ⟨?_, ?_⟩)), (by repeat' (first | exact trivial | exact rfl | exact Nat.le_refl _ | exact S.cx.giveEq | exact S.cx.lendLe (by assumption) | exact S.cx.lendEq (by assumption) | exact S.cx.lendLe0 | exact S.cx.lendEq0 | exact S.cx.partLe (by assumption) | exact S.cx.partEq (by assumption) | exact S.cx.enc _ [] | exact .inl rfl | refine ⟨?_, ?_⟩))⟩ rfl (fun mn hmn => ?_); (cbv; repeat (refine Later.mk ?_; cbv))
  have hz := belowF_ok code hb hc i h hi mn
  refine ACall.valN (r := rCur) (os := oCur A code) (dp := false) S.cx (l1Below_c S code hb hc i h hi mn) ⟨rfl, (by repeat' (first | exact trivial | exact rfl | exact Nat.le_refl _ | exact S.cx.giveEq | exact S.cx.lendLe (by assumption) | exact S.cx.lendEq (by assumption) | exact S.cx.lendLe0 | exact S.cx.lendEq0 | exact S.cx.partLe (by assumption) | exact S.cx.partEq (by assumption) | exact S.cx.enc _ [] | exact .inl rfl | refine ⟨?_, ?_⟩)), (by repeat' (first | exact trivial | exact rfl | exact Nat.le_refl _ | exact S.cx.giveEq | exact S.cx.lendLe (by assumption) | exact S.cx.lendEq (by assumption) | exact S.cx.lendLe0 | exact S.cx.lendEq0 | exact S.cx.partLe (by assumption) | exact S.cx.partEq (by assumption) | exact S.cx.enc _ [] | exact .inl rfl | refine ⟨?_, ?_⟩))⟩ rfl (fun ln hln x hx => ⟨rfl, ?_⟩)
  obtain ⟨z, i, h⟩ := x
  (cbv; repeat (refine Later.mk ?_; cbv))
  rw [← hx] at hz
  dsimp only at hz
  clear hx hi
  obtain ⟨hz, hi⟩ := hz
  have hz2 := hz.2.1 (by omega)
  have hz1 := hz.1
  refine Arith.go (by lia) (fun up hup => ?_); (cbv; repeat (refine Later.mk ?_; cbv))
  refine Test.eql (fun g2 => ?_) (fun g2 => ?_) <;> (cbv; repeat (refine Later.mk ?_; cbv))
  · have hd := belowF_ok code hb hc i h hi 16
    refine ACall.valN (r := rCur) (os := oCur A code) (dp := false) S.cx (l1Below_c S code hb hc i h hi 16) ⟨rfl, (by repeat' (first | exact trivial | exact rfl | exact Nat.le_refl _ | exact S.cx.giveEq | exact S.cx.lendLe (by assumption) | exact S.cx.lendEq (by assumption) | exact S.cx.lendLe0 | exact S.cx.lendEq0 | exact S.cx.partLe (by assumption) | exact S.cx.partEq (by assumption) | exact S.cx.enc _ [] | exact .inl rfl | refine ⟨?_, ?_⟩)), (by repeat' (first | exact trivial | exact rfl | exact Nat.le_refl _ | exact S.cx.giveEq | exact S.cx.lendLe (by assumption) | exact S.cx.lendEq (by assumption) | exact S.cx.lendLe0 | exact S.cx.lendEq0 | exact S.cx.partLe (by assumption) | exact S.cx.partEq (by assumption) | exact S.cx.enc _ [] | exact .inl rfl | refine ⟨?_, ?_⟩))⟩ rfl (fun ln hln x hx => ⟨rfl, ?_⟩)
    obtain ⟨d, i, h⟩ := x
    (cbv; repeat (refine Later.mk ?_; cbv))
    rw [← hx] at hd
    dsimp only at hd
    clear hx hi
    obtain ⟨hd, hi⟩ := hd
    have hbb := onceF_ok code hb hc i h hi 10
    refine ACall.valN (r := rCurB) (os := oCur A code) (dp := false) S.cx (l1Once_c S code hb hc i h hi 10) ⟨rfl, (by repeat' (first | exact trivial | exact rfl | exact Nat.le_refl _ | exact S.cx.giveEq | exact S.cx.lendLe (by assumption) | exact S.cx.lendEq (by assumption) | exact S.cx.lendLe0 | exact S.cx.lendEq0 | exact S.cx.partLe (by assumption) | exact S.cx.partEq (by assumption) | exact S.cx.enc _ [] | exact .inl rfl | refine ⟨?_, ?_⟩)), (by repeat' (first | exact trivial | exact rfl | exact Nat.le_refl _ | exact S.cx.giveEq | exact S.cx.lendLe (by assumption) | exact S.cx.lendEq (by assumption) | exact S.cx.lendLe0 | exact S.cx.lendEq0 | exact S.cx.partLe (by assumption) | exact S.cx.partEq (by assumption) | exact S.cx.enc _ [] | exact .inl rfl | refine ⟨?_, ?_⟩))⟩ rfl (fun ln hln x hx => ⟨rfl, ?_⟩)
    obtain ⟨b, i, h⟩ := x
    (cbv; repeat (refine Later.mk ?_; cbv))
    rw [← hx] at hbb
    dsimp only at hbb
    clear hx hi
    obtain ⟨hbb, hi⟩ := hbb
    cases b <;> (cbv; repeat (refine Later.mk ?_; cbv))
    · exact Done.to (.agg (cNode ⟨k, up, d, 0, 0⟩)) [some (.box [.ro (A.enc cByte code), .int .i64 i, .int .i64 h])] rfl (by repeat' (first | exact trivial | exact rfl | refine ⟨?_, ?_⟩)) ⟨⟨⟨rfl, .inl rfl⟩, rfl, rfl, trivial⟩, trivial⟩ ⟨⟨k, up, d, 0, 0⟩, i, h, hi, rfl, rfl⟩
    have hd2 := l2F_ok code hb hc i h hi
    refine ACall.valN (r := rCur) (os := oCur A code) (dp := false) S.cx (l2Draw_c S code hb hc i h hi) ⟨rfl, (by repeat' (first | exact trivial | exact rfl | exact Nat.le_refl _ | exact S.cx.giveEq | exact S.cx.lendLe (by assumption) | exact S.cx.lendEq (by assumption) | exact S.cx.lendLe0 | exact S.cx.lendEq0 | exact S.cx.partLe (by assumption) | exact S.cx.partEq (by assumption) | exact S.cx.enc _ [] | exact .inl rfl | refine ⟨?_, ?_⟩)), (by repeat' (first | exact trivial | exact rfl | exact Nat.le_refl _ | exact S.cx.giveEq | exact S.cx.lendLe (by assumption) | exact S.cx.lendEq (by assumption) | exact S.cx.lendLe0 | exact S.cx.lendEq0 | exact S.cx.partLe (by assumption) | exact S.cx.partEq (by assumption) | exact S.cx.enc _ [] | exact .inl rfl | refine ⟨?_, ?_⟩))⟩ rfl (fun ln hln x hx => ⟨rfl, ?_⟩)
    obtain ⟨d2, i, h⟩ := x
    (cbv; repeat (refine Later.mk ?_; cbv))
    rw [← hx] at hd2
    dsimp only at hd2
    clear hx hi
    obtain ⟨hd2, hi⟩ := hd2
    exact Done.to (.agg (cNode ⟨k, up, d2, 0, 0⟩)) [some (.box [.ro (A.enc cByte code), .int .i64 i, .int .i64 h])] rfl (by repeat' (first | exact trivial | exact rfl | refine ⟨?_, ?_⟩)) ⟨⟨⟨rfl, .inl rfl⟩, rfl, rfl, trivial⟩, trivial⟩ ⟨⟨k, up, d2, 0, 0⟩, i, h, hi, rfl, rfl⟩
  refine Test.eql (fun g3 => ?_) (fun g3 => ?_) <;> (cbv; repeat (refine Later.mk ?_; cbv))
  · have ha := belowF_ok code hb hc i h hi 3
    refine ACall.valN (r := rCur) (os := oCur A code) (dp := false) S.cx (l1Below_c S code hb hc i h hi 3) ⟨rfl, (by repeat' (first | exact trivial | exact rfl | exact Nat.le_refl _ | exact S.cx.giveEq | exact S.cx.lendLe (by assumption) | exact S.cx.lendEq (by assumption) | exact S.cx.lendLe0 | exact S.cx.lendEq0 | exact S.cx.partLe (by assumption) | exact S.cx.partEq (by assumption) | exact S.cx.enc _ [] | exact .inl rfl | refine ⟨?_, ?_⟩)), (by repeat' (first | exact trivial | exact rfl | exact Nat.le_refl _ | exact S.cx.giveEq | exact S.cx.lendLe (by assumption) | exact S.cx.lendEq (by assumption) | exact S.cx.lendLe0 | exact S.cx.lendEq0 | exact S.cx.partLe (by assumption) | exact S.cx.partEq (by assumption) | exact S.cx.enc _ [] | exact .inl rfl | refine ⟨?_, ?_⟩))⟩ rfl (fun ln hln x hx => ⟨rfl, ?_⟩)
    obtain ⟨a, i, h⟩ := x
    (cbv; repeat (refine Later.mk ?_; cbv))
    rw [← hx] at ha
    dsimp only at ha
    clear hx hi
    obtain ⟨ha, hi⟩ := ha
    have ha2 := ha.2.1 (by decide)
    have ha1 := ha.1
    refine Arith.go (by lia) (fun ky hky => ?_); (cbv; repeat (refine Later.mk ?_; cbv))
    have hw := belowF_ok code hb hc i h hi 9
    refine ACall.valN (r := rCur) (os := oCur A code) (dp := false) S.cx (l1Below_c S code hb hc i h hi 9) ⟨rfl, (by repeat' (first | exact trivial | exact rfl | exact Nat.le_refl _ | exact S.cx.giveEq | exact S.cx.lendLe (by assumption) | exact S.cx.lendEq (by assumption) | exact S.cx.lendLe0 | exact S.cx.lendEq0 | exact S.cx.partLe (by assumption) | exact S.cx.partEq (by assumption) | exact S.cx.enc _ [] | exact .inl rfl | refine ⟨?_, ?_⟩)), (by repeat' (first | exact trivial | exact rfl | exact Nat.le_refl _ | exact S.cx.giveEq | exact S.cx.lendLe (by assumption) | exact S.cx.lendEq (by assumption) | exact S.cx.lendLe0 | exact S.cx.lendEq0 | exact S.cx.partLe (by assumption) | exact S.cx.partEq (by assumption) | exact S.cx.enc _ [] | exact .inl rfl | refine ⟨?_, ?_⟩))⟩ rfl (fun ln hln x hx => ⟨rfl, ?_⟩)
    obtain ⟨w, i, h⟩ := x
    (cbv; repeat (refine Later.mk ?_; cbv))
    rw [← hx] at hw
    dsimp only at hw
    clear hx hi
    obtain ⟨hw, hi⟩ := hw
    exact Done.to (.agg (cNode ⟨k, up, 9223372036854775807, ky, w⟩)) [some (.box [.ro (A.enc cByte code), .int .i64 i, .int .i64 h])] rfl (by repeat' (first | exact trivial | exact rfl | refine ⟨?_, ?_⟩)) ⟨⟨⟨rfl, .inl rfl⟩, rfl, rfl, trivial⟩, trivial⟩ ⟨⟨k, up, 9223372036854775807, ky, w⟩, i, h, hi, rfl, rfl⟩
  refine Test.eql (fun g4 => ?_) (fun g4 => ?_) <;> (cbv; repeat (refine Later.mk ?_; cbv))
  · have hbb := onceF_ok code hb hc i h hi 3
    refine ACall.valN (r := rCurB) (os := oCur A code) (dp := false) S.cx (l1Once_c S code hb hc i h hi 3) ⟨rfl, (by repeat' (first | exact trivial | exact rfl | exact Nat.le_refl _ | exact S.cx.giveEq | exact S.cx.lendLe (by assumption) | exact S.cx.lendEq (by assumption) | exact S.cx.lendLe0 | exact S.cx.lendEq0 | exact S.cx.partLe (by assumption) | exact S.cx.partEq (by assumption) | exact S.cx.enc _ [] | exact .inl rfl | refine ⟨?_, ?_⟩)), (by repeat' (first | exact trivial | exact rfl | exact Nat.le_refl _ | exact S.cx.giveEq | exact S.cx.lendLe (by assumption) | exact S.cx.lendEq (by assumption) | exact S.cx.lendLe0 | exact S.cx.lendEq0 | exact S.cx.partLe (by assumption) | exact S.cx.partEq (by assumption) | exact S.cx.enc _ [] | exact .inl rfl | refine ⟨?_, ?_⟩))⟩ rfl (fun ln hln x hx => ⟨rfl, ?_⟩)
    obtain ⟨b, i, h⟩ := x
    (cbv; repeat (refine Later.mk ?_; cbv))
    rw [← hx] at hbb
    dsimp only at hbb
    clear hx hi
    obtain ⟨hbb, hi⟩ := hbb
    cases b <;> (cbv; repeat (refine Later.mk ?_; cbv))
    · exact Done.to (.agg (cNode ⟨1, up, 9223372036854775807, 0, 0⟩)) [some (.box [.ro (A.enc cByte code), .int .i64 i, .int .i64 h])] rfl (by repeat' (first | exact trivial | exact rfl | refine ⟨?_, ?_⟩)) ⟨⟨⟨rfl, .inl rfl⟩, rfl, rfl, trivial⟩, trivial⟩ ⟨⟨1, up, 9223372036854775807, 0, 0⟩, i, h, hi, rfl, rfl⟩
    exact Done.to (.agg (cNode ⟨k, up, 9223372036854775807, 0, 0⟩)) [some (.box [.ro (A.enc cByte code), .int .i64 i, .int .i64 h])] rfl (by repeat' (first | exact trivial | exact rfl | refine ⟨?_, ?_⟩)) ⟨⟨⟨rfl, .inl rfl⟩, rfl, rfl, trivial⟩, trivial⟩ ⟨⟨k, up, 9223372036854775807, 0, 0⟩, i, h, hi, rfl, rfl⟩
  exact Done.to (.agg (cNode ⟨k, up, 9223372036854775807, 0, 0⟩)) [some (.box [.ro (A.enc cByte code), .int .i64 i, .int .i64 h])] rfl (by repeat' (first | exact trivial | exact rfl | refine ⟨?_, ?_⟩)) ⟨⟨⟨rfl, .inl rfl⟩, rfl, rfl, trivial⟩, trivial⟩ ⟨⟨k, up, 9223372036854775807, 0, 0⟩, i, h, hi, rfl, rfl⟩

theorem l5BendNode_c (S : Se P A) (code : List Int) (hb : code.length ≤ 4096) (hc : ∀ b ∈ code, 0 ≤ b ∧ b ≤ 255) (i h : Int) (hi : 0 ≤ i) (kind up due key value : Int) : SoundM P 148 true [.ptr 1000 0 0, .agg (cNode ⟨kind, up, due, key, value⟩)] [.box [.ro (A.enc cByte code), .int .i64 i, .int .i64 h]]
    (fun v os => ∃ (x : Node) (i' h' : Int), 0 ≤ i' ∧ v = .agg (cNode x) ∧ os = [some (.box [.ro (A.enc cByte code), .int .i64 i', .int .i64 h'])]) := by
  refine S.cx.byS [99999] (S.prog ▸ Try.func148) rfl rfl rfl rfl (fun ln hln hv ho => ?_)
  (cbv; repeat (refine Later.mk ?_; cbv))
  have hy := belowF_ok code hb hc i h hi 5
  refine ACall.valN (r := rCur) (os := oCur A code) (dp := false) S.cx (l1Below_c S code hb hc i h hi 5) ⟨rfl, (by repeat' (first | exact trivial | exact rfl | exact Nat.le_refl _ | exact S.cx.giveEq | exact S.cx.lendLe (by assumption) | exact S.cx.lendEq (by assumption) | exact S.cx.lendLe0 | exact S.cx.lendEq0 | exact S.cx.partLe (by assumption) | exact S.cx.partEq (by assumption) | exact S.cx.enc _ [] | exact .inl rfl | refine ⟨?_, ?_⟩)), (by repeat' (first | exact trivial | exact rfl | exact Nat.le_refl _ | exact S.cx.giveEq | exact S.cx.lendLe (by assumption) | exact S.cx.lendEq (by assumption) | exact S.cx.lendLe0 | exact S.cx.lendEq0 | exact S.cx.partLe (by assumption) | exact S.cx.partEq (by assumption) | exact S.cx.enc _ [] | exact .inl rfl | refine ⟨?_, ?_⟩))⟩ rfl (fun ln hln x hx => ⟨rfl, ?_⟩)
  obtain ⟨y, i, h⟩ := x
  (cbv; repeat (refine Later.mk ?_; cbv))
  rw [← hx] at hy
  dsimp only at hy
  clear hx hi
  obtain ⟨hy, hi⟩ := hy
  refine Test.eql (fun g0 => ?_) (fun g0 => ?_) <;> (cbv; repeat (refine Later.mk ?_; cbv))
  · have hv1 := fromF_ok code hb hc i h hi (-1) 5
    refine ACall.valN (r := rCur) (os := oCur A code) (dp := false) S.cx (l1From_c S code hb hc i h hi (-1) 5 (by decide)) ⟨rfl, (by repeat' (first | exact trivial | exact rfl | exact Nat.le_refl _ | exact S.cx.giveEq | exact S.cx.lendLe (by assumption) | exact S.cx.lendEq (by assumption) | exact S.cx.lendLe0 | exact S.cx.lendEq0 | exact S.cx.partLe (by assumption) | exact S.cx.partEq (by assumption) | exact S.cx.enc _ [] | exact .inl rfl | refine ⟨?_, ?_⟩)), (by repeat' (first | exact trivial | exact rfl | exact Nat.le_refl _ | exact S.cx.giveEq | exact S.cx.lendLe (by assumption) | exact S.cx.lendEq (by assumption) | exact S.cx.lendLe0 | exact S.cx.lendEq0 | exact S.cx.partLe (by assumption) | exact S.cx.partEq (by assumption) | exact S.cx.enc _ [] | exact .inl rfl | refine ⟨?_, ?_⟩))⟩ rfl (fun ln hln x hx => ⟨rfl, ?_⟩)
    obtain ⟨v1, i, h⟩ := x
    (cbv; repeat (refine Later.mk ?_; cbv))
    rw [← hx] at hv1
    dsimp only at hv1
    clear hx hi
    obtain ⟨hv1, hi⟩ := hv1
    exact Done.to (.agg (cNode ⟨v1, up, due, key, value⟩)) [some (.box [.ro (A.enc cByte code), .int .i64 i, .int .i64 h])] rfl (by repeat' (first | exact trivial | exact rfl | refine ⟨?_, ?_⟩)) ⟨⟨⟨rfl, .inl rfl⟩, rfl, rfl, trivial⟩, trivial⟩ ⟨⟨v1, up, due, key, value⟩, i, h, hi, rfl, rfl⟩
  refine Test.eql (fun g1 => ?_) (fun g1 => ?_) <;> (cbv; repeat (refine Later.mk ?_; cbv))
  · have hv1 := fromF_ok code hb hc i h hi (-2) 9
    refine ACall.valN (r := rCur) (os := oCur A code) (dp := false) S.cx (l1From_c S code hb hc i h hi (-2) 9 (by decide)) ⟨rfl, (by repeat' (first | exact trivial | exact rfl | exact Nat.le_refl _ | exact S.cx.giveEq | exact S.cx.lendLe (by assumption) | exact S.cx.lendEq (by assumption) | exact S.cx.lendLe0 | exact S.cx.lendEq0 | exact S.cx.partLe (by assumption) | exact S.cx.partEq (by assumption) | exact S.cx.enc _ [] | exact .inl rfl | refine ⟨?_, ?_⟩)), (by repeat' (first | exact trivial | exact rfl | exact Nat.le_refl _ | exact S.cx.giveEq | exact S.cx.lendLe (by assumption) | exact S.cx.lendEq (by assumption) | exact S.cx.lendLe0 | exact S.cx.lendEq0 | exact S.cx.partLe (by assumption) | exact S.cx.partEq (by assumption) | exact S.cx.enc _ [] | exact .inl rfl | refine ⟨?_, ?_⟩))⟩ rfl (fun ln hln x hx => ⟨rfl, ?_⟩)
    obtain ⟨v1, i, h⟩ := x
    (cbv; repeat (refine Later.mk ?_; cbv))
    rw [← hx] at hv1
    dsimp only at hv1
    clear hx hi
    obtain ⟨hv1, hi⟩ := hv1
    exact Done.to (.agg (cNode ⟨kind, v1, due, key, value⟩)) [some (.box [.ro (A.enc cByte code), .int .i64 i, .int .i64 h])] rfl (by repeat' (first | exact trivial | exact rfl | refine ⟨?_, ?_⟩)) ⟨⟨⟨rfl, .inl rfl⟩, rfl, rfl, trivial⟩, trivial⟩ ⟨⟨kind, v1, due, key, value⟩, i, h, hi, rfl, rfl⟩
  refine Test.eql (fun g2 => ?_) (fun g2 => ?_) <;> (cbv; repeat (refine Later.mk ?_; cbv))
  · have hv1 := belowF_ok code hb hc i h hi 9
    refine ACall.valN (r := rCur) (os := oCur A code) (dp := false) S.cx (l1Below_c S code hb hc i h hi 9) ⟨rfl, (by repeat' (first | exact trivial | exact rfl | exact Nat.le_refl _ | exact S.cx.giveEq | exact S.cx.lendLe (by assumption) | exact S.cx.lendEq (by assumption) | exact S.cx.lendLe0 | exact S.cx.lendEq0 | exact S.cx.partLe (by assumption) | exact S.cx.partEq (by assumption) | exact S.cx.enc _ [] | exact .inl rfl | refine ⟨?_, ?_⟩)), (by repeat' (first | exact trivial | exact rfl | exact Nat.le_refl _ | exact S.cx.giveEq | exact S.cx.lendLe (by assumption) | exact S.cx.lendEq (by assumption) | exact S.cx.lendLe0 | exact S.cx.lendEq0 | exact S.cx.partLe (by assumption) | exact S.cx.partEq (by assumption) | exact S.cx.enc _ [] | exact .inl rfl | refine ⟨?_, ?_⟩))⟩ rfl (fun ln hln x hx => ⟨rfl, ?_⟩)
    obtain ⟨v1, i, h⟩ := x
    (cbv; repeat (refine Later.mk ?_; cbv))
    rw [← hx] at hv1
    dsimp only at hv1
    clear hx hi
    obtain ⟨hv1, hi⟩ := hv1
    exact Done.to (.agg (cNode ⟨kind, up, v1, key, value⟩)) [some (.box [.ro (A.enc cByte code), .int .i64 i, .int .i64 h])] rfl (by repeat' (first | exact trivial | exact rfl | refine ⟨?_, ?_⟩)) ⟨⟨⟨rfl, .inl rfl⟩, rfl, rfl, trivial⟩, trivial⟩ ⟨⟨kind, up, v1, key, value⟩, i, h, hi, rfl, rfl⟩
  refine Test.eql (fun g3 => ?_) (fun g3 => ?_) <;> (cbv; repeat (refine Later.mk ?_; cbv))
  · have hv1 := fromF_ok code hb hc i h hi 0 10
    refine ACall.valN (r := rCur) (os := oCur A code) (dp := false) S.cx (l1From_c S code hb hc i h hi 0 10 (by decide)) ⟨rfl, (by repeat' (first | exact trivial | exact rfl | exact Nat.le_refl _ | exact S.cx.giveEq | exact S.cx.lendLe (by assumption) | exact S.cx.lendEq (by assumption) | exact S.cx.lendLe0 | exact S.cx.lendEq0 | exact S.cx.partLe (by assumption) | exact S.cx.partEq (by assumption) | exact S.cx.enc _ [] | exact .inl rfl | refine ⟨?_, ?_⟩)), (by repeat' (first | exact trivial | exact rfl | exact Nat.le_refl _ | exact S.cx.giveEq | exact S.cx.lendLe (by assumption) | exact S.cx.lendEq (by assumption) | exact S.cx.lendLe0 | exact S.cx.lendEq0 | exact S.cx.partLe (by assumption) | exact S.cx.partEq (by assumption) | exact S.cx.enc _ [] | exact .inl rfl | refine ⟨?_, ?_⟩))⟩ rfl (fun ln hln x hx => ⟨rfl, ?_⟩)
    obtain ⟨v1, i, h⟩ := x
    (cbv; repeat (refine Later.mk ?_; cbv))
    rw [← hx] at hv1
    dsimp only at hv1
    clear hx hi
    obtain ⟨hv1, hi⟩ := hv1
    exact Done.to (.agg (cNode ⟨kind, up, due, v1, value⟩)) [some (.box [.ro (A.enc cByte code), .int .i64 i, .int .i64 h])] rfl (by repeat' (first | exact trivial | exact rfl | refine ⟨?_, ?_⟩)) ⟨⟨⟨rfl, .inl rfl⟩, rfl, rfl, trivial⟩, trivial⟩ ⟨⟨kind, up, due, v1, value⟩, i, h, hi, rfl, rfl⟩
  refine Test.eql (fun g4 => ?_) (fun g4 => ?_) <;> (cbv; repeat (refine Later.mk ?_; cbv))
  · have hv1 := numF_ok code hb hc i h hi 999
    refine ACall.valN (r := rCur) (os := oCur A code) (dp := false) S.cx (l1Num_c S code hb hc i h hi 999 (by decide)) ⟨rfl, (by repeat' (first | exact trivial | exact rfl | exact Nat.le_refl _ | exact S.cx.giveEq | exact S.cx.lendLe (by assumption) | exact S.cx.lendEq (by assumption) | exact S.cx.lendLe0 | exact S.cx.lendEq0 | exact S.cx.partLe (by assumption) | exact S.cx.partEq (by assumption) | exact S.cx.enc _ [] | exact .inl rfl | refine ⟨?_, ?_⟩)), (by repeat' (first | exact trivial | exact rfl | exact Nat.le_refl _ | exact S.cx.giveEq | exact S.cx.lendLe (by assumption) | exact S.cx.lendEq (by assumption) | exact S.cx.lendLe0 | exact S.cx.lendEq0 | exact S.cx.partLe (by assumption) | exact S.cx.partEq (by assumption) | exact S.cx.enc _ [] | exact .inl rfl | refine ⟨?_, ?_⟩))⟩ rfl (fun ln hln x hx => ⟨rfl, ?_⟩)
    obtain ⟨v1, i, h⟩ := x
    (cbv; repeat (refine Later.mk ?_; cbv))
    rw [← hx] at hv1
    dsimp only at hv1
    clear hx hi
    obtain ⟨hv1, hi⟩ := hv1
    exact Done.to (.agg (cNode ⟨kind, up, due, key, v1⟩)) [some (.box [.ro (A.enc cByte code), .int .i64 i, .int .i64 h])] rfl (by repeat' (first | exact trivial | exact rfl | refine ⟨?_, ?_⟩)) ⟨⟨⟨rfl, .inl rfl⟩, rfl, rfl, trivial⟩, trivial⟩ ⟨⟨kind, up, due, key, v1⟩, i, h, hi, rfl, rfl⟩
  exact Done.to (.agg (cNode ⟨kind, up, due, key, value⟩)) [some (.box [.ro (A.enc cByte code), .int .i64 i, .int .i64 h])] rfl (by repeat' (first | exact trivial | exact rfl | refine ⟨?_, ?_⟩)) ⟨⟨⟨rfl, .inl rfl⟩, rfl, rfl, trivial⟩, trivial⟩ ⟨⟨kind, up, due, key, value⟩, i, h, hi, rfl, rfl⟩

structure NSt where
  l : List Node
  n : Int
  i : Int
  h : Int
  m : Nat
  p : Bool

theorem l5Draw_c (S : Se P A) (code : List Int) (hb : code.length ≤ 4096) (hc : ∀ b ∈ code, 0 ≤ b ∧ b ≤ 255) (i h : Int) (hi : 0 ≤ i) : SoundM P 147 true [.ptr 1000 0 0] [.box [.ro (A.enc cByte code), .int .i64 i, .int .i64 h]]
    (fun v os => ∃ (l : List Node) (i' h' : Int), (1 ≤ l.length ∧ l.length ≤ 100) ∧ 0 ≤ i' ∧ v = .own 5 true (A.enc cNode l) ∧ os = [some (.box [.ro (A.enc cByte code), .int .i64 i', .int .i64 h'])]) := by
  refine S.cx.byS [99999] (S.prog ▸ Try.func147) rfl rfl rfl rfl (fun ln hln hv ho => ?_)
  (cbv; repeat (refine Later.mk ?_; cbv))
  rw [show ([[AV.int .i64 0, AV.int .i64 (-1), AV.int .i64 9223372036854775807, AV.int .i64 0, AV.int .i64 0]] : List (List AV)) = A.enc cNode [⟨0, -1, 9223372036854775807, 0, 0⟩] from by rw [S.cx.enc]; rfl]
  have hn0 := belowF_ok code hb hc i h hi 9
  refine ACall.valN (r := rCur) (os := oCur A code) (dp := false) S.cx (l1Below_c S code hb hc i h hi 9) ⟨rfl, (by repeat' (first | exact trivial | exact rfl | exact Nat.le_refl _ | exact S.cx.giveEq | exact S.cx.lendLe (by assumption) | exact S.cx.lendEq (by assumption) | exact S.cx.lendLe0 | exact S.cx.lendEq0 | exact S.cx.partLe (by assumption) | exact S.cx.partEq (by assumption) | exact S.cx.enc _ [] | exact .inl rfl | refine ⟨?_, ?_⟩)), (by repeat' (first | exact trivial | exact rfl | exact Nat.le_refl _ | exact S.cx.giveEq | exact S.cx.lendLe (by assumption) | exact S.cx.lendEq (by assumption) | exact S.cx.lendLe0 | exact S.cx.lendEq0 | exact S.cx.partLe (by assumption) | exact S.cx.partEq (by assumption) | exact S.cx.enc _ [] | exact .inl rfl | refine ⟨?_, ?_⟩))⟩ rfl (fun ln hln x hx => ⟨rfl, ?_⟩)
  obtain ⟨n0, i, h⟩ := x
  (cbv; repeat (refine Later.mk ?_; cbv))
  rw [← hx] at hn0
  dsimp only at hn0
  clear hx hi
  obtain ⟨hn0, hi⟩ := hn0
  have hn8 := hn0.2.1 (by decide)
  have hn7 := hn0.1
  refine Arith.go (by lia) (fun n9 hn9 => ?_); replace hn9 : n9 = 1 + n0 := hn9; (cbv; repeat (refine Later.mk ?_; cbv))
  refine ALoop.goT (ι := NSt) (fun i => [(3, .ref i.p 2010000 0 i.m), (4, .int .i64 i.n)]) [7] [1000, 2010000] (fun i => [(1000, .box [.ro (A.enc cByte code), .int .i64 i.i, .int .i64 i.h]), (2010000, .arr 5 true (A.enc cNode i.l))]) (fun i => 0 ≤ i.i ∧ i.m = i.l.length ∧ 1 ≤ i.l.length ∧ i.l.length + i.n.toNat ≤ 20) (fun i => i.n.toNat) (⟨[⟨0, -1, 9223372036854775807, 0, 0⟩], n9, i, h, 1, true⟩) [99999] S.cx.tab S.cx.mix S.eq ?_ ?_ ?_
  · exact ⟨hi, rfl, Nat.le_refl _, by simp only [List.length_cons, List.length_nil]; lia⟩
  · ((cbv; repeat (refine Later.mk ?_; cbv)); refine Less.to [] rfl rfl ?_ ?_ <;> repeat' (first | exact trivial | exact ⟨rfl, rfl⟩ | exact ⟨_, rfl, Nat.zero_le _, rfl⟩ | apply And.intro | exact rfl))
  clear hi
  rintro ⟨l, n, i, h, m, p⟩ hk
  dsimp only at hk
  obtain ⟨hi, hm, hl1, hln⟩ := hk
  refine Rnd.mk ?_; (cbv; repeat (refine Later.mk ?_; cbv))
  refine Test.gtr (fun hg => ?_) (fun hg => ?_) <;> (cbv; repeat (refine Later.mk ?_; cbv))
  rotate_left
  · have hbb := onceF_ok code hb hc i h hi 40
    refine ACall.valN (r := rCurB) (os := oCur A code) (dp := false) S.cx (l1Once_c S code hb hc i h hi 40) ⟨rfl, (by repeat' (first | exact trivial | exact rfl | exact Nat.le_refl _ | exact S.cx.giveEq | exact S.cx.lendLe (by assumption) | exact S.cx.lendEq (by assumption) | exact S.cx.lendLe0 | exact S.cx.lendEq0 | exact S.cx.partLe (by assumption) | exact S.cx.partEq (by assumption) | exact S.cx.enc _ [] | exact .inl rfl | refine ⟨?_, ?_⟩)), (by repeat' (first | exact trivial | exact rfl | exact Nat.le_refl _ | exact S.cx.giveEq | exact S.cx.lendLe (by assumption) | exact S.cx.lendEq (by assumption) | exact S.cx.lendLe0 | exact S.cx.lendEq0 | exact S.cx.partLe (by assumption) | exact S.cx.partEq (by assumption) | exact S.cx.enc _ [] | exact .inl rfl | refine ⟨?_, ?_⟩))⟩ rfl (fun ln hln x hx => ⟨rfl, ?_⟩)
    obtain ⟨b, i, h⟩ := x
    (cbv; repeat (refine Later.mk ?_; cbv))
    rw [← hx] at hbb
    dsimp only at hbb
    clear hx hi
    obtain ⟨hbb, hi⟩ := hbb
    cases b <;> (cbv; repeat (refine Later.mk ?_; cbv))
    · exact Done.to (.own 5 true (A.enc cNode l)) [some (.box [.ro (A.enc cByte code), .int .i64 i, .int .i64 h])] rfl (by repeat' (first | exact trivial | exact rfl | exact resOwn S.cx rfl (by assumption) | exact resOwn S.cx rfl (S.cx.lenE _ _) | exact resOwn1 S.cx rfl (by assumption) | exact resOwnT S.cx rfl (by assumption) | exact S.cx.enc _ [] | refine ⟨?_, ?_⟩)) ⟨⟨⟨rfl, .inl rfl⟩, rfl, rfl, trivial⟩, trivial⟩ ⟨l, i, h, ⟨hl1, by omega⟩, hi, rfl, rfl⟩
    refine Len.nat (fun m2 hm2 hml2 => ?_); (cbv; repeat (refine Later.mk ?_; cbv))
    refine Arith.go (by lia) (fun q1 hq1 => ?_); replace hq1 : q1 = 60 - m2 := hq1; (cbv; repeat (refine Later.mk ?_; cbv))
    have hz := belowF_ok code hb hc i h hi 2
    refine ACall.valN (r := rCur) (os := oCur A code) (dp := false) S.cx (l1Below_c S code hb hc i h hi 2) ⟨rfl, (by repeat' (first | exact trivial | exact rfl | exact Nat.le_refl _ | exact S.cx.giveEq | exact S.cx.lendLe (by assumption) | exact S.cx.lendEq (by assumption) | exact S.cx.lendLe0 | exact S.cx.lendEq0 | exact S.cx.partLe (by assumption) | exact S.cx.partEq (by assumption) | exact S.cx.enc _ [] | exact .inl rfl | refine ⟨?_, ?_⟩)), (by repeat' (first | exact trivial | exact rfl | exact Nat.le_refl _ | exact S.cx.giveEq | exact S.cx.lendLe (by assumption) | exact S.cx.lendEq (by assumption) | exact S.cx.lendLe0 | exact S.cx.lendEq0 | exact S.cx.partLe (by assumption) | exact S.cx.partEq (by assumption) | exact S.cx.enc _ [] | exact .inl rfl | refine ⟨?_, ?_⟩))⟩ rfl (fun ln hln x hx => ⟨rfl, ?_⟩)
    obtain ⟨z, i, h⟩ := x
    (cbv; repeat (refine Later.mk ?_; cbv))
    rw [← hx] at hz
    dsimp only at hz
    clear hx hi
    obtain ⟨hz, hi⟩ := hz
    have hz2 := hz.2.1 (by decide)
    have hz1 := hz.1
    refine Arith.go (by lia) (fun q2 hq2 => ?_); replace hq2 : q2 = q1 - z := hq2; (cbv; repeat (refine Later.mk ?_; cbv))
    refine ALoop.goT (ι := NSt) (fun i => [(3, .ref i.p 2010000 0 i.m), (5, .int .i64 i.n)]) [30] [1000, 2010000] (fun i => [(1000, .box [.ro (A.enc cByte code), .int .i64 i.i, .int .i64 i.h]), (2010000, .arr 5 true (A.enc cNode i.l))]) (fun i => 0 ≤ i.i ∧ i.m = i.l.length ∧ 1 ≤ i.l.length ∧ i.l.length + i.n.toNat ≤ 70) (fun i => i.n.toNat) (⟨l, q2, i, h, m, p⟩) [99999] S.cx.tab S.cx.mix S.eq ?_ ?_ ?_
    · exact ⟨hi, hm, hl1, by dsimp only; lia⟩
    · ((cbv; repeat (refine Later.mk ?_; cbv)); refine Less.to [] rfl rfl ?_ ?_ <;> repeat' (first | exact trivial | exact ⟨rfl, rfl⟩ | exact ⟨_, rfl, Nat.zero_le _, rfl⟩ | apply And.intro | exact rfl))
    clear hi
    rintro ⟨l, n, i, h, m, p⟩ hk
    dsimp only at hk
    obtain ⟨hi, hm, hl1, hln⟩ := hk
    refine Rnd.mk ?_; (cbv; repeat (refine Later.mk ?_; cbv))
    refine Test.gtr (fun hg => ?_) (fun hg => ?_) <;> (cbv; repeat (refine Later.mk ?_; cbv))
    rotate_left
    · exact Done.to (.own 5 true (A.enc cNode l)) [some (.box [.ro (A.enc cByte code), .int .i64 i, .int .i64 h])] rfl (by repeat' (first | exact trivial | exact rfl | exact resOwn S.cx rfl (by assumption) | exact resOwn S.cx rfl (S.cx.lenE _ _) | exact resOwn1 S.cx rfl (by assumption) | exact resOwnT S.cx rfl (by assumption) | exact S.cx.enc _ [] | refine ⟨?_, ?_⟩)) ⟨⟨⟨rfl, .inl rfl⟩, rfl, rfl, trivial⟩, trivial⟩ ⟨l, i, h, ⟨hl1, by omega⟩, hi, rfl, rfl⟩
    refine Len.nat (fun m3 hm3 hml3 => ?_); (cbv; repeat (refine Later.mk ?_; cbv))
    refine ACall.of (dp := false) (l5DrawNode_c S code hb hc i h hi m3 (by lia)) ⟨rfl, (by repeat' (first | exact trivial | exact rfl | exact Nat.le_refl _ | exact S.cx.giveEq | exact S.cx.lendLe (by assumption) | exact S.cx.lendEq (by assumption) | exact S.cx.lendLe0 | exact S.cx.lendEq0 | exact S.cx.partLe (by assumption) | exact S.cx.partEq (by assumption) | exact S.cx.enc _ [] | exact .inl rfl | refine ⟨?_, ?_⟩)), (by repeat' (first | exact trivial | exact rfl | exact Nat.le_refl _ | exact S.cx.giveEq | exact S.cx.lendLe (by assumption) | exact S.cx.lendEq (by assumption) | exact S.cx.lendLe0 | exact S.cx.lendEq0 | exact S.cx.partLe (by assumption) | exact S.cx.partEq (by assumption) | exact S.cx.enc _ [] | exact .inl rfl | refine ⟨?_, ?_⟩))⟩ (fun v os hv => ?_)
    clear hi
    obtain ⟨⟨kind, up, due, key, value⟩, i, h, hi, rfl, rfl⟩ := hv
    refine ⟨rfl, ?_⟩; (cbv; repeat (refine Later.mk ?_; cbv))
    refine Part.one ?_; (cbv; repeat (refine Later.mk ?_; cbv))
    refine AppRef.push S.cx (⟨kind, up, due, key, value⟩ : Node) (by assumption) rfl rfl plainNode (fun _ => rfl) (by simp only [maxBytes]; omega) (fun m9 w hw hml9 => ?_); (cbv; repeat (refine Later.mk ?_; cbv))
    have hwl : w.length = l.length + 1 := by rw [hw, List.length_append]; rfl
    refine Arith.go (by lia) (fun n' hn' => ?_); (cbv; repeat (refine Later.mk ?_; cbv))
    replace hn' : n' = n - 1 := hn'
    refine Again.on (⟨w, n', i, h, m9, false⟩ : NSt) (by dsimp only; lia) ⟨hi, hml9, by dsimp only; omega, by dsimp only; lia⟩ ?_
    ((cbv; repeat (refine Later.mk ?_; cbv)); refine Less.to [(2010000, (13060000, 0))] rfl rfl ?_ ?_ <;> repeat' (first | exact trivial | exact ⟨rfl, rfl⟩ | exact ⟨_, rfl, Nat.zero_le _, rfl⟩ | apply And.intro | exact rfl))
  have hbb := onceF_ok code hb hc i h hi 12
  refine ACall.valN (r := rCurB) (os := oCur A code) (dp := false) S.cx (l1Once_c S code hb hc i h hi 12) ⟨rfl, (by repeat' (first | exact trivial | exact rfl | exact Nat.le_refl _ | exact S.cx.giveEq | exact S.cx.lendLe (by assumption) | exact S.cx.lendEq (by assumption) | exact S.cx.lendLe0 | exact S.cx.lendEq0 | exact S.cx.partLe (by assumption) | exact S.cx.partEq (by assumption) | exact S.cx.enc _ [] | exact .inl rfl | refine ⟨?_, ?_⟩)), (by repeat' (first | exact trivial | exact rfl | exact Nat.le_refl _ | exact S.cx.giveEq | exact S.cx.lendLe (by assumption) | exact S.cx.lendEq (by assumption) | exact S.cx.lendLe0 | exact S.cx.lendEq0 | exact S.cx.partLe (by assumption) | exact S.cx.partEq (by assumption) | exact S.cx.enc _ [] | exact .inl rfl | refine ⟨?_, ?_⟩))⟩ rfl (fun ln hln x hx => ⟨rfl, ?_⟩)
  obtain ⟨b, i, h⟩ := x
  (cbv; repeat (refine Later.mk ?_; cbv))
  rw [← hx] at hbb
  dsimp only at hbb
  clear hx hi
  obtain ⟨hbb, hi⟩ := hbb
  cases b <;> (cbv; repeat (refine Later.mk ?_; cbv))
  · refine Len.nat (fun m3 hm3 hml3 => ?_); (cbv; repeat (refine Later.mk ?_; cbv))
    refine ACall.of (dp := false) (l5DrawNode_c S code hb hc i h hi m3 (by lia)) ⟨rfl, (by repeat' (first | exact trivial | exact rfl | exact Nat.le_refl _ | exact S.cx.giveEq | exact S.cx.lendLe (by assumption) | exact S.cx.lendEq (by assumption) | exact S.cx.lendLe0 | exact S.cx.lendEq0 | exact S.cx.partLe (by assumption) | exact S.cx.partEq (by assumption) | exact S.cx.enc _ [] | exact .inl rfl | refine ⟨?_, ?_⟩)), (by repeat' (first | exact trivial | exact rfl | exact Nat.le_refl _ | exact S.cx.giveEq | exact S.cx.lendLe (by assumption) | exact S.cx.lendEq (by assumption) | exact S.cx.lendLe0 | exact S.cx.lendEq0 | exact S.cx.partLe (by assumption) | exact S.cx.partEq (by assumption) | exact S.cx.enc _ [] | exact .inl rfl | refine ⟨?_, ?_⟩))⟩ (fun v os hv => ?_)
    clear hi
    obtain ⟨⟨kind, up, due, key, value⟩, i, h, hi, rfl, rfl⟩ := hv
    refine ⟨rfl, ?_⟩; (cbv; repeat (refine Later.mk ?_; cbv))
    refine Part.one ?_; (cbv; repeat (refine Later.mk ?_; cbv))
    refine AppRef.push S.cx (⟨kind, up, due, key, value⟩ : Node) (by assumption) rfl rfl plainNode (fun _ => rfl) (by simp only [maxBytes]; omega) (fun m9 w hw hml9 => ?_); (cbv; repeat (refine Later.mk ?_; cbv))
    have hwl : w.length = l.length + 1 := by rw [hw, List.length_append]; rfl
    refine Arith.go (by lia) (fun n' hn' => ?_); (cbv; repeat (refine Later.mk ?_; cbv))
    replace hn' : n' = n - 1 := hn'
    refine Again.on (⟨w, n', i, h, m9, false⟩ : NSt) (by dsimp only; lia) ⟨hi, hml9, by dsimp only; omega, by dsimp only; lia⟩ ?_
    ((cbv; repeat (refine Later.mk ?_; cbv)); refine Less.to [(2010000, (8060000, 0))] rfl rfl ?_ ?_ <;> repeat' (first | exact trivial | exact ⟨rfl, rfl⟩ | exact ⟨_, rfl, Nat.zero_le _, rfl⟩ | apply And.intro | exact rfl))
  refine Part.one ?_; (cbv; repeat (refine Later.mk ?_; cbv))
  refine AppRef.push S.cx (⟨0, -1, 9223372036854775807, 0, 0⟩ : Node) (by assumption) rfl rfl plainNode (fun _ => rfl) (by simp only [maxBytes]; omega) (fun m9 w hw hml9 => ?_); (cbv; repeat (refine Later.mk ?_; cbv))
  have hwl : w.length = l.length + 1 := by rw [hw, List.length_append]; rfl
  refine Arith.go (by lia) (fun n' hn' => ?_); (cbv; repeat (refine Later.mk ?_; cbv))
  replace hn' : n' = n - 1 := hn'
  refine Again.on (⟨w, n', i, h, m9, false⟩ : NSt) (by dsimp only; lia) ⟨hi, hml9, by dsimp only; omega, by dsimp only; lia⟩ ?_
  ((cbv; repeat (refine Later.mk ?_; cbv)); refine Less.to [(2010000, (7030000, 0))] rfl rfl ?_ ?_ <;> repeat' (first | exact trivial | exact ⟨rfl, rfl⟩ | exact ⟨_, rfl, Nat.zero_le _, rfl⟩ | apply And.intro | exact rfl))

theorem l5DrawAny_c (S : Se P A) (code : List Int) (hb : code.length ≤ 4096) (hc : ∀ b ∈ code, 0 ≤ b ∧ b ≤ 255) (i h : Int) (hi : 0 ≤ i) : SoundM P 133 true [.ptr 1000 0 0] [.box [.ro (A.enc cByte code), .int .i64 i, .int .i64 h]]
    (fun v os => ∃ (l : List Node) (i' h' : Int), (1 ≤ l.length ∧ l.length ≤ 100) ∧ 0 ≤ i' ∧ v = .own 5 true (A.enc cNode l) ∧ os = [some (.box [.ro (A.enc cByte code), .int .i64 i', .int .i64 h'])]) := by
  refine S.cx.byS [99999] (S.prog ▸ Try.func133) rfl rfl rfl rfl (fun ln hln hv ho => ?_)
  (cbv; repeat (refine Later.mk ?_; cbv))
  refine ACall.ofN (dp := false) S.cx (l5Draw_c S code hb hc i h hi) ⟨rfl, (by repeat' (first | exact trivial | exact rfl | exact Nat.le_refl _ | exact S.cx.giveEq | exact S.cx.lendLe (by assumption) | exact S.cx.lendEq (by assumption) | exact S.cx.lendLe0 | exact S.cx.lendEq0 | exact S.cx.partLe (by assumption) | exact S.cx.partEq (by assumption) | exact S.cx.enc _ [] | exact .inl rfl | refine ⟨?_, ?_⟩)), (by repeat' (first | exact trivial | exact rfl | exact Nat.le_refl _ | exact S.cx.giveEq | exact S.cx.lendLe (by assumption) | exact S.cx.lendEq (by assumption) | exact S.cx.lendLe0 | exact S.cx.lendEq0 | exact S.cx.partLe (by assumption) | exact S.cx.partEq (by assumption) | exact S.cx.enc _ [] | exact .inl rfl | refine ⟨?_, ?_⟩))⟩ (fun ln hln v os hv => ?_)
  clear hi
  obtain ⟨l, i, h, hl, hi, rfl, rfl⟩ := hv
  refine ⟨rfl, ?_⟩; (cbv; repeat (refine Later.mk ?_; cbv))
  have hN := hln cNode l
  generalize ln (A.enc cNode l) = N at hN ⊢
  have hbb := onceF_ok code hb hc i h hi 8
  refine ACall.valN (r := rCurB) (os := oCur A code) (dp := false) S.cx (l1Once_c S code hb hc i h hi 8) ⟨rfl, (by repeat' (first | exact trivial | exact rfl | exact Nat.le_refl _ | exact S.cx.giveEq | exact S.cx.lendLe (by assumption) | exact S.cx.lendEq (by assumption) | exact S.cx.lendLe0 | exact S.cx.lendEq0 | exact S.cx.partLe (by assumption) | exact S.cx.partEq (by assumption) | exact S.cx.enc _ [] | exact .inl rfl | refine ⟨?_, ?_⟩)), (by repeat' (first | exact trivial | exact rfl | exact Nat.le_refl _ | exact S.cx.giveEq | exact S.cx.lendLe (by assumption) | exact S.cx.lendEq (by assumption) | exact S.cx.lendLe0 | exact S.cx.lendEq0 | exact S.cx.partLe (by assumption) | exact S.cx.partEq (by assumption) | exact S.cx.enc _ [] | exact .inl rfl | refine ⟨?_, ?_⟩))⟩ rfl (fun ln hln x hx => ⟨rfl, ?_⟩)
  obtain ⟨b, i, h⟩ := x
  (cbv; repeat (refine Later.mk ?_; cbv))
  rw [← hx] at hbb
  dsimp only at hbb
  clear hx hi
  obtain ⟨hbb, hi⟩ := hbb
  cases b <;> (cbv; repeat (refine Later.mk ?_; cbv))
  · exact Done.to (.own 5 true (A.enc cNode l)) [some (.box [.ro (A.enc cByte code), .int .i64 i, .int .i64 h])] rfl (by repeat' (first | exact trivial | exact rfl | exact resOwn S.cx rfl (by assumption) | exact resOwn S.cx rfl (S.cx.lenE _ _) | exact resOwn1 S.cx rfl (by assumption) | exact resOwnT S.cx rfl (by assumption) | exact S.cx.enc _ [] | refine ⟨?_, ?_⟩)) ⟨⟨⟨rfl, .inl rfl⟩, rfl, rfl, trivial⟩, trivial⟩ ⟨l, i, h, hl, hi, rfl, rfl⟩
  refine Len.nat (fun m hm hml => ?_); (cbv; repeat (refine Later.mk ?_; cbv))
  have hk := belowF_ok code hb hc i h hi m
  refine ACall.valN (r := rCur) (os := oCur A code) (dp := false) S.cx (l1Below_c S code hb hc i h hi m) ⟨rfl, (by repeat' (first | exact trivial | exact rfl | exact Nat.le_refl _ | exact S.cx.giveEq | exact S.cx.lendLe (by assumption) | exact S.cx.lendEq (by assumption) | exact S.cx.lendLe0 | exact S.cx.lendEq0 | exact S.cx.partLe (by assumption) | exact S.cx.partEq (by assumption) | exact S.cx.enc _ [] | exact .inl rfl | refine ⟨?_, ?_⟩)), (by repeat' (first | exact trivial | exact rfl | exact Nat.le_refl _ | exact S.cx.giveEq | exact S.cx.lendLe (by assumption) | exact S.cx.lendEq (by assumption) | exact S.cx.lendLe0 | exact S.cx.lendEq0 | exact S.cx.partLe (by assumption) | exact S.cx.partEq (by assumption) | exact S.cx.enc _ [] | exact .inl rfl | refine ⟨?_, ?_⟩))⟩ rfl (fun ln hln x hx => ⟨rfl, ?_⟩)
  obtain ⟨k, i, h⟩ := x
  (cbv; repeat (refine Later.mk ?_; cbv))
  rw [← hx] at hk
  dsimp only at hk
  clear hx hi
  obtain ⟨hk, hi⟩ := hk
  have hk2 := hk.2.1 (by lia)
  have hk1 := hk.1
  refine ElemRef.go rfl (by lia) (by lia) (by rw [S.cx.lenE']; lia) (fun row hrow => ?_); (cbv; repeat (refine Later.mk ?_; cbv))
  refine Row.enc S.cx (by lia) (fun x hxx => ?_)
  obtain ⟨kind, up, due, key, value⟩ := x
  (cbv; repeat (refine Later.mk ?_; cbv))
  refine ACall.of (dp := false) (l5BendNode_c S code hb hc i h hi kind up due key value) ⟨rfl, (by repeat' (first | exact trivial | exact rfl | exact Nat.le_refl _ | exact S.cx.giveEq | exact S.cx.lendLe (by assumption) | exact S.cx.lendEq (by assumption) | exact S.cx.lendLe0 | exact S.cx.lendEq0 | exact S.cx.partLe (by assumption) | exact S.cx.partEq (by assumption) | exact S.cx.enc _ [] | exact .inl rfl | refine ⟨?_, ?_⟩)), (by repeat' (first | exact trivial | exact rfl | exact Nat.le_refl _ | exact S.cx.giveEq | exact S.cx.lendLe (by assumption) | exact S.cx.lendEq (by assumption) | exact S.cx.lendLe0 | exact S.cx.lendEq0 | exact S.cx.partLe (by assumption) | exact S.cx.partEq (by assumption) | exact S.cx.enc _ [] | exact .inl rfl | refine ⟨?_, ?_⟩))⟩ (fun v os hv => ?_)
  clear hi
  obtain ⟨⟨kind2, up2, due2, key2, value2⟩, i, h, hi, rfl, rfl⟩ := hv
  refine ⟨rfl, ?_⟩; (cbv; repeat (refine Later.mk ?_; cbv))
  refine ElemRef.go rfl (by lia) (by lia) (by rw [S.cx.lenE']; lia) (fun row2 hrow2 => ?_); (cbv; repeat (refine Later.mk ?_; cbv))
  refine RowSet.enc S.cx (⟨kind, up, due, key, value⟩ : Node) ⟨kind2, up2, due2, key2, value2⟩ (by rw [show row2 = row by omega]; exact hxx) rfl (by show (5 : Nat) ≤ 5; decide) rfl (fun l2 hl2 => ?_); (cbv; repeat (refine Later.mk ?_; cbv))
  have hl2l : l2.length = l.length := by rw [hl2, List.length_set]
  have hN2 : N = l2.length := by omega
  exact Done.to (.own 5 true (A.enc cNode l2)) [some (.box [.ro (A.enc cByte code), .int .i64 i, .int .i64 h])] rfl (by repeat' (first | exact trivial | exact rfl | exact resOwn S.cx rfl (by assumption) | exact resOwn S.cx rfl (S.cx.lenE _ _) | exact resOwn1 S.cx rfl (by assumption) | exact resOwnT S.cx rfl (by assumption) | exact S.cx.enc _ [] | refine ⟨?_, ?_⟩)) ⟨⟨⟨rfl, .inl rfl⟩, rfl, rfl, trivial⟩, trivial⟩ ⟨l2, i, h, by omega, hi, rfl, rfl⟩

theorem l5DrawAt_c (S : Se P A) (code : List Int) (hb : code.length ≤ 4096) (hc : ∀ b ∈ code, 0 ≤ b ∧ b ≤ 255) (i h : Int) (hi : 0 ≤ i) : SoundM P 106 true [.ptr 1000 0 0] [.box [.ro (A.enc cByte code), .int .i64 i, .int .i64 h]]
    (fun v os => ∃ (l : List Node) (n i' h' : Int), (1 ≤ l.length ∧ l.length ≤ 100) ∧ 0 ≤ i' ∧ v = .tup [.own 5 true (A.enc cNode l), .int .i64 n] ∧ os = [some (.box [.ro (A.enc cByte code), .int .i64 i', .int .i64 h'])]) := by
  refine S.cx.byS [99999] (S.prog ▸ Try.func106) rfl rfl rfl rfl (fun ln hln hv ho => ?_)
  (cbv; repeat (refine Later.mk ?_; cbv))
  refine ACall.ofN (dp := false) S.cx (l5DrawAny_c S code hb hc i h hi) ⟨rfl, (by repeat' (first | exact trivial | exact rfl | exact Nat.le_refl _ | exact S.cx.giveEq | exact S.cx.lendLe (by assumption) | exact S.cx.lendEq (by assumption) | exact S.cx.lendLe0 | exact S.cx.lendEq0 | exact S.cx.partLe (by assumption) | exact S.cx.partEq (by assumption) | exact S.cx.enc _ [] | exact .inl rfl | refine ⟨?_, ?_⟩)), (by repeat' (first | exact trivial | exact rfl | exact Nat.le_refl _ | exact S.cx.giveEq | exact S.cx.lendLe (by assumption) | exact S.cx.lendEq (by assumption) | exact S.cx.lendLe0 | exact S.cx.lendEq0 | exact S.cx.partLe (by assumption) | exact S.cx.partEq (by assumption) | exact S.cx.enc _ [] | exact .inl rfl | refine ⟨?_, ?_⟩))⟩ (fun ln hln v os hv => ?_)
  clear hi
  obtain ⟨l, i, h, hl, hi, rfl, rfl⟩ := hv
  refine ⟨rfl, ?_⟩; (cbv; repeat (refine Later.mk ?_; cbv))
  have hN := hln cNode l
  generalize ln (A.enc cNode l) = N at hN ⊢
  have hbb := onceF_ok code hb hc i h hi 12
  refine ACall.valN (r := rCurB) (os := oCur A code) (dp := false) S.cx (l1Once_c S code hb hc i h hi 12) ⟨rfl, (by repeat' (first | exact trivial | exact rfl | exact Nat.le_refl _ | exact S.cx.giveEq | exact S.cx.lendLe (by assumption) | exact S.cx.lendEq (by assumption) | exact S.cx.lendLe0 | exact S.cx.lendEq0 | exact S.cx.partLe (by assumption) | exact S.cx.partEq (by assumption) | exact S.cx.enc _ [] | exact .inl rfl | refine ⟨?_, ?_⟩)), (by repeat' (first | exact trivial | exact rfl | exact Nat.le_refl _ | exact S.cx.giveEq | exact S.cx.lendLe (by assumption) | exact S.cx.lendEq (by assumption) | exact S.cx.lendLe0 | exact S.cx.lendEq0 | exact S.cx.partLe (by assumption) | exact S.cx.partEq (by assumption) | exact S.cx.enc _ [] | exact .inl rfl | refine ⟨?_, ?_⟩))⟩ rfl (fun ln hln x hx => ⟨rfl, ?_⟩)
  obtain ⟨b, i, h⟩ := x
  (cbv; repeat (refine Later.mk ?_; cbv))
  rw [← hx] at hbb
  dsimp only at hbb
  clear hx hi
  obtain ⟨hbb, hi⟩ := hbb
  cases b <;> (cbv; repeat (refine Later.mk ?_; cbv))
  · refine Len.nat (fun m hm hml => ?_); (cbv; repeat (refine Later.mk ?_; cbv))
    have hk := belowF_ok code hb hc i h hi m
    refine ACall.valN (r := rCur) (os := oCur A code) (dp := false) S.cx (l1Below_c S code hb hc i h hi m) ⟨rfl, (by repeat' (first | exact trivial | exact rfl | exact Nat.le_refl _ | exact S.cx.giveEq | exact S.cx.lendLe (by assumption) | exact S.cx.lendEq (by assumption) | exact S.cx.lendLe0 | exact S.cx.lendEq0 | exact S.cx.partLe (by assumption) | exact S.cx.partEq (by assumption) | exact S.cx.enc _ [] | exact .inl rfl | refine ⟨?_, ?_⟩)), (by repeat' (first | exact trivial | exact rfl | exact Nat.le_refl _ | exact S.cx.giveEq | exact S.cx.lendLe (by assumption) | exact S.cx.lendEq (by assumption) | exact S.cx.lendLe0 | exact S.cx.lendEq0 | exact S.cx.partLe (by assumption) | exact S.cx.partEq (by assumption) | exact S.cx.enc _ [] | exact .inl rfl | refine ⟨?_, ?_⟩))⟩ rfl (fun ln hln x hx => ⟨rfl, ?_⟩)
    obtain ⟨k, i, h⟩ := x
    (cbv; repeat (refine Later.mk ?_; cbv))
    rw [← hx] at hk
    dsimp only at hk
    clear hx hi
    obtain ⟨hk, hi⟩ := hk
    exact Done.to (.tup [.own 5 true (A.enc cNode l), .int .i64 k]) [some (.box [.ro (A.enc cByte code), .int .i64 i, .int .i64 h])] rfl (by repeat' (first | exact trivial | exact rfl | exact resOwn S.cx rfl (by assumption) | exact resOwn S.cx rfl (S.cx.lenE _ _) | exact resOwn1 S.cx rfl (by assumption) | exact resOwnT S.cx rfl (by assumption) | exact S.cx.enc _ [] | refine ⟨?_, ?_⟩)) ⟨⟨⟨rfl, .inl rfl⟩, rfl, rfl, trivial⟩, trivial⟩ ⟨l, k, i, h, hl, hi, rfl, rfl⟩
  (try (refine Drawn.mk ⟨by kernel_rfl, fun _ => ?_⟩)); (repeat (refine Later.mk ?_; cbv))
  refine Len.dr (by simp only [maxLen]; omega) (fun m hm => ?_); (cbv; repeat (refine Later.mk ?_; cbv))
  have hod := oddF_ok code hb hc i h hi
  refine ACall.valN (r := rCur) (os := oCur A code) (dp := false) S.cx (l1Odd_c S code hb hc i h hi) ⟨rfl, (by repeat' (first | exact trivial | exact rfl | exact Nat.le_refl _ | exact S.cx.giveEq | exact S.cx.lendLe (by assumption) | exact S.cx.lendEq (by assumption) | exact S.cx.lendLe0 | exact S.cx.lendEq0 | exact S.cx.partLe (by assumption) | exact S.cx.partEq (by assumption) | exact S.cx.enc _ [] | exact .inl rfl | refine ⟨?_, ?_⟩)), (by repeat' (first | exact trivial | exact rfl | exact Nat.le_refl _ | exact S.cx.giveEq | exact S.cx.lendLe (by assumption) | exact S.cx.lendEq (by assumption) | exact S.cx.lendLe0 | exact S.cx.lendEq0 | exact S.cx.partLe (by assumption) | exact S.cx.partEq (by assumption) | exact S.cx.enc _ [] | exact .inl rfl | refine ⟨?_, ?_⟩))⟩ rfl (fun ln hln x hx => ⟨rfl, ?_⟩)
  obtain ⟨od, i, h⟩ := x
  (cbv; repeat (refine Later.mk ?_; cbv))
  rw [← hx] at hod
  dsimp only at hod
  clear hx hi
  obtain ⟨hod, hi⟩ := hod
  have ha := belowF_ok code hb hc i h hi 3
  refine ACall.valN (r := rCur) (os := oCur A code) (dp := false) S.cx (l1Below_c S code hb hc i h hi 3) ⟨rfl, (by repeat' (first | exact trivial | exact rfl | exact Nat.le_refl _ | exact S.cx.giveEq | exact S.cx.lendLe (by assumption) | exact S.cx.lendEq (by assumption) | exact S.cx.lendLe0 | exact S.cx.lendEq0 | exact S.cx.partLe (by assumption) | exact S.cx.partEq (by assumption) | exact S.cx.enc _ [] | exact .inl rfl | refine ⟨?_, ?_⟩)), (by repeat' (first | exact trivial | exact rfl | exact Nat.le_refl _ | exact S.cx.giveEq | exact S.cx.lendLe (by assumption) | exact S.cx.lendEq (by assumption) | exact S.cx.lendLe0 | exact S.cx.lendEq0 | exact S.cx.partLe (by assumption) | exact S.cx.partEq (by assumption) | exact S.cx.enc _ [] | exact .inl rfl | refine ⟨?_, ?_⟩))⟩ rfl (fun ln hln x hx => ⟨rfl, ?_⟩)
  obtain ⟨a, i, h⟩ := x
  (cbv; repeat (refine Later.mk ?_; cbv))
  rw [← hx] at ha
  dsimp only at ha
  clear hx hi
  obtain ⟨ha, hi⟩ := ha
  have ha2 := ha.2.1 (by decide)
  have ha1 := ha.1
  refine ElemRef.go rfl (by lia) (by lia) (by simp only [List.length_cons, List.length_nil]; lia) (fun row hrow => ?_); (cbv; repeat (refine Later.mk ?_; cbv))
  refine Row.lit S.cx (f := cInt64) ([-1, m, od] : List Int) rfl (by simp only [List.length_cons, List.length_nil]; lia) (fun x hxx => ?_); (cbv; repeat (refine Later.mk ?_; cbv))
  exact Done.to (.tup [.own 5 true (A.enc cNode l), .int .i64 x]) [some (.box [.ro (A.enc cByte code), .int .i64 i, .int .i64 h])] rfl (by repeat' (first | exact trivial | exact rfl | exact resOwn S.cx rfl (by assumption) | exact resOwn S.cx rfl (S.cx.lenE _ _) | exact resOwn1 S.cx rfl (by assumption) | exact resOwnT S.cx rfl (by assumption) | exact S.cx.enc _ [] | refine ⟨?_, ?_⟩)) ⟨⟨⟨rfl, .inl rfl⟩, rfl, rfl, trivial⟩, trivial⟩ ⟨l, x, i, h, hl, hi, rfl, rfl⟩

theorem drawChainOf_c (S : Se P A) (code : List Int) (hb : code.length ≤ 4096) (hc : ∀ b ∈ code, 0 ≤ b ∧ b ≤ 255) : SoundM P 56 true [.ro (A.enc cByte code)] []
    (fun v os => (∃ (l : List Node) (n : Int), (1 ≤ l.length ∧ l.length ≤ 100) ∧ v = .tup [.own 5 true (A.enc cNode l), .int .i64 n]) ∧ os = []) := by
  refine S.cx.byS [99999] (S.prog ▸ Try.func56) rfl rfl rfl rfl (fun ln hln hv ho => ?_)
  (cbv; repeat (refine Later.mk ?_; cbv))
  refine ACall.of (dp := false) (l1New_c S code hb hc) ⟨rfl, (by repeat' (first | exact trivial | exact rfl | exact Nat.le_refl _ | exact S.cx.giveEq | exact S.cx.lendLe (by assumption) | exact S.cx.lendEq (by assumption) | exact S.cx.lendLe0 | exact S.cx.lendEq0 | exact S.cx.partLe (by assumption) | exact S.cx.partEq (by assumption) | exact S.cx.enc _ [] | exact .inl rfl | refine ⟨?_, ?_⟩)), (by repeat' (first | exact trivial | exact rfl | exact Nat.le_refl _ | exact S.cx.giveEq | exact S.cx.lendLe (by assumption) | exact S.cx.lendEq (by assumption) | exact S.cx.lendLe0 | exact S.cx.lendEq0 | exact S.cx.partLe (by assumption) | exact S.cx.partEq (by assumption) | exact S.cx.enc _ [] | exact .inl rfl | refine ⟨?_, ?_⟩))⟩ (fun v os hv => ?_)
  obtain ⟨⟨h, rfl⟩, rfl⟩ := hv
  refine ⟨rfl, ?_⟩; (cbv; repeat (refine Later.mk ?_; cbv))
  refine ACall.ofN (dp := false) S.cx (l5DrawAt_c S code hb hc 0 h (Int.le_refl 0)) ⟨rfl, (by repeat' (first | exact trivial | exact rfl | exact Nat.le_refl _ | exact S.cx.giveEq | exact S.cx.lendLe (by assumption) | exact S.cx.lendEq (by assumption) | exact S.cx.lendLe0 | exact S.cx.lendEq0 | exact S.cx.partLe (by assumption) | exact S.cx.partEq (by assumption) | exact S.cx.enc _ [] | exact .inl rfl | refine ⟨?_, ?_⟩)), (by repeat' (first | exact trivial | exact rfl | exact Nat.le_refl _ | exact S.cx.giveEq | exact S.cx.lendLe (by assumption) | exact S.cx.lendEq (by assumption) | exact S.cx.lendLe0 | exact S.cx.lendEq0 | exact S.cx.partLe (by assumption) | exact S.cx.partEq (by assumption) | exact S.cx.enc _ [] | exact .inl rfl | refine ⟨?_, ?_⟩))⟩ (fun ln hln v os hv => ?_)
  obtain ⟨l, n, i, h, hl, hi, rfl, rfl⟩ := hv
  refine ⟨rfl, ?_⟩; (cbv; repeat (refine Later.mk ?_; cbv))
  have hN := hln cNode l
  generalize ln (A.enc cNode l) = N at hN ⊢
  exact Done.to (.tup [.own 5 true (A.enc cNode l), .int .i64 n]) [] rfl (by repeat' (first | exact trivial | exact rfl | exact resOwn S.cx rfl (by assumption) | exact resOwn S.cx rfl (S.cx.lenE _ _) | exact resOwn1 S.cx rfl (by assumption) | exact resOwnT S.cx rfl (by assumption) | exact S.cx.enc _ [] | refine ⟨?_, ?_⟩)) trivial ⟨⟨l, n, hl, rfl⟩, rfl⟩

structure CSt where
  l : List Int
  i : Int
  k : Nat

theorem chainOf_c (S : Se P A) (t : List Node) (m : Int) (hok : TreeOk t ∧ 0 ≤ m ∧ m.toNat < t.length) : Is1 P 61 [.ro (A.enc cNode t), .int .i64 m] (rInt64 A (chain t (m.toNat + 1) m)) := by
  have ht := hok.1
  have ht60 := ht.1
  refine S.cx.byS [99999] (S.prog ▸ Try.func61) rfl rfl rfl rfl (fun ln hln hv ho => ?_)
  (cbv; repeat (refine Later.mk ?_; cbv))
  refine ACall.testD (dp := false) (l5Has_c S t m) ⟨rfl, (by repeat' (first | exact trivial | exact rfl | exact Nat.le_refl _ | exact S.cx.giveEq | exact S.cx.lendLe (by assumption) | exact S.cx.lendEq (by assumption) | exact S.cx.lendLe0 | exact S.cx.lendEq0 | exact S.cx.partLe (by assumption) | exact S.cx.partEq (by assumption) | exact S.cx.enc _ [] | exact .inl rfl | refine ⟨?_, ?_⟩)), (by repeat' (first | exact trivial | exact rfl | exact Nat.le_refl _ | exact S.cx.giveEq | exact S.cx.lendLe (by assumption) | exact S.cx.lendEq (by assumption) | exact S.cx.lendLe0 | exact S.cx.lendEq0 | exact S.cx.partLe (by assumption) | exact S.cx.partEq (by assumption) | exact S.cx.enc _ [] | exact .inl rfl | refine ⟨?_, ?_⟩))⟩ rfl (fun h1 => ?_) (fun h1 => ?_) <;> (cbv; repeat (refine Later.mk ?_; cbv))
  rotate_left
  · exact absurd hok h1
  refine ALoop.pre (Less.initE S.cx cInt64 999000001 1 true (t := 5) rfl (by first | exact .inr rfl | exact .inl rfl) rfl) ?_
  (cbv; repeat (refine Later.mk ?_; cbv))
  refine ALoop.goT (ι := CSt) (fun i => [(5, .ref false 999000001 0 i.k), (6, .int .i64 i.i)]) [] [999000001] (fun i => [(999000001, .arr 1 true (A.enc cInt64 i.l))]) (fun i => (0 ≤ i.i ∧ i.i.toNat < t.length) ∧ i.k = i.l.length ∧ i.l ++ chain t (i.i.toNat + 1) i.i = chain t (m.toNat + 1) m ∧ i.l.length + i.i.toNat ≤ m.toNat) (fun i => i.i.toNat) (⟨[], m, 0⟩) [99999] S.cx.tab S.cx.mix S.eq ?_ ?_ ?_
  · exact ⟨hok.2, rfl, rfl, by simp⟩
  · ((cbv; repeat (refine Later.mk ?_; cbv)); refine Less.to [] rfl rfl ?_ ?_ <;> repeat' (first | exact trivial | exact ⟨rfl, rfl⟩ | exact ⟨_, rfl, Nat.zero_le _, rfl⟩ | apply And.intro | exact rfl))
  rintro ⟨l, i, k⟩ hk
  dsimp only at hk
  obtain ⟨hi, hkl, hch, hle⟩ := hk
  obtain ⟨x, hx⟩ := get_of_lt hi.2
  rw [chain_one ht hi.1 hx] at hch
  have hup := up_less ht hi.1 hx
  obtain ⟨kind, up, due, key, value⟩ := x
  dsimp only at hch hup
  refine Rnd.mk ?_; (cbv; repeat (refine Later.mk ?_; cbv))
  refine Part.one ?_; (cbv; repeat (refine Later.mk ?_; cbv))
  refine AppRef.push S.cx i (by assumption) rfl rfl plainI9 (fun _ => rfl) (by simp only [maxBytes]; omega) (fun m9 w hw hml9 => ?_); (cbv; repeat (refine Later.mk ?_; cbv))
  refine ElemRo.at S.cx (x := (⟨kind, up, due, key, value⟩ : Node)) rfl hi.1 hx ?_; (cbv; repeat (refine Later.mk ?_; cbv))
  refine Test.eql (fun g0 => ?_) (fun g0 => ?_) <;> (cbv; repeat (refine Later.mk ?_; cbv))
  · exact Done.is (r := rInt64 A) (x := w) (by repeat' (first | exact trivial | exact rfl | exact resOwn S.cx rfl (by assumption) | exact resOwn S.cx rfl (S.cx.lenE _ _) | exact resOwn1 S.cx rfl (by assumption) | exact resOwnT S.cx rfl (by assumption) | exact S.cx.enc _ [] | refine ⟨?_, ?_⟩)) rfl (by rw [← hch, if_pos (.inl g0), hw])
  refine ElemRo.at S.cx (x := (⟨kind, up, due, key, value⟩ : Node)) rfl hi.1 hx ?_; (cbv; repeat (refine Later.mk ?_; cbv))
  refine Test.eql (fun g4 => ?_) (fun g4 => ?_) <;> (cbv; repeat (refine Later.mk ?_; cbv))
  · exact Done.is (r := rInt64 A) (x := w) (by repeat' (first | exact trivial | exact rfl | exact resOwn S.cx rfl (by assumption) | exact resOwn S.cx rfl (S.cx.lenE _ _) | exact resOwn1 S.cx rfl (by assumption) | exact resOwnT S.cx rfl (by assumption) | exact S.cx.enc _ [] | refine ⟨?_, ?_⟩)) rfl (by rw [← hch, if_pos (.inr g4), hw])
  have hup := hup g0
  rw [if_neg (by omega)] at hch
  refine ElemRo.at S.cx (x := (⟨kind, up, due, key, value⟩ : Node)) rfl hi.1 hx ?_; (cbv; repeat (refine Later.mk ?_; cbv))
  refine Again.on (⟨w, up, m9⟩ : CSt) (by dsimp only; lia) ⟨⟨hup.1, by dsimp only; lia⟩, hml9, by dsimp only; rw [← hch, hw]; simp, by dsimp only; rw [hw, List.length_append]; simp only [List.length_cons, List.length_nil]; lia⟩ ?_
  ((cbv; repeat (refine Later.mk ?_; cbv)); refine Less.to [(999000001, (7030000, 0))] rfl rfl ?_ ?_ <;> repeat' (first | exact trivial | exact ⟨rfl, rfl⟩ | exact ⟨_, rfl, Nat.zero_le _, rfl⟩ | apply And.intro | exact rfl))

theorem has_c (S : Se P A) (l : List Int) (n : Int) : Tests P 60 [.ro (A.enc cInt64 l), .int .i64 n] (n ∈ l) := by
  refine S.cx.by (S.prog ▸ Try.func60) rfl rfl rfl rfl (fun hv ho => ?_)
  (cbv; repeat (refine Later.mk ?_; cbv))
  refine ALoop.goS (ι := Int) (fun i => [(5, .int .i64 i)]) [] (fun i => []) (fun i => 0 ≤ i ∧ Upto (fun _ x => ¬ x = n) l i) (fun i => (l.length - i).toNat) (0) S.cx.tab S.cx.mix S.eq ?_ ?_ ?_
  · exact ⟨Int.le_refl _, .zero⟩
  · ((cbv; repeat (refine Later.mk ?_; cbv)); refine Less.to [] rfl rfl ?_ ?_ <;> repeat' (first | exact trivial | exact ⟨rfl, rfl⟩ | exact ⟨_, rfl, Nat.zero_le _, rfl⟩ | apply And.intro | exact rfl))
  intro i hk
  obtain ⟨h0, hu⟩ := hk
  refine Rnd.mk ?_; (cbv; repeat (refine Later.mk ?_; cbv))
  refine LenR.nat S.cx (fun N hN hm => ?_); (cbv; repeat (refine Later.mk ?_; cbv))
  refine Test.lss (fun h => ?_) (fun h => ?_) <;> (cbv; repeat (refine Later.mk ?_; cbv))
  rotate_left
  · exact Done.no fun e => hu.mem (by lia) n e rfl
  refine ElemRo.enc S.cx (fun _ => rfl) (by lia) (by lia) (fun x hx => ?_); (cbv; repeat (refine Later.mk ?_; cbv))
  refine Test.eql (fun h2 => ?_) (fun h2 => ?_) <;> (cbv; repeat (refine Later.mk ?_; cbv))
  · exact Done.yes (h2 ▸ mem_at hx)
  · refine Arith.go (by lia) (fun i' hi' => ?_); (cbv; repeat (refine Later.mk ?_; cbv))
    refine Again.on i' (by lia) ⟨by lia, hu.next h0 hx h2 hi'⟩ ?_
    ((cbv; repeat (refine Later.mk ?_; cbv)); refine Less.to [] rfl rfl ?_ ?_ <;> repeat' (first | exact trivial | exact ⟨rfl, rfl⟩ | exact ⟨_, rfl, Nat.zero_le _, rfl⟩ | apply And.intro | exact rfl))

theorem allLaw_c (S : Se P A) (code : List Int) : Is1 P 10 [.ro (A.enc cByte code)] (.bool true) := by
  refine S.cx.byS [99999] (S.prog ▸ Try.func10) rfl rfl rfl rfl (fun ln hln hv ho => ?_)
  (cbv; repeat (refine Later.mk ?_; cbv))
  have hc := code_bytes (code := code) S.cx (hv _ (List.mem_singleton.2 rfl))
  refine ACall.testD (dp := false) (big_c S code) ⟨rfl, (by repeat' (first | exact trivial | exact rfl | exact Nat.le_refl _ | exact S.cx.giveEq | exact S.cx.lendLe (by assumption) | exact S.cx.lendEq (by assumption) | exact S.cx.lendLe0 | exact S.cx.lendEq0 | exact S.cx.partLe (by assumption) | exact S.cx.partEq (by assumption) | exact S.cx.enc _ [] | exact .inl rfl | refine ⟨?_, ?_⟩)), (by repeat' (first | exact trivial | exact rfl | exact Nat.le_refl _ | exact S.cx.giveEq | exact S.cx.lendLe (by assumption) | exact S.cx.lendEq (by assumption) | exact S.cx.lendLe0 | exact S.cx.lendEq0 | exact S.cx.partLe (by assumption) | exact S.cx.partEq (by assumption) | exact S.cx.enc _ [] | exact .inl rfl | refine ⟨?_, ?_⟩))⟩ rfl (fun hbig => ?_) (fun hbig => ?_) <;> (cbv; repeat (refine Later.mk ?_; cbv))
  · exact Done.to (.bool true) [] rfl rfl trivial ⟨rfl, rfl⟩
  replace hbig : code.length ≤ 4096 := Nat.not_lt.1 hbig
  refine ACall.ofN (dp := false) S.cx (drawChainOf_c S code hbig hc) ⟨rfl, (by repeat' (first | exact trivial | exact rfl | exact Nat.le_refl _ | exact S.cx.giveEq | exact S.cx.lendLe (by assumption) | exact S.cx.lendEq (by assumption) | exact S.cx.lendLe0 | exact S.cx.lendEq0 | exact S.cx.partLe (by assumption) | exact S.cx.partEq (by assumption) | exact S.cx.enc _ [] | exact .inl rfl | refine ⟨?_, ?_⟩)), (by repeat' (first | exact trivial | exact rfl | exact Nat.le_refl _ | exact S.cx.giveEq | exact S.cx.lendLe (by assumption) | exact S.cx.lendEq (by assumption) | exact S.cx.lendLe0 | exact S.cx.lendEq0 | exact S.cx.partLe (by assumption) | exact S.cx.partEq (by assumption) | exact S.cx.enc _ [] | exact .inl rfl | refine ⟨?_, ?_⟩))⟩ (fun ln hln v os hv => ?_)
  obtain ⟨⟨t, n, hl, rfl⟩, rfl⟩ := hv
  refine ⟨rfl, ?_⟩; (cbv; repeat (refine Later.mk ?_; cbv))
  have hN := hln cNode t
  generalize ln (A.enc cNode t) = N at hN ⊢
  refine ACall.testD (dp := false) (specTreeOk_c S t) ⟨rfl, (by repeat' (first | exact trivial | exact rfl | exact Nat.le_refl _ | exact S.cx.giveEq | exact S.cx.lendLe (by assumption) | exact S.cx.lendEq (by assumption) | exact S.cx.lendLe0 | exact S.cx.lendEq0 | exact S.cx.partLe (by assumption) | exact S.cx.partEq (by assumption) | exact S.cx.enc _ [] | exact .inl rfl | refine ⟨?_, ?_⟩)), (by repeat' (first | exact trivial | exact rfl | exact Nat.le_refl _ | exact S.cx.giveEq | exact S.cx.lendLe (by assumption) | exact S.cx.lendEq (by assumption) | exact S.cx.lendLe0 | exact S.cx.lendEq0 | exact S.cx.partLe (by assumption) | exact S.cx.partEq (by assumption) | exact S.cx.enc _ [] | exact .inl rfl | refine ⟨?_, ?_⟩))⟩ rfl (fun ht => ?_) (fun ht => ?_) <;> (cbv; repeat (refine Later.mk ?_; cbv))
  rotate_left
  · have hbad : ¬ (TreeOk t ∧ 0 ≤ n ∧ n.toNat < t.length) := fun e => ht e.1
    refine Len.nat (fun m hm hml => ?_); (cbv; repeat (refine Later.mk ?_; cbv))
    refine MakeS.enc S.cx (f := cBool) (false : Bool) rfl (by lia) (by simp only [maxBytes]; lia) (fun U z hU hz => ?_); (cbv; repeat (refine Later.mk ?_; cbv))
    have hUz : U = z.length := by rw [hz]; simp
    have hzr : z = List.replicate t.length false := by rw [hz, show U = t.length by lia]
    refine ACall.valN (r := rSpB A) (os := fun _ => []) (dp := false) S.cx (implBegun_c S t z [] n) ⟨rfl, (by repeat' (first | exact trivial | exact rfl | exact Nat.le_refl _ | exact S.cx.giveEq | exact S.cx.lendLe (by assumption) | exact S.cx.lendEq (by assumption) | exact S.cx.lendLe0 | exact S.cx.lendEq0 | exact S.cx.partLe (by assumption) | exact S.cx.partEq (by assumption) | exact S.cx.enc _ [] | exact .inl rfl | refine ⟨?_, ?_⟩)), (by repeat' (first | exact trivial | exact rfl | exact Nat.le_refl _ | exact S.cx.giveEq | exact S.cx.lendLe (by assumption) | exact S.cx.lendEq (by assumption) | exact S.cx.lendLe0 | exact S.cx.lendEq0 | exact S.cx.partLe (by assumption) | exact S.cx.partEq (by assumption) | exact S.cx.enc _ [] | exact .inl rfl | refine ⟨?_, ?_⟩))⟩ rfl (fun ln hln x hx => ⟨rfl, ?_⟩)
    obtain ⟨⟨told1, work1⟩, b⟩ := x
    (cbv; repeat (refine Later.mk ?_; cbv))
    have hN1 := hln cBool told1
    generalize ln (A.enc cBool told1) = N1 at hN1 ⊢
    have hM1 := hln cInt64 work1
    generalize ln (A.enc cInt64 work1) = M1 at hM1 ⊢
    have hb0 : b = false := by rw [hzr] at hx; exact (congrArg Prod.snd hx).trans (begun_not hbad)
    subst hb0
    (cbv; repeat (refine Later.mk ?_; cbv))
    exact Done.to (.bool true) [] rfl rfl trivial ⟨rfl, rfl⟩
  refine Test.lss (fun g1 => ?_) (fun g1 => ?_) <;> (cbv; repeat (refine Later.mk ?_; cbv))
  · have hbad : ¬ (TreeOk t ∧ 0 ≤ n ∧ n.toNat < t.length) := fun e => by omega
    refine Len.nat (fun m hm hml => ?_); (cbv; repeat (refine Later.mk ?_; cbv))
    refine MakeS.enc S.cx (f := cBool) (false : Bool) rfl (by lia) (by simp only [maxBytes]; lia) (fun U z hU hz => ?_); (cbv; repeat (refine Later.mk ?_; cbv))
    have hUz : U = z.length := by rw [hz]; simp
    have hzr : z = List.replicate t.length false := by rw [hz, show U = t.length by lia]
    refine ACall.valN (r := rSpB A) (os := fun _ => []) (dp := false) S.cx (implBegun_c S t z [] n) ⟨rfl, (by repeat' (first | exact trivial | exact rfl | exact Nat.le_refl _ | exact S.cx.giveEq | exact S.cx.lendLe (by assumption) | exact S.cx.lendEq (by assumption) | exact S.cx.lendLe0 | exact S.cx.lendEq0 | exact S.cx.partLe (by assumption) | exact S.cx.partEq (by assumption) | exact S.cx.enc _ [] | exact .inl rfl | refine ⟨?_, ?_⟩)), (by repeat' (first | exact trivial | exact rfl | exact Nat.le_refl _ | exact S.cx.giveEq | exact S.cx.lendLe (by assumption) | exact S.cx.lendEq (by assumption) | exact S.cx.lendLe0 | exact S.cx.lendEq0 | exact S.cx.partLe (by assumption) | exact S.cx.partEq (by assumption) | exact S.cx.enc _ [] | exact .inl rfl | refine ⟨?_, ?_⟩))⟩ rfl (fun ln hln x hx => ⟨rfl, ?_⟩)
    obtain ⟨⟨told1, work1⟩, b⟩ := x
    (cbv; repeat (refine Later.mk ?_; cbv))
    have hN1 := hln cBool told1
    generalize ln (A.enc cBool told1) = N1 at hN1 ⊢
    have hM1 := hln cInt64 work1
    generalize ln (A.enc cInt64 work1) = M1 at hM1 ⊢
    have hb0 : b = false := by rw [hzr] at hx; exact (congrArg Prod.snd hx).trans (begun_not hbad)
    subst hb0
    (cbv; repeat (refine Later.mk ?_; cbv))
    exact Done.to (.bool true) [] rfl rfl trivial ⟨rfl, rfl⟩
  refine Len.nat (fun m0 hm0 hml0 => ?_); (cbv; repeat (refine Later.mk ?_; cbv))
  refine Test.geq (fun g2 => ?_) (fun g2 => ?_) <;> (cbv; repeat (refine Later.mk ?_; cbv))
  · have hbad : ¬ (TreeOk t ∧ 0 ≤ n ∧ n.toNat < t.length) := fun e => by have := e.2.2; lia
    refine Len.nat (fun m hm hml => ?_); (cbv; repeat (refine Later.mk ?_; cbv))
    refine MakeS.enc S.cx (f := cBool) (false : Bool) rfl (by lia) (by simp only [maxBytes]; lia) (fun U z hU hz => ?_); (cbv; repeat (refine Later.mk ?_; cbv))
    have hUz : U = z.length := by rw [hz]; simp
    have hzr : z = List.replicate t.length false := by rw [hz, show U = t.length by lia]
    refine ACall.valN (r := rSpB A) (os := fun _ => []) (dp := false) S.cx (implBegun_c S t z [] n) ⟨rfl, (by repeat' (first | exact trivial | exact rfl | exact Nat.le_refl _ | exact S.cx.giveEq | exact S.cx.lendLe (by assumption) | exact S.cx.lendEq (by assumption) | exact S.cx.lendLe0 | exact S.cx.lendEq0 | exact S.cx.partLe (by assumption) | exact S.cx.partEq (by assumption) | exact S.cx.enc _ [] | exact .inl rfl | refine ⟨?_, ?_⟩)), (by repeat' (first | exact trivial | exact rfl | exact Nat.le_refl _ | exact S.cx.giveEq | exact S.cx.lendLe (by assumption) | exact S.cx.lendEq (by assumption) | exact S.cx.lendLe0 | exact S.cx.lendEq0 | exact S.cx.partLe (by assumption) | exact S.cx.partEq (by assumption) | exact S.cx.enc _ [] | exact .inl rfl | refine ⟨?_, ?_⟩))⟩ rfl (fun ln hln x hx => ⟨rfl, ?_⟩)
    obtain ⟨⟨told1, work1⟩, b⟩ := x
    (cbv; repeat (refine Later.mk ?_; cbv))
    have hN1 := hln cBool told1
    generalize ln (A.enc cBool told1) = N1 at hN1 ⊢
    have hM1 := hln cInt64 work1
    generalize ln (A.enc cInt64 work1) = M1 at hM1 ⊢
    have hb0 : b = false := by rw [hzr] at hx; exact (congrArg Prod.snd hx).trans (begun_not hbad)
    subst hb0
    (cbv; repeat (refine Later.mk ?_; cbv))
    exact Done.to (.bool true) [] rfl rfl trivial ⟨rfl, rfl⟩
  have hn0 : 0 ≤ n := by omega
  have hnt : n.toNat < t.length := by lia
  obtain ⟨p1, p2, p3, p4⟩ := all_law ht hn0 hnt
  refine Len.nat (fun m hm hml => ?_); (cbv; repeat (refine Later.mk ?_; cbv))
  refine MakeS.enc S.cx (f := cBool) (false : Bool) rfl (by lia) (by simp only [maxBytes]; lia) (fun U z hU hz => ?_); (cbv; repeat (refine Later.mk ?_; cbv))
  have hUz : U = z.length := by rw [hz]; simp
  have hzr : z = List.replicate t.length false := by rw [hz, show U = t.length by lia]
  rw [← hzr] at p1 p2 p3 p4
  refine ACall.valN (r := rSpB A) (os := fun _ => []) (dp := false) S.cx (implBegun_c S t z [] n) ⟨rfl, (by repeat' (first | exact trivial | exact rfl | exact Nat.le_refl _ | exact S.cx.giveEq | exact S.cx.lendLe (by assumption) | exact S.cx.lendEq (by assumption) | exact S.cx.lendLe0 | exact S.cx.lendEq0 | exact S.cx.partLe (by assumption) | exact S.cx.partEq (by assumption) | exact S.cx.enc _ [] | exact .inl rfl | refine ⟨?_, ?_⟩)), (by repeat' (first | exact trivial | exact rfl | exact Nat.le_refl _ | exact S.cx.giveEq | exact S.cx.lendLe (by assumption) | exact S.cx.lendEq (by assumption) | exact S.cx.lendLe0 | exact S.cx.lendEq0 | exact S.cx.partLe (by assumption) | exact S.cx.partEq (by assumption) | exact S.cx.enc _ [] | exact .inl rfl | refine ⟨?_, ?_⟩))⟩ rfl (fun ln hln x hx => ⟨rfl, ?_⟩)
  obtain ⟨⟨told1, work1⟩, b⟩ := x
  (cbv; repeat (refine Later.mk ?_; cbv))
  have hN1 := hln cBool told1
  generalize ln (A.enc cBool told1) = N1 at hN1 ⊢
  have hM1 := hln cInt64 work1
  generalize ln (A.enc cInt64 work1) = M1 at hM1 ⊢
  rw [p1] at hx
  simp only [Prod.mk.injEq, Spread.mk.injEq] at hx
  obtain ⟨⟨hx1, hx2⟩, hx3⟩ := hx
  subst hx3
  rw [← hx1, ← hx2] at p2 p3 p4
  (cbv; repeat (refine Later.mk ?_; cbv))
  refine ACall.valN (r := rSp A) (os := fun _ => []) (dp := false) S.cx (implSpreadAll_c S t told1 work1) ⟨rfl, (by repeat' (first | exact trivial | exact rfl | exact Nat.le_refl _ | exact S.cx.giveEq | exact S.cx.lendLe (by assumption) | exact S.cx.lendEq (by assumption) | exact S.cx.lendLe0 | exact S.cx.lendEq0 | exact S.cx.partLe (by assumption) | exact S.cx.partEq (by assumption) | exact S.cx.enc _ [] | exact .inl rfl | refine ⟨?_, ?_⟩)), (by repeat' (first | exact trivial | exact rfl | exact Nat.le_refl _ | exact S.cx.giveEq | exact S.cx.lendLe (by assumption) | exact S.cx.lendEq (by assumption) | exact S.cx.lendLe0 | exact S.cx.lendEq0 | exact S.cx.partLe (by assumption) | exact S.cx.partEq (by assumption) | exact S.cx.enc _ [] | exact .inl rfl | refine ⟨?_, ?_⟩))⟩ rfl (fun ln hln x hx => ⟨rfl, ?_⟩)
  obtain ⟨told2, work2⟩ := x
  (cbv; repeat (refine Later.mk ?_; cbv))
  have hN2 := hln cBool told2
  generalize ln (A.enc cBool told2) = N2 at hN2 ⊢
  have hM2 := hln cInt64 work2
  generalize ln (A.enc cInt64 work2) = M2 at hM2 ⊢
  rw [← hx] at p2 p3 p4
  dsimp only at p2 p3 p4
  refine Len.nat (fun m1 hm1 hml1 => ?_); (cbv; repeat (refine Later.mk ?_; cbv))
  refine Len.nat (fun m2 hm2 hml2 => ?_); (cbv; repeat (refine Later.mk ?_; cbv))
  refine Test.neq (fun g3 => ?_) (fun g3 => ?_) <;> (cbv; repeat (refine Later.mk ?_; cbv))
  · exact absurd (by lia) g3
  refine Len.nat (fun m3 hm3 hml3 => ?_); (cbv; repeat (refine Later.mk ?_; cbv))
  refine Test.neq (fun g4 => ?_) (fun g4 => ?_) <;> (cbv; repeat (refine Later.mk ?_; cbv))
  · exact absurd (by rw [p3] at hM2; simp at hM2; lia) g4
  refine ALoop.goT (ι := Int) (fun i => [(9, .int .i64 i)]) [] [] (fun i => []) (fun i => 0 ≤ i) (fun i => (t.length - i).toNat) (0) [99999] S.cx.tab S.cx.mix S.eq ?_ ?_ ?_
  · exact Int.le_refl _
  · ((cbv; repeat (refine Later.mk ?_; cbv)); refine Less.to [] rfl rfl ?_ ?_ <;> repeat' (first | exact trivial | exact ⟨rfl, rfl⟩ | exact ⟨_, rfl, Nat.zero_le _, rfl⟩ | apply And.intro | exact rfl))
  intro q hq0
  replace hq0 : 0 ≤ q := hq0
  refine Rnd.mk ?_; (cbv; repeat (refine Later.mk ?_; cbv))
  refine Len.nat (fun m5 hm5 hml5 => ?_); (cbv; repeat (refine Later.mk ?_; cbv))
  refine Test.lss (fun g5 => ?_) (fun g5 => ?_) <;> (cbv; repeat (refine Later.mk ?_; cbv))
  rotate_left
  · exact Done.to (.bool true) [] rfl rfl trivial ⟨rfl, rfl⟩
  obtain ⟨bq, e1, e2⟩ := p4 q hq0 (by lia)
  (try (refine Drawn.mk ⟨by kernel_rfl, fun _ => ?_⟩)); (repeat (refine Later.mk ?_; cbv))
  refine ElemRef.go rfl (by lia) (by lia) (by rw [S.cx.lenE']; lia) (fun row hrow => ?_); (cbv; repeat (refine Later.mk ?_; cbv))
  refine Row.enc S.cx (by lia) (fun x hxx => ?_)
  obtain rfl : x = bq := by rw [show row = q.toNat by omega, e1] at hxx; exact (Option.some.inj hxx).symm
  (cbv; repeat (refine Later.mk ?_; cbv))
  refine ACall.valN (r := rInt64 A) (os := fun _ => []) (dp := false) S.cx (chainOf_c S t q ⟨ht, hq0, by lia⟩) ⟨rfl, (by repeat' (first | exact trivial | exact rfl | exact Nat.le_refl _ | exact S.cx.giveEq | exact S.cx.lendLe (by assumption) | exact S.cx.lendEq (by assumption) | exact S.cx.lendLe0 | exact S.cx.lendEq0 | exact S.cx.partLe (by assumption) | exact S.cx.partEq (by assumption) | exact S.cx.enc _ [] | exact .inl rfl | refine ⟨?_, ?_⟩)), (by repeat' (first | exact trivial | exact rfl | exact Nat.le_refl _ | exact S.cx.giveEq | exact S.cx.lendLe (by assumption) | exact S.cx.lendEq (by assumption) | exact S.cx.lendLe0 | exact S.cx.lendEq0 | exact S.cx.partLe (by assumption) | exact S.cx.partEq (by assumption) | exact S.cx.enc _ [] | exact .inl rfl | refine ⟨?_, ?_⟩))⟩ rfl (fun ln hln L hx => ⟨rfl, ?_⟩)
  (cbv; repeat (refine Later.mk ?_; cbv))
  have hNL := hln cInt64 L
  generalize ln (A.enc cInt64 L) = NL at hNL ⊢
  unfold On at e2
  rw [← hx] at e2
  refine ACall.testD (dp := false) (has_c S L n) ⟨rfl, (by repeat' (first | exact trivial | exact rfl | exact Nat.le_refl _ | exact S.cx.giveEq | exact S.cx.lendLe (by assumption) | exact S.cx.lendEq (by assumption) | exact S.cx.lendLe0 | exact S.cx.lendEq0 | exact S.cx.partLe (by assumption) | exact S.cx.partEq (by assumption) | exact S.cx.enc _ [] | exact .inl rfl | refine ⟨?_, ?_⟩)), (by repeat' (first | exact trivial | exact rfl | exact Nat.le_refl _ | exact S.cx.giveEq | exact S.cx.lendLe (by assumption) | exact S.cx.lendEq (by assumption) | exact S.cx.lendLe0 | exact S.cx.lendEq0 | exact S.cx.partLe (by assumption) | exact S.cx.partEq (by assumption) | exact S.cx.enc _ [] | exact .inl rfl | refine ⟨?_, ?_⟩))⟩ rfl (fun g6 => ?_) (fun g6 => ?_) <;> (cbv; repeat (refine Later.mk ?_; cbv))
  · obtain rfl : x = true := e2.2 g6
    (cbv; repeat (refine Later.mk ?_; cbv))
    refine Arith.go (by lia) (fun q' hq' => ?_); (cbv; repeat (refine Later.mk ?_; cbv))
    replace hq' : q' = q + 1 := hq'
    refine Again.on q' (by lia) (by show (0 : Int) ≤ q'; omega) ?_
    ((cbv; repeat (refine Later.mk ?_; cbv)); refine Less.to [] rfl rfl ?_ ?_ <;> repeat' (first | exact trivial | exact ⟨rfl, rfl⟩ | exact ⟨_, rfl, Nat.zero_le _, rfl⟩ | apply And.intro | exact rfl))
  · obtain rfl : x = false := by
      cases x with
      | false => rfl
      | true => exact absurd (e2.1 rfl) g6
    (cbv; repeat (refine Later.mk ?_; cbv))
    refine Arith.go (by lia) (fun q' hq' => ?_); (cbv; repeat (refine Later.mk ?_; cbv))
    replace hq' : q' = q + 1 := hq'
    refine Again.on q' (by lia) (by show (0 : Int) ≤ q'; omega) ?_
    ((cbv; repeat (refine Later.mk ?_; cbv)); refine Less.to [] rfl rfl ?_ ?_ <;> repeat' (first | exact trivial | exact ⟨rfl, rfl⟩ | exact ⟨_, rfl, Nat.zero_le _, rfl⟩ | apply And.intro | exact rfl))

end Go.Proofs.Ytcbebidfnlkkeaa.AM
