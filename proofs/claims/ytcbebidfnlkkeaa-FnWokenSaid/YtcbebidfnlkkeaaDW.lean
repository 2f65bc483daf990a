/- Contracts: lists of tasks drawn; the law of woken tasks. (printed by gdw.py) -/
import Derived.Test.YtcbebidfnlkkeaaDE
import Derived.Test.YtcbebidfnlkkeaaP4W
namespace Go.Proofs.Ytcbebidfnlkkeaa.AM
open Go Go.Proofs

set_option maxRecDepth 100000
set_option maxHeartbeats 4000000
set_option linter.unusedVariables false
set_option linter.unusedSimpArgs false

variable {P : Program} {A : Sy}

theorem ACall.ofN {T : Nat → Option TI} (C : Cx P T A) {f : FuncId} {al dp : Bool} {avs bs : List AV} {objs : List Obj} {R : AV → List (Option Obj) → Prop} {lab : Nat} {st : St} {K : AV → Dl → Prop} (h : SoundM P f al bs objs R) (hg : Gives st al dp avs bs objs)
    (hk : ∀ (ln : List (List AV) → Nat), (∀ {α : Type} (f : α → List AV) (l : List α), ln (A.enc f l) = l.length) → ∀ v os, R v os → backChk st (rhoA avs bs) lab objs os v = true ∧ K (adopt ln lab v) (backD dp ln st avs bs objs lab os v)) : ACall A false P f avs lab st K :=
  ACall.of h hg (hk A.len C.lenE)

structure WSt where
  l : List Task
  n : Int
  i : Int
  h : Int
  m : Nat

theorem l11DrawAny_c (S : Se P A) (code : List Int) (hb : code.length ≤ 4096) (hc : ∀ b ∈ code, 0 ≤ b ∧ b ≤ 255) (i h : Int) (hi : 0 ≤ i) : SoundM P 139 true [.ptr 1000 0 0] [.box [.ro (A.enc cByte code), .int .i64 i, .int .i64 h]]
    (fun v os => ∃ (l : List Task) (i' h' : Int), l.length ≤ 100 ∧ 0 ≤ i' ∧ v = .own 9 true (A.enc cTask l) ∧ os = [some (.box [.ro (A.enc cByte code), .int .i64 i', .int .i64 h'])]) := by
  refine S.cx.byC [] (S.prog ▸ Try.func139) rfl rfl rfl rfl (fun ln hln hv ho => ?_)
  cbv
  have hn := belowF_ok code hb hc i h hi 8
  refine ACall.valN (r := rCur) (os := oCur A code) (dp := false) S.cx (l1Below_c S code hb hc i h hi 8) ⟨rfl, (by repeat' (first | exact trivial | exact rfl | exact Nat.le_refl _ | exact S.cx.giveEq | exact S.cx.lendLe (by assumption) | exact S.cx.lendEq (by assumption) | exact S.cx.lendLe0 | exact S.cx.lendEq0 | exact S.cx.partLe (by assumption) | exact S.cx.partEq (by assumption) | exact .inl rfl | refine ⟨?_, ?_⟩)), (by repeat' (first | exact trivial | exact rfl | exact Nat.le_refl _ | exact S.cx.giveEq | exact S.cx.lendLe (by assumption) | exact S.cx.lendEq (by assumption) | exact S.cx.lendLe0 | exact S.cx.lendEq0 | exact S.cx.partLe (by assumption) | exact S.cx.partEq (by assumption) | exact .inl rfl | refine ⟨?_, ?_⟩))⟩ rfl (fun ln hln x hx => ⟨rfl, ?_⟩)
  obtain ⟨n0, i, h⟩ := x
  cbv
  rw [← hx] at hn
  dsimp only at hn
  clear hx hi
  obtain ⟨hn, hi⟩ := hn
  have hn8 := hn.2.1 (by decide)
  refine ALoop.pre (Less.initE S.cx cTask 999000001 9 true (t := 3) rfl (by first | exact .inr rfl | exact .inl rfl) rfl) ?_
  cbv
  refine ALoop.goC (ι := WSt) (fun i => [(3, .ref false 999000001 0 i.m), (4, .int .i64 i.n)]) [20] [1000, 999000001] (fun i => [(1000, .box [.ro (A.enc cByte code), .int .i64 i.i, .int .i64 i.h]), (999000001, .arr 9 true (A.enc cTask i.l))]) (fun i => 0 ≤ i.i ∧ i.m = i.l.length ∧ (0 ≤ i.n ∧ i.n ≤ 70) ∧ i.l.length + i.n.toNat ≤ 70) (fun i => i.n.toNat) (⟨[], n0, i, h, 0⟩) [] S.cx.tab S.cx.mix S.eq ?_ ?_ ?_
  · exact ⟨hi, rfl, ⟨by dsimp only; lia, by dsimp only; lia⟩, by dsimp only; simp; lia⟩
  · (cbv; refine Less.to [] rfl rfl ?_ ?_ <;> repeat' (first | exact trivial | exact ⟨rfl, rfl⟩ | exact ⟨_, rfl, Nat.zero_le _, rfl⟩ | apply And.intro | exact rfl))
  clear hi
  rintro ⟨l, n, i, h, m⟩ hk
  dsimp only at hk
  obtain ⟨hi, hm, hn0, hln⟩ := hk
  refine Rnd.mk ?_; cbv
  refine Test.gtr (fun hg => ?_) (fun hg => ?_) <;> cbv
  · refine ACall.of (dp := false) (l10Draw_c S code hb hc i h hi) ⟨rfl, (by repeat' (first | exact trivial | exact rfl | exact Nat.le_refl _ | exact S.cx.giveEq | exact S.cx.lendLe (by assumption) | exact S.cx.lendEq (by assumption) | exact S.cx.lendLe0 | exact S.cx.lendEq0 | exact S.cx.partLe (by assumption) | exact S.cx.partEq (by assumption) | exact .inl rfl | refine ⟨?_, ?_⟩)), (by repeat' (first | exact trivial | exact rfl | exact Nat.le_refl _ | exact S.cx.giveEq | exact S.cx.lendLe (by assumption) | exact S.cx.lendEq (by assumption) | exact S.cx.lendLe0 | exact S.cx.lendEq0 | exact S.cx.partLe (by assumption) | exact S.cx.partEq (by assumption) | exact .inl rfl | refine ⟨?_, ?_⟩))⟩ (fun v os hv => ?_)
    clear hi
    obtain ⟨⟨prog0, pc0, state0, why0, what0, timer0, reg0, group0, err0⟩, i, h, hi, rfl, rfl⟩ := hv
    refine ⟨rfl, ?_⟩; cbv
    refine Part.one ?_; cbv
    refine AppRef.push S.cx (⟨prog0, pc0, state0, why0, what0, timer0, reg0, group0, err0⟩ : Task) (by assumption) rfl rfl plainTask (fun _ => rfl) (by simp only [maxBytes]; omega) (fun m2 w hw hml => ?_); cbv
    have hwl : w.length = l.length + 1 := by rw [hw, List.length_append]; rfl
    refine Arith.go (by lia) (fun n' hn' => ?_); cbv
    replace hn' : n' = n - 1 := hn'
    refine Again.on (⟨w, n', i, h, m2⟩ : WSt) (by dsimp only; lia) ⟨hi, hml, ⟨by dsimp only; lia, by dsimp only; lia⟩, by dsimp only; lia⟩ ?_
    (cbv; refine Less.to [(999000001, (6040000, 0))] rfl rfl ?_ ?_ <;> repeat' (first | exact trivial | exact ⟨rfl, rfl⟩ | exact ⟨_, rfl, Nat.zero_le _, rfl⟩ | apply And.intro | exact rfl))
  have hbb := onceF_ok code hb hc i h hi 8
  refine ACall.valN (r := rCurB) (os := oCur A code) (dp := false) S.cx (l1Once_c S code hb hc i h hi 8) ⟨rfl, (by repeat' (first | exact trivial | exact rfl | exact Nat.le_refl _ | exact S.cx.giveEq | exact S.cx.lendLe (by assumption) | exact S.cx.lendEq (by assumption) | exact S.cx.lendLe0 | exact S.cx.lendEq0 | exact S.cx.partLe (by assumption) | exact S.cx.partEq (by assumption) | exact .inl rfl | refine ⟨?_, ?_⟩)), (by repeat' (first | exact trivial | exact rfl | exact Nat.le_refl _ | exact S.cx.giveEq | exact S.cx.lendLe (by assumption) | exact S.cx.lendEq (by assumption) | exact S.cx.lendLe0 | exact S.cx.lendEq0 | exact S.cx.partLe (by assumption) | exact S.cx.partEq (by assumption) | exact .inl rfl | refine ⟨?_, ?_⟩))⟩ rfl (fun ln hln x hx => ⟨rfl, ?_⟩)
  obtain ⟨b1, i, h⟩ := x
  cbv
  rw [← hx] at hbb
  dsimp only at hbb
  clear hx hi
  obtain ⟨hbb, hi⟩ := hbb
  cases b1 <;> cbv
  · have hbb := onceF_ok code hb hc i h hi 40
    refine ACall.valN (r := rCurB) (os := oCur A code) (dp := false) S.cx (l1Once_c S code hb hc i h hi 40) ⟨rfl, (by repeat' (first | exact trivial | exact rfl | exact Nat.le_refl _ | exact S.cx.giveEq | exact S.cx.lendLe (by assumption) | exact S.cx.lendEq (by assumption) | exact S.cx.lendLe0 | exact S.cx.lendEq0 | exact S.cx.partLe (by assumption) | exact S.cx.partEq (by assumption) | exact .inl rfl | refine ⟨?_, ?_⟩)), (by repeat' (first | exact trivial | exact rfl | exact Nat.le_refl _ | exact S.cx.giveEq | exact S.cx.lendLe (by assumption) | exact S.cx.lendEq (by assumption) | exact S.cx.lendLe0 | exact S.cx.lendEq0 | exact S.cx.partLe (by assumption) | exact S.cx.partEq (by assumption) | exact .inl rfl | refine ⟨?_, ?_⟩))⟩ rfl (fun ln hln x hx => ⟨rfl, ?_⟩)
    obtain ⟨b2, i, h⟩ := x
    cbv
    rw [← hx] at hbb
    dsimp only at hbb
    clear hx hi
    obtain ⟨hbb, hi⟩ := hbb
    cases b2 <;> cbv
    · exact Done.to (.own 9 true (A.enc cTask l)) [some (.box [.ro (A.enc cByte code), .int .i64 i, .int .i64 h])] rfl (by repeat' (first | exact trivial | exact rfl | exact resOwn S.cx rfl (by assumption) | exact resOwn S.cx rfl (S.cx.lenE _ _) | exact resOwn1 S.cx rfl (by assumption) | exact resOwnT S.cx rfl (by assumption) | exact S.cx.enc _ [] | refine ⟨?_, ?_⟩)) ⟨⟨⟨rfl, .inl rfl⟩, rfl, rfl, trivial⟩, trivial⟩ ⟨l, i, h, by omega, hi, rfl, rfl⟩
    have hz := belowF_ok code hb hc i h hi 2
    refine ACall.valN (r := rCur) (os := oCur A code) (dp := false) S.cx (l1Below_c S code hb hc i h hi 2) ⟨rfl, (by repeat' (first | exact trivial | exact rfl | exact Nat.le_refl _ | exact S.cx.giveEq | exact S.cx.lendLe (by assumption) | exact S.cx.lendEq (by assumption) | exact S.cx.lendLe0 | exact S.cx.lendEq0 | exact S.cx.partLe (by assumption) | exact S.cx.partEq (by assumption) | exact .inl rfl | refine ⟨?_, ?_⟩)), (by repeat' (first | exact trivial | exact rfl | exact Nat.le_refl _ | exact S.cx.giveEq | exact S.cx.lendLe (by assumption) | exact S.cx.lendEq (by assumption) | exact S.cx.lendLe0 | exact S.cx.lendEq0 | exact S.cx.partLe (by assumption) | exact S.cx.partEq (by assumption) | exact .inl rfl | refine ⟨?_, ?_⟩))⟩ rfl (fun ln hln x hx => ⟨rfl, ?_⟩)
    obtain ⟨z, i, h⟩ := x
    cbv
    rw [← hx] at hz
    dsimp only at hz
    clear hx hi
    obtain ⟨hz, hi⟩ := hz
    have hz2 := hz.2.1 (by decide)
    refine Arith.go (by lia) (fun n9 hn9 => ?_); replace hn9 : n9 = 60 + z := hn9; cbv
    refine ALoop.pre (Less.initE S.cx cTask 999000003 9 true (t := 3) rfl (by first | exact .inr rfl | exact .inl rfl) rfl) ?_
    cbv
    refine ALoop.goC (ι := WSt) (fun i => [(3, .ref false 999000003 0 i.m), (5, .int .i64 i.n)]) [20] [1000, 999000003] (fun i => [(1000, .box [.ro (A.enc cByte code), .int .i64 i.i, .int .i64 i.h]), (999000003, .arr 9 true (A.enc cTask i.l))]) (fun i => 0 ≤ i.i ∧ i.m = i.l.length ∧ (0 ≤ i.n ∧ i.n ≤ 70) ∧ i.l.length + i.n.toNat ≤ 70) (fun i => i.n.toNat) (⟨[], n9, i, h, 0⟩) [] S.cx.tab S.cx.mix S.eq ?_ ?_ ?_
    · exact ⟨hi, rfl, ⟨by dsimp only; lia, by dsimp only; lia⟩, by dsimp only; simp; lia⟩
    · (cbv; refine Less.to [] rfl rfl ?_ ?_ <;> repeat' (first | exact trivial | exact ⟨rfl, rfl⟩ | exact ⟨_, rfl, Nat.zero_le _, rfl⟩ | apply And.intro | exact rfl))
    clear hi
    rintro ⟨l, n, i, h, m⟩ hk
    dsimp only at hk
    obtain ⟨hi, hm, hn0, hln⟩ := hk
    refine Rnd.mk ?_; cbv
    refine Test.gtr (fun hg => ?_) (fun hg => ?_) <;> cbv
    · refine ACall.of (dp := false) (l10Draw_c S code hb hc i h hi) ⟨rfl, (by repeat' (first | exact trivial | exact rfl | exact Nat.le_refl _ | exact S.cx.giveEq | exact S.cx.lendLe (by assumption) | exact S.cx.lendEq (by assumption) | exact S.cx.lendLe0 | exact S.cx.lendEq0 | exact S.cx.partLe (by assumption) | exact S.cx.partEq (by assumption) | exact .inl rfl | refine ⟨?_, ?_⟩)), (by repeat' (first | exact trivial | exact rfl | exact Nat.le_refl _ | exact S.cx.giveEq | exact S.cx.lendLe (by assumption) | exact S.cx.lendEq (by assumption) | exact S.cx.lendLe0 | exact S.cx.lendEq0 | exact S.cx.partLe (by assumption) | exact S.cx.partEq (by assumption) | exact .inl rfl | refine ⟨?_, ?_⟩))⟩ (fun v os hv => ?_)
      clear hi
      obtain ⟨⟨prog0, pc0, state0, why0, what0, timer0, reg0, group0, err0⟩, i, h, hi, rfl, rfl⟩ := hv
      refine ⟨rfl, ?_⟩; cbv
      refine Part.one ?_; cbv
      refine AppRef.push S.cx (⟨prog0, pc0, state0, why0, what0, timer0, reg0, group0, err0⟩ : Task) (by assumption) rfl rfl plainTask (fun _ => rfl) (by simp only [maxBytes]; omega) (fun m2 w hw hml => ?_); cbv
      have hwl : w.length = l.length + 1 := by rw [hw, List.length_append]; rfl
      refine Arith.go (by lia) (fun n' hn' => ?_); cbv
      replace hn' : n' = n - 1 := hn'
      refine Again.on (⟨w, n', i, h, m2⟩ : WSt) (by dsimp only; lia) ⟨hi, hml, ⟨by dsimp only; lia, by dsimp only; lia⟩, by dsimp only; lia⟩ ?_
      (cbv; refine Less.to [(999000003, (14040000, 0))] rfl rfl ?_ ?_ <;> repeat' (first | exact trivial | exact ⟨rfl, rfl⟩ | exact ⟨_, rfl, Nat.zero_le _, rfl⟩ | apply And.intro | exact rfl))
    exact Done.to (.own 9 true (A.enc cTask l)) [some (.box [.ro (A.enc cByte code), .int .i64 i, .int .i64 h])] rfl (by repeat' (first | exact trivial | exact rfl | exact resOwn S.cx rfl (by assumption) | exact resOwn S.cx rfl (S.cx.lenE _ _) | exact resOwn1 S.cx rfl (by assumption) | exact resOwnT S.cx rfl (by assumption) | exact S.cx.enc _ [] | refine ⟨?_, ?_⟩)) ⟨⟨⟨rfl, .inl rfl⟩, rfl, rfl, trivial⟩, trivial⟩ ⟨l, i, h, by omega, hi, rfl, rfl⟩
  refine ACall.of (dp := false) (l10DrawAny_c S code hb hc i h hi) ⟨rfl, (by repeat' (first | exact trivial | exact rfl | exact Nat.le_refl _ | exact S.cx.giveEq | exact S.cx.lendLe (by assumption) | exact S.cx.lendEq (by assumption) | exact S.cx.lendLe0 | exact S.cx.lendEq0 | exact S.cx.partLe (by assumption) | exact S.cx.partEq (by assumption) | exact .inl rfl | refine ⟨?_, ?_⟩)), (by repeat' (first | exact trivial | exact rfl | exact Nat.le_refl _ | exact S.cx.giveEq | exact S.cx.lendLe (by assumption) | exact S.cx.lendEq (by assumption) | exact S.cx.lendLe0 | exact S.cx.lendEq0 | exact S.cx.partLe (by assumption) | exact S.cx.partEq (by assumption) | exact .inl rfl | refine ⟨?_, ?_⟩))⟩ (fun v os hv => ?_)
  clear hi
  obtain ⟨⟨prog0, pc0, state0, why0, what0, timer0, reg0, group0, err0⟩, i, h, hi, rfl, rfl⟩ := hv
  refine ⟨rfl, ?_⟩; cbv
  refine Part.one ?_; cbv
  refine AppRef.push S.cx (⟨prog0, pc0, state0, why0, what0, timer0, reg0, group0, err0⟩ : Task) (by assumption) rfl rfl plainTask (fun _ => rfl) (by simp only [maxBytes]; omega) (fun m2 w hw hml => ?_); cbv
  have hwl : w.length = l.length + 1 := by rw [hw, List.length_append]; rfl
  have hbb := onceF_ok code hb hc i h hi 40
  refine ACall.valN (r := rCurB) (os := oCur A code) (dp := false) S.cx (l1Once_c S code hb hc i h hi 40) ⟨rfl, (by repeat' (first | exact trivial | exact rfl | exact Nat.le_refl _ | exact S.cx.giveEq | exact S.cx.lendLe (by assumption) | exact S.cx.lendEq (by assumption) | exact S.cx.lendLe0 | exact S.cx.lendEq0 | exact S.cx.partLe (by assumption) | exact S.cx.partEq (by assumption) | exact .inl rfl | refine ⟨?_, ?_⟩)), (by repeat' (first | exact trivial | exact rfl | exact Nat.le_refl _ | exact S.cx.giveEq | exact S.cx.lendLe (by assumption) | exact S.cx.lendEq (by assumption) | exact S.cx.lendLe0 | exact S.cx.lendEq0 | exact S.cx.partLe (by assumption) | exact S.cx.partEq (by assumption) | exact .inl rfl | refine ⟨?_, ?_⟩))⟩ rfl (fun ln hln x hx => ⟨rfl, ?_⟩)
  obtain ⟨b2, i, h⟩ := x
  cbv
  rw [← hx] at hbb
  dsimp only at hbb
  clear hx hi
  obtain ⟨hbb, hi⟩ := hbb
  cases b2 <;> cbv
  · exact Done.to (.own 9 true (A.enc cTask w)) [some (.box [.ro (A.enc cByte code), .int .i64 i, .int .i64 h])] rfl (by repeat' (first | exact trivial | exact rfl | exact resOwn S.cx rfl (by assumption) | exact resOwn S.cx rfl (S.cx.lenE _ _) | exact resOwn1 S.cx rfl (by assumption) | exact resOwnT S.cx rfl (by assumption) | exact S.cx.enc _ [] | refine ⟨?_, ?_⟩)) ⟨⟨⟨rfl, .inl rfl⟩, rfl, rfl, trivial⟩, trivial⟩ ⟨w, i, h, by omega, hi, rfl, rfl⟩
  have hz := belowF_ok code hb hc i h hi 2
  refine ACall.valN (r := rCur) (os := oCur A code) (dp := false) S.cx (l1Below_c S code hb hc i h hi 2) ⟨rfl, (by repeat' (first | exact trivial | exact rfl | exact Nat.le_refl _ | exact S.cx.giveEq | exact S.cx.lendLe (by assumption) | exact S.cx.lendEq (by assumption) | exact S.cx.lendLe0 | exact S.cx.lendEq0 | exact S.cx.partLe (by assumption) | exact S.cx.partEq (by assumption) | exact .inl rfl | refine ⟨?_, ?_⟩)), (by repeat' (first | exact trivial | exact rfl | exact Nat.le_refl _ | exact S.cx.giveEq | exact S.cx.lendLe (by assumption) | exact S.cx.lendEq (by assumption) | exact S.cx.lendLe0 | exact S.cx.lendEq0 | exact S.cx.partLe (by assumption) | exact S.cx.partEq (by assumption) | exact .inl rfl | refine ⟨?_, ?_⟩))⟩ rfl (fun ln hln x hx => ⟨rfl, ?_⟩)
  obtain ⟨z, i, h⟩ := x
  cbv
  rw [← hx] at hz
  dsimp only at hz
  clear hx hi
  obtain ⟨hz, hi⟩ := hz
  have hz2 := hz.2.1 (by decide)
  refine Arith.go (by lia) (fun n9 hn9 => ?_); replace hn9 : n9 = 60 + z := hn9; cbv
  refine ALoop.pre (Less.initE S.cx cTask 999000003 9 true (t := 3) rfl (by first | exact .inr rfl | exact .inl rfl) rfl) ?_
  cbv
  refine ALoop.goC (ι := WSt) (fun i => [(3, .ref false 999000003 0 i.m), (5, .int .i64 i.n)]) [20] [1000, 999000003] (fun i => [(1000, .box [.ro (A.enc cByte code), .int .i64 i.i, .int .i64 i.h]), (999000003, .arr 9 true (A.enc cTask i.l))]) (fun i => 0 ≤ i.i ∧ i.m = i.l.length ∧ (0 ≤ i.n ∧ i.n ≤ 70) ∧ i.l.length + i.n.toNat ≤ 70) (fun i => i.n.toNat) (⟨[], n9, i, h, 0⟩) [] S.cx.tab S.cx.mix S.eq ?_ ?_ ?_
  · exact ⟨hi, rfl, ⟨by dsimp only; lia, by dsimp only; lia⟩, by dsimp only; simp; lia⟩
  · (cbv; refine Less.to [] rfl rfl ?_ ?_ <;> repeat' (first | exact trivial | exact ⟨rfl, rfl⟩ | exact ⟨_, rfl, Nat.zero_le _, rfl⟩ | apply And.intro | exact rfl))
  clear hi
  rintro ⟨l, n, i, h, m⟩ hk
  dsimp only at hk
  obtain ⟨hi, hm, hn0, hln⟩ := hk
  refine Rnd.mk ?_; cbv
  refine Test.gtr (fun hg => ?_) (fun hg => ?_) <;> cbv
  · refine ACall.of (dp := false) (l10Draw_c S code hb hc i h hi) ⟨rfl, (by repeat' (first | exact trivial | exact rfl | exact Nat.le_refl _ | exact S.cx.giveEq | exact S.cx.lendLe (by assumption) | exact S.cx.lendEq (by assumption) | exact S.cx.lendLe0 | exact S.cx.lendEq0 | exact S.cx.partLe (by assumption) | exact S.cx.partEq (by assumption) | exact .inl rfl | refine ⟨?_, ?_⟩)), (by repeat' (first | exact trivial | exact rfl | exact Nat.le_refl _ | exact S.cx.giveEq | exact S.cx.lendLe (by assumption) | exact S.cx.lendEq (by assumption) | exact S.cx.lendLe0 | exact S.cx.lendEq0 | exact S.cx.partLe (by assumption) | exact S.cx.partEq (by assumption) | exact .inl rfl | refine ⟨?_, ?_⟩))⟩ (fun v os hv => ?_)
    clear hi
    obtain ⟨⟨prog0, pc0, state0, why0, what0, timer0, reg0, group0, err0⟩, i, h, hi, rfl, rfl⟩ := hv
    refine ⟨rfl, ?_⟩; cbv
    refine Part.one ?_; cbv
    refine AppRef.push S.cx (⟨prog0, pc0, state0, why0, what0, timer0, reg0, group0, err0⟩ : Task) (by assumption) rfl rfl plainTask (fun _ => rfl) (by simp only [maxBytes]; omega) (fun m2 w hw hml => ?_); cbv
    have hwl : w.length = l.length + 1 := by rw [hw, List.length_append]; rfl
    refine Arith.go (by lia) (fun n' hn' => ?_); cbv
    replace hn' : n' = n - 1 := hn'
    refine Again.on (⟨w, n', i, h, m2⟩ : WSt) (by dsimp only; lia) ⟨hi, hml, ⟨by dsimp only; lia, by dsimp only; lia⟩, by dsimp only; lia⟩ ?_
    (cbv; refine Less.to [(999000003, (14040000, 0))] rfl rfl ?_ ?_ <;> repeat' (first | exact trivial | exact ⟨rfl, rfl⟩ | exact ⟨_, rfl, Nat.zero_le _, rfl⟩ | apply And.intro | exact rfl))
  exact Done.to (.own 9 true (A.enc cTask l)) [some (.box [.ro (A.enc cByte code), .int .i64 i, .int .i64 h])] rfl (by repeat' (first | exact trivial | exact rfl | exact resOwn S.cx rfl (by assumption) | exact resOwn S.cx rfl (S.cx.lenE _ _) | exact resOwn1 S.cx rfl (by assumption) | exact resOwnT S.cx rfl (by assumption) | exact S.cx.enc _ [] | refine ⟨?_, ?_⟩)) ⟨⟨⟨rfl, .inl rfl⟩, rfl, rfl, trivial⟩, trivial⟩ ⟨l, i, h, by omega, hi, rfl, rfl⟩

theorem drawParkedOn_c (S : Se P A) (code : List Int) (hb : code.length ≤ 4096) (hc : ∀ b ∈ code, 0 ≤ b ∧ b ≤ 255) : SoundM P 113 true [.ro (A.enc cByte code)] []
    (fun v os => (∃ (l : List Task) (a b : Int), l.length ≤ 100 ∧ v = .tup [.own 9 true (A.enc cTask l), .int .i64 a, .int .i64 b]) ∧ os = []) := by
  refine S.cx.byC [] (S.prog ▸ Try.func113) rfl rfl rfl rfl (fun ln hln hv ho => ?_)
  cbv
  refine ACall.of (dp := false) (l1New_c S code hb hc) ⟨rfl, (by repeat' (first | exact trivial | exact rfl | exact Nat.le_refl _ | exact S.cx.giveEq | exact S.cx.lendLe (by assumption) | exact S.cx.lendEq (by assumption) | exact S.cx.lendLe0 | exact S.cx.lendEq0 | exact S.cx.partLe (by assumption) | exact S.cx.partEq (by assumption) | exact .inl rfl | refine ⟨?_, ?_⟩)), (by repeat' (first | exact trivial | exact rfl | exact Nat.le_refl _ | exact S.cx.giveEq | exact S.cx.lendLe (by assumption) | exact S.cx.lendEq (by assumption) | exact S.cx.lendLe0 | exact S.cx.lendEq0 | exact S.cx.partLe (by assumption) | exact S.cx.partEq (by assumption) | exact .inl rfl | refine ⟨?_, ?_⟩))⟩ (fun v os hv => ?_)
  obtain ⟨⟨h, rfl⟩, rfl⟩ := hv
  refine ⟨rfl, ?_⟩; cbv
  refine ACall.ofN (dp := false) S.cx (l11DrawAny_c S code hb hc 0 h (Int.le_refl 0)) ⟨rfl, (by repeat' (first | exact trivial | exact rfl | exact Nat.le_refl _ | exact S.cx.giveEq | exact S.cx.lendLe (by assumption) | exact S.cx.lendEq (by assumption) | exact S.cx.lendLe0 | exact S.cx.lendEq0 | exact S.cx.partLe (by assumption) | exact S.cx.partEq (by assumption) | exact .inl rfl | refine ⟨?_, ?_⟩)), (by repeat' (first | exact trivial | exact rfl | exact Nat.le_refl _ | exact S.cx.giveEq | exact S.cx.lendLe (by assumption) | exact S.cx.lendEq (by assumption) | exact S.cx.lendLe0 | exact S.cx.lendEq0 | exact S.cx.partLe (by assumption) | exact S.cx.partEq (by assumption) | exact .inl rfl | refine ⟨?_, ?_⟩))⟩ (fun ln hln v os hv => ?_)
  obtain ⟨l, i, h, hl, hi, rfl, rfl⟩ := hv
  refine ⟨rfl, ?_⟩; cbv
  have hN := hln cTask l
  generalize ln (A.enc cTask l) = N at hN ⊢
  refine Len.nat (fun m hm hml => ?_); cbv
  refine Test.gtr (fun hg => ?_) (fun hg => ?_) <;> cbv
  rotate_left
  · have ha1 := belowF_ok code hb hc i h hi 5
    refine ACall.valN (r := rCur) (os := oCur A code) (dp := false) S.cx (l1Below_c S code hb hc i h hi 5) ⟨rfl, (by repeat' (first | exact trivial | exact rfl | exact Nat.le_refl _ | exact S.cx.giveEq | exact S.cx.lendLe (by assumption) | exact S.cx.lendEq (by assumption) | exact S.cx.lendLe0 | exact S.cx.lendEq0 | exact S.cx.partLe (by assumption) | exact S.cx.partEq (by assumption) | exact .inl rfl | refine ⟨?_, ?_⟩)), (by repeat' (first | exact trivial | exact rfl | exact Nat.le_refl _ | exact S.cx.giveEq | exact S.cx.lendLe (by assumption) | exact S.cx.lendEq (by assumption) | exact S.cx.lendLe0 | exact S.cx.lendEq0 | exact S.cx.partLe (by assumption) | exact S.cx.partEq (by assumption) | exact .inl rfl | refine ⟨?_, ?_⟩))⟩ rfl (fun ln hln x hx => ⟨rfl, ?_⟩)
    obtain ⟨a1, i, h⟩ := x
    cbv
    rw [← hx] at ha1
    dsimp only at ha1
    clear hx hi
    obtain ⟨ha1, hi⟩ := ha1
    have ha2 := belowF_ok code hb hc i h hi 3
    refine ACall.valN (r := rCur) (os := oCur A code) (dp := false) S.cx (l1Below_c S code hb hc i h hi 3) ⟨rfl, (by repeat' (first | exact trivial | exact rfl | exact Nat.le_refl _ | exact S.cx.giveEq | exact S.cx.lendLe (by assumption) | exact S.cx.lendEq (by assumption) | exact S.cx.lendLe0 | exact S.cx.lendEq0 | exact S.cx.partLe (by assumption) | exact S.cx.partEq (by assumption) | exact .inl rfl | refine ⟨?_, ?_⟩)), (by repeat' (first | exact trivial | exact rfl | exact Nat.le_refl _ | exact S.cx.giveEq | exact S.cx.lendLe (by assumption) | exact S.cx.lendEq (by assumption) | exact S.cx.lendLe0 | exact S.cx.lendEq0 | exact S.cx.partLe (by assumption) | exact S.cx.partEq (by assumption) | exact .inl rfl | refine ⟨?_, ?_⟩))⟩ rfl (fun ln hln x hx => ⟨rfl, ?_⟩)
    obtain ⟨a2, i, h⟩ := x
    cbv
    rw [← hx] at ha2
    dsimp only at ha2
    clear hx hi
    obtain ⟨ha2, hi⟩ := ha2
    exact Done.to (.tup [.own 9 true (A.enc cTask l), .int .i64 a1, .int .i64 a2]) [] rfl (by repeat' (first | exact trivial | exact rfl | exact resOwn S.cx rfl (by assumption) | exact resOwn S.cx rfl (S.cx.lenE _ _) | exact resOwn1 S.cx rfl (by assumption) | exact resOwnT S.cx rfl (by assumption) | exact S.cx.enc _ [] | refine ⟨?_, ?_⟩)) trivial ⟨⟨l, a1, a2, hl, rfl⟩, rfl⟩
  have hbb := onceF_ok code hb hc i h hi 4
  refine ACall.valN (r := rCurB) (os := oCur A code) (dp := false) S.cx (l1Once_c S code hb hc i h hi 4) ⟨rfl, (by repeat' (first | exact trivial | exact rfl | exact Nat.le_refl _ | exact S.cx.giveEq | exact S.cx.lendLe (by assumption) | exact S.cx.lendEq (by assumption) | exact S.cx.lendLe0 | exact S.cx.lendEq0 | exact S.cx.partLe (by assumption) | exact S.cx.partEq (by assumption) | exact .inl rfl | refine ⟨?_, ?_⟩)), (by repeat' (first | exact trivial | exact rfl | exact Nat.le_refl _ | exact S.cx.giveEq | exact S.cx.lendLe (by assumption) | exact S.cx.lendEq (by assumption) | exact S.cx.lendLe0 | exact S.cx.lendEq0 | exact S.cx.partLe (by assumption) | exact S.cx.partEq (by assumption) | exact .inl rfl | refine ⟨?_, ?_⟩))⟩ rfl (fun ln hln x hx => ⟨rfl, ?_⟩)
  obtain ⟨b1, i, h⟩ := x
  cbv
  rw [← hx] at hbb
  dsimp only at hbb
  clear hx hi
  obtain ⟨hbb, hi⟩ := hbb
  cases b1 <;> cbv
  rotate_left
  · have ha1 := belowF_ok code hb hc i h hi 5
    refine ACall.valN (r := rCur) (os := oCur A code) (dp := false) S.cx (l1Below_c S code hb hc i h hi 5) ⟨rfl, (by repeat' (first | exact trivial | exact rfl | exact Nat.le_refl _ | exact S.cx.giveEq | exact S.cx.lendLe (by assumption) | exact S.cx.lendEq (by assumption) | exact S.cx.lendLe0 | exact S.cx.lendEq0 | exact S.cx.partLe (by assumption) | exact S.cx.partEq (by assumption) | exact .inl rfl | refine ⟨?_, ?_⟩)), (by repeat' (first | exact trivial | exact rfl | exact Nat.le_refl _ | exact S.cx.giveEq | exact S.cx.lendLe (by assumption) | exact S.cx.lendEq (by assumption) | exact S.cx.lendLe0 | exact S.cx.lendEq0 | exact S.cx.partLe (by assumption) | exact S.cx.partEq (by assumption) | exact .inl rfl | refine ⟨?_, ?_⟩))⟩ rfl (fun ln hln x hx => ⟨rfl, ?_⟩)
    obtain ⟨a1, i, h⟩ := x
    cbv
    rw [← hx] at ha1
    dsimp only at ha1
    clear hx hi
    obtain ⟨ha1, hi⟩ := ha1
    have ha2 := belowF_ok code hb hc i h hi 3
    refine ACall.valN (r := rCur) (os := oCur A code) (dp := false) S.cx (l1Below_c S code hb hc i h hi 3) ⟨rfl, (by repeat' (first | exact trivial | exact rfl | exact Nat.le_refl _ | exact S.cx.giveEq | exact S.cx.lendLe (by assumption) | exact S.cx.lendEq (by assumption) | exact S.cx.lendLe0 | exact S.cx.lendEq0 | exact S.cx.partLe (by assumption) | exact S.cx.partEq (by assumption) | exact .inl rfl | refine ⟨?_, ?_⟩)), (by repeat' (first | exact trivial | exact rfl | exact Nat.le_refl _ | exact S.cx.giveEq | exact S.cx.lendLe (by assumption) | exact S.cx.lendEq (by assumption) | exact S.cx.lendLe0 | exact S.cx.lendEq0 | exact S.cx.partLe (by assumption) | exact S.cx.partEq (by assumption) | exact .inl rfl | refine ⟨?_, ?_⟩))⟩ rfl (fun ln hln x hx => ⟨rfl, ?_⟩)
    obtain ⟨a2, i, h⟩ := x
    cbv
    rw [← hx] at ha2
    dsimp only at ha2
    clear hx hi
    obtain ⟨ha2, hi⟩ := ha2
    exact Done.to (.tup [.own 9 true (A.enc cTask l), .int .i64 a1, .int .i64 a2]) [] rfl (by repeat' (first | exact trivial | exact rfl | exact resOwn S.cx rfl (by assumption) | exact resOwn S.cx rfl (S.cx.lenE _ _) | exact resOwn1 S.cx rfl (by assumption) | exact resOwnT S.cx rfl (by assumption) | exact S.cx.enc _ [] | refine ⟨?_, ?_⟩)) trivial ⟨⟨l, a1, a2, hl, rfl⟩, rfl⟩
  refine Len.nat (fun m2 hm2 hml2 => ?_); cbv
  have hk := belowF_ok code hb hc i h hi m2
  refine ACall.valN (r := rCur) (os := oCur A code) (dp := false) S.cx (l1Below_c S code hb hc i h hi m2) ⟨rfl, (by repeat' (first | exact trivial | exact rfl | exact Nat.le_refl _ | exact S.cx.giveEq | exact S.cx.lendLe (by assumption) | exact S.cx.lendEq (by assumption) | exact S.cx.lendLe0 | exact S.cx.lendEq0 | exact S.cx.partLe (by assumption) | exact S.cx.partEq (by assumption) | exact .inl rfl | refine ⟨?_, ?_⟩)), (by repeat' (first | exact trivial | exact rfl | exact Nat.le_refl _ | exact S.cx.giveEq | exact S.cx.lendLe (by assumption) | exact S.cx.lendEq (by assumption) | exact S.cx.lendLe0 | exact S.cx.lendEq0 | exact S.cx.partLe (by assumption) | exact S.cx.partEq (by assumption) | exact .inl rfl | refine ⟨?_, ?_⟩))⟩ rfl (fun ln hln x hx => ⟨rfl, ?_⟩)
  obtain ⟨k, i, h⟩ := x
  cbv
  rw [← hx] at hk
  dsimp only at hk
  clear hx hi
  obtain ⟨hk, hi⟩ := hk
  have hk2 := hk.2.1 (by lia)
  refine ElemRef.go rfl (by lia) (by lia) (by rw [S.cx.lenE']; lia) (fun row hrow => ?_); cbv
  refine Row.enc S.cx (by lia) (fun x hx => ?_)
  obtain ⟨prog0, pc0, state0, why0, what0, timer0, reg0, group0, err0⟩ := x
  cbv
  try (refine Drawn.mk ⟨by kernel_rfl, fun _ => ?_⟩)
  exact Done.to (.tup [.own 9 true (A.enc cTask l), .int .i64 why0, .int .i64 what0]) [] rfl (by repeat' (first | exact trivial | exact rfl | exact resOwn S.cx rfl (by assumption) | exact resOwn S.cx rfl (S.cx.lenE _ _) | exact resOwn1 S.cx rfl (by assumption) | exact resOwnT S.cx rfl (by assumption) | exact S.cx.enc _ [] | refine ⟨?_, ?_⟩)) trivial ⟨⟨l, why0, what0, hl, rfl⟩, rfl⟩

theorem drawWoken_c (S : Se P A) (code : List Int) (hb : code.length ≤ 4096) (hc : ∀ b ∈ code, 0 ≤ b ∧ b ≤ 255) : SoundM P 66 true [.ro (A.enc cByte code)] []
    (fun v os => (∃ (l : List Task) (a b c : Int), l.length ≤ 100 ∧ v = .tup [.own 9 true (A.enc cTask l), .int .i64 a, .int .i64 b, .int .i64 c]) ∧ os = []) := by
  refine S.cx.byC [] (S.prog ▸ Try.func66) rfl rfl rfl rfl (fun ln hln hv ho => ?_)
  cbv
  refine ACall.of (dp := false) (l1New_c S code hb hc) ⟨rfl, (by repeat' (first | exact trivial | exact rfl | exact Nat.le_refl _ | exact S.cx.giveEq | exact S.cx.lendLe (by assumption) | exact S.cx.lendEq (by assumption) | exact S.cx.lendLe0 | exact S.cx.lendEq0 | exact S.cx.partLe (by assumption) | exact S.cx.partEq (by assumption) | exact .inl rfl | refine ⟨?_, ?_⟩)), (by repeat' (first | exact trivial | exact rfl | exact Nat.le_refl _ | exact S.cx.giveEq | exact S.cx.lendLe (by assumption) | exact S.cx.lendEq (by assumption) | exact S.cx.lendLe0 | exact S.cx.lendEq0 | exact S.cx.partLe (by assumption) | exact S.cx.partEq (by assumption) | exact .inl rfl | refine ⟨?_, ?_⟩))⟩ (fun v os hv => ?_)
  obtain ⟨⟨h, rfl⟩, rfl⟩ := hv
  refine ⟨rfl, ?_⟩; cbv
  refine ACall.ofN (dp := false) S.cx (drawParkedOn_c S code hb hc) ⟨rfl, (by repeat' (first | exact trivial | exact rfl | exact Nat.le_refl _ | exact S.cx.giveEq | exact S.cx.lendLe (by assumption) | exact S.cx.lendEq (by assumption) | exact S.cx.lendLe0 | exact S.cx.lendEq0 | exact S.cx.partLe (by assumption) | exact S.cx.partEq (by assumption) | exact .inl rfl | refine ⟨?_, ?_⟩)), (by repeat' (first | exact trivial | exact rfl | exact Nat.le_refl _ | exact S.cx.giveEq | exact S.cx.lendLe (by assumption) | exact S.cx.lendEq (by assumption) | exact S.cx.lendLe0 | exact S.cx.lendEq0 | exact S.cx.partLe (by assumption) | exact S.cx.partEq (by assumption) | exact .inl rfl | refine ⟨?_, ?_⟩))⟩ (fun ln hln v os hv => ?_)
  obtain ⟨⟨l, a, b, hl, rfl⟩, rfl⟩ := hv
  refine ⟨rfl, ?_⟩; cbv
  have hN := hln cTask l
  generalize ln (A.enc cTask l) = N at hN ⊢
  refine ACall.of (dp := false) (l1Num_c S code hb hc 0 h (Int.le_refl 0) 999 (by decide)) ⟨rfl, (by repeat' (first | exact trivial | exact rfl | exact Nat.le_refl _ | exact S.cx.giveEq | exact S.cx.lendLe (by assumption) | exact S.cx.lendEq (by assumption) | exact S.cx.lendLe0 | exact S.cx.lendEq0 | exact S.cx.partLe (by assumption) | exact S.cx.partEq (by assumption) | exact .inl rfl | refine ⟨?_, ?_⟩)), (by repeat' (first | exact trivial | exact rfl | exact Nat.le_refl _ | exact S.cx.giveEq | exact S.cx.lendLe (by assumption) | exact S.cx.lendEq (by assumption) | exact S.cx.lendLe0 | exact S.cx.lendEq0 | exact S.cx.partLe (by assumption) | exact S.cx.partEq (by assumption) | exact .inl rfl | refine ⟨?_, ?_⟩))⟩ (fun v os hv => ?_)
  obtain ⟨c, i, h, hcc, hi, rfl, rfl⟩ := hv
  refine ⟨rfl, ?_⟩; cbv
  exact Done.to (.tup [.own 9 true (A.enc cTask l), .int .i64 a, .int .i64 b, .int .i64 c]) [] rfl (by repeat' (first | exact trivial | exact rfl | exact resOwn S.cx rfl (by assumption) | exact resOwn S.cx rfl (S.cx.lenE _ _) | exact resOwn1 S.cx rfl (by assumption) | exact resOwnT S.cx rfl (by assumption) | exact S.cx.enc _ [] | refine ⟨?_, ?_⟩)) trivial ⟨⟨l, a, b, c, hl, rfl⟩, rfl⟩

theorem likeInts_c (S : Se P A) (l l' : List Int) : Tests P 69 [.ro (A.enc cInt64 l), .ro (A.enc cInt64 l')] (l = l') := by
  refine S.cx.by (S.prog ▸ Try.func69) rfl rfl rfl rfl (fun hv ho => ?_)
  cbv
  refine LenR.enc S.cx (fun n hn hm => ?_); cbv
  refine LenR.enc S.cx (fun n' hn' hm' => ?_); cbv
  refine Test.neq (fun h => ?_) (fun h => ?_) <;> cbv
  · exact Done.no fun e => h (by subst e; lia)
  refine ALoop.goS (ι := Int) (fun i => [(5, .int .i64 i)]) [] (fun i => []) (fun i => 0 ≤ i ∧ i ≤ n ∧ ∀ j : Nat, (j : Int) < i → l[j]? = l'[j]?) (fun i => (n - i).toNat) (0) S.cx.tab S.cx.mix S.eq ?_ ?_ ?_
  · exact ⟨by simp, by lia, fun j hj => by lia⟩
  · (cbv; refine Less.to [] rfl rfl ?_ ?_ <;> repeat' (first | exact trivial | exact ⟨rfl, rfl⟩ | exact ⟨_, rfl, Nat.zero_le _, rfl⟩ | apply And.intro | exact rfl))
  rintro i ⟨h1, h2, h3⟩
  refine Rnd.mk ?_; cbv
  refine LenR.enc S.cx (fun q hq hmq => ?_); cbv
  refine Test.lss (fun h => ?_) (fun h => ?_) <;> cbv
  rotate_left
  · exact Done.yes (ext_lt (by lia) fun j hj => h3 j (by lia))
  try (refine Drawn.mk ⟨by kernel_rfl, fun _ => ?_⟩)
  refine ElemRo.enc S.cx len_cInt64 (by lia) (by lia) (fun x hx => ?_); cbv
  refine ElemRo.enc S.cx len_cInt64 (by lia) (by lia) (fun y hy => ?_); cbv
  refine Test.neq (fun h => ?_) (fun h => ?_) <;> cbv
  · exact Done.no fun e => h (by subst e; rw [hx] at hy; exact Option.some.inj hy)
  have hxy : l[i.toNat]? = l'[i.toNat]? := by rw [hx, hy, h]
  refine Arith.go (by simp only [maxLen] at hmq; lia) (fun i' hi' => ?_); cbv
  refine Again.on i' (by lia) ⟨by lia, by lia, fun j hj => ?_⟩ ?_
  · by_cases hji : (j : Int) = i
    · have : j = i.toNat := by lia
      rw [this]; exact hxy
    · exact h3 j (by lia)
  · (cbv; refine Less.to [] rfl rfl ?_ ?_ <;> repeat' (first | exact trivial | exact ⟨rfl, rfl⟩ | exact ⟨_, rfl, Nat.zero_le _, rfl⟩ | apply And.intro | exact rfl))

theorem has_c (S : Se P A) (l : List Int) (n : Int) : Tests P 60 [.ro (A.enc cInt64 l), .int .i64 n] (n ∈ l) := by
  refine S.cx.by (S.prog ▸ Try.func60) rfl rfl rfl rfl (fun hv ho => ?_)
  cbv
  refine ALoop.goS (ι := Int) (fun i => [(5, .int .i64 i)]) [] (fun i => []) (fun i => 0 ≤ i ∧ Upto (fun _ x => ¬ x = n) l i) (fun i => (l.length - i).toNat) (0) S.cx.tab S.cx.mix S.eq ?_ ?_ ?_
  · exact ⟨Int.le_refl _, .zero⟩
  · (cbv; refine Less.to [] rfl rfl ?_ ?_ <;> repeat' (first | exact trivial | exact ⟨rfl, rfl⟩ | exact ⟨_, rfl, Nat.zero_le _, rfl⟩ | apply And.intro | exact rfl))
  intro i hk
  obtain ⟨h0, hu⟩ := hk
  refine Rnd.mk ?_; cbv
  refine LenR.nat S.cx (fun N hN hm => ?_); cbv
  refine Test.lss (fun h => ?_) (fun h => ?_) <;> cbv
  rotate_left
  · exact Done.no fun e => hu.mem (by lia) n e rfl
  refine ElemRo.enc S.cx (fun _ => rfl) (by lia) (by lia) (fun x hx => ?_); cbv
  refine Test.eql (fun h2 => ?_) (fun h2 => ?_) <;> cbv
  · exact Done.yes (h2 ▸ mem_at hx)
  · refine Arith.go (by lia) (fun i' hi' => ?_); cbv
    refine Again.on i' (by lia) ⟨by lia, hu.next h0 hx h2 hi'⟩ ?_
    (cbv; refine Less.to [] rfl rfl ?_ ?_ <;> repeat' (first | exact trivial | exact ⟨rfl, rfl⟩ | exact ⟨_, rfl, Nat.zero_le _, rfl⟩ | apply And.intro | exact rfl))

theorem readied_ok {t : Task} (h : TaskOk t) (r : Int) : TaskOk (Readied t r) := by
  rw [Readied, if_pos h]
  split
  · rename_i h2; exact h2.2
  · exact h

theorem readied_is {t : Task} (h : TaskOk t) (hs : t.state = 1) (hp : t.pc < 12) : (Readied t 1).state = 0 ∧ (Readied t 1).reg = 1 := by
  obtain ⟨a1, a2, a3, a4, a5, a6⟩ := h
  have hk : TaskOk { t with pc := t.pc + 1, state := 0, why := 0, what := 0, timer := -1, reg := 1 } := by
    have he : t.err = 0 := by
      rcases a6 with a6 | a6
      · exact a6.2.1
      · exact absurd hs a6.2.2.1
    exact ⟨a1, ⟨by dsimp only; omega, by dsimp only; omega⟩, ⟨by dsimp only; omega, by dsimp only; omega⟩, a4, a5, .inr ⟨by dsimp only; omega, by dsimp only; omega, by dsimp only; omega, rfl, rfl, rfl, .inr he⟩⟩
  rw [Readied, if_pos ⟨a1, a2, a3, a4, a5, a6⟩, if_pos ⟨by omega, hk⟩]
  exact ⟨rfl, rfl⟩

theorem woke_ok {t : Task} (h : TaskOk t) (why what r : Int) : TaskOk (woke why what r t) := by
  unfold woke; split
  · exact readied_ok h r
  · exact h

theorem woke_plain {l : List Task} (hok : TasksOk l) {why what : Int} {x : List Task} (hx : x = Woken l why what 1) {w : List Int} (hw : w = ParkedOn l why what) {rd : List Int} (hr : rd = ReadyIn x) :
    x.length = l.length ∧ ∀ (i : Int) (t : Task), 0 ≤ i → l[i.toNat]? = some t → ∃ y, x[i.toNat]? = some y ∧ (i ∈ w → t.pc < 12 → y.state = 0 ∧ y.reg = 1 ∧ i ∈ rd) ∧ (i ∉ w → y = t) := by
  rw [Woken, if_pos hok] at hx
  rw [ParkedOn, if_pos hok] at hw
  have hxl : x.length = l.length := by rw [hx, List.length_map]
  have hxok : TasksOk x := by
    refine ⟨by rw [hxl]; exact hok.1, fun y hy => ?_⟩
    rw [hx] at hy
    obtain ⟨t, ht, rfl⟩ := List.mem_map.1 hy
    exact woke_ok (hok.2 t ht) why what 1
  rw [ReadyIn, if_pos hxok] at hr
  refine ⟨hxl, fun i t h0 ht => ?_⟩
  have hxi : x[i.toNat]? = some (woke why what 1 t) := by rw [hx, List.getElem?_map, ht]; rfl
  refine ⟨_, hxi, fun hi hp => ?_, fun hi => ?_⟩
  · rw [hw, idxs_mem] at hi
    obtain ⟨_, t2, ht2, hp2⟩ := hi
    rw [ht] at ht2
    obtain rfl := Option.some.inj ht2
    have hst : t.state = 1 := (of_decide_eq_true hp2).1
    have hri := readied_is (hok.2 t (List.mem_of_getElem? ht)) hst hp
    have hwk : woke why what 1 t = Readied t 1 := by unfold woke; rw [if_pos hp2]
    rw [hwk] at hxi ⊢
    refine ⟨hri.1, hri.2, ?_⟩
    rw [hr, idxs_mem]
    exact ⟨h0, _, hxi, decide_eq_true hri.1⟩
  · unfold woke
    rw [if_neg]
    intro hp2
    refine hi ?_
    rw [hw, idxs_mem]
    exact ⟨h0, t, ht, hp2⟩

theorem lawWoken2_c (S : Se P A) (code : List Int) : Is1 P 12 [.ro (A.enc cByte code)] (.bool true) := by
  refine S.cx.byC [] (S.prog ▸ Try.func12) rfl rfl rfl rfl (fun ln hln hv ho => ?_)
  cbv
  have hc := code_bytes (code := code) S.cx (hv _ (List.mem_singleton.2 rfl))
  refine ACall.testD (dp := false) (big_c S code) ⟨rfl, (by repeat' (first | exact trivial | exact rfl | exact Nat.le_refl _ | exact S.cx.giveEq | exact S.cx.lendLe (by assumption) | exact S.cx.lendEq (by assumption) | exact S.cx.lendLe0 | exact S.cx.lendEq0 | exact S.cx.partLe (by assumption) | exact S.cx.partEq (by assumption) | exact .inl rfl | refine ⟨?_, ?_⟩)), (by repeat' (first | exact trivial | exact rfl | exact Nat.le_refl _ | exact S.cx.giveEq | exact S.cx.lendLe (by assumption) | exact S.cx.lendEq (by assumption) | exact S.cx.lendLe0 | exact S.cx.lendEq0 | exact S.cx.partLe (by assumption) | exact S.cx.partEq (by assumption) | exact .inl rfl | refine ⟨?_, ?_⟩))⟩ rfl (fun hbig => ?_) (fun hbig => ?_) <;> cbv
  · exact Done.to (.bool true) [] rfl rfl trivial ⟨rfl, rfl⟩
  replace hbig : code.length ≤ 4096 := Nat.not_lt.1 hbig
  refine ACall.ofN (dp := false) S.cx (drawWoken_c S code hbig hc) ⟨rfl, (by repeat' (first | exact trivial | exact rfl | exact Nat.le_refl _ | exact S.cx.giveEq | exact S.cx.lendLe (by assumption) | exact S.cx.lendEq (by assumption) | exact S.cx.lendLe0 | exact S.cx.lendEq0 | exact S.cx.partLe (by assumption) | exact S.cx.partEq (by assumption) | exact .inl rfl | refine ⟨?_, ?_⟩)), (by repeat' (first | exact trivial | exact rfl | exact Nat.le_refl _ | exact S.cx.giveEq | exact S.cx.lendLe (by assumption) | exact S.cx.lendEq (by assumption) | exact S.cx.lendLe0 | exact S.cx.lendEq0 | exact S.cx.partLe (by assumption) | exact S.cx.partEq (by assumption) | exact .inl rfl | refine ⟨?_, ?_⟩))⟩ (fun ln hln v os hv => ?_)
  obtain ⟨⟨l, why, what, c, hl, rfl⟩, rfl⟩ := hv
  refine ⟨rfl, ?_⟩; cbv
  have hL := hln cTask l
  generalize ln (A.enc cTask l) = L at hL ⊢
  refine ACall.testD (dp := false) (specTasksOk_c S l) ⟨rfl, (by repeat' (first | exact trivial | exact rfl | exact Nat.le_refl _ | exact S.cx.giveEq | exact S.cx.lendLe (by assumption) | exact S.cx.lendEq (by assumption) | exact S.cx.lendLe0 | exact S.cx.lendEq0 | exact S.cx.partLe (by assumption) | exact S.cx.partEq (by assumption) | exact .inl rfl | refine ⟨?_, ?_⟩)), (by repeat' (first | exact trivial | exact rfl | exact Nat.le_refl _ | exact S.cx.giveEq | exact S.cx.lendLe (by assumption) | exact S.cx.lendEq (by assumption) | exact S.cx.lendLe0 | exact S.cx.lendEq0 | exact S.cx.partLe (by assumption) | exact S.cx.partEq (by assumption) | exact .inl rfl | refine ⟨?_, ?_⟩))⟩ rfl (fun hok => ?_) (fun hok => ?_) <;> cbv
  rotate_left
  · refine ACall.valN (r := rT A) (os := fun _ => []) (dp := false) S.cx (implWoken_c S l why what 1) ⟨rfl, (by repeat' (first | exact trivial | exact rfl | exact Nat.le_refl _ | exact S.cx.giveEq | exact S.cx.lendLe (by assumption) | exact S.cx.lendEq (by assumption) | exact S.cx.lendLe0 | exact S.cx.lendEq0 | exact S.cx.partLe (by assumption) | exact S.cx.partEq (by assumption) | exact .inl rfl | refine ⟨?_, ?_⟩)), (by repeat' (first | exact trivial | exact rfl | exact Nat.le_refl _ | exact S.cx.giveEq | exact S.cx.lendLe (by assumption) | exact S.cx.lendEq (by assumption) | exact S.cx.lendLe0 | exact S.cx.lendEq0 | exact S.cx.partLe (by assumption) | exact S.cx.partEq (by assumption) | exact .inl rfl | refine ⟨?_, ?_⟩))⟩ rfl (fun ln hln x hx => ⟨rfl, ?_⟩)
    cbv
    have hN := hln cTask x
    generalize ln (A.enc cTask x) = N at hN ⊢
    rw [Woken, if_neg hok] at hx
    have hx0 : x.length = 0 := by rw [hx]; rfl
    refine Len.nat (fun m hm hml => ?_); cbv
    refine Test.eql (fun h1 => ?_) (fun h1 => ?_) <;> cbv
    rotate_left
    · exact absurd (by lia) h1
    refine ACall.testD (dp := false) (implTasksOk_c S l) ⟨rfl, (by repeat' (first | exact trivial | exact rfl | exact Nat.le_refl _ | exact S.cx.giveEq | exact S.cx.lendLe (by assumption) | exact S.cx.lendEq (by assumption) | exact S.cx.lendLe0 | exact S.cx.lendEq0 | exact S.cx.partLe (by assumption) | exact S.cx.partEq (by assumption) | exact .inl rfl | refine ⟨?_, ?_⟩)), (by repeat' (first | exact trivial | exact rfl | exact Nat.le_refl _ | exact S.cx.giveEq | exact S.cx.lendLe (by assumption) | exact S.cx.lendEq (by assumption) | exact S.cx.lendLe0 | exact S.cx.lendEq0 | exact S.cx.partLe (by assumption) | exact S.cx.partEq (by assumption) | exact .inl rfl | refine ⟨?_, ?_⟩))⟩ rfl (fun h2 => ?_) (fun h2 => ?_) <;> cbv
    · exact absurd h2 hok
    · exact Done.to (.bool true) [] rfl rfl trivial ⟨rfl, rfl⟩
  refine ACall.valN (r := rT A) (os := fun _ => []) (dp := false) S.cx (implWoken_c S l why what 1) ⟨rfl, (by repeat' (first | exact trivial | exact rfl | exact Nat.le_refl _ | exact S.cx.giveEq | exact S.cx.lendLe (by assumption) | exact S.cx.lendEq (by assumption) | exact S.cx.lendLe0 | exact S.cx.lendEq0 | exact S.cx.partLe (by assumption) | exact S.cx.partEq (by assumption) | exact .inl rfl | refine ⟨?_, ?_⟩)), (by repeat' (first | exact trivial | exact rfl | exact Nat.le_refl _ | exact S.cx.giveEq | exact S.cx.lendLe (by assumption) | exact S.cx.lendEq (by assumption) | exact S.cx.lendLe0 | exact S.cx.lendEq0 | exact S.cx.partLe (by assumption) | exact S.cx.partEq (by assumption) | exact .inl rfl | refine ⟨?_, ?_⟩))⟩ rfl (fun ln hln x hx => ⟨rfl, ?_⟩)
  cbv
  have hN := hln cTask x
  generalize ln (A.enc cTask x) = N at hN ⊢
  have hx1 := hx
  refine ACall.valN (r := rI A) (os := fun _ => []) (dp := false) S.cx (implParkedOn_c S l why what) ⟨rfl, (by repeat' (first | exact trivial | exact rfl | exact Nat.le_refl _ | exact S.cx.giveEq | exact S.cx.lendLe (by assumption) | exact S.cx.lendEq (by assumption) | exact S.cx.lendLe0 | exact S.cx.lendEq0 | exact S.cx.partLe (by assumption) | exact S.cx.partEq (by assumption) | exact .inl rfl | refine ⟨?_, ?_⟩)), (by repeat' (first | exact trivial | exact rfl | exact Nat.le_refl _ | exact S.cx.giveEq | exact S.cx.lendLe (by assumption) | exact S.cx.lendEq (by assumption) | exact S.cx.lendLe0 | exact S.cx.lendEq0 | exact S.cx.partLe (by assumption) | exact S.cx.partEq (by assumption) | exact .inl rfl | refine ⟨?_, ?_⟩))⟩ rfl (fun ln hln w hx => ⟨rfl, ?_⟩)
  cbv
  have hM := hln cInt64 w
  generalize ln (A.enc cInt64 w) = M at hM ⊢
  have hw1 := hx
  have hp := woke_plain hok hx1 hw1 (rd := ReadyIn x) rfl
  have hxl := hp.1
  refine Len.nat (fun m hm hml => ?_); cbv
  refine Len.nat (fun m2 hm2 hml2 => ?_); cbv
  refine Test.neq (fun h1 => ?_) (fun h1 => ?_) <;> cbv
  · exact absurd (by lia) h1
  refine ACall.valN (r := rI A) (os := fun _ => []) (dp := false) S.cx (specParkedOn_c S l why what) ⟨rfl, (by repeat' (first | exact trivial | exact rfl | exact Nat.le_refl _ | exact S.cx.giveEq | exact S.cx.lendLe (by assumption) | exact S.cx.lendEq (by assumption) | exact S.cx.lendLe0 | exact S.cx.lendEq0 | exact S.cx.partLe (by assumption) | exact S.cx.partEq (by assumption) | exact .inl rfl | refine ⟨?_, ?_⟩)), (by repeat' (first | exact trivial | exact rfl | exact Nat.le_refl _ | exact S.cx.giveEq | exact S.cx.lendLe (by assumption) | exact S.cx.lendEq (by assumption) | exact S.cx.lendLe0 | exact S.cx.lendEq0 | exact S.cx.partLe (by assumption) | exact S.cx.partEq (by assumption) | exact .inl rfl | refine ⟨?_, ?_⟩))⟩ rfl (fun ln hln w2 hx => ⟨rfl, ?_⟩)
  cbv
  have hM2 := hln cInt64 w2
  generalize ln (A.enc cInt64 w2) = M2 at hM2 ⊢
  cases hx.trans hw1.symm
  refine ACall.testD (dp := false) (likeInts_c S w w) ⟨rfl, (by repeat' (first | exact trivial | exact rfl | exact Nat.le_refl _ | exact S.cx.giveEq | exact S.cx.lendLe (by assumption) | exact S.cx.lendEq (by assumption) | exact S.cx.lendLe0 | exact S.cx.lendEq0 | exact S.cx.partLe (by assumption) | exact S.cx.partEq (by assumption) | exact .inl rfl | refine ⟨?_, ?_⟩)), (by repeat' (first | exact trivial | exact rfl | exact Nat.le_refl _ | exact S.cx.giveEq | exact S.cx.lendLe (by assumption) | exact S.cx.lendEq (by assumption) | exact S.cx.lendLe0 | exact S.cx.lendEq0 | exact S.cx.partLe (by assumption) | exact S.cx.partEq (by assumption) | exact .inl rfl | refine ⟨?_, ?_⟩))⟩ rfl (fun h2 => ?_) (fun h2 => ?_) <;> cbv
  rotate_left
  · exact absurd rfl h2
  refine ACall.valN (r := rI A) (os := fun _ => []) (dp := false) S.cx (implReadyIn_c S x) ⟨rfl, (by repeat' (first | exact trivial | exact rfl | exact Nat.le_refl _ | exact S.cx.giveEq | exact S.cx.lendLe (by assumption) | exact S.cx.lendEq (by assumption) | exact S.cx.lendLe0 | exact S.cx.lendEq0 | exact S.cx.partLe (by assumption) | exact S.cx.partEq (by assumption) | exact .inl rfl | refine ⟨?_, ?_⟩)), (by repeat' (first | exact trivial | exact rfl | exact Nat.le_refl _ | exact S.cx.giveEq | exact S.cx.lendLe (by assumption) | exact S.cx.lendEq (by assumption) | exact S.cx.lendLe0 | exact S.cx.lendEq0 | exact S.cx.partLe (by assumption) | exact S.cx.partEq (by assumption) | exact .inl rfl | refine ⟨?_, ?_⟩))⟩ rfl (fun ln hln rd hx => ⟨rfl, ?_⟩)
  cbv
  have hM3 := hln cInt64 rd
  generalize ln (A.enc cInt64 rd) = M3 at hM3 ⊢
  rw [← hx] at hp
  refine ALoop.goC (ι := Int) (fun i => [(10, .int .i64 i)]) [] [] (fun i => []) (fun i => 0 ≤ i) (fun i => (l.length - i).toNat) (0) [] S.cx.tab S.cx.mix S.eq ?_ ?_ ?_
  · exact Int.le_refl _
  · (cbv; refine Less.to [] rfl rfl ?_ ?_ <;> repeat' (first | exact trivial | exact ⟨rfl, rfl⟩ | exact ⟨_, rfl, Nat.zero_le _, rfl⟩ | apply And.intro | exact rfl))
  intro i hi0
  replace hi0 : 0 ≤ i := hi0
  refine Rnd.mk ?_; cbv
  refine Len.nat (fun m3 hm3 hml3 => ?_); cbv
  refine Test.lss (fun h3 => ?_) (fun h3 => ?_) <;> cbv
  rotate_left
  · exact Done.to (.bool true) [] rfl rfl trivial ⟨rfl, rfl⟩
  obtain ⟨t, ht⟩ : ∃ t, l[i.toNat]? = some t := ⟨_, List.getElem?_eq_getElem (by lia)⟩
  obtain ⟨y, hy, p1, p2⟩ := hp.2 i t hi0 ht
  obtain ⟨prog0, pc0, state0, why0, what0, timer0, reg0, group0, err0⟩ := t
  obtain ⟨prog1, pc1, state1, why1, what1, timer1, reg1, group1, err1⟩ := y
  dsimp only at p1
  refine ACall.testD (dp := false) (has_c S w i) ⟨rfl, (by repeat' (first | exact trivial | exact rfl | exact Nat.le_refl _ | exact S.cx.giveEq | exact S.cx.lendLe (by assumption) | exact S.cx.lendEq (by assumption) | exact S.cx.lendLe0 | exact S.cx.lendEq0 | exact S.cx.partLe (by assumption) | exact S.cx.partEq (by assumption) | exact .inl rfl | refine ⟨?_, ?_⟩)), (by repeat' (first | exact trivial | exact rfl | exact Nat.le_refl _ | exact S.cx.giveEq | exact S.cx.lendLe (by assumption) | exact S.cx.lendEq (by assumption) | exact S.cx.lendLe0 | exact S.cx.lendEq0 | exact S.cx.partLe (by assumption) | exact S.cx.partEq (by assumption) | exact .inl rfl | refine ⟨?_, ?_⟩))⟩ rfl (fun h4 => ?_) (fun h4 => ?_) <;> cbv
  · have p1 := p1 h4
    refine ElemRef.go rfl (by lia) (by lia) (by rw [S.cx.lenE']; lia) (fun row hrow => ?_); cbv
    refine Row.enc S.cx (by lia) (fun z hz => ?_)
    obtain rfl : z = ⟨prog0, pc0, state0, why0, what0, timer0, reg0, group0, err0⟩ := by rw [show row = i.toNat by omega, ht] at hz; exact (Option.some.inj hz).symm
    cbv
    refine Test.lss (fun h5 => ?_) (fun h5 => ?_) <;> cbv
    rotate_left
    · refine Arith.go (by lia) (fun i' hi' => ?_); cbv
      replace hi' : i' = i + 1 := hi'
      refine Again.on i' (by lia) (by show (0 : Int) ≤ i'; omega) ?_
      (cbv; refine Less.to [] rfl rfl ?_ ?_ <;> repeat' (first | exact trivial | exact ⟨rfl, rfl⟩ | exact ⟨_, rfl, Nat.zero_le _, rfl⟩ | apply And.intro | exact rfl))
    have p1 := p1 h5
    refine ElemRef.go rfl (by lia) (by lia) (by rw [S.cx.lenE']; lia) (fun row2 hrow2 => ?_); cbv
    refine Row.enc S.cx (by lia) (fun z2 hz2 => ?_)
    obtain rfl : z2 = ⟨prog1, pc1, state1, why1, what1, timer1, reg1, group1, err1⟩ := by rw [show row2 = i.toNat by omega, hy] at hz2; exact (Option.some.inj hz2).symm
    cbv
    refine Test.neq (fun h6 => ?_) (fun h6 => ?_) <;> cbv
    · exact absurd p1.1 h6
    refine ElemRef.go rfl (by lia) (by lia) (by rw [S.cx.lenE']; lia) (fun row3 hrow3 => ?_); cbv
    refine Row.enc S.cx (by lia) (fun z3 hz3 => ?_)
    obtain rfl : z3 = ⟨prog1, pc1, state1, why1, what1, timer1, reg1, group1, err1⟩ := by rw [show row3 = i.toNat by omega, hy] at hz3; exact (Option.some.inj hz3).symm
    cbv
    refine Test.neq (fun h7 => ?_) (fun h7 => ?_) <;> cbv
    · exact absurd p1.2.1 h7
    refine ACall.testD (dp := false) (has_c S rd i) ⟨rfl, (by repeat' (first | exact trivial | exact rfl | exact Nat.le_refl _ | exact S.cx.giveEq | exact S.cx.lendLe (by assumption) | exact S.cx.lendEq (by assumption) | exact S.cx.lendLe0 | exact S.cx.lendEq0 | exact S.cx.partLe (by assumption) | exact S.cx.partEq (by assumption) | exact .inl rfl | refine ⟨?_, ?_⟩)), (by repeat' (first | exact trivial | exact rfl | exact Nat.le_refl _ | exact S.cx.giveEq | exact S.cx.lendLe (by assumption) | exact S.cx.lendEq (by assumption) | exact S.cx.lendLe0 | exact S.cx.lendEq0 | exact S.cx.partLe (by assumption) | exact S.cx.partEq (by assumption) | exact .inl rfl | refine ⟨?_, ?_⟩))⟩ rfl (fun h8 => ?_) (fun h8 => ?_) <;> cbv
    rotate_left
    · exact absurd p1.2.2 h8
    refine Arith.go (by lia) (fun i' hi' => ?_); cbv
    replace hi' : i' = i + 1 := hi'
    refine Again.on i' (by lia) (by show (0 : Int) ≤ i'; omega) ?_
    (cbv; refine Less.to [] rfl rfl ?_ ?_ <;> repeat' (first | exact trivial | exact ⟨rfl, rfl⟩ | exact ⟨_, rfl, Nat.zero_le _, rfl⟩ | apply And.intro | exact rfl))
  · have p2 := p2 h4
    try (refine Drawn.mk ⟨by kernel_rfl, fun _ => ?_⟩)
    refine ElemRef.go rfl (by lia) (by lia) (by rw [S.cx.lenE']; lia) (fun row2 hrow2 => ?_); cbv
    refine Row.enc S.cx (by lia) (fun z2 hz2 => ?_)
    obtain rfl : z2 = ⟨prog1, pc1, state1, why1, what1, timer1, reg1, group1, err1⟩ := by rw [show row2 = i.toNat by omega, hy] at hz2; exact (Option.some.inj hz2).symm
    cbv
    refine ElemRef.go rfl (by lia) (by lia) (by rw [S.cx.lenE']; lia) (fun row hrow => ?_); cbv
    refine Row.enc S.cx (by lia) (fun z hz => ?_)
    obtain rfl : z = ⟨prog0, pc0, state0, why0, what0, timer0, reg0, group0, err0⟩ := by rw [show row = i.toNat by omega, ht] at hz; exact (Option.some.inj hz).symm
    cbv
    refine ⟨⟨by rw [S.prog]; kernel_rfl⟩, SEq.mk fun bb hbb => ?_⟩
    obtain rfl : bb = true := hbb.2 (congrArg cTask p2)
    cbv
    refine Arith.go (by lia) (fun i' hi' => ?_); cbv
    replace hi' : i' = i + 1 := hi'
    refine Again.on i' (by lia) (by show (0 : Int) ≤ i'; omega) ?_
    (cbv; refine Less.to [] rfl rfl ?_ ?_ <;> repeat' (first | exact trivial | exact ⟨rfl, rfl⟩ | exact ⟨_, rfl, Nat.zero_le _, rfl⟩ | apply And.intro | exact rfl))

end Go.Proofs.Ytcbebidfnlkkeaa.AM
