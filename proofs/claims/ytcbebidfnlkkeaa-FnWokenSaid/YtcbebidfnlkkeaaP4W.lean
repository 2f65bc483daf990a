/- Contracts: tasks woken, of both. (printed by gp4.py) -/
import Derived.Test.YtcbebidfnlkkeaaP3W
namespace Go.Proofs.Ytcbebidfnlkkeaa.AM
open Go Go.Proofs

set_option maxRecDepth 100000
set_option maxHeartbeats 4000000
set_option linter.unusedVariables false
set_option linter.unusedSimpArgs false

variable {P : Program} {A : Sy}


def oT (A : Sy) (l : List Task) : List (Option Obj) := [some (.arr 9 true (A.enc cTask l))]

theorem wake_d (S : Se P A) (l : List Task) (N : Nat) (hN : N = l.length) (hb : l.length ≤ 4294967296) (why what reg : Int) : SoundM P 105 false [.ref false 1000 0 N, .int .i64 why, .int .i64 what, .int .i64 reg] [.arr 9 true (A.enc cTask l)]
    (fun v os => v = (fun _ => .tup []) (l.map (woke why what reg)) ∧ os = oT A (l.map (woke why what reg))) := wake_c S l N hN hb why what reg

theorem implWoken_c (S : Se P A) (l : List Task) (why what reg : Int) : Is1 P 54 [.ro (A.enc cTask l), .int .i64 why, .int .i64 what, .int .i64 reg] (rT A (Woken l why what reg)) := by
  refine S.cx.by (S.prog ▸ Try.func54) rfl rfl rfl rfl (fun hv ho => ?_)
  cbv
  refine ACall.testD (dp := false) (implTasksOk_c S l) ⟨rfl, (by repeat' (first | exact trivial | exact rfl | exact Nat.le_refl _ | exact S.cx.giveEq | exact S.cx.lendLe (by assumption) | exact S.cx.lendEq (by assumption) | exact S.cx.lendLe0 | exact S.cx.lendEq0 | exact S.cx.partLe (by assumption) | exact S.cx.partEq (by assumption) | exact .inl rfl | refine ⟨?_, ?_⟩)), (by repeat' (first | exact trivial | exact rfl | exact Nat.le_refl _ | exact S.cx.giveEq | exact S.cx.lendLe (by assumption) | exact S.cx.lendEq (by assumption) | exact S.cx.lendLe0 | exact S.cx.lendEq0 | exact S.cx.partLe (by assumption) | exact S.cx.partEq (by assumption) | exact .inl rfl | refine ⟨?_, ?_⟩))⟩ rfl (fun h => ?_) (fun h => ?_) <;> cbv
  rotate_left
  · exact Done.is (r := rT A) (x := []) (by repeat' (first | exact trivial | exact rfl | exact resOwn S.cx rfl (by assumption) | exact resOwn S.cx rfl (S.cx.lenE _ _) | exact resOwn1 S.cx rfl (by assumption) | exact resOwnT S.cx rfl (by assumption) | exact S.cx.enc _ [] | refine ⟨?_, ?_⟩)) rfl (if_neg h)
  have hb : l.length ≤ 4294967296 := Nat.le_trans h.1 (by decide)
  refine ACall.valN (r := rT A) (os := fun _ => []) (dp := false) S.cx (cloneTask_c S l hb) ⟨rfl, (by repeat' (first | exact trivial | exact rfl | exact Nat.le_refl _ | exact S.cx.giveEq | exact S.cx.lendLe (by assumption) | exact S.cx.lendEq (by assumption) | exact S.cx.lendLe0 | exact S.cx.lendEq0 | exact S.cx.partLe (by assumption) | exact S.cx.partEq (by assumption) | exact .inl rfl | refine ⟨?_, ?_⟩)), (by repeat' (first | exact trivial | exact rfl | exact Nat.le_refl _ | exact S.cx.giveEq | exact S.cx.lendLe (by assumption) | exact S.cx.lendEq (by assumption) | exact S.cx.lendLe0 | exact S.cx.lendEq0 | exact S.cx.partLe (by assumption) | exact S.cx.partEq (by assumption) | exact .inl rfl | refine ⟨?_, ?_⟩))⟩ rfl (fun ln hln m hx => ⟨rfl, ?_⟩)
  cases hx
  cbv
  have hN := hln cTask l
  generalize ln (A.enc cTask l) = N at hN ⊢
  refine ACall.val (r := fun _ => .tup []) (os := oT A) (e := l.map (woke why what reg)) (dp := false) (wake_c S l N hN hb why what reg) ⟨rfl, (by repeat' (first | exact trivial | exact rfl | exact Nat.le_refl _ | exact S.cx.giveEq | exact S.cx.lendLe (by assumption) | exact S.cx.lendEq (by assumption) | exact S.cx.lendLe0 | exact S.cx.lendEq0 | exact S.cx.partLe (by assumption) | exact S.cx.partEq (by assumption) | exact .inl rfl | refine ⟨?_, ?_⟩)), (by repeat' (first | exact trivial | exact rfl | exact Nat.le_refl _ | exact S.cx.giveEq | exact S.cx.lendLe (by assumption) | exact S.cx.lendEq (by assumption) | exact S.cx.lendLe0 | exact S.cx.lendEq0 | exact S.cx.partLe (by assumption) | exact S.cx.partEq (by assumption) | exact .inl rfl | refine ⟨?_, ?_⟩))⟩ rfl (fun m hm => ⟨rfl, ?_⟩); cbv
  have hNm : N = m.length := by rw [hm, hN]; simp
  exact Done.is (r := rT A) (x := m) (by repeat' (first | exact trivial | exact rfl | exact resOwn S.cx rfl (by assumption) | exact resOwn S.cx rfl (S.cx.lenE _ _) | exact resOwn1 S.cx rfl (by assumption) | exact resOwnT S.cx rfl (by assumption) | exact S.cx.enc _ [] | refine ⟨?_, ?_⟩)) rfl (by rw [Woken, if_pos h, hm])

theorem specWoken_c (S : Se P A) (l : List Task) (why what reg : Int) : Is1 P 53 [.ro (A.enc cTask l), .int .i64 why, .int .i64 what, .int .i64 reg] (rT A (Woken l why what reg)) := by
  refine S.cx.by (S.prog ▸ Try.func53) rfl rfl rfl rfl (fun hv ho => ?_)
  cbv
  refine ACall.testD (dp := false) (specTasksOk_c S l) ⟨rfl, (by repeat' (first | exact trivial | exact rfl | exact Nat.le_refl _ | exact S.cx.giveEq | exact S.cx.lendLe (by assumption) | exact S.cx.lendEq (by assumption) | exact S.cx.lendLe0 | exact S.cx.lendEq0 | exact S.cx.partLe (by assumption) | exact S.cx.partEq (by assumption) | exact .inl rfl | refine ⟨?_, ?_⟩)), (by repeat' (first | exact trivial | exact rfl | exact Nat.le_refl _ | exact S.cx.giveEq | exact S.cx.lendLe (by assumption) | exact S.cx.lendEq (by assumption) | exact S.cx.lendLe0 | exact S.cx.lendEq0 | exact S.cx.partLe (by assumption) | exact S.cx.partEq (by assumption) | exact .inl rfl | refine ⟨?_, ?_⟩))⟩ rfl (fun h => ?_) (fun h => ?_) <;> cbv
  rotate_left
  · exact Done.is (r := rT A) (x := []) (by repeat' (first | exact trivial | exact rfl | exact resOwn S.cx rfl (by assumption) | exact resOwn S.cx rfl (S.cx.lenE _ _) | exact resOwn1 S.cx rfl (by assumption) | exact resOwnT S.cx rfl (by assumption) | exact S.cx.enc _ [] | refine ⟨?_, ?_⟩)) rfl (if_neg h)
  have hb : l.length ≤ 4294967296 := Nat.le_trans h.1 (by decide)
  refine AppNew.enc S.cx plainTask (.inr (.inr trivial)) (fun _ => rfl) (by simp only [maxBytes]; omega) (fun N hN => ?_); cbv
  refine ACall.valN (r := rI A) (os := fun _ => []) (dp := false) S.cx (specParkedOn_c S l why what) ⟨rfl, (by repeat' (first | exact trivial | exact rfl | exact Nat.le_refl _ | exact S.cx.giveEq | exact S.cx.lendLe (by assumption) | exact S.cx.lendEq (by assumption) | exact S.cx.lendLe0 | exact S.cx.lendEq0 | exact S.cx.partLe (by assumption) | exact S.cx.partEq (by assumption) | exact .inl rfl | refine ⟨?_, ?_⟩)), (by repeat' (first | exact trivial | exact rfl | exact Nat.le_refl _ | exact S.cx.giveEq | exact S.cx.lendLe (by assumption) | exact S.cx.lendEq (by assumption) | exact S.cx.lendLe0 | exact S.cx.lendEq0 | exact S.cx.partLe (by assumption) | exact S.cx.partEq (by assumption) | exact .inl rfl | refine ⟨?_, ?_⟩))⟩ rfl (fun ln hln w hx => ⟨rfl, ?_⟩)
  cbv
  have hW := hln cInt64 w
  generalize ln (A.enc cInt64 w) = W at hW ⊢
  rw [ParkedOn, if_pos h] at hx
  have hwm : ∀ i ∈ w, 0 ≤ i ∧ ∃ t, l[i.toNat]? = some t := fun i hi => by
    rw [hx] at hi
    obtain ⟨h0, t, ht, _⟩ := idxs_mem.1 hi
    exact ⟨h0, t, ht⟩
  refine ALoop.goD (ι := Int × List Task) (fun i => [(11, .int .i64 i.1)]) [4020000] (fun i => [(4020000, .arr 9 true (A.enc cTask i.2))]) (fun i => 0 ≤ i.1 ∧ i.2 = wokeBy l (w.take i.1.toNat) reg) (fun i => (w.length - i.1).toNat) (0, l) S.cx.tab S.cx.mix S.eq ?_ ?_ ?_
  · exact ⟨Int.le_refl _, rfl⟩
  · (cbv; refine Less.to [] rfl rfl ?_ ?_ <;> repeat' (first | exact trivial | exact ⟨rfl, rfl⟩ | exact ⟨_, rfl, Nat.zero_le _, rfl⟩ | apply And.intro | exact rfl))
  rintro ⟨k, m⟩ ⟨h0, hmm⟩
  dsimp only at h0 hmm
  have hml : m.length = l.length := by rw [hmm, wokeBy_len]
  cbv
  refine Len.nat (fun M hM hm => ?_); cbv
  refine Test.lss (fun h2 => ?_) (fun h2 => ?_) <;> cbv
  · try (refine Drawn.mk ⟨by kernel_rfl, fun _ => ?_⟩)
    refine ElemRef.go rfl h0 (by lia) (by rw [S.cx.lenE']; lia) (fun row hrow => ?_); cbv
    refine Row.enc S.cx (by lia) (fun i hi => ?_); cbv
    have hik : w[k.toNat]? = some i := by rw [← hi, hrow]; congr 1; omega
    obtain ⟨hi0, t, ht⟩ := hwm i (mem_at hik)
    have hit := lt_of_get ht
    refine ElemRef.go rfl h0 (by lia) (by rw [S.cx.lenE']; lia) (fun row2 hrow2 => ?_); cbv
    refine Row.enc S.cx (by lia) (fun i' hi' => ?_)
    obtain rfl : i = i' := by rw [show row2 = row by omega, hi] at hi'; exact Option.some.inj hi'
    cbv
    refine ElemRo.at S.cx (x := t) rfl hi0 ht ?_; cbv
    refine ACall.agg (g := cTask) (dp := false) (specReadied_c S t.prog t.pc t.state t.why t.what t.timer t.reg t.group t.err reg) ⟨rfl, (by repeat' (first | exact trivial | exact rfl | exact Nat.le_refl _ | exact S.cx.giveEq | exact S.cx.lendLe (by assumption) | exact S.cx.lendEq (by assumption) | exact S.cx.lendLe0 | exact S.cx.lendEq0 | exact S.cx.partLe (by assumption) | exact S.cx.partEq (by assumption) | exact .inl rfl | refine ⟨?_, ?_⟩)), trivial⟩ rfl (fun y hy => ⟨rfl, ?_⟩)
    obtain ⟨prog1, pc1, state1, why1, what1, timer1, reg1, group1, err1⟩ := y
    cbv
    refine ElemRef.go rfl hi0 (by lia) (by rw [S.cx.lenE']; lia) (fun row3 hrow3 => ?_); cbv
    obtain ⟨t0, ht0⟩ : ∃ t0, m[row3]? = some t0 := get_of_lt (by lia)
    refine RowSet.enc S.cx t0 ⟨prog1, pc1, state1, why1, what1, timer1, reg1, group1, err1⟩ ht0 rfl (Nat.le_refl _) rfl (fun m' hm' => ?_); cbv
    refine Arith.go (by lia) (fun k' hk' => ?_); cbv
    refine Again.on (k', m') (by dsimp only; lia) ⟨by dsimp only; lia, ?_⟩ ?_
    · dsimp only
      rw [wokeBy_next h0 hik ht hk', ← hmm, hm', hy, show row3 = i.toNat by omega]
    · (cbv; refine Less.to [] rfl rfl ?_ ?_ <;> repeat' (first | exact trivial | exact ⟨rfl, rfl⟩ | exact ⟨_, rfl, Nat.zero_le _, rfl⟩ | apply And.intro | exact rfl))
  · have hall : m = l.map (woke why what reg) := by rw [hmm, take_all (by lia), hx, wokeBy_all]
    have hNm : N = m.length := by rw [hml, hN]
    exact Done.is (r := rT A) (x := m) (by repeat' (first | exact trivial | exact rfl | exact resOwn S.cx rfl (by assumption) | exact resOwn S.cx rfl (S.cx.lenE _ _) | exact resOwn1 S.cx rfl (by assumption) | exact resOwnT S.cx rfl (by assumption) | exact S.cx.enc _ [] | refine ⟨?_, ?_⟩)) rfl (by rw [Woken, if_pos h, hall])

end Go.Proofs.Ytcbebidfnlkkeaa.AM
