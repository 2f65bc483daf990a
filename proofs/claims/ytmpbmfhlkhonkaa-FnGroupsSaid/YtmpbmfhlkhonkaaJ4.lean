/- Contracts: groups lined, left, passed on. (printed by gj4.py) -/
import Derived.Test.YtmpbmfhlkhonkaaJ3
import Derived.Test.YtmpbmfhlkhonkaaBC
namespace Go.Proofs.Ytmpbmfhlkhonkaa.AM
open Go Go.Proofs

set_option maxRecDepth 100000
set_option maxHeartbeats 4000000
set_option linter.unusedVariables false
set_option linter.unusedSimpArgs false

variable {P : Program} {A : Sy}

theorem fails_c (S : Se P A) (node limit active : Int) (waits : List Int) (first : Int) (err : Int) : SoundM P 76 false [.ptr 1000 0 0, .int .i64 err] [.box (ownGroup A ⟨node, limit, active, waits, first⟩)]
    (fun v os => v = .bool (decide (first = 0 ∧ err ≠ 0)) ∧ os = [some (.box (ownGroup A ⟨node, limit, active, waits, errFirst first err⟩))]) := by
  refine S.cx.by (S.prog ▸ Try.func76) rfl rfl rfl rfl (fun hv ho => ?_)
  cbv
  refine Test.eql (fun h => ?_) (fun h => ?_) <;> cbv
  · refine Done.to (.bool (decide (first = 0 ∧ err ≠ 0))) [some (.box (ownGroup A ⟨node, limit, active, waits, errFirst first err⟩))] rfl (by rw [decide_eq_false (fun e => e.2 h)]; rfl) ?_ ⟨rfl, rfl⟩
    rw [errFirst, if_neg (fun e => e.2 h)]
    repeat' (first | exact trivial | exact rfl | exact resOwn S.cx rfl (by assumption) | exact resOwn S.cx rfl (S.cx.lenE _ _) | exact resOwn1 S.cx rfl (by assumption) | exact resOwnT S.cx rfl (by assumption) | exact S.cx.enc _ [] | refine ⟨?_, ?_⟩)
  refine Test.neq (fun h2 => ?_) (fun h2 => ?_) <;> cbv
  · refine Done.to (.bool (decide (first = 0 ∧ err ≠ 0))) [some (.box (ownGroup A ⟨node, limit, active, waits, errFirst first err⟩))] rfl (by rw [decide_eq_false (fun e => h2 e.1)]; rfl) ?_ ⟨rfl, rfl⟩
    rw [errFirst, if_neg (fun e => h2 e.1)]
    repeat' (first | exact trivial | exact rfl | exact resOwn S.cx rfl (by assumption) | exact resOwn S.cx rfl (S.cx.lenE _ _) | exact resOwn1 S.cx rfl (by assumption) | exact resOwnT S.cx rfl (by assumption) | exact S.cx.enc _ [] | refine ⟨?_, ?_⟩)
  refine Done.to (.bool (decide (first = 0 ∧ err ≠ 0))) [some (.box (ownGroup A ⟨node, limit, active, waits, errFirst first err⟩))] rfl (by rw [decide_eq_true ⟨h2, h⟩]; rfl) ?_ ⟨rfl, rfl⟩
  rw [errFirst, if_pos ⟨h2, h⟩]
  repeat' (first | exact trivial | exact rfl | exact resOwn S.cx rfl (by assumption) | exact resOwn S.cx rfl (S.cx.lenE _ _) | exact resOwn1 S.cx rfl (by assumption) | exact resOwnT S.cx rfl (by assumption) | exact S.cx.enc _ [] | refine ⟨?_, ?_⟩)

theorem l12First_c (S : Se P A) (node limit active : Int) (waits : List Int) (first : Int) (err : Int) (n : Nat) (hn : n = waits.length) : SoundM P 82 false [.agg [.int .i64 node, .int .i64 limit, .int .i64 active, .ref false 1000 0 n, .int .i64 first], .int .i64 err] [.arr 1 true (A.enc cInt64 waits)]
    (fun v os => v = .tup [.agg (ownGroup A ⟨node, limit, active, waits, errFirst first err⟩), .bool (decide (first = 0 ∧ err ≠ 0))] ∧ os = [none]) := by
  refine S.cx.by (S.prog ▸ Try.func82) rfl rfl rfl rfl (fun hv ho => ?_)
  cbv
  refine Test.eql (fun h => ?_) (fun h => ?_) <;> cbv
  rotate_left
  · rw [errFirst, if_neg (fun e => h e.1), decide_eq_false (fun e => h e.1)]
    exact Done.to _ [none] rfl (by repeat' (first | exact trivial | exact rfl | exact resOwn S.cx rfl (by assumption) | exact resOwn S.cx rfl (S.cx.lenE _ _) | exact resOwn1 S.cx rfl (by assumption) | exact resOwnT S.cx rfl (by assumption) | exact S.cx.enc _ [] | refine ⟨?_, ?_⟩)) trivial ⟨rfl, rfl⟩
  refine Test.neq (fun h2 => ?_) (fun h2 => ?_) <;> cbv
  · rw [errFirst, if_pos ⟨h, h2⟩, decide_eq_true ⟨h, h2⟩]
    exact Done.to _ [none] rfl (by repeat' (first | exact trivial | exact rfl | exact resOwn S.cx rfl (by assumption) | exact resOwn S.cx rfl (S.cx.lenE _ _) | exact resOwn1 S.cx rfl (by assumption) | exact resOwnT S.cx rfl (by assumption) | exact S.cx.enc _ [] | refine ⟨?_, ?_⟩)) trivial ⟨rfl, rfl⟩
  · rw [errFirst, if_neg (fun e => e.2 h2), decide_eq_false (fun e => e.2 h2)]
    exact Done.to _ [none] rfl (by repeat' (first | exact trivial | exact rfl | exact resOwn S.cx rfl (by assumption) | exact resOwn S.cx rfl (S.cx.lenE _ _) | exact resOwn1 S.cx rfl (by assumption) | exact resOwnT S.cx rfl (by assumption) | exact S.cx.enc _ [] | refine ⟨?_, ?_⟩)) trivial ⟨rfl, rfl⟩

theorem implLined_c (S : Se P A) (node limit active : Int) (waits : List Int) (first : Int) (task : Int) (hb : waits.length ≤ 4294967200) : Is1 P 40 [.agg (roGroup A ⟨node, limit, active, waits, first⟩), .int .i64 task] (rGB A (Lined ⟨node, limit, active, waits, first⟩ task)) := by
  have hb2 : waits.length ≤ 4294967296 := by omega
  refine S.cx.by (S.prog ▸ Try.func40) rfl rfl rfl rfl (fun hv ho => ?_)
  cbv
  refine ACall.testD (dp := false) (implGroupOk_c S _ _ _ _ _) ⟨rfl, (by repeat' (first | exact trivial | exact rfl | exact Nat.le_refl _ | exact S.cx.giveEq | exact S.cx.lendLe (by assumption) | exact S.cx.lendEq (by assumption) | exact S.cx.lendLe0 | exact S.cx.lendEq0 | exact S.cx.partLe (by assumption) | exact S.cx.partEq (by assumption) | exact .inl rfl | refine ⟨?_, ?_⟩)), (by repeat' (first | exact trivial | exact rfl | exact Nat.le_refl _ | exact S.cx.giveEq | exact S.cx.lendLe (by assumption) | exact S.cx.lendEq (by assumption) | exact S.cx.lendLe0 | exact S.cx.lendEq0 | exact S.cx.partLe (by assumption) | exact S.cx.partEq (by assumption) | exact .inl rfl | refine ⟨?_, ?_⟩))⟩ rfl (fun h => ?_) (fun h => ?_) <;> cbv
  rotate_left
  · exact Done.is (r := rGB A) (x := (group0, false)) (by repeat' (first | exact trivial | exact rfl | exact resOwn S.cx rfl (by assumption) | exact resOwn S.cx rfl (S.cx.lenE _ _) | exact resOwn1 S.cx rfl (by assumption) | exact resOwnT S.cx rfl (by assumption) | exact S.cx.enc _ [] | refine ⟨?_, ?_⟩)) rfl (if_neg h)
  refine ACall.val (r := rG A) (os := fun _ => []) (dp := false) (cloned_c S _ _ _ _ _ hb2) ⟨rfl, (by repeat' (first | exact trivial | exact rfl | exact Nat.le_refl _ | exact S.cx.giveEq | exact S.cx.lendLe (by assumption) | exact S.cx.lendEq (by assumption) | exact S.cx.lendLe0 | exact S.cx.lendEq0 | exact S.cx.partLe (by assumption) | exact S.cx.partEq (by assumption) | exact .inl rfl | refine ⟨?_, ?_⟩)), (by repeat' (first | exact trivial | exact rfl | exact Nat.le_refl _ | exact S.cx.giveEq | exact S.cx.lendLe (by assumption) | exact S.cx.lendEq (by assumption) | exact S.cx.lendLe0 | exact S.cx.lendEq0 | exact S.cx.partLe (by assumption) | exact S.cx.partEq (by assumption) | exact .inl rfl | refine ⟨?_, ?_⟩))⟩ rfl (fun x hx => ⟨rfl, ?_⟩)
  obtain ⟨node', limit', active', waits', first'⟩ := x
  cases hx
  cbv
  refine Part.one ?_; cbv
  refine AppRef.push S.cx task (S.cx.lenE _ _) rfl rfl plainInt64 (fun _ => rfl) (by simp only [maxBytes]; omega) (fun m w hw hml => ?_); cbv
  refine ACall.testD (dp := false) (hasRoom_c S _ _ _ _ _) ⟨rfl, (by repeat' (first | exact trivial | exact rfl | exact Nat.le_refl _ | exact S.cx.giveEq | exact S.cx.lendLe (by assumption) | exact S.cx.lendEq (by assumption) | exact S.cx.lendLe0 | exact S.cx.lendEq0 | exact S.cx.partLe (by assumption) | exact S.cx.partEq (by assumption) | exact .inl rfl | refine ⟨?_, ?_⟩)), (by repeat' (first | exact trivial | exact rfl | exact Nat.le_refl _ | exact S.cx.giveEq | exact S.cx.lendLe (by assumption) | exact S.cx.lendEq (by assumption) | exact S.cx.lendLe0 | exact S.cx.lendEq0 | exact S.cx.partLe (by assumption) | exact S.cx.partEq (by assumption) | exact .inl rfl | refine ⟨?_, ?_⟩))⟩ rfl (fun h2 => ?_) (fun h2 => ?_) <;> cbv
  · have hr : Room ⟨node, limit, active, waits, first⟩ := h2
    refine ACall.val (r := rG A) (os := fun _ => []) (dp := false) (cloned_c S _ _ _ _ _ hb2) ⟨rfl, (by repeat' (first | exact trivial | exact rfl | exact Nat.le_refl _ | exact S.cx.giveEq | exact S.cx.lendLe (by assumption) | exact S.cx.lendEq (by assumption) | exact S.cx.lendLe0 | exact S.cx.lendEq0 | exact S.cx.partLe (by assumption) | exact S.cx.partEq (by assumption) | exact .inl rfl | refine ⟨?_, ?_⟩)), (by repeat' (first | exact trivial | exact rfl | exact Nat.le_refl _ | exact S.cx.giveEq | exact S.cx.lendLe (by assumption) | exact S.cx.lendEq (by assumption) | exact S.cx.lendLe0 | exact S.cx.lendEq0 | exact S.cx.partLe (by assumption) | exact S.cx.partEq (by assumption) | exact .inl rfl | refine ⟨?_, ?_⟩))⟩ rfl (fun x hx => ⟨rfl, ?_⟩)
    obtain ⟨node', limit', active', waits', first'⟩ := x
    cases hx
    cbv
    exact Done.is (r := rGB A) (x := (⟨node, limit, active, waits, first⟩, false)) (by repeat' (first | exact trivial | exact rfl | exact resOwn S.cx rfl (by assumption) | exact resOwn S.cx rfl (S.cx.lenE _ _) | exact resOwn1 S.cx rfl (by assumption) | exact resOwnT S.cx rfl (by assumption) | exact S.cx.enc _ [] | refine ⟨?_, ?_⟩)) rfl ((if_pos h).trans (if_neg (fun e => e.1 hr)))
  have hr : ¬ Room ⟨node, limit, active, waits, first⟩ := h2
  refine ACall.testD (dp := false) (implGroupOk_c S _ _ _ _ _) ⟨rfl, (by repeat' (first | exact trivial | exact rfl | exact Nat.le_refl _ | exact S.cx.giveEq | exact S.cx.lendLe (by assumption) | exact S.cx.lendEq (by assumption) | exact S.cx.lendLe0 | exact S.cx.lendEq0 | exact S.cx.partLe (by assumption) | exact S.cx.partEq (by assumption) | exact .inl rfl | refine ⟨?_, ?_⟩)), (by repeat' (first | exact trivial | exact rfl | exact Nat.le_refl _ | exact S.cx.giveEq | exact S.cx.lendLe (by assumption) | exact S.cx.lendEq (by assumption) | exact S.cx.lendLe0 | exact S.cx.lendEq0 | exact S.cx.partLe (by assumption) | exact S.cx.partEq (by assumption) | exact .inl rfl | refine ⟨?_, ?_⟩))⟩ rfl (fun h3 => ?_) (fun h3 => ?_) <;> cbv
  · exact Done.is (r := rGB A) (x := (⟨node, limit, active, w, first⟩, true)) (by repeat' (first | exact trivial | exact rfl | exact resOwn S.cx rfl (by assumption) | exact resOwn S.cx rfl (S.cx.lenE _ _) | exact resOwn1 S.cx rfl (by assumption) | exact resOwnT S.cx rfl (by assumption) | exact S.cx.enc _ [] | refine ⟨?_, ?_⟩)) rfl ((if_pos h).trans ((if_pos ⟨hr, (by rw [← hw]; exact h3)⟩).trans (by rw [← hw])))
  · refine ACall.val (r := rG A) (os := fun _ => []) (dp := false) (cloned_c S _ _ _ _ _ hb2) ⟨rfl, (by repeat' (first | exact trivial | exact rfl | exact Nat.le_refl _ | exact S.cx.giveEq | exact S.cx.lendLe (by assumption) | exact S.cx.lendEq (by assumption) | exact S.cx.lendLe0 | exact S.cx.lendEq0 | exact S.cx.partLe (by assumption) | exact S.cx.partEq (by assumption) | exact .inl rfl | refine ⟨?_, ?_⟩)), (by repeat' (first | exact trivial | exact rfl | exact Nat.le_refl _ | exact S.cx.giveEq | exact S.cx.lendLe (by assumption) | exact S.cx.lendEq (by assumption) | exact S.cx.lendLe0 | exact S.cx.lendEq0 | exact S.cx.partLe (by assumption) | exact S.cx.partEq (by assumption) | exact .inl rfl | refine ⟨?_, ?_⟩))⟩ rfl (fun x hx => ⟨rfl, ?_⟩)
    obtain ⟨node', limit', active', waits', first'⟩ := x
    cases hx
    cbv
    exact Done.is (r := rGB A) (x := (⟨node, limit, active, waits, first⟩, false)) (by repeat' (first | exact trivial | exact rfl | exact resOwn S.cx rfl (by assumption) | exact resOwn S.cx rfl (S.cx.lenE _ _) | exact resOwn1 S.cx rfl (by assumption) | exact resOwnT S.cx rfl (by assumption) | exact S.cx.enc _ [] | refine ⟨?_, ?_⟩)) rfl ((if_pos h).trans (if_neg (fun e => h3 (by rw [hw]; exact e.2))))

theorem specLined_c (S : Se P A) (node limit active : Int) (waits : List Int) (first : Int) (task : Int) (hb : waits.length ≤ 4294967200) : Is1 P 52 [.agg (roGroup A ⟨node, limit, active, waits, first⟩), .int .i64 task] (rGB A (Lined ⟨node, limit, active, waits, first⟩ task)) := by
  have hb2 : waits.length ≤ 4294967296 := by omega
  refine S.cx.by (S.prog ▸ Try.func52) rfl rfl rfl rfl (fun hv ho => ?_)
  cbv
  refine ACall.testD (dp := false) (specGroupOk_c S _ _ _ _ _) ⟨rfl, (by repeat' (first | exact trivial | exact rfl | exact Nat.le_refl _ | exact S.cx.giveEq | exact S.cx.lendLe (by assumption) | exact S.cx.lendEq (by assumption) | exact S.cx.lendLe0 | exact S.cx.lendEq0 | exact S.cx.partLe (by assumption) | exact S.cx.partEq (by assumption) | exact .inl rfl | refine ⟨?_, ?_⟩)), (by repeat' (first | exact trivial | exact rfl | exact Nat.le_refl _ | exact S.cx.giveEq | exact S.cx.lendLe (by assumption) | exact S.cx.lendEq (by assumption) | exact S.cx.lendLe0 | exact S.cx.lendEq0 | exact S.cx.partLe (by assumption) | exact S.cx.partEq (by assumption) | exact .inl rfl | refine ⟨?_, ?_⟩))⟩ rfl (fun h => ?_) (fun h => ?_) <;> cbv
  rotate_left
  · exact Done.is (r := rGB A) (x := (group0, false)) (by repeat' (first | exact trivial | exact rfl | exact resOwn S.cx rfl (by assumption) | exact resOwn S.cx rfl (S.cx.lenE _ _) | exact resOwn1 S.cx rfl (by assumption) | exact resOwnT S.cx rfl (by assumption) | exact S.cx.enc _ [] | refine ⟨?_, ?_⟩)) rfl (if_neg h)
  refine ACall.val (r := rG A) (os := fun _ => []) (dp := false) (l12Copy_c S _ _ _ _ _ hb2) ⟨rfl, (by repeat' (first | exact trivial | exact rfl | exact Nat.le_refl _ | exact S.cx.giveEq | exact S.cx.lendLe (by assumption) | exact S.cx.lendEq (by assumption) | exact S.cx.lendLe0 | exact S.cx.lendEq0 | exact S.cx.partLe (by assumption) | exact S.cx.partEq (by assumption) | exact .inl rfl | refine ⟨?_, ?_⟩)), (by repeat' (first | exact trivial | exact rfl | exact Nat.le_refl _ | exact S.cx.giveEq | exact S.cx.lendLe (by assumption) | exact S.cx.lendEq (by assumption) | exact S.cx.lendLe0 | exact S.cx.lendEq0 | exact S.cx.partLe (by assumption) | exact S.cx.partEq (by assumption) | exact .inl rfl | refine ⟨?_, ?_⟩))⟩ rfl (fun x hx => ⟨rfl, ?_⟩)
  obtain ⟨node', limit', active', waits', first'⟩ := x
  cases hx
  cbv
  refine Part.one ?_; cbv
  refine AppRef.push S.cx task (S.cx.lenE _ _) rfl rfl plainInt64 (fun _ => rfl) (by simp only [maxBytes]; omega) (fun m w hw hml => ?_); cbv
  refine ACall.testD (dp := false) (specRoomIn_c S _ _ _ _ _) ⟨rfl, (by repeat' (first | exact trivial | exact rfl | exact Nat.le_refl _ | exact S.cx.giveEq | exact S.cx.lendLe (by assumption) | exact S.cx.lendEq (by assumption) | exact S.cx.lendLe0 | exact S.cx.lendEq0 | exact S.cx.partLe (by assumption) | exact S.cx.partEq (by assumption) | exact .inl rfl | refine ⟨?_, ?_⟩)), (by repeat' (first | exact trivial | exact rfl | exact Nat.le_refl _ | exact S.cx.giveEq | exact S.cx.lendLe (by assumption) | exact S.cx.lendEq (by assumption) | exact S.cx.lendLe0 | exact S.cx.lendEq0 | exact S.cx.partLe (by assumption) | exact S.cx.partEq (by assumption) | exact .inl rfl | refine ⟨?_, ?_⟩))⟩ rfl (fun h2 => ?_) (fun h2 => ?_) <;> cbv
  · have hr : Room ⟨node, limit, active, waits, first⟩ := h2.2
    refine ACall.val (r := rG A) (os := fun _ => []) (dp := false) (l12Copy_c S _ _ _ _ _ hb2) ⟨rfl, (by repeat' (first | exact trivial | exact rfl | exact Nat.le_refl _ | exact S.cx.giveEq | exact S.cx.lendLe (by assumption) | exact S.cx.lendEq (by assumption) | exact S.cx.lendLe0 | exact S.cx.lendEq0 | exact S.cx.partLe (by assumption) | exact S.cx.partEq (by assumption) | exact .inl rfl | refine ⟨?_, ?_⟩)), (by repeat' (first | exact trivial | exact rfl | exact Nat.le_refl _ | exact S.cx.giveEq | exact S.cx.lendLe (by assumption) | exact S.cx.lendEq (by assumption) | exact S.cx.lendLe0 | exact S.cx.lendEq0 | exact S.cx.partLe (by assumption) | exact S.cx.partEq (by assumption) | exact .inl rfl | refine ⟨?_, ?_⟩))⟩ rfl (fun x hx => ⟨rfl, ?_⟩)
    obtain ⟨node', limit', active', waits', first'⟩ := x
    cases hx
    cbv
    exact Done.is (r := rGB A) (x := (⟨node, limit, active, waits, first⟩, false)) (by repeat' (first | exact trivial | exact rfl | exact resOwn S.cx rfl (by assumption) | exact resOwn S.cx rfl (S.cx.lenE _ _) | exact resOwn1 S.cx rfl (by assumption) | exact resOwnT S.cx rfl (by assumption) | exact S.cx.enc _ [] | refine ⟨?_, ?_⟩)) rfl ((if_pos h).trans (if_neg (fun e => e.1 hr)))
  have hr : ¬ Room ⟨node, limit, active, waits, first⟩ := fun e => h2 ⟨h, e⟩
  refine ACall.testD (dp := false) (specGroupOk_c S _ _ _ _ _) ⟨rfl, (by repeat' (first | exact trivial | exact rfl | exact Nat.le_refl _ | exact S.cx.giveEq | exact S.cx.lendLe (by assumption) | exact S.cx.lendEq (by assumption) | exact S.cx.lendLe0 | exact S.cx.lendEq0 | exact S.cx.partLe (by assumption) | exact S.cx.partEq (by assumption) | exact .inl rfl | refine ⟨?_, ?_⟩)), (by repeat' (first | exact trivial | exact rfl | exact Nat.le_refl _ | exact S.cx.giveEq | exact S.cx.lendLe (by assumption) | exact S.cx.lendEq (by assumption) | exact S.cx.lendLe0 | exact S.cx.lendEq0 | exact S.cx.partLe (by assumption) | exact S.cx.partEq (by assumption) | exact .inl rfl | refine ⟨?_, ?_⟩))⟩ rfl (fun h3 => ?_) (fun h3 => ?_) <;> cbv
  · exact Done.is (r := rGB A) (x := (⟨node, limit, active, w, first⟩, true)) (by repeat' (first | exact trivial | exact rfl | exact resOwn S.cx rfl (by assumption) | exact resOwn S.cx rfl (S.cx.lenE _ _) | exact resOwn1 S.cx rfl (by assumption) | exact resOwnT S.cx rfl (by assumption) | exact S.cx.enc _ [] | refine ⟨?_, ?_⟩)) rfl ((if_pos h).trans ((if_pos ⟨hr, (by rw [← hw]; exact h3)⟩).trans (by rw [← hw])))
  · refine ACall.val (r := rG A) (os := fun _ => []) (dp := false) (l12Copy_c S _ _ _ _ _ hb2) ⟨rfl, (by repeat' (first | exact trivial | exact rfl | exact Nat.le_refl _ | exact S.cx.giveEq | exact S.cx.lendLe (by assumption) | exact S.cx.lendEq (by assumption) | exact S.cx.lendLe0 | exact S.cx.lendEq0 | exact S.cx.partLe (by assumption) | exact S.cx.partEq (by assumption) | exact .inl rfl | refine ⟨?_, ?_⟩)), (by repeat' (first | exact trivial | exact rfl | exact Nat.le_refl _ | exact S.cx.giveEq | exact S.cx.lendLe (by assumption) | exact S.cx.lendEq (by assumption) | exact S.cx.lendLe0 | exact S.cx.lendEq0 | exact S.cx.partLe (by assumption) | exact S.cx.partEq (by assumption) | exact .inl rfl | refine ⟨?_, ?_⟩))⟩ rfl (fun x hx => ⟨rfl, ?_⟩)
    obtain ⟨node', limit', active', waits', first'⟩ := x
    cases hx
    cbv
    exact Done.is (r := rGB A) (x := (⟨node, limit, active, waits, first⟩, false)) (by repeat' (first | exact trivial | exact rfl | exact resOwn S.cx rfl (by assumption) | exact resOwn S.cx rfl (S.cx.lenE _ _) | exact resOwn1 S.cx rfl (by assumption) | exact resOwnT S.cx rfl (by assumption) | exact S.cx.enc _ [] | refine ⟨?_, ?_⟩)) rfl ((if_pos h).trans (if_neg (fun e => h3 (by rw [hw]; exact e.2))))

end Go.Proofs.Ytmpbmfhlkhonkaa.AM
