/- Contracts: tasks parked, readied, ended; their laws. -/
import Derived.Test.YtcbebidfnlkkeaaH1
import Derived.Test.YtcbebidfnlkkeaaG2
namespace Go.Proofs.Ytcbebidfnlkkeaa.AM
open Go Go.Proofs

set_option maxRecDepth 100000
set_option maxHeartbeats 4000000
set_option linter.unusedVariables false
set_option linter.unusedSimpArgs false

variable {P : Program} {A : Sy}

theorem Done.agg {al : Bool} {st : St} {v : AV} {α : Type} {g : α → List AV} {e x : α} (h1 : resOk al st v (.agg (g x))) (h2 : (Fits st v [] && (AV.agg (g x)).small && boxesKept [] []) = true) (h : e = x) : Done al st v [] (fun v o => v = .agg (g e) ∧ o = []) := by
  subst h
  exact Done.to _ [] h2 h1 trivial ⟨rfl, rfl⟩

theorem l10Either_c (S : Se P A) (prog pc state why what timer reg group err : Int) (prog1 pc1 state1 why1 what1 timer1 reg1 group1 err1 : Int) : Is1 P 102 [.agg (cTask ⟨prog, pc, state, why, what, timer, reg, group, err⟩), .agg (cTask ⟨prog1, pc1, state1, why1, what1, timer1, reg1, group1, err1⟩)] (.agg (cTask (if TaskOk ⟨prog1, pc1, state1, why1, what1, timer1, reg1, group1, err1⟩ then ⟨prog1, pc1, state1, why1, what1, timer1, reg1, group1, err1⟩ else ⟨prog, pc, state, why, what, timer, reg, group, err⟩))) := by
  refine S.cx.by (S.prog ▸ Try.func102) rfl rfl rfl rfl (fun hv ho => ?_)
  cbv
  refine ACall.testD (dp := false) (specTaskOk_c S _ _ _ _ _ _ _ _ _) ⟨rfl, (by repeat' (first | exact trivial | exact rfl | refine ⟨?_, ?_⟩)), trivial⟩ rfl (fun h => ?_) (fun h => ?_) <;> cbv
  · exact Done.agg (x := ⟨prog1, pc1, state1, why1, what1, timer1, reg1, group1, err1⟩) (by repeat' (first | exact trivial | exact rfl | refine ⟨?_, ?_⟩)) rfl (if_pos h)
  · exact Done.agg (x := ⟨prog, pc, state, why, what, timer, reg, group, err⟩) (by repeat' (first | exact trivial | exact rfl | refine ⟨?_, ?_⟩)) rfl (if_neg h)

theorem implParked_c (S : Se P A) (prog pc state why what timer reg group err why' what' timer' : Int) : Is1 P 49 [.agg (cTask ⟨prog, pc, state, why, what, timer, reg, group, err⟩), .int .i64 why', .int .i64 what', .int .i64 timer'] (.agg (cTask (Parked ⟨prog, pc, state, why, what, timer, reg, group, err⟩ why' what' timer'))) := by
  refine S.cx.by (S.prog ▸ Try.func49) rfl rfl rfl rfl (fun hv ho => ?_)
  cbv
  refine ACall.testD (dp := false) (implTaskOk_c S _ _ _ _ _ _ _ _ _) ⟨rfl, (by repeat' (first | exact trivial | exact rfl | refine ⟨?_, ?_⟩)), trivial⟩ rfl (fun h => ?_) (fun h => ?_) <;> cbv
  rotate_left
  · exact Done.agg (x := task0) (by repeat' (first | exact trivial | exact rfl | refine ⟨?_, ?_⟩)) rfl (if_neg h)
  refine Test.neq (fun h2 => ?_) (fun h2 => ?_) <;> cbv
  · exact Done.agg (x := ⟨prog, pc, state, why, what, timer, reg, group, err⟩) (by repeat' (first | exact trivial | exact rfl | refine ⟨?_, ?_⟩)) rfl (by rw [Parked, if_pos h, if_neg (fun e => h2 e.1)])
  refine ACall.testD (dp := false) (implTaskOk_c S _ _ _ _ _ _ _ _ _) ⟨rfl, (by repeat' (first | exact trivial | exact rfl | refine ⟨?_, ?_⟩)), trivial⟩ rfl (fun h3 => ?_) (fun h3 => ?_) <;> cbv
  · exact Done.agg (x := ⟨prog, pc, 1, why', what', timer', reg, group, err⟩) (by repeat' (first | exact trivial | exact rfl | refine ⟨?_, ?_⟩)) rfl (by rw [Parked, if_pos h, if_pos ⟨h2, h3⟩])
  · exact Done.agg (x := ⟨prog, pc, state, why, what, timer, reg, group, err⟩) (by repeat' (first | exact trivial | exact rfl | refine ⟨?_, ?_⟩)) rfl (by rw [Parked, if_pos h, if_neg (fun e => h3 e.2)])

theorem implReadied_c (S : Se P A) (prog pc state why what timer reg group err reg' : Int) : Is1 P 51 [.agg (cTask ⟨prog, pc, state, why, what, timer, reg, group, err⟩), .int .i64 reg'] (.agg (cTask (Readied ⟨prog, pc, state, why, what, timer, reg, group, err⟩ reg'))) := by
  refine S.cx.by (S.prog ▸ Try.func51) rfl rfl rfl rfl (fun hv ho => ?_)
  cbv
  refine ACall.testD (dp := false) (implTaskOk_c S _ _ _ _ _ _ _ _ _) ⟨rfl, (by repeat' (first | exact trivial | exact rfl | refine ⟨?_, ?_⟩)), trivial⟩ rfl (fun h => ?_) (fun h => ?_) <;> cbv
  rotate_left
  · exact Done.agg (x := task0) (by repeat' (first | exact trivial | exact rfl | refine ⟨?_, ?_⟩)) rfl (if_neg h)
  refine Arith.go (by have := h.2.1; simp only at this; lia) (fun x hx => ?_); cbv
  refine Test.eql (fun h2 => ?_) (fun h2 => ?_) <;> cbv
  · exact Done.agg (x := ⟨prog, pc, state, why, what, timer, reg, group, err⟩) (by repeat' (first | exact trivial | exact rfl | refine ⟨?_, ?_⟩)) rfl (by rw [Readied, if_pos h, if_neg (fun e => e.1 h2)])
  refine ACall.testD (dp := false) (implTaskOk_c S _ _ _ _ _ _ _ _ _) ⟨rfl, (by repeat' (first | exact trivial | exact rfl | refine ⟨?_, ?_⟩)), trivial⟩ rfl (fun h3 => ?_) (fun h3 => ?_) <;> cbv
  · exact Done.agg (x := ⟨prog, x, 0, 0, 0, -1, reg', group, err⟩) (by repeat' (first | exact trivial | exact rfl | refine ⟨?_, ?_⟩)) rfl (by rw [Readied, if_pos h, if_pos ⟨h2, (by rw [hx] at h3; exact h3)⟩]; rw [hx])
  · exact Done.agg (x := ⟨prog, pc, state, why, what, timer, reg, group, err⟩) (by repeat' (first | exact trivial | exact rfl | refine ⟨?_, ?_⟩)) rfl (by rw [Readied, if_pos h, if_neg (fun e => h3 (by rw [hx]; exact e.2))])

theorem implEnded_c (S : Se P A) (prog pc state why what timer reg group err err' : Int) : Is1 P 52 [.agg (cTask ⟨prog, pc, state, why, what, timer, reg, group, err⟩), .int .i64 err'] (.agg (cTask (Ended ⟨prog, pc, state, why, what, timer, reg, group, err⟩ err'))) := by
  refine S.cx.by (S.prog ▸ Try.func52) rfl rfl rfl rfl (fun hv ho => ?_)
  cbv
  refine ACall.testD (dp := false) (implTaskOk_c S _ _ _ _ _ _ _ _ _) ⟨rfl, (by repeat' (first | exact trivial | exact rfl | refine ⟨?_, ?_⟩)), trivial⟩ rfl (fun h => ?_) (fun h => ?_) <;> cbv
  rotate_left
  · exact Done.agg (x := task0) (by repeat' (first | exact trivial | exact rfl | refine ⟨?_, ?_⟩)) rfl (if_neg h)
  refine Test.eql (fun h2 => ?_) (fun h2 => ?_) <;> cbv
  · exact Done.agg (x := ⟨prog, pc, state, why, what, timer, reg, group, err⟩) (by repeat' (first | exact trivial | exact rfl | refine ⟨?_, ?_⟩)) rfl (by rw [Ended, if_pos h, if_neg (fun e => e.1 h2)])
  refine ACall.testD (dp := false) (implTaskOk_c S _ _ _ _ _ _ _ _ _) ⟨rfl, (by repeat' (first | exact trivial | exact rfl | refine ⟨?_, ?_⟩)), trivial⟩ rfl (fun h3 => ?_) (fun h3 => ?_) <;> cbv
  · exact Done.agg (x := ⟨prog, pc, 2, 0, 0, -1, reg, group, err'⟩) (by repeat' (first | exact trivial | exact rfl | refine ⟨?_, ?_⟩)) rfl (by rw [Ended, if_pos h, if_pos ⟨h2, h3⟩])
  · exact Done.agg (x := ⟨prog, pc, state, why, what, timer, reg, group, err⟩) (by repeat' (first | exact trivial | exact rfl | refine ⟨?_, ?_⟩)) rfl (by rw [Ended, if_pos h, if_neg (fun e => h3 e.2)])

end Go.Proofs.Ytcbebidfnlkkeaa.AM
