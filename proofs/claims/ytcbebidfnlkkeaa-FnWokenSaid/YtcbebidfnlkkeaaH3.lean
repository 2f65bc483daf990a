/- Contracts: tasks parked, readied, ended, as specified; the laws. -/
import Derived.Test.YtcbebidfnlkkeaaH2
namespace Go.Proofs.Ytcbebidfnlkkeaa.AM
open Go Go.Proofs

set_option maxRecDepth 100000
set_option maxHeartbeats 4000000
set_option linter.unusedVariables false
set_option linter.unusedSimpArgs false

variable {P : Program} {A : Sy}

theorem l10Free_c (S : Se P A) (prog pc state why what timer reg group err s : Int) : Is1 P 132 [.agg (cTask ⟨prog, pc, state, why, what, timer, reg, group, err⟩), .int .i64 s] (.agg (cTask ⟨prog, pc, s, 0, 0, -1, reg, group, err⟩)) := by
  refine S.cx.by (S.prog ▸ Try.func132) rfl rfl rfl rfl (fun hv ho => ?_)
  cbv
  exact Done.agg (x := ⟨prog, pc, s, 0, 0, -1, reg, group, err⟩) (by repeat' (first | exact trivial | exact rfl | refine ⟨?_, ?_⟩)) rfl rfl

theorem specParked_c (S : Se P A) (prog pc state why what timer reg group err why' what' timer' : Int) : Is1 P 50 [.agg (cTask ⟨prog, pc, state, why, what, timer, reg, group, err⟩), .int .i64 why', .int .i64 what', .int .i64 timer'] (.agg (cTask (Parked ⟨prog, pc, state, why, what, timer, reg, group, err⟩ why' what' timer'))) := by
  refine S.cx.by (S.prog ▸ Try.func50) rfl rfl rfl rfl (fun hv ho => ?_)
  cbv
  refine ACall.testD (dp := false) (specTaskOk_c S _ _ _ _ _ _ _ _ _) ⟨rfl, (by repeat' (first | exact trivial | exact rfl | refine ⟨?_, ?_⟩)), trivial⟩ rfl (fun h => ?_) (fun h => ?_) <;> cbv
  rotate_left
  · exact Done.agg (x := task0) (by repeat' (first | exact trivial | exact rfl | refine ⟨?_, ?_⟩)) rfl (if_neg h)
  refine Test.neq (fun h2 => ?_) (fun h2 => ?_) <;> cbv
  · exact Done.agg (x := ⟨prog, pc, state, why, what, timer, reg, group, err⟩) (by repeat' (first | exact trivial | exact rfl | refine ⟨?_, ?_⟩)) rfl (by rw [Parked, if_pos h, if_neg (fun e => h2 e.1)])
  refine ACall.agg (g := cTask) (dp := false) (l10Either_c S _ _ _ _ _ _ _ _ _ _ _ _ _ _ _ _ _ _) ⟨rfl, (by repeat' (first | exact trivial | exact rfl | refine ⟨?_, ?_⟩)), trivial⟩ rfl (fun y hy => ⟨rfl, ?_⟩)
  obtain ⟨prog1, pc1, state1, why1, what1, timer1, reg1, group1, err1⟩ := y
  cbv
  refine Done.agg (x := ⟨prog1, pc1, state1, why1, what1, timer1, reg1, group1, err1⟩) (by repeat' (first | exact trivial | exact rfl | refine ⟨?_, ?_⟩)) rfl ?_
  rw [hy, Parked, if_pos h]
  by_cases h3 : TaskOk ⟨prog, pc, 1, why', what', timer', reg, group, err⟩
  · rw [if_pos h3, if_pos ⟨h2, h3⟩]
  · rw [if_neg h3, if_neg (fun e => h3 e.2)]

theorem specReadied_c (S : Se P A) (prog pc state why what timer reg group err reg' : Int) : Is1 P 103 [.agg (cTask ⟨prog, pc, state, why, what, timer, reg, group, err⟩), .int .i64 reg'] (.agg (cTask (Readied ⟨prog, pc, state, why, what, timer, reg, group, err⟩ reg'))) := by
  refine S.cx.by (S.prog ▸ Try.func103) rfl rfl rfl rfl (fun hv ho => ?_)
  cbv
  refine ACall.testD (dp := false) (specTaskOk_c S _ _ _ _ _ _ _ _ _) ⟨rfl, (by repeat' (first | exact trivial | exact rfl | refine ⟨?_, ?_⟩)), trivial⟩ rfl (fun h => ?_) (fun h => ?_) <;> cbv
  rotate_left
  · exact Done.agg (x := task0) (by repeat' (first | exact trivial | exact rfl | refine ⟨?_, ?_⟩)) rfl (if_neg h)
  refine Test.eql (fun h2 => ?_) (fun h2 => ?_) <;> cbv
  · exact Done.agg (x := ⟨prog, pc, state, why, what, timer, reg, group, err⟩) (by repeat' (first | exact trivial | exact rfl | refine ⟨?_, ?_⟩)) rfl (by rw [Readied, if_pos h, if_neg (fun e => e.1 h2)])
  refine ACall.fn (dp := false) (l10Free_c S _ _ _ _ _ _ _ _ _ _) ⟨rfl, (by repeat' (first | exact trivial | exact rfl | refine ⟨?_, ?_⟩)), trivial⟩ ⟨rfl, ?_⟩
  cbv
  refine Arith.go (by have := h.2.1; simp only at this; lia) (fun x hx => ?_); cbv
  refine ACall.agg (g := cTask) (dp := false) (l10Either_c S _ _ _ _ _ _ _ _ _ _ _ _ _ _ _ _ _ _) ⟨rfl, (by repeat' (first | exact trivial | exact rfl | refine ⟨?_, ?_⟩)), trivial⟩ rfl (fun y hy => ⟨rfl, ?_⟩)
  obtain ⟨prog1, pc1, state1, why1, what1, timer1, reg1, group1, err1⟩ := y
  cbv
  refine Done.agg (x := ⟨prog1, pc1, state1, why1, what1, timer1, reg1, group1, err1⟩) (by repeat' (first | exact trivial | exact rfl | refine ⟨?_, ?_⟩)) rfl ?_
  rw [hy, Readied, if_pos h]
  by_cases h3 : TaskOk ⟨prog, x, 0, 0, 0, -1, reg', group, err⟩
  · rw [if_pos h3, if_pos ⟨h2, (by rw [hx] at h3; exact h3)⟩]
    rw [hx]
  · rw [if_neg h3, if_neg (fun e => h3 (by rw [hx]; exact e.2))]

theorem specEnded_c (S : Se P A) (prog pc state why what timer reg group err err' : Int) : Is1 P 130 [.agg (cTask ⟨prog, pc, state, why, what, timer, reg, group, err⟩), .int .i64 err'] (.agg (cTask (Ended ⟨prog, pc, state, why, what, timer, reg, group, err⟩ err'))) := by
  refine S.cx.by (S.prog ▸ Try.func130) rfl rfl rfl rfl (fun hv ho => ?_)
  cbv
  refine ACall.testD (dp := false) (specTaskOk_c S _ _ _ _ _ _ _ _ _) ⟨rfl, (by repeat' (first | exact trivial | exact rfl | refine ⟨?_, ?_⟩)), trivial⟩ rfl (fun h => ?_) (fun h => ?_) <;> cbv
  rotate_left
  · exact Done.agg (x := task0) (by repeat' (first | exact trivial | exact rfl | refine ⟨?_, ?_⟩)) rfl (if_neg h)
  refine Test.eql (fun h2 => ?_) (fun h2 => ?_) <;> cbv
  · exact Done.agg (x := ⟨prog, pc, state, why, what, timer, reg, group, err⟩) (by repeat' (first | exact trivial | exact rfl | refine ⟨?_, ?_⟩)) rfl (by rw [Ended, if_pos h, if_neg (fun e => e.1 h2)])
  refine ACall.fn (dp := false) (l10Free_c S _ _ _ _ _ _ _ _ _ _) ⟨rfl, (by repeat' (first | exact trivial | exact rfl | refine ⟨?_, ?_⟩)), trivial⟩ ⟨rfl, ?_⟩
  cbv
  refine ACall.agg (g := cTask) (dp := false) (l10Either_c S _ _ _ _ _ _ _ _ _ _ _ _ _ _ _ _ _ _) ⟨rfl, (by repeat' (first | exact trivial | exact rfl | refine ⟨?_, ?_⟩)), trivial⟩ rfl (fun y hy => ⟨rfl, ?_⟩)
  obtain ⟨prog1, pc1, state1, why1, what1, timer1, reg1, group1, err1⟩ := y
  cbv
  refine Done.agg (x := ⟨prog1, pc1, state1, why1, what1, timer1, reg1, group1, err1⟩) (by repeat' (first | exact trivial | exact rfl | refine ⟨?_, ?_⟩)) rfl ?_
  rw [hy, Ended, if_pos h]
  by_cases h3 : TaskOk ⟨prog, pc, 2, 0, 0, -1, reg, group, err'⟩
  · rw [if_pos h3, if_pos ⟨h2, h3⟩]
  · rw [if_neg h3, if_neg (fun e => h3 e.2)]

end Go.Proofs.Ytcbebidfnlkkeaa.AM
