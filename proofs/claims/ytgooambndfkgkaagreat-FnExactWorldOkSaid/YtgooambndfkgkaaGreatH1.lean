/- Contracts: tests of numbers; tasks. -/
import Derived.Test.YtgooambndfkgkaaGreatM1
namespace Go.Proofs.YtgooambndfkgkaaGreat.AM
open Go Go.Proofs

set_option maxRecDepth 100000
set_option maxHeartbeats 4000000
set_option linter.unusedVariables false
set_option linter.unusedSimpArgs false

variable {P : Program} {A : Sy}

theorem within_c (S : Se P A) (n lo hi : Int) : Tests P 40 [.int .i64 n, .int .i64 lo, .int .i64 hi] (lo ≤ n ∧ n ≤ hi) := by
  refine S.cx.by (S.prog ▸ Tryz.func40) rfl rfl rfl rfl (fun hv ho => ?_)
  cbv
  repeat' (first
    | (refine Test.eql (fun _ => ?_) (fun _ => ?_) <;> cbv)
    | (refine Test.neq (fun _ => ?_) (fun _ => ?_) <;> cbv)
    | (refine Test.lss (fun _ => ?_) (fun _ => ?_) <;> cbv)
    | (refine Test.leq (fun _ => ?_) (fun _ => ?_) <;> cbv)
    | (refine Test.gtr (fun _ => ?_) (fun _ => ?_) <;> cbv)
    | (refine Test.geq (fun _ => ?_) (fun _ => ?_) <;> cbv)
    | (refine ⟨⟨by kernel_rfl, fun _ => ?_⟩⟩)
    | (refine LenR.nat S.cx (fun N hN hm => ?_); cbv)
    | exact Done.yes (by omega)
    | exact Done.no (by omega))

theorem l1In_c (S : Se P A) (n lo hi : Int) : Tests P 207 [.int .i64 n, .int .i64 lo, .int .i64 hi] (lo ≤ n ∧ n ≤ hi) := by
  refine S.cx.by (S.prog ▸ Tryz.func207) rfl rfl rfl rfl (fun hv ho => ?_)
  cbv
  repeat' (first
    | (refine Test.eql (fun _ => ?_) (fun _ => ?_) <;> cbv)
    | (refine Test.neq (fun _ => ?_) (fun _ => ?_) <;> cbv)
    | (refine Test.lss (fun _ => ?_) (fun _ => ?_) <;> cbv)
    | (refine Test.leq (fun _ => ?_) (fun _ => ?_) <;> cbv)
    | (refine Test.gtr (fun _ => ?_) (fun _ => ?_) <;> cbv)
    | (refine Test.geq (fun _ => ?_) (fun _ => ?_) <;> cbv)
    | (refine ⟨⟨by kernel_rfl, fun _ => ?_⟩⟩)
    | (refine LenR.nat S.cx (fun N hN hm => ?_); cbv)
    | exact Done.yes (by omega)
    | exact Done.no (by omega))

theorem l10Waits_c (S : Se P A) (prog pc state why what timer reg group err : Int) : Tests P 292 [.agg (cTask ⟨prog, pc, state, why, what, timer, reg, group, err⟩)]
    (((why = 1 ∨ why = 2) ∧ 0 ≤ what ∧ what ≤ 59 ∨ (why = 3 ∨ why = 4) ∧ 0 ≤ what ∧ what ≤ 7) ∧ (why = 2 ∧ 0 ≤ timer ∧ timer ≤ 1000000 ∨ why ≠ 2 ∧ timer = -1)) := by
  refine S.cx.by (S.prog ▸ Tryz.func292) rfl rfl rfl rfl (fun hv ho => ?_)
  cbv
  repeat' (first
    | (refine ACall.testD (dp := false) (l1In_c S _ _ _) ⟨rfl, (by repeat' (first | exact trivial | exact rfl | refine ⟨?_, ?_⟩)), trivial⟩ rfl (fun _ => ?_) (fun _ => ?_) <;> cbv)
    | (refine Test.eql (fun _ => ?_) (fun _ => ?_) <;> cbv)
    | (refine Test.neq (fun _ => ?_) (fun _ => ?_) <;> cbv)
    | (refine Test.lss (fun _ => ?_) (fun _ => ?_) <;> cbv)
    | (refine Test.leq (fun _ => ?_) (fun _ => ?_) <;> cbv)
    | (refine Test.gtr (fun _ => ?_) (fun _ => ?_) <;> cbv)
    | (refine Test.geq (fun _ => ?_) (fun _ => ?_) <;> cbv)
    | (refine ⟨⟨by kernel_rfl, fun _ => ?_⟩⟩)
    | (refine LenR.nat S.cx (fun N hN hm => ?_); cbv)
    | exact Done.yes (by omega)
    | exact Done.no (by omega))

theorem specTaskOk_c (S : Se P A) (prog pc state why what timer reg group err : Int) : Tests P 270 [.agg (cTask ⟨prog, pc, state, why, what, timer, reg, group, err⟩)] (TaskOk ⟨prog, pc, state, why, what, timer, reg, group, err⟩) := by
  refine S.cx.by (S.prog ▸ Tryz.func270) rfl rfl rfl rfl (fun hv ho => ?_)
  cbv
  clear hv ho
  repeat' (first
    | (refine ACall.testD (dp := false) (l1In_c S _ _ _) ⟨rfl, (by repeat' (first | exact trivial | exact rfl | refine ⟨?_, ?_⟩)), trivial⟩ rfl (fun _ => ?_) (fun _ => ?_) <;> cbv)
    | (refine ACall.testD (dp := false) (l10Waits_c S _ _ _ _ _ _ _ _ _) ⟨rfl, (by repeat' (first | exact trivial | exact rfl | refine ⟨?_, ?_⟩)), trivial⟩ rfl (fun _ => ?_) (fun _ => ?_) <;> cbv)
    | (refine Test.eql (fun _ => ?_) (fun _ => ?_) <;> cbv)
    | (refine Test.neq (fun _ => ?_) (fun _ => ?_) <;> cbv)
    | (refine Test.lss (fun _ => ?_) (fun _ => ?_) <;> cbv)
    | (refine Test.leq (fun _ => ?_) (fun _ => ?_) <;> cbv)
    | (refine Test.gtr (fun _ => ?_) (fun _ => ?_) <;> cbv)
    | (refine Test.geq (fun _ => ?_) (fun _ => ?_) <;> cbv)
    | (refine ⟨⟨by kernel_rfl, fun _ => ?_⟩⟩)
    | (refine LenR.nat S.cx (fun N hN hm => ?_); cbv)
    | exact Done.yes (by simp only [TaskOk]; grind)
    | exact Done.no (by simp only [TaskOk]; grind))

theorem implTaskOk_c (S : Se P A) (prog pc state why what timer reg group err : Int) : Tests P 156 [.agg (cTask ⟨prog, pc, state, why, what, timer, reg, group, err⟩)] (TaskOk ⟨prog, pc, state, why, what, timer, reg, group, err⟩) := by
  refine S.cx.by (S.prog ▸ Tryz.func156) rfl rfl rfl rfl (fun hv ho => ?_)
  cbv
  clear hv ho
  repeat' (first
    | (refine ACall.testD (dp := false) (within_c S _ _ _) ⟨rfl, (by repeat' (first | exact trivial | exact rfl | refine ⟨?_, ?_⟩)), trivial⟩ rfl (fun _ => ?_) (fun _ => ?_) <;> cbv)
    | (refine Test.eql (fun _ => ?_) (fun _ => ?_) <;> first | (exfalso; omega) | cbv)
    | (refine Test.neq (fun _ => ?_) (fun _ => ?_) <;> first | (exfalso; omega) | cbv)
    | (refine Test.lss (fun _ => ?_) (fun _ => ?_) <;> first | (exfalso; omega) | cbv)
    | (refine Test.leq (fun _ => ?_) (fun _ => ?_) <;> first | (exfalso; omega) | cbv)
    | (refine Test.gtr (fun _ => ?_) (fun _ => ?_) <;> first | (exfalso; omega) | cbv)
    | (refine Test.geq (fun _ => ?_) (fun _ => ?_) <;> first | (exfalso; omega) | cbv)
    | (refine ⟨⟨by kernel_rfl, fun _ => ?_⟩⟩)
    | (refine LenR.nat S.cx (fun N hN hm => ?_); cbv)
    | exact Done.yes (by simp only [TaskOk]; grind)
    | exact Done.no (by simp only [TaskOk]; grind))

end Go.Proofs.YtgooambndfkgkaaGreat.AM
