/- Contracts: the law SpreadOk. (printed by gt3.py) -/
import Derived.Test.YtcbebidfnlkkeaaT2
import Derived.Test.YtcbebidfnlkkeaaG5
namespace Go.Proofs.Ytcbebidfnlkkeaa.AM
open Go Go.Proofs

set_option maxRecDepth 100000
set_option maxHeartbeats 4000000
set_option linter.unusedVariables false
set_option linter.unusedSimpArgs false

variable {P : Program} {A : Sy}

theorem lawSpreadOk_c (S : Se P A) (l_t : List Node) (told_s : List Bool) (work_s : List Int) : Is1 P 4 [.ro (A.enc cNode l_t), .agg (roSpread A ⟨told_s, work_s⟩)] (.bool true) := by
  refine S.cx.by (S.prog ▸ Try.func4) rfl rfl rfl rfl (fun hv ho => ?_)
  cbv
  try (refine Drawn.mk ⟨by kernel_rfl, fun _ => ?_⟩)
  refine ACall.int (dp := false) (szNodeS_c S l_t 1048576 (by lia)) ⟨rfl, (by repeat' (first | exact trivial | exact rfl | exact Nat.le_refl _ | exact S.cx.giveEq | exact S.cx.lendLe (by assumption) | exact S.cx.lendEq (by assumption) | exact S.cx.lendLe0 | exact S.cx.lendEq0 | exact S.cx.partLe (by assumption) | exact S.cx.partEq (by assumption) | refine ⟨?_, ?_⟩)), (by repeat' (first | exact trivial | exact rfl | exact Nat.le_refl _ | exact S.cx.giveEq | exact S.cx.lendLe (by assumption) | exact S.cx.lendEq (by assumption) | exact S.cx.lendLe0 | exact S.cx.lendEq0 | exact S.cx.partLe (by assumption) | exact S.cx.partEq (by assumption) | refine ⟨?_, ?_⟩))⟩ rfl (fun q_t hq_t => ?_); cbv
  refine Test.lss (fun h => ?_) (fun h => ?_) <;> cbv
  · exact Done.to (.bool true) [] rfl rfl trivial ⟨rfl, rfl⟩
  replace hq_t : 0 ≤ q_t ∧ q_t = 1048576 - l_t.length := by split at hq_t <;> lia
  have b_l_t : l_t.length ≤ 1048576 := by lia
  try (refine Drawn.mk ⟨by kernel_rfl, fun _ => ?_⟩)
  refine ACall.num (dp := false) (szSpread_c S ⟨told_s, work_s⟩ q_t (by lia)) ⟨rfl, (by repeat' (first | exact trivial | exact rfl | exact Nat.le_refl _ | exact S.cx.giveEq | exact S.cx.lendLe (by assumption) | exact S.cx.lendEq (by assumption) | exact S.cx.lendLe0 | exact S.cx.lendEq0 | exact S.cx.partLe (by assumption) | exact S.cx.partEq (by assumption) | refine ⟨?_, ?_⟩)), (by repeat' (first | exact trivial | exact rfl | exact Nat.le_refl _ | exact S.cx.giveEq | exact S.cx.lendLe (by assumption) | exact S.cx.lendEq (by assumption) | exact S.cx.lendLe0 | exact S.cx.lendEq0 | exact S.cx.partLe (by assumption) | exact S.cx.partEq (by assumption) | refine ⟨?_, ?_⟩))⟩ (fun q_s hq_s => ?_); cbv
  refine Test.lss (fun h => ?_) (fun h => ?_) <;> cbv
  · exact Done.to (.bool true) [] rfl rfl trivial ⟨rfl, rfl⟩
  replace hq_s := hq_s.resolve_left (by lia)
  simp only [Spread.total] at hq_s
  have b_told_s : told_s.length ≤ 1048576 := by lia
  have b_work_s : work_s.length ≤ 1048576 := by lia
  try (refine Drawn.mk ⟨by kernel_rfl, fun _ => ?_⟩)
  refine ACall.valN (r := (fun x : List Node => .own 5 true (A.enc cNode x))) (os := fun _ => []) (dp := false) S.cx (toNodeS_c S l_t (Nat.le_trans b_l_t (by decide))) ⟨rfl, (by repeat' (first | exact trivial | exact rfl | exact Nat.le_refl _ | exact S.cx.giveEq | exact S.cx.lendLe (by assumption) | exact S.cx.lendEq (by assumption) | exact S.cx.lendLe0 | exact S.cx.lendEq0 | exact S.cx.partLe (by assumption) | exact S.cx.partEq (by assumption) | refine ⟨?_, ?_⟩)), (by repeat' (first | exact trivial | exact rfl | exact Nat.le_refl _ | exact S.cx.giveEq | exact S.cx.lendLe (by assumption) | exact S.cx.lendEq (by assumption) | exact S.cx.lendLe0 | exact S.cx.lendEq0 | exact S.cx.partLe (by assumption) | exact S.cx.partEq (by assumption) | refine ⟨?_, ?_⟩))⟩ rfl (fun ln hln l_tx hx => ⟨rfl, ?_⟩)
  cases hx
  cbv
  have hna_l_t := hln cNode l_t
  generalize ln (A.enc cNode l_t) = na_l_t at hna_l_t ⊢
  try (refine Drawn.mk ⟨by kernel_rfl, fun _ => ?_⟩)
  refine ACall.valN (r := (fun x : Spread => .agg (ownSpread A x))) (os := fun _ => []) (dp := false) S.cx (toSpread_c S ⟨told_s, work_s⟩ ⟨(Nat.le_trans b_told_s (by decide)), (Nat.le_trans b_work_s (by decide))⟩) ⟨rfl, (by repeat' (first | exact trivial | exact rfl | exact Nat.le_refl _ | exact S.cx.giveEq | exact S.cx.lendLe (by assumption) | exact S.cx.lendEq (by assumption) | exact S.cx.lendLe0 | exact S.cx.lendEq0 | exact S.cx.partLe (by assumption) | exact S.cx.partEq (by assumption) | refine ⟨?_, ?_⟩)), (by repeat' (first | exact trivial | exact rfl | exact Nat.le_refl _ | exact S.cx.giveEq | exact S.cx.lendLe (by assumption) | exact S.cx.lendEq (by assumption) | exact S.cx.lendLe0 | exact S.cx.lendEq0 | exact S.cx.partLe (by assumption) | exact S.cx.partEq (by assumption) | refine ⟨?_, ?_⟩))⟩ rfl (fun ln hln x hx => ⟨rfl, ?_⟩)
  obtain ⟨told_sx, work_sx⟩ := x
  cases hx
  cbv
  have hna_told_s := hln cBool told_s
  generalize ln (A.enc cBool told_s) = na_told_s at hna_told_s ⊢
  have hna_work_s := hln cInt64 work_s
  generalize ln (A.enc cInt64 work_s) = na_work_s at hna_work_s ⊢
  try (refine Drawn.mk ⟨by kernel_rfl, fun _ => ?_⟩)
  refine ACall.testD (dp := false) (specSpreadOk_c S l_t told_s work_s) ⟨rfl, (by repeat' (first | exact trivial | exact rfl | exact Nat.le_refl _ | exact S.cx.giveEq | exact S.cx.lendLe (by assumption) | exact S.cx.lendEq (by assumption) | exact S.cx.lendLe0 | exact S.cx.lendEq0 | exact S.cx.partLe (by assumption) | exact S.cx.partEq (by assumption) | refine ⟨?_, ?_⟩)), (by repeat' (first | exact trivial | exact rfl | exact Nat.le_refl _ | exact S.cx.giveEq | exact S.cx.lendLe (by assumption) | exact S.cx.lendEq (by assumption) | exact S.cx.lendLe0 | exact S.cx.lendEq0 | exact S.cx.partLe (by assumption) | exact S.cx.partEq (by assumption) | refine ⟨?_, ?_⟩))⟩ rfl (fun h1 => ?_) (fun h1 => ?_) <;> cbv
  all_goals
    try (refine Drawn.mk ⟨by kernel_rfl, fun _ => ?_⟩)
    refine ACall.valN (r := (fun x : List Node => .own 5 true (A.enc cNode x))) (os := fun _ => []) (dp := false) S.cx (toNodeS_c S l_t (Nat.le_trans b_l_t (by decide))) ⟨rfl, (by repeat' (first | exact trivial | exact rfl | exact Nat.le_refl _ | exact S.cx.giveEq | exact S.cx.lendLe (by assumption) | exact S.cx.lendEq (by assumption) | exact S.cx.lendLe0 | exact S.cx.lendEq0 | exact S.cx.partLe (by assumption) | exact S.cx.partEq (by assumption) | refine ⟨?_, ?_⟩)), (by repeat' (first | exact trivial | exact rfl | exact Nat.le_refl _ | exact S.cx.giveEq | exact S.cx.lendLe (by assumption) | exact S.cx.lendEq (by assumption) | exact S.cx.lendLe0 | exact S.cx.lendEq0 | exact S.cx.partLe (by assumption) | exact S.cx.partEq (by assumption) | refine ⟨?_, ?_⟩))⟩ rfl (fun ln hln l_tx hx => ⟨rfl, ?_⟩)
    cases hx
    cbv
    have hnb_l_t := hln cNode l_t
    generalize ln (A.enc cNode l_t) = nb_l_t at hnb_l_t ⊢
    try (refine Drawn.mk ⟨by kernel_rfl, fun _ => ?_⟩)
    refine ACall.valN (r := (fun x : Spread => .agg (ownSpread A x))) (os := fun _ => []) (dp := false) S.cx (toSpread_c S ⟨told_s, work_s⟩ ⟨(Nat.le_trans b_told_s (by decide)), (Nat.le_trans b_work_s (by decide))⟩) ⟨rfl, (by repeat' (first | exact trivial | exact rfl | exact Nat.le_refl _ | exact S.cx.giveEq | exact S.cx.lendLe (by assumption) | exact S.cx.lendEq (by assumption) | exact S.cx.lendLe0 | exact S.cx.lendEq0 | exact S.cx.partLe (by assumption) | exact S.cx.partEq (by assumption) | refine ⟨?_, ?_⟩)), (by repeat' (first | exact trivial | exact rfl | exact Nat.le_refl _ | exact S.cx.giveEq | exact S.cx.lendLe (by assumption) | exact S.cx.lendEq (by assumption) | exact S.cx.lendLe0 | exact S.cx.lendEq0 | exact S.cx.partLe (by assumption) | exact S.cx.partEq (by assumption) | refine ⟨?_, ?_⟩))⟩ rfl (fun ln hln x hx => ⟨rfl, ?_⟩)
    obtain ⟨told_sx, work_sx⟩ := x
    cases hx
    cbv
    have hnb_told_s := hln cBool told_s
    generalize ln (A.enc cBool told_s) = nb_told_s at hnb_told_s ⊢
    have hnb_work_s := hln cInt64 work_s
    generalize ln (A.enc cInt64 work_s) = nb_work_s at hnb_work_s ⊢
    try (refine Drawn.mk ⟨by kernel_rfl, fun _ => ?_⟩)
    refine ACall.testD (dp := false) (implSpreadOk_c S l_t told_s work_s) ⟨rfl, (by repeat' (first | exact trivial | exact rfl | exact Nat.le_refl _ | exact S.cx.giveEq | exact S.cx.lendLe (by assumption) | exact S.cx.lendEq (by assumption) | exact S.cx.lendLe0 | exact S.cx.lendEq0 | exact S.cx.partLe (by assumption) | exact S.cx.partEq (by assumption) | refine ⟨?_, ?_⟩)), (by repeat' (first | exact trivial | exact rfl | exact Nat.le_refl _ | exact S.cx.giveEq | exact S.cx.lendLe (by assumption) | exact S.cx.lendEq (by assumption) | exact S.cx.lendLe0 | exact S.cx.lendEq0 | exact S.cx.partLe (by assumption) | exact S.cx.partEq (by assumption) | refine ⟨?_, ?_⟩))⟩ rfl (fun h2 => ?_) (fun h2 => ?_) <;> cbv
    all_goals (first | exact absurd h2 h1 | exact absurd h1 h2 | skip)
    try (refine Drawn.mk ⟨by kernel_rfl, fun _ => ?_⟩)
    refine ACall.valN (r := (fun x : List Node => .own 5 true (A.enc cNode x))) (os := fun _ => []) (dp := false) S.cx (toNodeS_c S l_t (Nat.le_trans b_l_t (by decide))) ⟨rfl, (by repeat' (first | exact trivial | exact rfl | exact Nat.le_refl _ | exact S.cx.giveEq | exact S.cx.lendLe (by assumption) | exact S.cx.lendEq (by assumption) | exact S.cx.lendLe0 | exact S.cx.lendEq0 | exact S.cx.partLe (by assumption) | exact S.cx.partEq (by assumption) | refine ⟨?_, ?_⟩)), (by repeat' (first | exact trivial | exact rfl | exact Nat.le_refl _ | exact S.cx.giveEq | exact S.cx.lendLe (by assumption) | exact S.cx.lendEq (by assumption) | exact S.cx.lendLe0 | exact S.cx.lendEq0 | exact S.cx.partLe (by assumption) | exact S.cx.partEq (by assumption) | refine ⟨?_, ?_⟩))⟩ rfl (fun ln hln l_tx hx => ⟨rfl, ?_⟩)
    cases hx
    cbv
    have hnc_l_t := hln cNode l_t
    generalize ln (A.enc cNode l_t) = nc_l_t at hnc_l_t ⊢
    try (refine Drawn.mk ⟨by kernel_rfl, fun _ => ?_⟩)
    refine ACall.testD (dp := false) (eqNodeS_c S l_t l_t) ⟨rfl, (by repeat' (first | exact trivial | exact rfl | exact Nat.le_refl _ | exact S.cx.giveEq | exact S.cx.lendLe (by assumption) | exact S.cx.lendEq (by assumption) | exact S.cx.lendLe0 | exact S.cx.lendEq0 | exact S.cx.partLe (by assumption) | exact S.cx.partEq (by assumption) | refine ⟨?_, ?_⟩)), (by repeat' (first | exact trivial | exact rfl | exact Nat.le_refl _ | exact S.cx.giveEq | exact S.cx.lendLe (by assumption) | exact S.cx.lendEq (by assumption) | exact S.cx.lendLe0 | exact S.cx.lendEq0 | exact S.cx.partLe (by assumption) | exact S.cx.partEq (by assumption) | refine ⟨?_, ?_⟩))⟩ rfl (fun h => ?_) (fun h => ?_) <;> cbv
    rotate_left
    · exact absurd rfl h
    try (refine Drawn.mk ⟨by kernel_rfl, fun _ => ?_⟩)
    refine ACall.valN (r := (fun x : Spread => .agg (ownSpread A x))) (os := fun _ => []) (dp := false) S.cx (toSpread_c S ⟨told_s, work_s⟩ ⟨(Nat.le_trans b_told_s (by decide)), (Nat.le_trans b_work_s (by decide))⟩) ⟨rfl, (by repeat' (first | exact trivial | exact rfl | exact Nat.le_refl _ | exact S.cx.giveEq | exact S.cx.lendLe (by assumption) | exact S.cx.lendEq (by assumption) | exact S.cx.lendLe0 | exact S.cx.lendEq0 | exact S.cx.partLe (by assumption) | exact S.cx.partEq (by assumption) | refine ⟨?_, ?_⟩)), (by repeat' (first | exact trivial | exact rfl | exact Nat.le_refl _ | exact S.cx.giveEq | exact S.cx.lendLe (by assumption) | exact S.cx.lendEq (by assumption) | exact S.cx.lendLe0 | exact S.cx.lendEq0 | exact S.cx.partLe (by assumption) | exact S.cx.partEq (by assumption) | refine ⟨?_, ?_⟩))⟩ rfl (fun ln hln x hx => ⟨rfl, ?_⟩)
    obtain ⟨told_sx, work_sx⟩ := x
    cases hx
    cbv
    have hnc_told_s := hln cBool told_s
    generalize ln (A.enc cBool told_s) = nc_told_s at hnc_told_s ⊢
    have hnc_work_s := hln cInt64 work_s
    generalize ln (A.enc cInt64 work_s) = nc_work_s at hnc_work_s ⊢
    try (refine Drawn.mk ⟨by kernel_rfl, fun _ => ?_⟩)
    refine ACall.testD (dp := false) (eqSpread_c S ⟨told_s, work_s⟩ ⟨told_s, work_s⟩) ⟨rfl, (by repeat' (first | exact trivial | exact rfl | exact Nat.le_refl _ | exact S.cx.giveEq | exact S.cx.lendLe (by assumption) | exact S.cx.lendEq (by assumption) | exact S.cx.lendLe0 | exact S.cx.lendEq0 | exact S.cx.partLe (by assumption) | exact S.cx.partEq (by assumption) | refine ⟨?_, ?_⟩)), (by repeat' (first | exact trivial | exact rfl | exact Nat.le_refl _ | exact S.cx.giveEq | exact S.cx.lendLe (by assumption) | exact S.cx.lendEq (by assumption) | exact S.cx.lendLe0 | exact S.cx.lendEq0 | exact S.cx.partLe (by assumption) | exact S.cx.partEq (by assumption) | refine ⟨?_, ?_⟩))⟩ rfl (fun h => ?_) (fun h => ?_) <;> cbv
    rotate_left
    · exact absurd rfl h
    exact Done.to (.bool true) [] rfl rfl trivial ⟨rfl, rfl⟩

end Go.Proofs.Ytcbebidfnlkkeaa.AM
