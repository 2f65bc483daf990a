/- Contracts: the law SpreadAll. (printed by gt7.py) -/
import Derived.Test.YtmbckmfihcojoaaT5
import Derived.Test.YtmbckmfihcojoaaG5
namespace Go.Proofs.Ytmbckmfihcojoaa.AM
open Go Go.Proofs

set_option maxRecDepth 100000
set_option maxHeartbeats 4000000
set_option linter.unusedVariables false
set_option linter.unusedSimpArgs false

variable {P : Program} {A : Sy}

theorem runs_few (t : List Node) : ∀ (n : Nat) (s : Spread), SpreadOk t s → (runs t n s).told.length ≤ 1048576 ∧ (runs t n s).work.length ≤ 1048576
  | 0, s, h => by
    have h0 := h.1.1
    have h1 := h.2.1
    have h2 := h.2.2.1
    simp only [runs]; omega
  | n + 1, s, h => by
    simp only [runs]
    split
    · exact runs_few t n _ (step_ok h)
    · have h0 := h.1.1
      have h1 := h.2.1
      have h2 := h.2.2.1
      omega

theorem spreadAll_few (t : List Node) (s : Spread) : (SpreadAll t s).told.length ≤ 1048576 ∧ (SpreadAll t s).work.length ≤ 1048576 := by
  unfold SpreadAll; split
  · rename_i h; exact runs_few t _ s h
  · exact ⟨Nat.zero_le _, Nat.zero_le _⟩

theorem lawSpreadAll_c (S : Se P A) (l_t : List Node) (told_s : List Bool) (work_s : List Int) : Is1 P 3 [.ro (A.enc cNode l_t), .agg (roSpread A ⟨told_s, work_s⟩)] (.bool true) := by
  refine S.cx.by (S.prog ▸ Try.func3) rfl rfl rfl rfl (fun hv ho => ?_)
  cbv
  try (refine Drawn.mk ⟨by kernel_rfl, fun _ => ?_⟩)
  refine ACall.int (dp := false) (szNodeS_c S l_t 1048576 (by lia)) ⟨rfl, (by repeat' (first | exact trivial | exact rfl | exact Nat.le_refl _ | exact S.cx.giveEq | exact S.cx.lendLe (by assumption) | exact S.cx.lendEq (by assumption) | exact S.cx.lendLe0 | exact S.cx.lendEq0 | exact S.cx.partLe (by assumption) | exact S.cx.partEq (by assumption) | refine ⟨?_, ?_⟩)), (by repeat' (first | exact trivial | exact rfl | exact Nat.le_refl _ | exact S.cx.giveEq | exact S.cx.lendLe (by assumption) | exact S.cx.lendEq (by assumption) | exact S.cx.lendLe0 | exact S.cx.lendEq0 | exact S.cx.partLe (by assumption) | exact S.cx.partEq (by assumption) | refine ⟨?_, ?_⟩))⟩ rfl (fun q_t hq_t => ?_); cbv
  refine Test.lss (fun h => ?_) (fun h => ?_) <;> cbv
  · exact Done.to (.bool true) [] rfl rfl trivial ⟨rfl, rfl⟩
  replace hq_t : 0 ≤ q_t ∧ q_t = 1048576 - l_t.length := by split at hq_t <;> lia
  have b_l_t : l_t.length ≤ 1048576 := by lia
  try (refine Drawn.mk ⟨by kernel_rfl, fun _ => ?_⟩)
  refine ACall.num (dp := false) (szSpread_c S ⟨told_s, work_s⟩ q_t (by lia)) ⟨rfl, (by repeat' (first | exact trivial | exact rfl | exact Nat.le_refl _ | exact S.cx.giveEq | exact S.cx.lendLe (by assumption) | exact S.cx.lendEq (by assumption) | exact S.cx.lendLe0 | exact S.cx.lendEq0 | exact S.cx.partLe (by assumption) | exact S.cx.partEq (by assumption) | refine ⟨?_, ?_⟩)), (by repeat' (first | exact trivial | exact rfl | exact Nat.le_refl _ | exact S.cx.giveEq | exact S.cx.lendLe (by assumption) | exact S.cx.lendEq (by assumption) | exact S.cx.lendLe0 | exact S.cx.lendEq0 | exact S.cx.partLe (by assumption) | exact S.cx.partEq (by assumption) | refine ⟨?_, ?_⟩))⟩ (fun q_s hq_s => ?_); cbv
  refine Test.lss (fun h => ?_) (fun h => ?_) <;> cbv
  · exact Done.to (.bool true) [] rfl rfl trivial ⟨rfl, rfl⟩
  replace hq_s := hq_s.resolve_left (by lia)
  simp only [Spread.total] at hq_s
  have b_told_s : told_s.length ≤ 1048576 := by lia
  have b_work_s : work_s.length ≤ 1048576 := by lia
  try (refine Drawn.mk ⟨by kernel_rfl, fun _ => ?_⟩)
  refine ACall.valN (r := (fun x : List Node => .own 5 true (A.enc cNode x))) (os := fun _ => []) (dp := false) S.cx (toNodeS_c S l_t (Nat.le_trans b_l_t (by decide))) ⟨rfl, (by repeat' (first | exact trivial | exact rfl | exact Nat.le_refl _ | exact S.cx.giveEq | exact S.cx.lendLe (by assumption) | exact S.cx.lendEq (by assumption) | exact S.cx.lendLe0 | exact S.cx.lendEq0 | exact S.cx.partLe (by assumption) | exact S.cx.partEq (by assumption) | refine ⟨?_, ?_⟩)), (by repeat' (first | exact trivial | exact rfl | exact Nat.le_refl _ | exact S.cx.giveEq | exact S.cx.lendLe (by assumption) | exact S.cx.lendEq (by assumption) | exact S.cx.lendLe0 | exact S.cx.lendEq0 | exact S.cx.partLe (by assumption) | exact S.cx.partEq (by assumption) | refine ⟨?_, ?_⟩))⟩ rfl (fun ln hln l_tx hx => ⟨rfl, ?_⟩)
  cases hx
  cbv
  have hna_l_t := hln cNode l_t
  generalize ln (A.enc cNode l_t) = na_l_t at hna_l_t ⊢
  try (refine Drawn.mk ⟨by kernel_rfl, fun _ => ?_⟩)
  refine ACall.valN (r := (fun x : Spread => .agg (ownSpread A x))) (os := fun _ => []) (dp := false) S.cx (toSpread_c S ⟨told_s, work_s⟩ ⟨(Nat.le_trans b_told_s (by decide)), (Nat.le_trans b_work_s (by decide))⟩) ⟨rfl, (by repeat' (first | exact trivial | exact rfl | exact Nat.le_refl _ | exact S.cx.giveEq | exact S.cx.lendLe (by assumption) | exact S.cx.lendEq (by assumption) | exact S.cx.lendLe0 | exact S.cx.lendEq0 | exact S.cx.partLe (by assumption) | exact S.cx.partEq (by assumption) | refine ⟨?_, ?_⟩)), (by repeat' (first | exact trivial | exact rfl | exact Nat.le_refl _ | exact S.cx.giveEq | exact S.cx.lendLe (by assumption) | exact S.cx.lendEq (by assumption) | exact S.cx.lendLe0 | exact S.cx.lendEq0 | exact S.cx.partLe (by assumption) | exact S.cx.partEq (by assumption) | refine ⟨?_, ?_⟩))⟩ rfl (fun ln hln x hx => ⟨rfl, ?_⟩)
  obtain ⟨told_sx, work_sx⟩ := x
  cases hx
  cbv
  have hna_told_s := hln cBool told_s
  generalize ln (A.enc cBool told_s) = na_told_s at hna_told_s ⊢
  have hna_work_s := hln cInt64 work_s
  generalize ln (A.enc cInt64 work_s) = na_work_s at hna_work_s ⊢
  try (refine Drawn.mk ⟨by kernel_rfl, fun _ => ?_⟩)
  refine ACall.valN (r := rSp A) (os := fun _ => []) (dp := false) S.cx (specSpreadAll_c S l_t told_s work_s) ⟨rfl, (by repeat' (first | exact trivial | exact rfl | exact Nat.le_refl _ | exact S.cx.giveEq | exact S.cx.lendLe (by assumption) | exact S.cx.lendEq (by assumption) | exact S.cx.lendLe0 | exact S.cx.lendEq0 | exact S.cx.partLe (by assumption) | exact S.cx.partEq (by assumption) | refine ⟨?_, ?_⟩)), (by repeat' (first | exact trivial | exact rfl | exact Nat.le_refl _ | exact S.cx.giveEq | exact S.cx.lendLe (by assumption) | exact S.cx.lendEq (by assumption) | exact S.cx.lendLe0 | exact S.cx.lendEq0 | exact S.cx.partLe (by assumption) | exact S.cx.partEq (by assumption) | refine ⟨?_, ?_⟩))⟩ rfl (fun ln hln x hx => ⟨rfl, ?_⟩)
  obtain ⟨told0w, work0w⟩ := x
  cbv
  have hN_told0w := hln cBool told0w
  generalize ln (A.enc cBool told0w) = N_told0w at hN_told0w ⊢
  have hN_work0w := hln cInt64 work0w
  generalize ln (A.enc cInt64 work0w) = N_work0w at hN_work0w ⊢
  have hw := hx
  have hfew := spreadAll_few l_t ⟨told_s, work_s⟩
  rw [← hw] at hfew
  obtain ⟨b_told0w, b_work0w⟩ := hfew
  try dsimp only at b_told0w b_work0w
  try (refine Drawn.mk ⟨by kernel_rfl, fun _ => ?_⟩)
  refine ACall.valN (r := (fun x : List Node => .own 5 true (A.enc cNode x))) (os := fun _ => []) (dp := false) S.cx (toNodeS_c S l_t (Nat.le_trans b_l_t (by decide))) ⟨rfl, (by repeat' (first | exact trivial | exact rfl | exact Nat.le_refl _ | exact S.cx.giveEq | exact S.cx.lendLe (by assumption) | exact S.cx.lendEq (by assumption) | exact S.cx.lendLe0 | exact S.cx.lendEq0 | exact S.cx.partLe (by assumption) | exact S.cx.partEq (by assumption) | refine ⟨?_, ?_⟩)), (by repeat' (first | exact trivial | exact rfl | exact Nat.le_refl _ | exact S.cx.giveEq | exact S.cx.lendLe (by assumption) | exact S.cx.lendEq (by assumption) | exact S.cx.lendLe0 | exact S.cx.lendEq0 | exact S.cx.partLe (by assumption) | exact S.cx.partEq (by assumption) | refine ⟨?_, ?_⟩))⟩ rfl (fun ln hln l_tx hx => ⟨rfl, ?_⟩)
  cases hx
  cbv
  have hnb_l_t := hln cNode l_t
  generalize ln (A.enc cNode l_t) = nb_l_t at hnb_l_t ⊢
  try (refine Drawn.mk ⟨by kernel_rfl, fun _ => ?_⟩)
  refine ACall.valN (r := (fun x : Spread => .agg (ownSpread A x))) (os := fun _ => []) (dp := false) S.cx (toSpread_c S ⟨told_s, work_s⟩ ⟨(Nat.le_trans b_told_s (by decide)), (Nat.le_trans b_work_s (by decide))⟩) ⟨rfl, (by repeat' (first | exact trivial | exact rfl | exact Nat.le_refl _ | exact S.cx.giveEq | exact S.cx.lendLe (by assumption) | exact S.cx.lendEq (by assumption) | exact S.cx.lendLe0 | exact S.cx.lendEq0 | exact S.cx.partLe (by assumption) | exact S.cx.partEq (by assumption) | refine ⟨?_, ?_⟩)), (by repeat' (first | exact trivial | exact rfl | exact Nat.le_refl _ | exact S.cx.giveEq | exact S.cx.lendLe (by assumption) | exact S.cx.lendEq (by assumption) | exact S.cx.lendLe0 | exact S.cx.lendEq0 | exact S.cx.partLe (by assumption) | exact S.cx.partEq (by assumption) | refine ⟨?_, ?_⟩))⟩ rfl (fun ln hln x hx => ⟨rfl, ?_⟩)
  obtain ⟨told_sx, work_sx⟩ := x
  cases hx
  cbv
  have hnb_told_s := hln cBool told_s
  generalize ln (A.enc cBool told_s) = nb_told_s at hnb_told_s ⊢
  have hnb_work_s := hln cInt64 work_s
  generalize ln (A.enc cInt64 work_s) = nb_work_s at hnb_work_s ⊢
  try (refine Drawn.mk ⟨by kernel_rfl, fun _ => ?_⟩)
  refine ACall.valN (r := rSp A) (os := fun _ => []) (dp := false) S.cx (implSpreadAll_c S l_t told_s work_s) ⟨rfl, (by repeat' (first | exact trivial | exact rfl | exact Nat.le_refl _ | exact S.cx.giveEq | exact S.cx.lendLe (by assumption) | exact S.cx.lendEq (by assumption) | exact S.cx.lendLe0 | exact S.cx.lendEq0 | exact S.cx.partLe (by assumption) | exact S.cx.partEq (by assumption) | refine ⟨?_, ?_⟩)), (by repeat' (first | exact trivial | exact rfl | exact Nat.le_refl _ | exact S.cx.giveEq | exact S.cx.lendLe (by assumption) | exact S.cx.lendEq (by assumption) | exact S.cx.lendLe0 | exact S.cx.lendEq0 | exact S.cx.partLe (by assumption) | exact S.cx.partEq (by assumption) | refine ⟨?_, ?_⟩))⟩ rfl (fun ln hln x hx => ⟨rfl, ?_⟩)
  obtain ⟨told0g, work0g⟩ := x
  cbv
  have hN_told0g := hln cBool told0g
  generalize ln (A.enc cBool told0g) = N_told0g at hN_told0g ⊢
  have hN_work0g := hln cInt64 work0g
  generalize ln (A.enc cInt64 work0g) = N_work0g at hN_work0g ⊢
  cases hx.trans hw.symm
  try (refine Drawn.mk ⟨by kernel_rfl, fun _ => ?_⟩)
  refine ACall.testD (dp := false) (eqSpread_c S ⟨told0w, work0w⟩ ⟨told0w, work0w⟩) ⟨rfl, (by repeat' (first | exact trivial | exact rfl | exact Nat.le_refl _ | exact S.cx.giveEq | exact S.cx.lendLe (by assumption) | exact S.cx.lendEq (by assumption) | exact S.cx.lendLe0 | exact S.cx.lendEq0 | exact S.cx.partLe (by assumption) | exact S.cx.partEq (by assumption) | refine ⟨?_, ?_⟩)), (by repeat' (first | exact trivial | exact rfl | exact Nat.le_refl _ | exact S.cx.giveEq | exact S.cx.lendLe (by assumption) | exact S.cx.lendEq (by assumption) | exact S.cx.lendLe0 | exact S.cx.lendEq0 | exact S.cx.partLe (by assumption) | exact S.cx.partEq (by assumption) | refine ⟨?_, ?_⟩))⟩ rfl (fun h => ?_) (fun h => ?_) <;> cbv
  rotate_left
  · exact absurd rfl h
  try (refine Drawn.mk ⟨by kernel_rfl, fun _ => ?_⟩)
  refine ACall.valN (r := (fun x : List Node => .own 5 true (A.enc cNode x))) (os := fun _ => []) (dp := false) S.cx (toNodeS_c S l_t (Nat.le_trans b_l_t (by decide))) ⟨rfl, (by repeat' (first | exact trivial | exact rfl | exact Nat.le_refl _ | exact S.cx.giveEq | exact S.cx.lendLe (by assumption) | exact S.cx.lendEq (by assumption) | exact S.cx.lendLe0 | exact S.cx.lendEq0 | exact S.cx.partLe (by assumption) | exact S.cx.partEq (by assumption) | refine ⟨?_, ?_⟩)), (by repeat' (first | exact trivial | exact rfl | exact Nat.le_refl _ | exact S.cx.giveEq | exact S.cx.lendLe (by assumption) | exact S.cx.lendEq (by assumption) | exact S.cx.lendLe0 | exact S.cx.lendEq0 | exact S.cx.partLe (by assumption) | exact S.cx.partEq (by assumption) | refine ⟨?_, ?_⟩))⟩ rfl (fun ln hln l_tx hx => ⟨rfl, ?_⟩)
  cases hx
  cbv
  have hnc_l_t := hln cNode l_t
  generalize ln (A.enc cNode l_t) = nc_l_t at hnc_l_t ⊢
  try (refine Drawn.mk ⟨by kernel_rfl, fun _ => ?_⟩)
  refine ACall.testD (dp := false) (eqNodeS_c S l_t l_t) ⟨rfl, (by repeat' (first | exact trivial | exact rfl | exact Nat.le_refl _ | exact S.cx.giveEq | exact S.cx.lendLe (by assumption) | exact S.cx.lendEq (by assumption) | exact S.cx.lendLe0 | exact S.cx.lendEq0 | exact S.cx.partLe (by assumption) | exact S.cx.partEq (by assumption) | refine ⟨?_, ?_⟩)), (by repeat' (first | exact trivial | exact rfl | exact Nat.le_refl _ | exact S.cx.giveEq | exact S.cx.lendLe (by assumption) | exact S.cx.lendEq (by assumption) | exact S.cx.lendLe0 | exact S.cx.lendEq0 | exact S.cx.partLe (by assumption) | exact S.cx.partEq (by assumption) | refine ⟨?_, ?_⟩))⟩ rfl (fun h => ?_) (fun h => ?_) <;> cbv
  rotate_left
  · exact absurd rfl h
  try (refine Drawn.mk ⟨by kernel_rfl, fun _ => ?_⟩)
  refine ACall.valN (r := (fun x : Spread => .agg (ownSpread A x))) (os := fun _ => []) (dp := false) S.cx (toSpread_c S ⟨told_s, work_s⟩ ⟨(Nat.le_trans b_told_s (by decide)), (Nat.le_trans b_work_s (by decide))⟩) ⟨rfl, (by repeat' (first | exact trivial | exact rfl | exact Nat.le_refl _ | exact S.cx.giveEq | exact S.cx.lendLe (by assumption) | exact S.cx.lendEq (by assumption) | exact S.cx.lendLe0 | exact S.cx.lendEq0 | exact S.cx.partLe (by assumption) | exact S.cx.partEq (by assumption) | refine ⟨?_, ?_⟩)), (by repeat' (first | exact trivial | exact rfl | exact Nat.le_refl _ | exact S.cx.giveEq | exact S.cx.lendLe (by assumption) | exact S.cx.lendEq (by assumption) | exact S.cx.lendLe0 | exact S.cx.lendEq0 | exact S.cx.partLe (by assumption) | exact S.cx.partEq (by assumption) | refine ⟨?_, ?_⟩))⟩ rfl (fun ln hln x hx => ⟨rfl, ?_⟩)
  obtain ⟨told_sx, work_sx⟩ := x
  cases hx
  cbv
  have hnc_told_s := hln cBool told_s
  generalize ln (A.enc cBool told_s) = nc_told_s at hnc_told_s ⊢
  have hnc_work_s := hln cInt64 work_s
  generalize ln (A.enc cInt64 work_s) = nc_work_s at hnc_work_s ⊢
  try (refine Drawn.mk ⟨by kernel_rfl, fun _ => ?_⟩)
  refine ACall.testD (dp := false) (eqSpread_c S ⟨told_s, work_s⟩ ⟨told_s, work_s⟩) ⟨rfl, (by repeat' (first | exact trivial | exact rfl | exact Nat.le_refl _ | exact S.cx.giveEq | exact S.cx.lendLe (by assumption) | exact S.cx.lendEq (by assumption) | exact S.cx.lendLe0 | exact S.cx.lendEq0 | exact S.cx.partLe (by assumption) | exact S.cx.partEq (by assumption) | refine ⟨?_, ?_⟩)), (by repeat' (first | exact trivial | exact rfl | exact Nat.le_refl _ | exact S.cx.giveEq | exact S.cx.lendLe (by assumption) | exact S.cx.lendEq (by assumption) | exact S.cx.lendLe0 | exact S.cx.lendEq0 | exact S.cx.partLe (by assumption) | exact S.cx.partEq (by assumption) | refine ⟨?_, ?_⟩))⟩ rfl (fun h => ?_) (fun h => ?_) <;> cbv
  rotate_left
  · exact absurd rfl h
  try (refine Drawn.mk ⟨by kernel_rfl, fun _ => ?_⟩)
  refine ACall.mut1 (dp := false) (markNodeS_c S l_t nb_l_t hnb_l_t 1 (by lia) (by lia)) ⟨rfl, (by repeat' (first | exact trivial | exact rfl | exact Nat.le_refl _ | exact S.cx.giveEq | exact S.cx.lendLe (by assumption) | exact S.cx.lendEq (by assumption) | exact S.cx.lendLe0 | exact S.cx.lendEq0 | exact S.cx.partLe (by assumption) | exact S.cx.partEq (by assumption) | refine ⟨?_, ?_⟩)), (by repeat' (first | exact trivial | exact rfl | exact Nat.le_refl _ | exact S.cx.giveEq | exact S.cx.lendLe (by assumption) | exact S.cx.lendEq (by assumption) | exact S.cx.lendLe0 | exact S.cx.lendEq0 | exact S.cx.partLe (by assumption) | exact S.cx.partEq (by assumption) | refine ⟨?_, ?_⟩))⟩ rfl (fun k_t mk_l_t hk_t ek_l_t => ⟨rfl, ?_⟩); cbv
  try (refine Drawn.mk ⟨by kernel_rfl, fun _ => ?_⟩)
  refine ACall.mut2 (dp := false) (markSpread_c S told_s work_s nb_told_s hnb_told_s nb_work_s hnb_work_s k_t (by lia) (by lia)) ⟨rfl, (by repeat' (first | exact trivial | exact rfl | exact Nat.le_refl _ | exact S.cx.giveEq | exact S.cx.lendLe (by assumption) | exact S.cx.lendEq (by assumption) | exact S.cx.lendLe0 | exact S.cx.lendEq0 | exact S.cx.partLe (by assumption) | exact S.cx.partEq (by assumption) | refine ⟨?_, ?_⟩)), (by repeat' (first | exact trivial | exact rfl | exact Nat.le_refl _ | exact S.cx.giveEq | exact S.cx.lendLe (by assumption) | exact S.cx.lendEq (by assumption) | exact S.cx.lendLe0 | exact S.cx.lendEq0 | exact S.cx.partLe (by assumption) | exact S.cx.partEq (by assumption) | refine ⟨?_, ?_⟩))⟩ rfl (fun k_s mk_told_s mk_work_s hk_s ek_told_s ek_work_s => ⟨rfl, ?_⟩); cbv
  refine Test.lss (fun h => ?_) (fun h => ?_) <;> cbv
  · exfalso; lia
  try (refine Drawn.mk ⟨by kernel_rfl, fun _ => ?_⟩)
  refine ACall.testD (dp := false) (eqSpread_c S ⟨told0w, work0w⟩ ⟨told0w, work0w⟩) ⟨rfl, (by repeat' (first | exact trivial | exact rfl | exact Nat.le_refl _ | exact S.cx.giveEq | exact S.cx.lendLe (by assumption) | exact S.cx.lendEq (by assumption) | exact S.cx.lendLe0 | exact S.cx.lendEq0 | exact S.cx.partLe (by assumption) | exact S.cx.partEq (by assumption) | refine ⟨?_, ?_⟩)), (by repeat' (first | exact trivial | exact rfl | exact Nat.le_refl _ | exact S.cx.giveEq | exact S.cx.lendLe (by assumption) | exact S.cx.lendEq (by assumption) | exact S.cx.lendLe0 | exact S.cx.lendEq0 | exact S.cx.partLe (by assumption) | exact S.cx.partEq (by assumption) | refine ⟨?_, ?_⟩))⟩ rfl (fun h => ?_) (fun h => ?_) <;> cbv
  rotate_left
  · exact absurd rfl h
  try (refine Drawn.mk ⟨by kernel_rfl, fun _ => ?_⟩)
  refine ACall.mut2 (dp := false) (markSpread_c S told0w work0w N_told0g hN_told0g N_work0g hN_work0g 1 (by lia) (by lia)) ⟨rfl, (by repeat' (first | exact trivial | exact rfl | exact Nat.le_refl _ | exact S.cx.giveEq | exact S.cx.lendLe (by assumption) | exact S.cx.lendEq (by assumption) | exact S.cx.lendLe0 | exact S.cx.lendEq0 | exact S.cx.partLe (by assumption) | exact S.cx.partEq (by assumption) | refine ⟨?_, ?_⟩)), (by repeat' (first | exact trivial | exact rfl | exact Nat.le_refl _ | exact S.cx.giveEq | exact S.cx.lendLe (by assumption) | exact S.cx.lendEq (by assumption) | exact S.cx.lendLe0 | exact S.cx.lendEq0 | exact S.cx.partLe (by assumption) | exact S.cx.partEq (by assumption) | refine ⟨?_, ?_⟩))⟩ rfl (fun m_0 mm_told0w mm_work0w hm_0 em_told0w em_work0w => ⟨rfl, ?_⟩); cbv
  have l_told0w : mm_told0w.length = N_told0g := by rw [em_told0w, marks_len]
  have l_told0w_ := l_told0w.symm
  have l_work0w : mm_work0w.length = N_work0g := by rw [em_work0w, marks_len]
  have l_work0w_ := l_work0w.symm
  try (refine Drawn.mk ⟨by kernel_rfl, fun _ => ?_⟩)
  refine ACall.int (dp := false) (heldSpread_c S ⟨mm_told0w, mm_work0w⟩ 1 (by lia) (by dsimp only; lia) (by dsimp only; rw [l_told0w]; exact em_told0w) (by dsimp only; rw [l_work0w, l_told0w]; exact em_work0w)) ⟨rfl, (by repeat' (first | exact trivial | exact rfl | exact Nat.le_refl _ | exact S.cx.giveEq | exact S.cx.lendLe (by assumption) | exact S.cx.lendEq (by assumption) | exact S.cx.lendLe0 | exact S.cx.lendEq0 | exact S.cx.partLe (by assumption) | exact S.cx.partEq (by assumption) | refine ⟨?_, ?_⟩)), (by repeat' (first | exact trivial | exact rfl | exact Nat.le_refl _ | exact S.cx.giveEq | exact S.cx.lendLe (by assumption) | exact S.cx.lendEq (by assumption) | exact S.cx.lendLe0 | exact S.cx.lendEq0 | exact S.cx.partLe (by assumption) | exact S.cx.partEq (by assumption) | refine ⟨?_, ?_⟩))⟩ rfl (fun qq_0 hqq_0 => ?_); cbv
  dsimp only at hqq_0
  refine Test.lss (fun h => ?_) (fun h => ?_) <;> cbv
  · exfalso; lia
  refine Test.neq (fun h => ?_) (fun h => ?_) <;> cbv
  · exfalso; lia
  try (refine Drawn.mk ⟨by kernel_rfl, fun _ => ?_⟩)
  refine ACall.valN (r := (fun x : List Node => .own 5 true (A.enc cNode x))) (os := fun _ => []) (dp := false) S.cx (toNodeS_c S l_t (Nat.le_trans b_l_t (by decide))) ⟨rfl, (by repeat' (first | exact trivial | exact rfl | exact Nat.le_refl _ | exact S.cx.giveEq | exact S.cx.lendLe (by assumption) | exact S.cx.lendEq (by assumption) | exact S.cx.lendLe0 | exact S.cx.lendEq0 | exact S.cx.partLe (by assumption) | exact S.cx.partEq (by assumption) | refine ⟨?_, ?_⟩)), (by repeat' (first | exact trivial | exact rfl | exact Nat.le_refl _ | exact S.cx.giveEq | exact S.cx.lendLe (by assumption) | exact S.cx.lendEq (by assumption) | exact S.cx.lendLe0 | exact S.cx.lendEq0 | exact S.cx.partLe (by assumption) | exact S.cx.partEq (by assumption) | refine ⟨?_, ?_⟩))⟩ rfl (fun ln hln l_tx hx => ⟨rfl, ?_⟩)
  cases hx
  cbv
  have hnd_l_t := hln cNode l_t
  generalize ln (A.enc cNode l_t) = nd_l_t at hnd_l_t ⊢
  try (refine Drawn.mk ⟨by kernel_rfl, fun _ => ?_⟩)
  refine ACall.valN (r := (fun x : Spread => .agg (ownSpread A x))) (os := fun _ => []) (dp := false) S.cx (toSpread_c S ⟨told_s, work_s⟩ ⟨(Nat.le_trans b_told_s (by decide)), (Nat.le_trans b_work_s (by decide))⟩) ⟨rfl, (by repeat' (first | exact trivial | exact rfl | exact Nat.le_refl _ | exact S.cx.giveEq | exact S.cx.lendLe (by assumption) | exact S.cx.lendEq (by assumption) | exact S.cx.lendLe0 | exact S.cx.lendEq0 | exact S.cx.partLe (by assumption) | exact S.cx.partEq (by assumption) | refine ⟨?_, ?_⟩)), (by repeat' (first | exact trivial | exact rfl | exact Nat.le_refl _ | exact S.cx.giveEq | exact S.cx.lendLe (by assumption) | exact S.cx.lendEq (by assumption) | exact S.cx.lendLe0 | exact S.cx.lendEq0 | exact S.cx.partLe (by assumption) | exact S.cx.partEq (by assumption) | refine ⟨?_, ?_⟩))⟩ rfl (fun ln hln x hx => ⟨rfl, ?_⟩)
  obtain ⟨told_sx, work_sx⟩ := x
  cases hx
  cbv
  have hnd_told_s := hln cBool told_s
  generalize ln (A.enc cBool told_s) = nd_told_s at hnd_told_s ⊢
  have hnd_work_s := hln cInt64 work_s
  generalize ln (A.enc cInt64 work_s) = nd_work_s at hnd_work_s ⊢
  try (refine Drawn.mk ⟨by kernel_rfl, fun _ => ?_⟩)
  refine ACall.valN (r := rSp A) (os := fun _ => []) (dp := false) S.cx (implSpreadAll_c S l_t told_s work_s) ⟨rfl, (by repeat' (first | exact trivial | exact rfl | exact Nat.le_refl _ | exact S.cx.giveEq | exact S.cx.lendLe (by assumption) | exact S.cx.lendEq (by assumption) | exact S.cx.lendLe0 | exact S.cx.lendEq0 | exact S.cx.partLe (by assumption) | exact S.cx.partEq (by assumption) | refine ⟨?_, ?_⟩)), (by repeat' (first | exact trivial | exact rfl | exact Nat.le_refl _ | exact S.cx.giveEq | exact S.cx.lendLe (by assumption) | exact S.cx.lendEq (by assumption) | exact S.cx.lendLe0 | exact S.cx.lendEq0 | exact S.cx.partLe (by assumption) | exact S.cx.partEq (by assumption) | refine ⟨?_, ?_⟩))⟩ rfl (fun ln hln x hx => ⟨rfl, ?_⟩)
  obtain ⟨told0h, work0h⟩ := x
  cbv
  have hN_told0h := hln cBool told0h
  generalize ln (A.enc cBool told0h) = N_told0h at hN_told0h ⊢
  have hN_work0h := hln cInt64 work0h
  generalize ln (A.enc cInt64 work0h) = N_work0h at hN_work0h ⊢
  cases hx.trans hw.symm
  try (refine Drawn.mk ⟨by kernel_rfl, fun _ => ?_⟩)
  refine ACall.testD (dp := false) (eqSpread_c S ⟨told0w, work0w⟩ ⟨told0w, work0w⟩) ⟨rfl, (by repeat' (first | exact trivial | exact rfl | exact Nat.le_refl _ | exact S.cx.giveEq | exact S.cx.lendLe (by assumption) | exact S.cx.lendEq (by assumption) | exact S.cx.lendLe0 | exact S.cx.lendEq0 | exact S.cx.partLe (by assumption) | exact S.cx.partEq (by assumption) | refine ⟨?_, ?_⟩)), (by repeat' (first | exact trivial | exact rfl | exact Nat.le_refl _ | exact S.cx.giveEq | exact S.cx.lendLe (by assumption) | exact S.cx.lendEq (by assumption) | exact S.cx.lendLe0 | exact S.cx.lendEq0 | exact S.cx.partLe (by assumption) | exact S.cx.partEq (by assumption) | refine ⟨?_, ?_⟩))⟩ rfl (fun h => ?_) (fun h => ?_) <;> cbv
  rotate_left
  · exact absurd rfl h
  try (refine Drawn.mk ⟨by kernel_rfl, fun _ => ?_⟩)
  refine ACall.int (dp := false) (heldSpread_c S ⟨mm_told0w, mm_work0w⟩ 1 (by lia) (by dsimp only; lia) (by dsimp only; rw [l_told0w]; exact em_told0w) (by dsimp only; rw [l_work0w, l_told0w]; exact em_work0w)) ⟨rfl, (by repeat' (first | exact trivial | exact rfl | exact Nat.le_refl _ | exact S.cx.giveEq | exact S.cx.lendLe (by assumption) | exact S.cx.lendEq (by assumption) | exact S.cx.lendLe0 | exact S.cx.lendEq0 | exact S.cx.partLe (by assumption) | exact S.cx.partEq (by assumption) | refine ⟨?_, ?_⟩)), (by repeat' (first | exact trivial | exact rfl | exact Nat.le_refl _ | exact S.cx.giveEq | exact S.cx.lendLe (by assumption) | exact S.cx.lendEq (by assumption) | exact S.cx.lendLe0 | exact S.cx.lendEq0 | exact S.cx.partLe (by assumption) | exact S.cx.partEq (by assumption) | refine ⟨?_, ?_⟩))⟩ rfl (fun qr_0 hqr_0 => ?_); cbv
  dsimp only at hqr_0
  refine Test.lss (fun h => ?_) (fun h => ?_) <;> cbv
  · exfalso; lia
  refine Test.neq (fun h => ?_) (fun h => ?_) <;> cbv
  · exfalso; lia
  exact Done.to (.bool true) [] rfl rfl trivial ⟨rfl, rfl⟩

end Go.Proofs.Ytmbckmfihcojoaa.AM
