/- Contracts: the law Passed of groups. (printed by gk1.py) -/
import Derived.Test.YtmpbmfhlkhonkaaJ5
import Derived.Test.YtmpbmfhlkhonkaaG5
namespace Go.Proofs.Ytmpbmfhlkhonkaa.AM
open Go Go.Proofs

set_option maxRecDepth 100000
set_option maxHeartbeats 4000000
set_option linter.unusedVariables false
set_option linter.unusedSimpArgs false

variable {P : Program} {A : Sy}

theorem passed_few (g : Group) (t : Int) (h : g.waits.length ≤ 1048576) : (Passed g t).1.waits.length ≤ 1048577 := by
  unfold Passed; split
  · split
    · simp; omega
    · exact Nat.le_succ_of_le h
  · exact Nat.zero_le _

theorem lawPassed_c (S : Se P A) (node_g : Int) (limit_g : Int) (active_g : Int) (waits_g : List Int) (first_g : Int) (err : Int) : Is1 P 14 [.agg (roGroup A ⟨node_g, limit_g, active_g, waits_g, first_g⟩), .int .i64 err] (.bool true) := by
  refine S.cx.by (S.prog ▸ Try.func14) rfl rfl rfl rfl (fun hv ho => ?_)
  cbv
  refine ACall.num (dp := false) (szGroup_c S ⟨node_g, limit_g, active_g, waits_g, first_g⟩ 1048576 (by lia)) ⟨rfl, (by repeat' (first | exact trivial | exact rfl | exact Nat.le_refl _ | exact S.cx.giveEq | exact S.cx.lendLe (by assumption) | exact S.cx.lendEq (by assumption) | exact S.cx.lendLe0 | exact S.cx.lendEq0 | exact S.cx.partLe (by assumption) | exact S.cx.partEq (by assumption) | refine ⟨?_, ?_⟩)), (by repeat' (first | exact trivial | exact rfl | exact Nat.le_refl _ | exact S.cx.giveEq | exact S.cx.lendLe (by assumption) | exact S.cx.lendEq (by assumption) | exact S.cx.lendLe0 | exact S.cx.lendEq0 | exact S.cx.partLe (by assumption) | exact S.cx.partEq (by assumption) | refine ⟨?_, ?_⟩))⟩ (fun q_g hq_g => ?_); cbv
  refine Test.lss (fun h => ?_) (fun h => ?_) <;> cbv
  · exact Done.to (.bool true) [] rfl rfl trivial ⟨rfl, rfl⟩
  replace hq_g := hq_g.resolve_left (by lia)
  simp only [Group.total] at hq_g
  have b_waits_g : waits_g.length ≤ 1048576 := by lia
  refine ACall.valN (r := (fun x : Group => .agg (ownGroup A x))) (os := fun _ => []) (dp := false) S.cx (toGroup_c S ⟨node_g, limit_g, active_g, waits_g, first_g⟩ (Nat.le_trans b_waits_g (by decide))) ⟨rfl, (by repeat' (first | exact trivial | exact rfl | exact Nat.le_refl _ | exact S.cx.giveEq | exact S.cx.lendLe (by assumption) | exact S.cx.lendEq (by assumption) | exact S.cx.lendLe0 | exact S.cx.lendEq0 | exact S.cx.partLe (by assumption) | exact S.cx.partEq (by assumption) | refine ⟨?_, ?_⟩)), (by repeat' (first | exact trivial | exact rfl | exact Nat.le_refl _ | exact S.cx.giveEq | exact S.cx.lendLe (by assumption) | exact S.cx.lendEq (by assumption) | exact S.cx.lendLe0 | exact S.cx.lendEq0 | exact S.cx.partLe (by assumption) | exact S.cx.partEq (by assumption) | refine ⟨?_, ?_⟩))⟩ rfl (fun ln hln x hx => ⟨rfl, ?_⟩)
  obtain ⟨node_gx, limit_gx, active_gx, waits_gx, first_gx⟩ := x
  cases hx
  cbv
  have hna_waits_g := hln cInt64 waits_g
  generalize ln (A.enc cInt64 waits_g) = na_waits_g at hna_waits_g ⊢
  refine ACall.valN (r := rGIBB A) (os := fun _ => []) (dp := false) S.cx (specPassed_c S node_g limit_g active_g waits_g first_g err (Nat.le_trans b_waits_g (by decide))) ⟨rfl, (by repeat' (first | exact trivial | exact rfl | exact Nat.le_refl _ | exact S.cx.giveEq | exact S.cx.lendLe (by assumption) | exact S.cx.lendEq (by assumption) | exact S.cx.lendLe0 | exact S.cx.lendEq0 | exact S.cx.partLe (by assumption) | exact S.cx.partEq (by assumption) | refine ⟨?_, ?_⟩)), (by repeat' (first | exact trivial | exact rfl | exact Nat.le_refl _ | exact S.cx.giveEq | exact S.cx.lendLe (by assumption) | exact S.cx.lendEq (by assumption) | exact S.cx.lendLe0 | exact S.cx.lendEq0 | exact S.cx.partLe (by assumption) | exact S.cx.partEq (by assumption) | refine ⟨?_, ?_⟩))⟩ rfl (fun ln hln x hx => ⟨rfl, ?_⟩)
  obtain ⟨⟨node0w, limit0w, active0w, waits0w, first0w⟩, v1w, v2w, v3w⟩ := x
  cbv
  have hN_waits0w := hln cInt64 waits0w
  generalize ln (A.enc cInt64 waits0w) = N_waits0w at hN_waits0w ⊢
  have hw := hx
  have hfew := passed_few ⟨node_g, limit_g, active_g, waits_g, first_g⟩ err b_waits_g
  rw [← hw] at hfew
  have b_waits0w := hfew
  dsimp only at b_waits0w
  cases v2w <;> cases v3w
  all_goals
    refine ACall.valN (r := (fun x : Group => .agg (ownGroup A x))) (os := fun _ => []) (dp := false) S.cx (toGroup_c S ⟨node_g, limit_g, active_g, waits_g, first_g⟩ (Nat.le_trans b_waits_g (by decide))) ⟨rfl, (by repeat' (first | exact trivial | exact rfl | exact Nat.le_refl _ | exact S.cx.giveEq | exact S.cx.lendLe (by assumption) | exact S.cx.lendEq (by assumption) | exact S.cx.lendLe0 | exact S.cx.lendEq0 | exact S.cx.partLe (by assumption) | exact S.cx.partEq (by assumption) | refine ⟨?_, ?_⟩)), (by repeat' (first | exact trivial | exact rfl | exact Nat.le_refl _ | exact S.cx.giveEq | exact S.cx.lendLe (by assumption) | exact S.cx.lendEq (by assumption) | exact S.cx.lendLe0 | exact S.cx.lendEq0 | exact S.cx.partLe (by assumption) | exact S.cx.partEq (by assumption) | refine ⟨?_, ?_⟩))⟩ rfl (fun ln hln x hx => ⟨rfl, ?_⟩)
    obtain ⟨node_gx, limit_gx, active_gx, waits_gx, first_gx⟩ := x
    cases hx
    cbv
    have hnb_waits_g := hln cInt64 waits_g
    generalize ln (A.enc cInt64 waits_g) = nb_waits_g at hnb_waits_g ⊢
    refine ACall.valN (r := rGIBB A) (os := fun _ => []) (dp := false) S.cx (implPassed_c S node_g limit_g active_g waits_g first_g err (Nat.le_trans b_waits_g (by decide))) ⟨rfl, (by repeat' (first | exact trivial | exact rfl | exact Nat.le_refl _ | exact S.cx.giveEq | exact S.cx.lendLe (by assumption) | exact S.cx.lendEq (by assumption) | exact S.cx.lendLe0 | exact S.cx.lendEq0 | exact S.cx.partLe (by assumption) | exact S.cx.partEq (by assumption) | refine ⟨?_, ?_⟩)), (by repeat' (first | exact trivial | exact rfl | exact Nat.le_refl _ | exact S.cx.giveEq | exact S.cx.lendLe (by assumption) | exact S.cx.lendEq (by assumption) | exact S.cx.lendLe0 | exact S.cx.lendEq0 | exact S.cx.partLe (by assumption) | exact S.cx.partEq (by assumption) | refine ⟨?_, ?_⟩))⟩ rfl (fun ln hln x hx => ⟨rfl, ?_⟩)
    obtain ⟨⟨node0g, limit0g, active0g, waits0g, first0g⟩, v1g, v2g, v3g⟩ := x
    cbv
    have hN_waits0g := hln cInt64 waits0g
    generalize ln (A.enc cInt64 waits0g) = N_waits0g at hN_waits0g ⊢
    cases hx.trans hw.symm
    refine ACall.testD (dp := false) (eqGroup_c S ⟨node0w, limit0w, active0w, waits0w, first0w⟩ ⟨node0w, limit0w, active0w, waits0w, first0w⟩) ⟨rfl, (by repeat' (first | exact trivial | exact rfl | exact Nat.le_refl _ | exact S.cx.giveEq | exact S.cx.lendLe (by assumption) | exact S.cx.lendEq (by assumption) | exact S.cx.lendLe0 | exact S.cx.lendEq0 | exact S.cx.partLe (by assumption) | exact S.cx.partEq (by assumption) | refine ⟨?_, ?_⟩)), (by repeat' (first | exact trivial | exact rfl | exact Nat.le_refl _ | exact S.cx.giveEq | exact S.cx.lendLe (by assumption) | exact S.cx.lendEq (by assumption) | exact S.cx.lendLe0 | exact S.cx.lendEq0 | exact S.cx.partLe (by assumption) | exact S.cx.partEq (by assumption) | refine ⟨?_, ?_⟩))⟩ rfl (fun h => ?_) (fun h => ?_) <;> cbv
    rotate_left
    · exact absurd rfl h
    refine Test.neq (fun h => ?_) (fun h => ?_) <;> cbv
    · exact absurd rfl h
    refine ⟨⟨by kernel_rfl, fun _ => ?_⟩⟩
    refine ACall.valN (r := (fun x : Group => .agg (ownGroup A x))) (os := fun _ => []) (dp := false) S.cx (toGroup_c S ⟨node_g, limit_g, active_g, waits_g, first_g⟩ (Nat.le_trans b_waits_g (by decide))) ⟨rfl, (by repeat' (first | exact trivial | exact rfl | exact Nat.le_refl _ | exact S.cx.giveEq | exact S.cx.lendLe (by assumption) | exact S.cx.lendEq (by assumption) | exact S.cx.lendLe0 | exact S.cx.lendEq0 | exact S.cx.partLe (by assumption) | exact S.cx.partEq (by assumption) | refine ⟨?_, ?_⟩)), (by repeat' (first | exact trivial | exact rfl | exact Nat.le_refl _ | exact S.cx.giveEq | exact S.cx.lendLe (by assumption) | exact S.cx.lendEq (by assumption) | exact S.cx.lendLe0 | exact S.cx.lendEq0 | exact S.cx.partLe (by assumption) | exact S.cx.partEq (by assumption) | refine ⟨?_, ?_⟩))⟩ rfl (fun ln hln x hx => ⟨rfl, ?_⟩)
    obtain ⟨node_gx, limit_gx, active_gx, waits_gx, first_gx⟩ := x
    cases hx
    cbv
    have hnc_waits_g := hln cInt64 waits_g
    generalize ln (A.enc cInt64 waits_g) = nc_waits_g at hnc_waits_g ⊢
    refine ACall.testD (dp := false) (eqGroup_c S ⟨node_g, limit_g, active_g, waits_g, first_g⟩ ⟨node_g, limit_g, active_g, waits_g, first_g⟩) ⟨rfl, (by repeat' (first | exact trivial | exact rfl | exact Nat.le_refl _ | exact S.cx.giveEq | exact S.cx.lendLe (by assumption) | exact S.cx.lendEq (by assumption) | exact S.cx.lendLe0 | exact S.cx.lendEq0 | exact S.cx.partLe (by assumption) | exact S.cx.partEq (by assumption) | refine ⟨?_, ?_⟩)), (by repeat' (first | exact trivial | exact rfl | exact Nat.le_refl _ | exact S.cx.giveEq | exact S.cx.lendLe (by assumption) | exact S.cx.lendEq (by assumption) | exact S.cx.lendLe0 | exact S.cx.lendEq0 | exact S.cx.partLe (by assumption) | exact S.cx.partEq (by assumption) | refine ⟨?_, ?_⟩))⟩ rfl (fun h => ?_) (fun h => ?_) <;> cbv
    rotate_left
    · exact absurd rfl h
    refine ACall.mut1 (dp := false) (markGroup_c S node_g limit_g active_g waits_g first_g nb_waits_g hnb_waits_g 1 (by lia) (by lia)) ⟨rfl, (by repeat' (first | exact trivial | exact rfl | exact Nat.le_refl _ | exact S.cx.giveEq | exact S.cx.lendLe (by assumption) | exact S.cx.lendEq (by assumption) | exact S.cx.lendLe0 | exact S.cx.lendEq0 | exact S.cx.partLe (by assumption) | exact S.cx.partEq (by assumption) | refine ⟨?_, ?_⟩)), (by repeat' (first | exact trivial | exact rfl | exact Nat.le_refl _ | exact S.cx.giveEq | exact S.cx.lendLe (by assumption) | exact S.cx.lendEq (by assumption) | exact S.cx.lendLe0 | exact S.cx.lendEq0 | exact S.cx.partLe (by assumption) | exact S.cx.partEq (by assumption) | refine ⟨?_, ?_⟩))⟩ rfl (fun k_g mk_waits_g hk_g ek_waits_g => ⟨rfl, ?_⟩); cbv
    refine Test.lss (fun h => ?_) (fun h => ?_) <;> cbv
    · exfalso; lia
    refine ACall.testD (dp := false) (eqGroup_c S ⟨node0w, limit0w, active0w, waits0w, first0w⟩ ⟨node0w, limit0w, active0w, waits0w, first0w⟩) ⟨rfl, (by repeat' (first | exact trivial | exact rfl | exact Nat.le_refl _ | exact S.cx.giveEq | exact S.cx.lendLe (by assumption) | exact S.cx.lendEq (by assumption) | exact S.cx.lendLe0 | exact S.cx.lendEq0 | exact S.cx.partLe (by assumption) | exact S.cx.partEq (by assumption) | refine ⟨?_, ?_⟩)), (by repeat' (first | exact trivial | exact rfl | exact Nat.le_refl _ | exact S.cx.giveEq | exact S.cx.lendLe (by assumption) | exact S.cx.lendEq (by assumption) | exact S.cx.lendLe0 | exact S.cx.lendEq0 | exact S.cx.partLe (by assumption) | exact S.cx.partEq (by assumption) | refine ⟨?_, ?_⟩))⟩ rfl (fun h => ?_) (fun h => ?_) <;> cbv
    rotate_left
    · exact absurd rfl h
    refine Test.neq (fun h => ?_) (fun h => ?_) <;> cbv
    · exact absurd rfl h
    refine ACall.mut1 (dp := false) (markGroup_c S node0w limit0w active0w waits0w first0w N_waits0g hN_waits0g 1 (by lia) (by lia)) ⟨rfl, (by repeat' (first | exact trivial | exact rfl | exact Nat.le_refl _ | exact S.cx.giveEq | exact S.cx.lendLe (by assumption) | exact S.cx.lendEq (by assumption) | exact S.cx.lendLe0 | exact S.cx.lendEq0 | exact S.cx.partLe (by assumption) | exact S.cx.partEq (by assumption) | refine ⟨?_, ?_⟩)), (by repeat' (first | exact trivial | exact rfl | exact Nat.le_refl _ | exact S.cx.giveEq | exact S.cx.lendLe (by assumption) | exact S.cx.lendEq (by assumption) | exact S.cx.lendLe0 | exact S.cx.lendEq0 | exact S.cx.partLe (by assumption) | exact S.cx.partEq (by assumption) | refine ⟨?_, ?_⟩))⟩ rfl (fun m_0 mm_waits0w hm_0 em_waits0w => ⟨rfl, ?_⟩); cbv
    have l_waits0w : mm_waits0w.length = N_waits0g := by rw [em_waits0w, marks_len]
    have l_waits0w_ := l_waits0w.symm
    refine ACall.int (dp := false) (heldGroup_c S ⟨node0w, limit0w, active0w, mm_waits0w, first0w⟩ 1 (by lia) (by dsimp only; lia) (by dsimp only; rw [l_waits0w]; exact em_waits0w)) ⟨rfl, (by repeat' (first | exact trivial | exact rfl | exact Nat.le_refl _ | exact S.cx.giveEq | exact S.cx.lendLe (by assumption) | exact S.cx.lendEq (by assumption) | exact S.cx.lendLe0 | exact S.cx.lendEq0 | exact S.cx.partLe (by assumption) | exact S.cx.partEq (by assumption) | refine ⟨?_, ?_⟩)), (by repeat' (first | exact trivial | exact rfl | exact Nat.le_refl _ | exact S.cx.giveEq | exact S.cx.lendLe (by assumption) | exact S.cx.lendEq (by assumption) | exact S.cx.lendLe0 | exact S.cx.lendEq0 | exact S.cx.partLe (by assumption) | exact S.cx.partEq (by assumption) | refine ⟨?_, ?_⟩))⟩ rfl (fun qq_0 hqq_0 => ?_); cbv
    dsimp only at hqq_0
    refine Test.lss (fun h => ?_) (fun h => ?_) <;> cbv
    · exfalso; lia
    refine Test.neq (fun h => ?_) (fun h => ?_) <;> cbv
    · exfalso; lia
    refine ACall.valN (r := (fun x : Group => .agg (ownGroup A x))) (os := fun _ => []) (dp := false) S.cx (toGroup_c S ⟨node_g, limit_g, active_g, waits_g, first_g⟩ (Nat.le_trans b_waits_g (by decide))) ⟨rfl, (by repeat' (first | exact trivial | exact rfl | exact Nat.le_refl _ | exact S.cx.giveEq | exact S.cx.lendLe (by assumption) | exact S.cx.lendEq (by assumption) | exact S.cx.lendLe0 | exact S.cx.lendEq0 | exact S.cx.partLe (by assumption) | exact S.cx.partEq (by assumption) | refine ⟨?_, ?_⟩)), (by repeat' (first | exact trivial | exact rfl | exact Nat.le_refl _ | exact S.cx.giveEq | exact S.cx.lendLe (by assumption) | exact S.cx.lendEq (by assumption) | exact S.cx.lendLe0 | exact S.cx.lendEq0 | exact S.cx.partLe (by assumption) | exact S.cx.partEq (by assumption) | refine ⟨?_, ?_⟩))⟩ rfl (fun ln hln x hx => ⟨rfl, ?_⟩)
    obtain ⟨node_gx, limit_gx, active_gx, waits_gx, first_gx⟩ := x
    cases hx
    cbv
    have hnd_waits_g := hln cInt64 waits_g
    generalize ln (A.enc cInt64 waits_g) = nd_waits_g at hnd_waits_g ⊢
    refine ACall.valN (r := rGIBB A) (os := fun _ => []) (dp := false) S.cx (implPassed_c S node_g limit_g active_g waits_g first_g err (Nat.le_trans b_waits_g (by decide))) ⟨rfl, (by repeat' (first | exact trivial | exact rfl | exact Nat.le_refl _ | exact S.cx.giveEq | exact S.cx.lendLe (by assumption) | exact S.cx.lendEq (by assumption) | exact S.cx.lendLe0 | exact S.cx.lendEq0 | exact S.cx.partLe (by assumption) | exact S.cx.partEq (by assumption) | refine ⟨?_, ?_⟩)), (by repeat' (first | exact trivial | exact rfl | exact Nat.le_refl _ | exact S.cx.giveEq | exact S.cx.lendLe (by assumption) | exact S.cx.lendEq (by assumption) | exact S.cx.lendLe0 | exact S.cx.lendEq0 | exact S.cx.partLe (by assumption) | exact S.cx.partEq (by assumption) | refine ⟨?_, ?_⟩))⟩ rfl (fun ln hln x hx => ⟨rfl, ?_⟩)
    obtain ⟨⟨node0h, limit0h, active0h, waits0h, first0h⟩, v1h, v2h, v3h⟩ := x
    cbv
    have hN_waits0h := hln cInt64 waits0h
    generalize ln (A.enc cInt64 waits0h) = N_waits0h at hN_waits0h ⊢
    cases hx.trans hw.symm
    refine ACall.testD (dp := false) (eqGroup_c S ⟨node0w, limit0w, active0w, waits0w, first0w⟩ ⟨node0w, limit0w, active0w, waits0w, first0w⟩) ⟨rfl, (by repeat' (first | exact trivial | exact rfl | exact Nat.le_refl _ | exact S.cx.giveEq | exact S.cx.lendLe (by assumption) | exact S.cx.lendEq (by assumption) | exact S.cx.lendLe0 | exact S.cx.lendEq0 | exact S.cx.partLe (by assumption) | exact S.cx.partEq (by assumption) | refine ⟨?_, ?_⟩)), (by repeat' (first | exact trivial | exact rfl | exact Nat.le_refl _ | exact S.cx.giveEq | exact S.cx.lendLe (by assumption) | exact S.cx.lendEq (by assumption) | exact S.cx.lendLe0 | exact S.cx.lendEq0 | exact S.cx.partLe (by assumption) | exact S.cx.partEq (by assumption) | refine ⟨?_, ?_⟩))⟩ rfl (fun h => ?_) (fun h => ?_) <;> cbv
    rotate_left
    · exact absurd rfl h
    refine Test.neq (fun h => ?_) (fun h => ?_) <;> cbv
    · exact absurd rfl h
    refine ACall.int (dp := false) (heldGroup_c S ⟨node0w, limit0w, active0w, mm_waits0w, first0w⟩ 1 (by lia) (by dsimp only; lia) (by dsimp only; rw [l_waits0w]; exact em_waits0w)) ⟨rfl, (by repeat' (first | exact trivial | exact rfl | exact Nat.le_refl _ | exact S.cx.giveEq | exact S.cx.lendLe (by assumption) | exact S.cx.lendEq (by assumption) | exact S.cx.lendLe0 | exact S.cx.lendEq0 | exact S.cx.partLe (by assumption) | exact S.cx.partEq (by assumption) | refine ⟨?_, ?_⟩)), (by repeat' (first | exact trivial | exact rfl | exact Nat.le_refl _ | exact S.cx.giveEq | exact S.cx.lendLe (by assumption) | exact S.cx.lendEq (by assumption) | exact S.cx.lendLe0 | exact S.cx.lendEq0 | exact S.cx.partLe (by assumption) | exact S.cx.partEq (by assumption) | refine ⟨?_, ?_⟩))⟩ rfl (fun qr_0 hqr_0 => ?_); cbv
    dsimp only at hqr_0
    refine Test.lss (fun h => ?_) (fun h => ?_) <;> cbv
    · exfalso; lia
    refine Test.neq (fun h => ?_) (fun h => ?_) <;> cbv
    · exfalso; lia
    exact Done.to (.bool true) [] rfl rfl trivial ⟨rfl, rfl⟩

end Go.Proofs.Ytmpbmfhlkhonkaa.AM
