/- Contracts: the law Woken. (printed by gp4.py) -/
import Derived.Test.YtcbebidfnlkkeaaP4
import Derived.Test.YtcbebidfnlkkeaaG5
namespace Go.Proofs.Ytcbebidfnlkkeaa.AM
open Go Go.Proofs

set_option maxRecDepth 100000
set_option maxHeartbeats 4000000
set_option linter.unusedVariables false
set_option linter.unusedSimpArgs false

variable {P : Program} {A : Sy}

theorem woken_few (l : List Task) (why what reg : Int) : (Woken l why what reg).length ≤ 60 := by
  unfold Woken; split
  · rename_i h; simp; exact h.1
  · exact Nat.zero_le _

theorem lawWoken_c (S : Se P A) (l_l : List Task) (why : Int) (what : Int) (reg : Int) : Is1 P 9 [.ro (A.enc cTask l_l), .int .i64 why, .int .i64 what, .int .i64 reg] (.bool true) := by
  refine S.cx.by (S.prog ▸ Try.func9) rfl rfl rfl rfl (fun hv ho => ?_)
  cbv
  refine ACall.int (dp := false) (szTaskS_c S l_l 1048576 (by lia)) ⟨rfl, (by repeat' (first | exact trivial | exact rfl | exact Nat.le_refl _ | exact S.cx.giveEq | exact S.cx.lendLe (by assumption) | exact S.cx.lendEq (by assumption) | exact S.cx.lendLe0 | exact S.cx.lendEq0 | exact S.cx.partLe (by assumption) | exact S.cx.partEq (by assumption) | refine ⟨?_, ?_⟩)), (by repeat' (first | exact trivial | exact rfl | exact Nat.le_refl _ | exact S.cx.giveEq | exact S.cx.lendLe (by assumption) | exact S.cx.lendEq (by assumption) | exact S.cx.lendLe0 | exact S.cx.lendEq0 | exact S.cx.partLe (by assumption) | exact S.cx.partEq (by assumption) | refine ⟨?_, ?_⟩))⟩ rfl (fun q_l hq_l => ?_); cbv
  refine Test.lss (fun h => ?_) (fun h => ?_) <;> cbv
  · exact Done.to (.bool true) [] rfl rfl trivial ⟨rfl, rfl⟩
  replace hq_l : 0 ≤ q_l ∧ q_l = 1048576 - l_l.length := by split at hq_l <;> lia
  have b_l_l : l_l.length ≤ 1048576 := by lia
  refine ACall.valN (r := (fun x : List Task => .own 9 true (A.enc cTask x))) (os := fun _ => []) (dp := false) S.cx (toTaskS_c S l_l (Nat.le_trans b_l_l (by decide))) ⟨rfl, (by repeat' (first | exact trivial | exact rfl | exact Nat.le_refl _ | exact S.cx.giveEq | exact S.cx.lendLe (by assumption) | exact S.cx.lendEq (by assumption) | exact S.cx.lendLe0 | exact S.cx.lendEq0 | exact S.cx.partLe (by assumption) | exact S.cx.partEq (by assumption) | refine ⟨?_, ?_⟩)), (by repeat' (first | exact trivial | exact rfl | exact Nat.le_refl _ | exact S.cx.giveEq | exact S.cx.lendLe (by assumption) | exact S.cx.lendEq (by assumption) | exact S.cx.lendLe0 | exact S.cx.lendEq0 | exact S.cx.partLe (by assumption) | exact S.cx.partEq (by assumption) | refine ⟨?_, ?_⟩))⟩ rfl (fun ln hln l_lx hx => ⟨rfl, ?_⟩)
  cases hx
  cbv
  have hna_l_l := hln cTask l_l
  generalize ln (A.enc cTask l_l) = na_l_l at hna_l_l ⊢
  refine ACall.valN (r := rT A) (os := fun _ => []) (dp := false) S.cx (specWoken_c S l_l why what reg) ⟨rfl, (by repeat' (first | exact trivial | exact rfl | exact Nat.le_refl _ | exact S.cx.giveEq | exact S.cx.lendLe (by assumption) | exact S.cx.lendEq (by assumption) | exact S.cx.lendLe0 | exact S.cx.lendEq0 | exact S.cx.partLe (by assumption) | exact S.cx.partEq (by assumption) | refine ⟨?_, ?_⟩)), (by repeat' (first | exact trivial | exact rfl | exact Nat.le_refl _ | exact S.cx.giveEq | exact S.cx.lendLe (by assumption) | exact S.cx.lendEq (by assumption) | exact S.cx.lendLe0 | exact S.cx.lendEq0 | exact S.cx.partLe (by assumption) | exact S.cx.partEq (by assumption) | refine ⟨?_, ?_⟩))⟩ rfl (fun ln hln l0w hx => ⟨rfl, ?_⟩)
  cbv
  have hN_l0w := hln cTask l0w
  generalize ln (A.enc cTask l0w) = N_l0w at hN_l0w ⊢
  have hw := hx
  have hfew := woken_few l_l why what reg
  rw [← hw] at hfew
  have b_l0w := hfew
  try dsimp only at b_l0w
  refine ACall.valN (r := (fun x : List Task => .own 9 true (A.enc cTask x))) (os := fun _ => []) (dp := false) S.cx (toTaskS_c S l_l (Nat.le_trans b_l_l (by decide))) ⟨rfl, (by repeat' (first | exact trivial | exact rfl | exact Nat.le_refl _ | exact S.cx.giveEq | exact S.cx.lendLe (by assumption) | exact S.cx.lendEq (by assumption) | exact S.cx.lendLe0 | exact S.cx.lendEq0 | exact S.cx.partLe (by assumption) | exact S.cx.partEq (by assumption) | refine ⟨?_, ?_⟩)), (by repeat' (first | exact trivial | exact rfl | exact Nat.le_refl _ | exact S.cx.giveEq | exact S.cx.lendLe (by assumption) | exact S.cx.lendEq (by assumption) | exact S.cx.lendLe0 | exact S.cx.lendEq0 | exact S.cx.partLe (by assumption) | exact S.cx.partEq (by assumption) | refine ⟨?_, ?_⟩))⟩ rfl (fun ln hln l_lx hx => ⟨rfl, ?_⟩)
  cases hx
  cbv
  have hnb_l_l := hln cTask l_l
  generalize ln (A.enc cTask l_l) = nb_l_l at hnb_l_l ⊢
  refine ACall.valN (r := rT A) (os := fun _ => []) (dp := false) S.cx (implWoken_c S l_l why what reg) ⟨rfl, (by repeat' (first | exact trivial | exact rfl | exact Nat.le_refl _ | exact S.cx.giveEq | exact S.cx.lendLe (by assumption) | exact S.cx.lendEq (by assumption) | exact S.cx.lendLe0 | exact S.cx.lendEq0 | exact S.cx.partLe (by assumption) | exact S.cx.partEq (by assumption) | refine ⟨?_, ?_⟩)), (by repeat' (first | exact trivial | exact rfl | exact Nat.le_refl _ | exact S.cx.giveEq | exact S.cx.lendLe (by assumption) | exact S.cx.lendEq (by assumption) | exact S.cx.lendLe0 | exact S.cx.lendEq0 | exact S.cx.partLe (by assumption) | exact S.cx.partEq (by assumption) | refine ⟨?_, ?_⟩))⟩ rfl (fun ln hln l0g hx => ⟨rfl, ?_⟩)
  cbv
  have hN_l0g := hln cTask l0g
  generalize ln (A.enc cTask l0g) = N_l0g at hN_l0g ⊢
  cases hx.trans hw.symm
  refine ACall.testD (dp := false) (eqTaskS_c S l0w l0w) ⟨rfl, (by repeat' (first | exact trivial | exact rfl | exact Nat.le_refl _ | exact S.cx.giveEq | exact S.cx.lendLe (by assumption) | exact S.cx.lendEq (by assumption) | exact S.cx.lendLe0 | exact S.cx.lendEq0 | exact S.cx.partLe (by assumption) | exact S.cx.partEq (by assumption) | refine ⟨?_, ?_⟩)), (by repeat' (first | exact trivial | exact rfl | exact Nat.le_refl _ | exact S.cx.giveEq | exact S.cx.lendLe (by assumption) | exact S.cx.lendEq (by assumption) | exact S.cx.lendLe0 | exact S.cx.lendEq0 | exact S.cx.partLe (by assumption) | exact S.cx.partEq (by assumption) | refine ⟨?_, ?_⟩))⟩ rfl (fun h => ?_) (fun h => ?_) <;> cbv
  rotate_left
  · exact absurd rfl h
  try (refine Drawn.mk ⟨by kernel_rfl, fun _ => ?_⟩)
  refine ACall.valN (r := (fun x : List Task => .own 9 true (A.enc cTask x))) (os := fun _ => []) (dp := false) S.cx (toTaskS_c S l_l (Nat.le_trans b_l_l (by decide))) ⟨rfl, (by repeat' (first | exact trivial | exact rfl | exact Nat.le_refl _ | exact S.cx.giveEq | exact S.cx.lendLe (by assumption) | exact S.cx.lendEq (by assumption) | exact S.cx.lendLe0 | exact S.cx.lendEq0 | exact S.cx.partLe (by assumption) | exact S.cx.partEq (by assumption) | refine ⟨?_, ?_⟩)), (by repeat' (first | exact trivial | exact rfl | exact Nat.le_refl _ | exact S.cx.giveEq | exact S.cx.lendLe (by assumption) | exact S.cx.lendEq (by assumption) | exact S.cx.lendLe0 | exact S.cx.lendEq0 | exact S.cx.partLe (by assumption) | exact S.cx.partEq (by assumption) | refine ⟨?_, ?_⟩))⟩ rfl (fun ln hln l_lx hx => ⟨rfl, ?_⟩)
  cases hx
  cbv
  have hnc_l_l := hln cTask l_l
  generalize ln (A.enc cTask l_l) = nc_l_l at hnc_l_l ⊢
  refine ACall.testD (dp := false) (eqTaskS_c S l_l l_l) ⟨rfl, (by repeat' (first | exact trivial | exact rfl | exact Nat.le_refl _ | exact S.cx.giveEq | exact S.cx.lendLe (by assumption) | exact S.cx.lendEq (by assumption) | exact S.cx.lendLe0 | exact S.cx.lendEq0 | exact S.cx.partLe (by assumption) | exact S.cx.partEq (by assumption) | refine ⟨?_, ?_⟩)), (by repeat' (first | exact trivial | exact rfl | exact Nat.le_refl _ | exact S.cx.giveEq | exact S.cx.lendLe (by assumption) | exact S.cx.lendEq (by assumption) | exact S.cx.lendLe0 | exact S.cx.lendEq0 | exact S.cx.partLe (by assumption) | exact S.cx.partEq (by assumption) | refine ⟨?_, ?_⟩))⟩ rfl (fun h => ?_) (fun h => ?_) <;> cbv
  rotate_left
  · exact absurd rfl h
  refine ACall.mut1 (dp := false) (markTaskS_c S l_l nb_l_l hnb_l_l 1 (by lia) (by lia)) ⟨rfl, (by repeat' (first | exact trivial | exact rfl | exact Nat.le_refl _ | exact S.cx.giveEq | exact S.cx.lendLe (by assumption) | exact S.cx.lendEq (by assumption) | exact S.cx.lendLe0 | exact S.cx.lendEq0 | exact S.cx.partLe (by assumption) | exact S.cx.partEq (by assumption) | refine ⟨?_, ?_⟩)), (by repeat' (first | exact trivial | exact rfl | exact Nat.le_refl _ | exact S.cx.giveEq | exact S.cx.lendLe (by assumption) | exact S.cx.lendEq (by assumption) | exact S.cx.lendLe0 | exact S.cx.lendEq0 | exact S.cx.partLe (by assumption) | exact S.cx.partEq (by assumption) | refine ⟨?_, ?_⟩))⟩ rfl (fun k_l mk_l_l hk_l ek_l_l => ⟨rfl, ?_⟩); cbv
  refine Test.lss (fun h => ?_) (fun h => ?_) <;> cbv
  · exfalso; lia
  refine ACall.testD (dp := false) (eqTaskS_c S l0w l0w) ⟨rfl, (by repeat' (first | exact trivial | exact rfl | exact Nat.le_refl _ | exact S.cx.giveEq | exact S.cx.lendLe (by assumption) | exact S.cx.lendEq (by assumption) | exact S.cx.lendLe0 | exact S.cx.lendEq0 | exact S.cx.partLe (by assumption) | exact S.cx.partEq (by assumption) | refine ⟨?_, ?_⟩)), (by repeat' (first | exact trivial | exact rfl | exact Nat.le_refl _ | exact S.cx.giveEq | exact S.cx.lendLe (by assumption) | exact S.cx.lendEq (by assumption) | exact S.cx.lendLe0 | exact S.cx.lendEq0 | exact S.cx.partLe (by assumption) | exact S.cx.partEq (by assumption) | refine ⟨?_, ?_⟩))⟩ rfl (fun h => ?_) (fun h => ?_) <;> cbv
  rotate_left
  · exact absurd rfl h
  refine ACall.mut1 (dp := false) (markTaskS_c S l0w N_l0g hN_l0g 1 (by lia) (by lia)) ⟨rfl, (by repeat' (first | exact trivial | exact rfl | exact Nat.le_refl _ | exact S.cx.giveEq | exact S.cx.lendLe (by assumption) | exact S.cx.lendEq (by assumption) | exact S.cx.lendLe0 | exact S.cx.lendEq0 | exact S.cx.partLe (by assumption) | exact S.cx.partEq (by assumption) | refine ⟨?_, ?_⟩)), (by repeat' (first | exact trivial | exact rfl | exact Nat.le_refl _ | exact S.cx.giveEq | exact S.cx.lendLe (by assumption) | exact S.cx.lendEq (by assumption) | exact S.cx.lendLe0 | exact S.cx.lendEq0 | exact S.cx.partLe (by assumption) | exact S.cx.partEq (by assumption) | refine ⟨?_, ?_⟩))⟩ rfl (fun m_0 mm_l0w hm_0 em_l0w => ⟨rfl, ?_⟩); cbv
  have l_l0w : mm_l0w.length = N_l0g := by rw [em_l0w, marks_len]
  have l_l0w_ := l_l0w.symm
  refine ACall.int (dp := false) (heldTaskS_c S mm_l0w 1 (by lia) (by lia) (marks_of (by rw [l_l0w]; exact em_l0w))) ⟨rfl, (by repeat' (first | exact trivial | exact rfl | exact Nat.le_refl _ | exact S.cx.giveEq | exact S.cx.lendLe (by assumption) | exact S.cx.lendEq (by assumption) | exact S.cx.lendLe0 | exact S.cx.lendEq0 | exact S.cx.partLe (by assumption) | exact S.cx.partEq (by assumption) | refine ⟨?_, ?_⟩)), (by repeat' (first | exact trivial | exact rfl | exact Nat.le_refl _ | exact S.cx.giveEq | exact S.cx.lendLe (by assumption) | exact S.cx.lendEq (by assumption) | exact S.cx.lendLe0 | exact S.cx.lendEq0 | exact S.cx.partLe (by assumption) | exact S.cx.partEq (by assumption) | refine ⟨?_, ?_⟩))⟩ rfl (fun qq_0 hqq_0 => ?_); cbv
  refine Test.lss (fun h => ?_) (fun h => ?_) <;> cbv
  · exfalso; lia
  refine Test.neq (fun h => ?_) (fun h => ?_) <;> cbv
  · exfalso; lia
  refine ACall.valN (r := (fun x : List Task => .own 9 true (A.enc cTask x))) (os := fun _ => []) (dp := false) S.cx (toTaskS_c S l_l (Nat.le_trans b_l_l (by decide))) ⟨rfl, (by repeat' (first | exact trivial | exact rfl | exact Nat.le_refl _ | exact S.cx.giveEq | exact S.cx.lendLe (by assumption) | exact S.cx.lendEq (by assumption) | exact S.cx.lendLe0 | exact S.cx.lendEq0 | exact S.cx.partLe (by assumption) | exact S.cx.partEq (by assumption) | refine ⟨?_, ?_⟩)), (by repeat' (first | exact trivial | exact rfl | exact Nat.le_refl _ | exact S.cx.giveEq | exact S.cx.lendLe (by assumption) | exact S.cx.lendEq (by assumption) | exact S.cx.lendLe0 | exact S.cx.lendEq0 | exact S.cx.partLe (by assumption) | exact S.cx.partEq (by assumption) | refine ⟨?_, ?_⟩))⟩ rfl (fun ln hln l_lx hx => ⟨rfl, ?_⟩)
  cases hx
  cbv
  have hnd_l_l := hln cTask l_l
  generalize ln (A.enc cTask l_l) = nd_l_l at hnd_l_l ⊢
  refine ACall.valN (r := rT A) (os := fun _ => []) (dp := false) S.cx (implWoken_c S l_l why what reg) ⟨rfl, (by repeat' (first | exact trivial | exact rfl | exact Nat.le_refl _ | exact S.cx.giveEq | exact S.cx.lendLe (by assumption) | exact S.cx.lendEq (by assumption) | exact S.cx.lendLe0 | exact S.cx.lendEq0 | exact S.cx.partLe (by assumption) | exact S.cx.partEq (by assumption) | refine ⟨?_, ?_⟩)), (by repeat' (first | exact trivial | exact rfl | exact Nat.le_refl _ | exact S.cx.giveEq | exact S.cx.lendLe (by assumption) | exact S.cx.lendEq (by assumption) | exact S.cx.lendLe0 | exact S.cx.lendEq0 | exact S.cx.partLe (by assumption) | exact S.cx.partEq (by assumption) | refine ⟨?_, ?_⟩))⟩ rfl (fun ln hln l0h hx => ⟨rfl, ?_⟩)
  cbv
  have hN_l0h := hln cTask l0h
  generalize ln (A.enc cTask l0h) = N_l0h at hN_l0h ⊢
  cases hx.trans hw.symm
  refine ACall.testD (dp := false) (eqTaskS_c S l0w l0w) ⟨rfl, (by repeat' (first | exact trivial | exact rfl | exact Nat.le_refl _ | exact S.cx.giveEq | exact S.cx.lendLe (by assumption) | exact S.cx.lendEq (by assumption) | exact S.cx.lendLe0 | exact S.cx.lendEq0 | exact S.cx.partLe (by assumption) | exact S.cx.partEq (by assumption) | refine ⟨?_, ?_⟩)), (by repeat' (first | exact trivial | exact rfl | exact Nat.le_refl _ | exact S.cx.giveEq | exact S.cx.lendLe (by assumption) | exact S.cx.lendEq (by assumption) | exact S.cx.lendLe0 | exact S.cx.lendEq0 | exact S.cx.partLe (by assumption) | exact S.cx.partEq (by assumption) | refine ⟨?_, ?_⟩))⟩ rfl (fun h => ?_) (fun h => ?_) <;> cbv
  rotate_left
  · exact absurd rfl h
  refine ACall.int (dp := false) (heldTaskS_c S mm_l0w 1 (by lia) (by lia) (marks_of (by rw [l_l0w]; exact em_l0w))) ⟨rfl, (by repeat' (first | exact trivial | exact rfl | exact Nat.le_refl _ | exact S.cx.giveEq | exact S.cx.lendLe (by assumption) | exact S.cx.lendEq (by assumption) | exact S.cx.lendLe0 | exact S.cx.lendEq0 | exact S.cx.partLe (by assumption) | exact S.cx.partEq (by assumption) | refine ⟨?_, ?_⟩)), (by repeat' (first | exact trivial | exact rfl | exact Nat.le_refl _ | exact S.cx.giveEq | exact S.cx.lendLe (by assumption) | exact S.cx.lendEq (by assumption) | exact S.cx.lendLe0 | exact S.cx.lendEq0 | exact S.cx.partLe (by assumption) | exact S.cx.partEq (by assumption) | refine ⟨?_, ?_⟩))⟩ rfl (fun qr_0 hqr_0 => ?_); cbv
  refine Test.lss (fun h => ?_) (fun h => ?_) <;> cbv
  · exfalso; lia
  refine Test.neq (fun h => ?_) (fun h => ?_) <;> cbv
  · exfalso; lia
  exact Done.to (.bool true) [] rfl rfl trivial ⟨rfl, rfl⟩

end Go.Proofs.Ytcbebidfnlkkeaa.AM
