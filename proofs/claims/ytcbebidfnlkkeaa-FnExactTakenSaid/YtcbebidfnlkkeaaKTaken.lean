/- Contracts: the law Taken. (printed by gq3.py) -/
import Derived.Test.YtcbebidfnlkkeaaQ3
import Derived.Test.YtcbebidfnlkkeaaG5
namespace Go.Proofs.Ytcbebidfnlkkeaa.AM
open Go Go.Proofs

set_option maxRecDepth 100000
set_option maxHeartbeats 4000000
set_option linter.unusedVariables false
set_option linter.unusedSimpArgs false

variable {P : Program} {A : Sy}

theorem taken_few (s : Slots) : (Taken s).1.ages.length ≤ 64 ∧ (Taken s).1.used.length ≤ 64 := by
  unfold Taken; split
  · rename_i h
    have h1 := h.1.2
    have h2 := h.2.1
    unfold Take; split <;> simp <;> omega
  · exact ⟨Nat.zero_le _, Nat.zero_le _⟩

theorem lawTaken_c (S : Se P A) (ages_s : List Int) (used_s : List Bool) : Is1 P 3 [.agg (roSlots A ⟨ages_s, used_s⟩)] (.bool true) := by
  refine S.cx.by (S.prog ▸ Try.func3) rfl rfl rfl rfl (fun hv ho => ?_)
  cbv
  try (refine Drawn.mk ⟨by kernel_rfl, fun _ => ?_⟩)
  refine ACall.num (dp := false) (szSlots_c S ⟨ages_s, used_s⟩ 1048576 (by lia)) ⟨rfl, (by repeat' (first | exact trivial | exact rfl | exact Nat.le_refl _ | exact S.cx.giveEq | exact S.cx.lendLe (by assumption) | exact S.cx.lendEq (by assumption) | exact S.cx.lendLe0 | exact S.cx.lendEq0 | exact S.cx.partLe (by assumption) | exact S.cx.partEq (by assumption) | refine ⟨?_, ?_⟩)), (by repeat' (first | exact trivial | exact rfl | exact Nat.le_refl _ | exact S.cx.giveEq | exact S.cx.lendLe (by assumption) | exact S.cx.lendEq (by assumption) | exact S.cx.lendLe0 | exact S.cx.lendEq0 | exact S.cx.partLe (by assumption) | exact S.cx.partEq (by assumption) | refine ⟨?_, ?_⟩))⟩ (fun q_s hq_s => ?_); cbv
  refine Test.lss (fun h => ?_) (fun h => ?_) <;> cbv
  · exact Done.to (.bool true) [] rfl rfl trivial ⟨rfl, rfl⟩
  replace hq_s := hq_s.resolve_left (by lia)
  simp only [Slots.total] at hq_s
  have b_ages_s : ages_s.length ≤ 1048576 := by lia
  have b_used_s : used_s.length ≤ 1048576 := by lia
  try (refine Drawn.mk ⟨by kernel_rfl, fun _ => ?_⟩)
  refine ACall.valN (r := (fun x : Slots => .agg (ownSlots A x))) (os := fun _ => []) (dp := false) S.cx (toSlots_c S ⟨ages_s, used_s⟩ ⟨(Nat.le_trans b_ages_s (by decide)), (Nat.le_trans b_used_s (by decide))⟩) ⟨rfl, (by repeat' (first | exact trivial | exact rfl | exact Nat.le_refl _ | exact S.cx.giveEq | exact S.cx.lendLe (by assumption) | exact S.cx.lendEq (by assumption) | exact S.cx.lendLe0 | exact S.cx.lendEq0 | exact S.cx.partLe (by assumption) | exact S.cx.partEq (by assumption) | refine ⟨?_, ?_⟩)), (by repeat' (first | exact trivial | exact rfl | exact Nat.le_refl _ | exact S.cx.giveEq | exact S.cx.lendLe (by assumption) | exact S.cx.lendEq (by assumption) | exact S.cx.lendLe0 | exact S.cx.lendEq0 | exact S.cx.partLe (by assumption) | exact S.cx.partEq (by assumption) | refine ⟨?_, ?_⟩))⟩ rfl (fun ln hln x hx => ⟨rfl, ?_⟩)
  obtain ⟨ages_sx, used_sx⟩ := x
  cases hx
  cbv
  have hna_ages_s := hln cInt64 ages_s
  generalize ln (A.enc cInt64 ages_s) = na_ages_s at hna_ages_s ⊢
  have hna_used_s := hln cBool used_s
  generalize ln (A.enc cBool used_s) = na_used_s at hna_used_s ⊢
  try (refine Drawn.mk ⟨by kernel_rfl, fun _ => ?_⟩)
  refine ACall.valN (r := rSHB A) (os := fun _ => []) (dp := false) S.cx (specTaken_c S ages_s used_s) ⟨rfl, (by repeat' (first | exact trivial | exact rfl | exact Nat.le_refl _ | exact S.cx.giveEq | exact S.cx.lendLe (by assumption) | exact S.cx.lendEq (by assumption) | exact S.cx.lendLe0 | exact S.cx.lendEq0 | exact S.cx.partLe (by assumption) | exact S.cx.partEq (by assumption) | refine ⟨?_, ?_⟩)), (by repeat' (first | exact trivial | exact rfl | exact Nat.le_refl _ | exact S.cx.giveEq | exact S.cx.lendLe (by assumption) | exact S.cx.lendEq (by assumption) | exact S.cx.lendLe0 | exact S.cx.lendEq0 | exact S.cx.partLe (by assumption) | exact S.cx.partEq (by assumption) | refine ⟨?_, ?_⟩))⟩ rfl (fun ln hln x hx => ⟨rfl, ?_⟩)
  obtain ⟨⟨ages0w, used0w⟩, ⟨slot1w, age1w⟩, v2w⟩ := x
  cbv
  have hN_ages0w := hln cInt64 ages0w
  generalize ln (A.enc cInt64 ages0w) = N_ages0w at hN_ages0w ⊢
  have hN_used0w := hln cBool used0w
  generalize ln (A.enc cBool used0w) = N_used0w at hN_used0w ⊢
  have hw := hx
  have hfew := taken_few ⟨ages_s, used_s⟩
  rw [← hw] at hfew
  obtain ⟨b_ages0w, b_used0w⟩ := hfew
  try dsimp only at b_ages0w b_used0w
  cases v2w
  all_goals
    try cbv
    try (refine Drawn.mk ⟨by kernel_rfl, fun _ => ?_⟩)
    refine ACall.valN (r := (fun x : Slots => .agg (ownSlots A x))) (os := fun _ => []) (dp := false) S.cx (toSlots_c S ⟨ages_s, used_s⟩ ⟨(Nat.le_trans b_ages_s (by decide)), (Nat.le_trans b_used_s (by decide))⟩) ⟨rfl, (by repeat' (first | exact trivial | exact rfl | exact Nat.le_refl _ | exact S.cx.giveEq | exact S.cx.lendLe (by assumption) | exact S.cx.lendEq (by assumption) | exact S.cx.lendLe0 | exact S.cx.lendEq0 | exact S.cx.partLe (by assumption) | exact S.cx.partEq (by assumption) | refine ⟨?_, ?_⟩)), (by repeat' (first | exact trivial | exact rfl | exact Nat.le_refl _ | exact S.cx.giveEq | exact S.cx.lendLe (by assumption) | exact S.cx.lendEq (by assumption) | exact S.cx.lendLe0 | exact S.cx.lendEq0 | exact S.cx.partLe (by assumption) | exact S.cx.partEq (by assumption) | refine ⟨?_, ?_⟩))⟩ rfl (fun ln hln x hx => ⟨rfl, ?_⟩)
    obtain ⟨ages_sx, used_sx⟩ := x
    cases hx
    cbv
    have hnb_ages_s := hln cInt64 ages_s
    generalize ln (A.enc cInt64 ages_s) = nb_ages_s at hnb_ages_s ⊢
    have hnb_used_s := hln cBool used_s
    generalize ln (A.enc cBool used_s) = nb_used_s at hnb_used_s ⊢
    try (refine Drawn.mk ⟨by kernel_rfl, fun _ => ?_⟩)
    refine ACall.valN (r := rSHB A) (os := fun _ => []) (dp := false) S.cx (implTaken_c S ages_s used_s) ⟨rfl, (by repeat' (first | exact trivial | exact rfl | exact Nat.le_refl _ | exact S.cx.giveEq | exact S.cx.lendLe (by assumption) | exact S.cx.lendEq (by assumption) | exact S.cx.lendLe0 | exact S.cx.lendEq0 | exact S.cx.partLe (by assumption) | exact S.cx.partEq (by assumption) | refine ⟨?_, ?_⟩)), (by repeat' (first | exact trivial | exact rfl | exact Nat.le_refl _ | exact S.cx.giveEq | exact S.cx.lendLe (by assumption) | exact S.cx.lendEq (by assumption) | exact S.cx.lendLe0 | exact S.cx.lendEq0 | exact S.cx.partLe (by assumption) | exact S.cx.partEq (by assumption) | refine ⟨?_, ?_⟩))⟩ rfl (fun ln hln x hx => ⟨rfl, ?_⟩)
    obtain ⟨⟨ages0g, used0g⟩, ⟨slot1g, age1g⟩, v2g⟩ := x
    cbv
    have hN_ages0g := hln cInt64 ages0g
    generalize ln (A.enc cInt64 ages0g) = N_ages0g at hN_ages0g ⊢
    have hN_used0g := hln cBool used0g
    generalize ln (A.enc cBool used0g) = N_used0g at hN_used0g ⊢
    cases hx.trans hw.symm
    try (refine Drawn.mk ⟨by kernel_rfl, fun _ => ?_⟩)
    refine ACall.testD (dp := false) (eqSlots_c S ⟨ages0w, used0w⟩ ⟨ages0w, used0w⟩) ⟨rfl, (by repeat' (first | exact trivial | exact rfl | exact Nat.le_refl _ | exact S.cx.giveEq | exact S.cx.lendLe (by assumption) | exact S.cx.lendEq (by assumption) | exact S.cx.lendLe0 | exact S.cx.lendEq0 | exact S.cx.partLe (by assumption) | exact S.cx.partEq (by assumption) | refine ⟨?_, ?_⟩)), (by repeat' (first | exact trivial | exact rfl | exact Nat.le_refl _ | exact S.cx.giveEq | exact S.cx.lendLe (by assumption) | exact S.cx.lendEq (by assumption) | exact S.cx.lendLe0 | exact S.cx.lendEq0 | exact S.cx.partLe (by assumption) | exact S.cx.partEq (by assumption) | refine ⟨?_, ?_⟩))⟩ rfl (fun h => ?_) (fun h => ?_) <;> cbv
    rotate_left
    · exact absurd rfl h
    try (refine Drawn.mk ⟨by kernel_rfl, fun _ => ?_⟩)
    refine ACall.testD (dp := false) (eqHandle_c S ⟨slot1w, age1w⟩ ⟨slot1w, age1w⟩) ⟨rfl, (by repeat' (first | exact trivial | exact rfl | exact Nat.le_refl _ | exact S.cx.giveEq | exact S.cx.lendLe (by assumption) | exact S.cx.lendEq (by assumption) | exact S.cx.lendLe0 | exact S.cx.lendEq0 | exact S.cx.partLe (by assumption) | exact S.cx.partEq (by assumption) | refine ⟨?_, ?_⟩)), (by repeat' (first | exact trivial | exact rfl | exact Nat.le_refl _ | exact S.cx.giveEq | exact S.cx.lendLe (by assumption) | exact S.cx.lendEq (by assumption) | exact S.cx.lendLe0 | exact S.cx.lendEq0 | exact S.cx.partLe (by assumption) | exact S.cx.partEq (by assumption) | refine ⟨?_, ?_⟩))⟩ rfl (fun h => ?_) (fun h => ?_) <;> cbv
    rotate_left
    · exact absurd rfl h
    try (refine Drawn.mk ⟨by kernel_rfl, fun _ => ?_⟩)
    refine ACall.valN (r := (fun x : Slots => .agg (ownSlots A x))) (os := fun _ => []) (dp := false) S.cx (toSlots_c S ⟨ages_s, used_s⟩ ⟨(Nat.le_trans b_ages_s (by decide)), (Nat.le_trans b_used_s (by decide))⟩) ⟨rfl, (by repeat' (first | exact trivial | exact rfl | exact Nat.le_refl _ | exact S.cx.giveEq | exact S.cx.lendLe (by assumption) | exact S.cx.lendEq (by assumption) | exact S.cx.lendLe0 | exact S.cx.lendEq0 | exact S.cx.partLe (by assumption) | exact S.cx.partEq (by assumption) | refine ⟨?_, ?_⟩)), (by repeat' (first | exact trivial | exact rfl | exact Nat.le_refl _ | exact S.cx.giveEq | exact S.cx.lendLe (by assumption) | exact S.cx.lendEq (by assumption) | exact S.cx.lendLe0 | exact S.cx.lendEq0 | exact S.cx.partLe (by assumption) | exact S.cx.partEq (by assumption) | refine ⟨?_, ?_⟩))⟩ rfl (fun ln hln x hx => ⟨rfl, ?_⟩)
    obtain ⟨ages_sx, used_sx⟩ := x
    cases hx
    cbv
    have hnc_ages_s := hln cInt64 ages_s
    generalize ln (A.enc cInt64 ages_s) = nc_ages_s at hnc_ages_s ⊢
    have hnc_used_s := hln cBool used_s
    generalize ln (A.enc cBool used_s) = nc_used_s at hnc_used_s ⊢
    try (refine Drawn.mk ⟨by kernel_rfl, fun _ => ?_⟩)
    refine ACall.testD (dp := false) (eqSlots_c S ⟨ages_s, used_s⟩ ⟨ages_s, used_s⟩) ⟨rfl, (by repeat' (first | exact trivial | exact rfl | exact Nat.le_refl _ | exact S.cx.giveEq | exact S.cx.lendLe (by assumption) | exact S.cx.lendEq (by assumption) | exact S.cx.lendLe0 | exact S.cx.lendEq0 | exact S.cx.partLe (by assumption) | exact S.cx.partEq (by assumption) | refine ⟨?_, ?_⟩)), (by repeat' (first | exact trivial | exact rfl | exact Nat.le_refl _ | exact S.cx.giveEq | exact S.cx.lendLe (by assumption) | exact S.cx.lendEq (by assumption) | exact S.cx.lendLe0 | exact S.cx.lendEq0 | exact S.cx.partLe (by assumption) | exact S.cx.partEq (by assumption) | refine ⟨?_, ?_⟩))⟩ rfl (fun h => ?_) (fun h => ?_) <;> cbv
    rotate_left
    · exact absurd rfl h
    try (refine Drawn.mk ⟨by kernel_rfl, fun _ => ?_⟩)
    refine ACall.mut2 (dp := false) (markSlots_c S ages_s used_s nb_ages_s hnb_ages_s nb_used_s hnb_used_s 1 (by lia) (by lia)) ⟨rfl, (by repeat' (first | exact trivial | exact rfl | exact Nat.le_refl _ | exact S.cx.giveEq | exact S.cx.lendLe (by assumption) | exact S.cx.lendEq (by assumption) | exact S.cx.lendLe0 | exact S.cx.lendEq0 | exact S.cx.partLe (by assumption) | exact S.cx.partEq (by assumption) | refine ⟨?_, ?_⟩)), (by repeat' (first | exact trivial | exact rfl | exact Nat.le_refl _ | exact S.cx.giveEq | exact S.cx.lendLe (by assumption) | exact S.cx.lendEq (by assumption) | exact S.cx.lendLe0 | exact S.cx.lendEq0 | exact S.cx.partLe (by assumption) | exact S.cx.partEq (by assumption) | refine ⟨?_, ?_⟩))⟩ rfl (fun k_s mk_ages_s mk_used_s hk_s ek_ages_s ek_used_s => ⟨rfl, ?_⟩); cbv
    refine Test.lss (fun h => ?_) (fun h => ?_) <;> cbv
    · exfalso; lia
    try (refine Drawn.mk ⟨by kernel_rfl, fun _ => ?_⟩)
    refine ACall.testD (dp := false) (eqSlots_c S ⟨ages0w, used0w⟩ ⟨ages0w, used0w⟩) ⟨rfl, (by repeat' (first | exact trivial | exact rfl | exact Nat.le_refl _ | exact S.cx.giveEq | exact S.cx.lendLe (by assumption) | exact S.cx.lendEq (by assumption) | exact S.cx.lendLe0 | exact S.cx.lendEq0 | exact S.cx.partLe (by assumption) | exact S.cx.partEq (by assumption) | refine ⟨?_, ?_⟩)), (by repeat' (first | exact trivial | exact rfl | exact Nat.le_refl _ | exact S.cx.giveEq | exact S.cx.lendLe (by assumption) | exact S.cx.lendEq (by assumption) | exact S.cx.lendLe0 | exact S.cx.lendEq0 | exact S.cx.partLe (by assumption) | exact S.cx.partEq (by assumption) | refine ⟨?_, ?_⟩))⟩ rfl (fun h => ?_) (fun h => ?_) <;> cbv
    rotate_left
    · exact absurd rfl h
    try (refine Drawn.mk ⟨by kernel_rfl, fun _ => ?_⟩)
    refine ACall.testD (dp := false) (eqHandle_c S ⟨slot1w, age1w⟩ ⟨slot1w, age1w⟩) ⟨rfl, (by repeat' (first | exact trivial | exact rfl | exact Nat.le_refl _ | exact S.cx.giveEq | exact S.cx.lendLe (by assumption) | exact S.cx.lendEq (by assumption) | exact S.cx.lendLe0 | exact S.cx.lendEq0 | exact S.cx.partLe (by assumption) | exact S.cx.partEq (by assumption) | refine ⟨?_, ?_⟩)), (by repeat' (first | exact trivial | exact rfl | exact Nat.le_refl _ | exact S.cx.giveEq | exact S.cx.lendLe (by assumption) | exact S.cx.lendEq (by assumption) | exact S.cx.lendLe0 | exact S.cx.lendEq0 | exact S.cx.partLe (by assumption) | exact S.cx.partEq (by assumption) | refine ⟨?_, ?_⟩))⟩ rfl (fun h => ?_) (fun h => ?_) <;> cbv
    rotate_left
    · exact absurd rfl h
    try (refine Drawn.mk ⟨by kernel_rfl, fun _ => ?_⟩)
    refine ACall.mut2 (dp := false) (markSlots_c S ages0w used0w N_ages0g hN_ages0g N_used0g hN_used0g 1 (by lia) (by lia)) ⟨rfl, (by repeat' (first | exact trivial | exact rfl | exact Nat.le_refl _ | exact S.cx.giveEq | exact S.cx.lendLe (by assumption) | exact S.cx.lendEq (by assumption) | exact S.cx.lendLe0 | exact S.cx.lendEq0 | exact S.cx.partLe (by assumption) | exact S.cx.partEq (by assumption) | refine ⟨?_, ?_⟩)), (by repeat' (first | exact trivial | exact rfl | exact Nat.le_refl _ | exact S.cx.giveEq | exact S.cx.lendLe (by assumption) | exact S.cx.lendEq (by assumption) | exact S.cx.lendLe0 | exact S.cx.lendEq0 | exact S.cx.partLe (by assumption) | exact S.cx.partEq (by assumption) | refine ⟨?_, ?_⟩))⟩ rfl (fun m_0 mm_ages0w mm_used0w hm_0 em_ages0w em_used0w => ⟨rfl, ?_⟩); cbv
    have l_ages0w : mm_ages0w.length = N_ages0g := by rw [em_ages0w, marks_len]
    have l_ages0w_ := l_ages0w.symm
    have l_used0w : mm_used0w.length = N_used0g := by rw [em_used0w, marks_len]
    have l_used0w_ := l_used0w.symm
    try (refine Drawn.mk ⟨by kernel_rfl, fun _ => ?_⟩)
    refine ACall.int (dp := false) (heldSlots_c S ⟨mm_ages0w, mm_used0w⟩ 1 (by lia) (by dsimp only; lia) (by dsimp only; rw [l_ages0w]; exact em_ages0w) (by dsimp only; rw [l_used0w, l_ages0w]; exact em_used0w)) ⟨rfl, (by repeat' (first | exact trivial | exact rfl | exact Nat.le_refl _ | exact S.cx.giveEq | exact S.cx.lendLe (by assumption) | exact S.cx.lendEq (by assumption) | exact S.cx.lendLe0 | exact S.cx.lendEq0 | exact S.cx.partLe (by assumption) | exact S.cx.partEq (by assumption) | refine ⟨?_, ?_⟩)), (by repeat' (first | exact trivial | exact rfl | exact Nat.le_refl _ | exact S.cx.giveEq | exact S.cx.lendLe (by assumption) | exact S.cx.lendEq (by assumption) | exact S.cx.lendLe0 | exact S.cx.lendEq0 | exact S.cx.partLe (by assumption) | exact S.cx.partEq (by assumption) | refine ⟨?_, ?_⟩))⟩ rfl (fun qq_0 hqq_0 => ?_); cbv
    dsimp only at hqq_0
    refine Test.lss (fun h => ?_) (fun h => ?_) <;> cbv
    · exfalso; lia
    refine Test.neq (fun h => ?_) (fun h => ?_) <;> cbv
    · exfalso; lia
    try (refine Drawn.mk ⟨by kernel_rfl, fun _ => ?_⟩)
    refine ACall.valN (r := (fun x : Slots => .agg (ownSlots A x))) (os := fun _ => []) (dp := false) S.cx (toSlots_c S ⟨ages_s, used_s⟩ ⟨(Nat.le_trans b_ages_s (by decide)), (Nat.le_trans b_used_s (by decide))⟩) ⟨rfl, (by repeat' (first | exact trivial | exact rfl | exact Nat.le_refl _ | exact S.cx.giveEq | exact S.cx.lendLe (by assumption) | exact S.cx.lendEq (by assumption) | exact S.cx.lendLe0 | exact S.cx.lendEq0 | exact S.cx.partLe (by assumption) | exact S.cx.partEq (by assumption) | refine ⟨?_, ?_⟩)), (by repeat' (first | exact trivial | exact rfl | exact Nat.le_refl _ | exact S.cx.giveEq | exact S.cx.lendLe (by assumption) | exact S.cx.lendEq (by assumption) | exact S.cx.lendLe0 | exact S.cx.lendEq0 | exact S.cx.partLe (by assumption) | exact S.cx.partEq (by assumption) | refine ⟨?_, ?_⟩))⟩ rfl (fun ln hln x hx => ⟨rfl, ?_⟩)
    obtain ⟨ages_sx, used_sx⟩ := x
    cases hx
    cbv
    have hnd_ages_s := hln cInt64 ages_s
    generalize ln (A.enc cInt64 ages_s) = nd_ages_s at hnd_ages_s ⊢
    have hnd_used_s := hln cBool used_s
    generalize ln (A.enc cBool used_s) = nd_used_s at hnd_used_s ⊢
    try (refine Drawn.mk ⟨by kernel_rfl, fun _ => ?_⟩)
    refine ACall.valN (r := rSHB A) (os := fun _ => []) (dp := false) S.cx (implTaken_c S ages_s used_s) ⟨rfl, (by repeat' (first | exact trivial | exact rfl | exact Nat.le_refl _ | exact S.cx.giveEq | exact S.cx.lendLe (by assumption) | exact S.cx.lendEq (by assumption) | exact S.cx.lendLe0 | exact S.cx.lendEq0 | exact S.cx.partLe (by assumption) | exact S.cx.partEq (by assumption) | refine ⟨?_, ?_⟩)), (by repeat' (first | exact trivial | exact rfl | exact Nat.le_refl _ | exact S.cx.giveEq | exact S.cx.lendLe (by assumption) | exact S.cx.lendEq (by assumption) | exact S.cx.lendLe0 | exact S.cx.lendEq0 | exact S.cx.partLe (by assumption) | exact S.cx.partEq (by assumption) | refine ⟨?_, ?_⟩))⟩ rfl (fun ln hln x hx => ⟨rfl, ?_⟩)
    obtain ⟨⟨ages0h, used0h⟩, ⟨slot1h, age1h⟩, v2h⟩ := x
    cbv
    have hN_ages0h := hln cInt64 ages0h
    generalize ln (A.enc cInt64 ages0h) = N_ages0h at hN_ages0h ⊢
    have hN_used0h := hln cBool used0h
    generalize ln (A.enc cBool used0h) = N_used0h at hN_used0h ⊢
    cases hx.trans hw.symm
    try (refine Drawn.mk ⟨by kernel_rfl, fun _ => ?_⟩)
    refine ACall.testD (dp := false) (eqSlots_c S ⟨ages0w, used0w⟩ ⟨ages0w, used0w⟩) ⟨rfl, (by repeat' (first | exact trivial | exact rfl | exact Nat.le_refl _ | exact S.cx.giveEq | exact S.cx.lendLe (by assumption) | exact S.cx.lendEq (by assumption) | exact S.cx.lendLe0 | exact S.cx.lendEq0 | exact S.cx.partLe (by assumption) | exact S.cx.partEq (by assumption) | refine ⟨?_, ?_⟩)), (by repeat' (first | exact trivial | exact rfl | exact Nat.le_refl _ | exact S.cx.giveEq | exact S.cx.lendLe (by assumption) | exact S.cx.lendEq (by assumption) | exact S.cx.lendLe0 | exact S.cx.lendEq0 | exact S.cx.partLe (by assumption) | exact S.cx.partEq (by assumption) | refine ⟨?_, ?_⟩))⟩ rfl (fun h => ?_) (fun h => ?_) <;> cbv
    rotate_left
    · exact absurd rfl h
    try (refine Drawn.mk ⟨by kernel_rfl, fun _ => ?_⟩)
    refine ACall.testD (dp := false) (eqHandle_c S ⟨slot1w, age1w⟩ ⟨slot1w, age1w⟩) ⟨rfl, (by repeat' (first | exact trivial | exact rfl | exact Nat.le_refl _ | exact S.cx.giveEq | exact S.cx.lendLe (by assumption) | exact S.cx.lendEq (by assumption) | exact S.cx.lendLe0 | exact S.cx.lendEq0 | exact S.cx.partLe (by assumption) | exact S.cx.partEq (by assumption) | refine ⟨?_, ?_⟩)), (by repeat' (first | exact trivial | exact rfl | exact Nat.le_refl _ | exact S.cx.giveEq | exact S.cx.lendLe (by assumption) | exact S.cx.lendEq (by assumption) | exact S.cx.lendLe0 | exact S.cx.lendEq0 | exact S.cx.partLe (by assumption) | exact S.cx.partEq (by assumption) | refine ⟨?_, ?_⟩))⟩ rfl (fun h => ?_) (fun h => ?_) <;> cbv
    rotate_left
    · exact absurd rfl h
    try (refine Drawn.mk ⟨by kernel_rfl, fun _ => ?_⟩)
    refine ACall.int (dp := false) (heldSlots_c S ⟨mm_ages0w, mm_used0w⟩ 1 (by lia) (by dsimp only; lia) (by dsimp only; rw [l_ages0w]; exact em_ages0w) (by dsimp only; rw [l_used0w, l_ages0w]; exact em_used0w)) ⟨rfl, (by repeat' (first | exact trivial | exact rfl | exact Nat.le_refl _ | exact S.cx.giveEq | exact S.cx.lendLe (by assumption) | exact S.cx.lendEq (by assumption) | exact S.cx.lendLe0 | exact S.cx.lendEq0 | exact S.cx.partLe (by assumption) | exact S.cx.partEq (by assumption) | refine ⟨?_, ?_⟩)), (by repeat' (first | exact trivial | exact rfl | exact Nat.le_refl _ | exact S.cx.giveEq | exact S.cx.lendLe (by assumption) | exact S.cx.lendEq (by assumption) | exact S.cx.lendLe0 | exact S.cx.lendEq0 | exact S.cx.partLe (by assumption) | exact S.cx.partEq (by assumption) | refine ⟨?_, ?_⟩))⟩ rfl (fun qr_0 hqr_0 => ?_); cbv
    dsimp only at hqr_0
    refine Test.lss (fun h => ?_) (fun h => ?_) <;> cbv
    · exfalso; lia
    refine Test.neq (fun h => ?_) (fun h => ?_) <;> cbv
    · exfalso; lia
    exact Done.to (.bool true) [] rfl rfl trivial ⟨rfl, rfl⟩

end Go.Proofs.Ytcbebidfnlkkeaa.AM
