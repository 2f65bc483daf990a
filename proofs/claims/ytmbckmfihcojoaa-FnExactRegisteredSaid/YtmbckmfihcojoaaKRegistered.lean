/- Contracts: the law Registered. (printed by ga4.py) -/
import Derived.Test.YtmbckmfihcojoaaA4
import Derived.Test.YtmbckmfihcojoaaG5
import Derived.Test.YtmbckmfihcojoaaB33
namespace Go.Proofs.Ytmbckmfihcojoaa.AM
open Go Go.Proofs

set_option maxRecDepth 100000
set_option maxHeartbeats 4000000
set_option linter.unusedVariables false
set_option linter.unusedSimpArgs false

variable {P : Program} {A : Sy}

theorem registered_few (a : Afters) (node fn : Int) : (Registered a node fn).1.slots.ages.length ≤ 1048576 ∧ (Registered a node fn).1.slots.used.length ≤ 1048576 ∧ (Registered a node fn).1.list.length ≤ 1048576 := by
  unfold Registered; split
  · rename_i h
    have b1 := h.1.1.2
    have b2 := h.1.2.1
    have b3 := h.2.1
    have b4 := usedN_le a.slots.used
    have b5 := take_len a.slots
    unfold Register; split
    · simp only [List.length_append, List.length_cons, List.length_nil]; omega
    · dsimp only; omega
  · exact ⟨Nat.zero_le _, Nat.zero_le _, Nat.zero_le _⟩

theorem lawRegistered_c (S : Se P A) (ages_a : List Int) (used_a : List Bool) (list_a : List After) (node : Int) (fn : Int) : Is1 P 5 [.agg (roAfters A ⟨⟨ages_a, used_a⟩, list_a⟩), .int .i64 node, .int .i64 fn] (.bool true) := by
  refine S.cx.by (S.prog ▸ Try.func5) rfl rfl rfl rfl (fun hv ho => ?_)
  cbv
  try (refine Drawn.mk ⟨by kernel_rfl, fun _ => ?_⟩)
  refine ACall.num (dp := false) (szAfters_c S ⟨⟨ages_a, used_a⟩, list_a⟩ 1048576 (by lia)) ⟨rfl, (by repeat' (first | exact trivial | exact rfl | exact Nat.le_refl _ | exact S.cx.giveEq | exact S.cx.lendLe (by assumption) | exact S.cx.lendEq (by assumption) | exact S.cx.lendLe0 | exact S.cx.lendEq0 | exact S.cx.partLe (by assumption) | exact S.cx.partEq (by assumption) | refine ⟨?_, ?_⟩)), (by repeat' (first | exact trivial | exact rfl | exact Nat.le_refl _ | exact S.cx.giveEq | exact S.cx.lendLe (by assumption) | exact S.cx.lendEq (by assumption) | exact S.cx.lendLe0 | exact S.cx.lendEq0 | exact S.cx.partLe (by assumption) | exact S.cx.partEq (by assumption) | refine ⟨?_, ?_⟩))⟩ (fun q_a hq_a => ?_); cbv
  refine Test.lss (fun h => ?_) (fun h => ?_) <;> cbv
  · exact Done.to (.bool true) [] rfl rfl trivial ⟨rfl, rfl⟩
  replace hq_a := hq_a.resolve_left (by lia)
  simp only [Afters.total, Slots.total] at hq_a
  have b_ages_a : ages_a.length ≤ 1048576 := by lia
  have b_used_a : used_a.length ≤ 1048576 := by lia
  have b_list_a : list_a.length ≤ 1048576 := by lia
  try (refine Drawn.mk ⟨by kernel_rfl, fun _ => ?_⟩)
  refine ACall.valN (r := (fun x : Afters => .agg (ownAfters A x))) (os := fun _ => []) (dp := false) S.cx (toAfters_c S ⟨⟨ages_a, used_a⟩, list_a⟩ ⟨(Nat.le_trans b_ages_a (by decide)), (Nat.le_trans b_used_a (by decide)), (Nat.le_trans b_list_a (by decide))⟩) ⟨rfl, (by repeat' (first | exact trivial | exact rfl | exact Nat.le_refl _ | exact S.cx.giveEq | exact S.cx.lendLe (by assumption) | exact S.cx.lendEq (by assumption) | exact S.cx.lendLe0 | exact S.cx.lendEq0 | exact S.cx.partLe (by assumption) | exact S.cx.partEq (by assumption) | refine ⟨?_, ?_⟩)), (by repeat' (first | exact trivial | exact rfl | exact Nat.le_refl _ | exact S.cx.giveEq | exact S.cx.lendLe (by assumption) | exact S.cx.lendEq (by assumption) | exact S.cx.lendLe0 | exact S.cx.lendEq0 | exact S.cx.partLe (by assumption) | exact S.cx.partEq (by assumption) | refine ⟨?_, ?_⟩))⟩ rfl (fun ln hln x hx => ⟨rfl, ?_⟩)
  obtain ⟨⟨ages_ax, used_ax⟩, list_ax⟩ := x
  cases hx
  cbv
  have hna_ages_a := hln cInt64 ages_a
  generalize ln (A.enc cInt64 ages_a) = na_ages_a at hna_ages_a ⊢
  have hna_used_a := hln cBool used_a
  generalize ln (A.enc cBool used_a) = na_used_a at hna_used_a ⊢
  have hna_list_a := hln cAfter list_a
  generalize ln (A.enc cAfter list_a) = na_list_a at hna_list_a ⊢
  try (refine Drawn.mk ⟨by kernel_rfl, fun _ => ?_⟩)
  refine ACall.valN (r := rAHB A) (os := fun _ => []) (dp := false) S.cx (specRegistered_c S ages_a used_a list_a node fn) ⟨rfl, (by repeat' (first | exact trivial | exact rfl | exact Nat.le_refl _ | exact S.cx.giveEq | exact S.cx.lendLe (by assumption) | exact S.cx.lendEq (by assumption) | exact S.cx.lendLe0 | exact S.cx.lendEq0 | exact S.cx.partLe (by assumption) | exact S.cx.partEq (by assumption) | refine ⟨?_, ?_⟩)), (by repeat' (first | exact trivial | exact rfl | exact Nat.le_refl _ | exact S.cx.giveEq | exact S.cx.lendLe (by assumption) | exact S.cx.lendEq (by assumption) | exact S.cx.lendLe0 | exact S.cx.lendEq0 | exact S.cx.partLe (by assumption) | exact S.cx.partEq (by assumption) | refine ⟨?_, ?_⟩))⟩ rfl (fun ln hln x hx => ⟨rfl, ?_⟩)
  obtain ⟨⟨⟨ages0w, used0w⟩, list0w⟩, ⟨slot1w, age1w⟩, v2w⟩ := x
  cbv
  have hN_ages0w := hln cInt64 ages0w
  generalize ln (A.enc cInt64 ages0w) = N_ages0w at hN_ages0w ⊢
  have hN_used0w := hln cBool used0w
  generalize ln (A.enc cBool used0w) = N_used0w at hN_used0w ⊢
  have hN_list0w := hln cAfter list0w
  generalize ln (A.enc cAfter list0w) = N_list0w at hN_list0w ⊢
  have hw := hx
  have hfew := registered_few ⟨⟨ages_a, used_a⟩, list_a⟩ node fn
  rw [← hw] at hfew
  obtain ⟨b_ages0w, b_used0w, b_list0w⟩ := hfew
  try dsimp only at b_ages0w b_used0w b_list0w
  cases v2w
  all_goals
    try cbv
    try (refine Drawn.mk ⟨by kernel_rfl, fun _ => ?_⟩)
    refine ACall.valN (r := (fun x : Afters => .agg (ownAfters A x))) (os := fun _ => []) (dp := false) S.cx (toAfters_c S ⟨⟨ages_a, used_a⟩, list_a⟩ ⟨(Nat.le_trans b_ages_a (by decide)), (Nat.le_trans b_used_a (by decide)), (Nat.le_trans b_list_a (by decide))⟩) ⟨rfl, (by repeat' (first | exact trivial | exact rfl | exact Nat.le_refl _ | exact S.cx.giveEq | exact S.cx.lendLe (by assumption) | exact S.cx.lendEq (by assumption) | exact S.cx.lendLe0 | exact S.cx.lendEq0 | exact S.cx.partLe (by assumption) | exact S.cx.partEq (by assumption) | refine ⟨?_, ?_⟩)), (by repeat' (first | exact trivial | exact rfl | exact Nat.le_refl _ | exact S.cx.giveEq | exact S.cx.lendLe (by assumption) | exact S.cx.lendEq (by assumption) | exact S.cx.lendLe0 | exact S.cx.lendEq0 | exact S.cx.partLe (by assumption) | exact S.cx.partEq (by assumption) | refine ⟨?_, ?_⟩))⟩ rfl (fun ln hln x hx => ⟨rfl, ?_⟩)
    obtain ⟨⟨ages_ax, used_ax⟩, list_ax⟩ := x
    cases hx
    cbv
    have hnb_ages_a := hln cInt64 ages_a
    generalize ln (A.enc cInt64 ages_a) = nb_ages_a at hnb_ages_a ⊢
    have hnb_used_a := hln cBool used_a
    generalize ln (A.enc cBool used_a) = nb_used_a at hnb_used_a ⊢
    have hnb_list_a := hln cAfter list_a
    generalize ln (A.enc cAfter list_a) = nb_list_a at hnb_list_a ⊢
    try (refine Drawn.mk ⟨by kernel_rfl, fun _ => ?_⟩)
    refine ACall.valN (r := rAHB A) (os := fun _ => []) (dp := false) S.cx (implRegistered_c S ages_a used_a list_a node fn) ⟨rfl, (by repeat' (first | exact trivial | exact rfl | exact Nat.le_refl _ | exact S.cx.giveEq | exact S.cx.lendLe (by assumption) | exact S.cx.lendEq (by assumption) | exact S.cx.lendLe0 | exact S.cx.lendEq0 | exact S.cx.partLe (by assumption) | exact S.cx.partEq (by assumption) | refine ⟨?_, ?_⟩)), (by repeat' (first | exact trivial | exact rfl | exact Nat.le_refl _ | exact S.cx.giveEq | exact S.cx.lendLe (by assumption) | exact S.cx.lendEq (by assumption) | exact S.cx.lendLe0 | exact S.cx.lendEq0 | exact S.cx.partLe (by assumption) | exact S.cx.partEq (by assumption) | refine ⟨?_, ?_⟩))⟩ rfl (fun ln hln x hx => ⟨rfl, ?_⟩)
    obtain ⟨⟨⟨ages0g, used0g⟩, list0g⟩, ⟨slot1g, age1g⟩, v2g⟩ := x
    cbv
    have hN_ages0g := hln cInt64 ages0g
    generalize ln (A.enc cInt64 ages0g) = N_ages0g at hN_ages0g ⊢
    have hN_used0g := hln cBool used0g
    generalize ln (A.enc cBool used0g) = N_used0g at hN_used0g ⊢
    have hN_list0g := hln cAfter list0g
    generalize ln (A.enc cAfter list0g) = N_list0g at hN_list0g ⊢
    cases hx.trans hw.symm
    try (refine Drawn.mk ⟨by kernel_rfl, fun _ => ?_⟩)
    refine ACall.testD (dp := false) (eqAfters_c S ⟨⟨ages0w, used0w⟩, list0w⟩ ⟨⟨ages0w, used0w⟩, list0w⟩) ⟨rfl, (by repeat' (first | exact trivial | exact rfl | exact Nat.le_refl _ | exact S.cx.giveEq | exact S.cx.lendLe (by assumption) | exact S.cx.lendEq (by assumption) | exact S.cx.lendLe0 | exact S.cx.lendEq0 | exact S.cx.partLe (by assumption) | exact S.cx.partEq (by assumption) | refine ⟨?_, ?_⟩)), (by repeat' (first | exact trivial | exact rfl | exact Nat.le_refl _ | exact S.cx.giveEq | exact S.cx.lendLe (by assumption) | exact S.cx.lendEq (by assumption) | exact S.cx.lendLe0 | exact S.cx.lendEq0 | exact S.cx.partLe (by assumption) | exact S.cx.partEq (by assumption) | refine ⟨?_, ?_⟩))⟩ rfl (fun h => ?_) (fun h => ?_) <;> cbv
    rotate_left
    · exact absurd rfl h
    try (refine Drawn.mk ⟨by kernel_rfl, fun _ => ?_⟩)
    refine ACall.testD (dp := false) (eqHandle_c S ⟨slot1w, age1w⟩ ⟨slot1w, age1w⟩) ⟨rfl, (by repeat' (first | exact trivial | exact rfl | exact Nat.le_refl _ | exact S.cx.giveEq | exact S.cx.lendLe (by assumption) | exact S.cx.lendEq (by assumption) | exact S.cx.lendLe0 | exact S.cx.lendEq0 | exact S.cx.partLe (by assumption) | exact S.cx.partEq (by assumption) | refine ⟨?_, ?_⟩)), (by repeat' (first | exact trivial | exact rfl | exact Nat.le_refl _ | exact S.cx.giveEq | exact S.cx.lendLe (by assumption) | exact S.cx.lendEq (by assumption) | exact S.cx.lendLe0 | exact S.cx.lendEq0 | exact S.cx.partLe (by assumption) | exact S.cx.partEq (by assumption) | refine ⟨?_, ?_⟩))⟩ rfl (fun h => ?_) (fun h => ?_) <;> cbv
    rotate_left
    · exact absurd rfl h
    try (refine Drawn.mk ⟨by kernel_rfl, fun _ => ?_⟩)
    refine ACall.valN (r := (fun x : Afters => .agg (ownAfters A x))) (os := fun _ => []) (dp := false) S.cx (toAfters_c S ⟨⟨ages_a, used_a⟩, list_a⟩ ⟨(Nat.le_trans b_ages_a (by decide)), (Nat.le_trans b_used_a (by decide)), (Nat.le_trans b_list_a (by decide))⟩) ⟨rfl, (by repeat' (first | exact trivial | exact rfl | exact Nat.le_refl _ | exact S.cx.giveEq | exact S.cx.lendLe (by assumption) | exact S.cx.lendEq (by assumption) | exact S.cx.lendLe0 | exact S.cx.lendEq0 | exact S.cx.partLe (by assumption) | exact S.cx.partEq (by assumption) | refine ⟨?_, ?_⟩)), (by repeat' (first | exact trivial | exact rfl | exact Nat.le_refl _ | exact S.cx.giveEq | exact S.cx.lendLe (by assumption) | exact S.cx.lendEq (by assumption) | exact S.cx.lendLe0 | exact S.cx.lendEq0 | exact S.cx.partLe (by assumption) | exact S.cx.partEq (by assumption) | refine ⟨?_, ?_⟩))⟩ rfl (fun ln hln x hx => ⟨rfl, ?_⟩)
    obtain ⟨⟨ages_ax, used_ax⟩, list_ax⟩ := x
    cases hx
    cbv
    have hnc_ages_a := hln cInt64 ages_a
    generalize ln (A.enc cInt64 ages_a) = nc_ages_a at hnc_ages_a ⊢
    have hnc_used_a := hln cBool used_a
    generalize ln (A.enc cBool used_a) = nc_used_a at hnc_used_a ⊢
    have hnc_list_a := hln cAfter list_a
    generalize ln (A.enc cAfter list_a) = nc_list_a at hnc_list_a ⊢
    try (refine Drawn.mk ⟨by kernel_rfl, fun _ => ?_⟩)
    refine ACall.testD (dp := false) (eqAfters_c S ⟨⟨ages_a, used_a⟩, list_a⟩ ⟨⟨ages_a, used_a⟩, list_a⟩) ⟨rfl, (by repeat' (first | exact trivial | exact rfl | exact Nat.le_refl _ | exact S.cx.giveEq | exact S.cx.lendLe (by assumption) | exact S.cx.lendEq (by assumption) | exact S.cx.lendLe0 | exact S.cx.lendEq0 | exact S.cx.partLe (by assumption) | exact S.cx.partEq (by assumption) | refine ⟨?_, ?_⟩)), (by repeat' (first | exact trivial | exact rfl | exact Nat.le_refl _ | exact S.cx.giveEq | exact S.cx.lendLe (by assumption) | exact S.cx.lendEq (by assumption) | exact S.cx.lendLe0 | exact S.cx.lendEq0 | exact S.cx.partLe (by assumption) | exact S.cx.partEq (by assumption) | refine ⟨?_, ?_⟩))⟩ rfl (fun h => ?_) (fun h => ?_) <;> cbv
    rotate_left
    · exact absurd rfl h
    try (refine Drawn.mk ⟨by kernel_rfl, fun _ => ?_⟩)
    refine ACall.mut3 (dp := false) (markAfters_c S ages_a used_a list_a nb_ages_a hnb_ages_a nb_used_a hnb_used_a nb_list_a hnb_list_a 1 (by lia) (by lia)) ⟨rfl, (by repeat' (first | exact trivial | exact rfl | exact Nat.le_refl _ | exact S.cx.giveEq | exact S.cx.lendLe (by assumption) | exact S.cx.lendEq (by assumption) | exact S.cx.lendLe0 | exact S.cx.lendEq0 | exact S.cx.partLe (by assumption) | exact S.cx.partEq (by assumption) | refine ⟨?_, ?_⟩)), (by repeat' (first | exact trivial | exact rfl | exact Nat.le_refl _ | exact S.cx.giveEq | exact S.cx.lendLe (by assumption) | exact S.cx.lendEq (by assumption) | exact S.cx.lendLe0 | exact S.cx.lendEq0 | exact S.cx.partLe (by assumption) | exact S.cx.partEq (by assumption) | refine ⟨?_, ?_⟩))⟩ rfl (fun k_a mk_ages_a mk_used_a mk_list_a hk_a ek_ages_a ek_used_a ek_list_a => ⟨rfl, ?_⟩); cbv
    refine Test.lss (fun h => ?_) (fun h => ?_) <;> cbv
    · exfalso; lia
    try (refine Drawn.mk ⟨by kernel_rfl, fun _ => ?_⟩)
    refine ACall.testD (dp := false) (eqAfters_c S ⟨⟨ages0w, used0w⟩, list0w⟩ ⟨⟨ages0w, used0w⟩, list0w⟩) ⟨rfl, (by repeat' (first | exact trivial | exact rfl | exact Nat.le_refl _ | exact S.cx.giveEq | exact S.cx.lendLe (by assumption) | exact S.cx.lendEq (by assumption) | exact S.cx.lendLe0 | exact S.cx.lendEq0 | exact S.cx.partLe (by assumption) | exact S.cx.partEq (by assumption) | refine ⟨?_, ?_⟩)), (by repeat' (first | exact trivial | exact rfl | exact Nat.le_refl _ | exact S.cx.giveEq | exact S.cx.lendLe (by assumption) | exact S.cx.lendEq (by assumption) | exact S.cx.lendLe0 | exact S.cx.lendEq0 | exact S.cx.partLe (by assumption) | exact S.cx.partEq (by assumption) | refine ⟨?_, ?_⟩))⟩ rfl (fun h => ?_) (fun h => ?_) <;> cbv
    rotate_left
    · exact absurd rfl h
    try (refine Drawn.mk ⟨by kernel_rfl, fun _ => ?_⟩)
    refine ACall.testD (dp := false) (eqHandle_c S ⟨slot1w, age1w⟩ ⟨slot1w, age1w⟩) ⟨rfl, (by repeat' (first | exact trivial | exact rfl | exact Nat.le_refl _ | exact S.cx.giveEq | exact S.cx.lendLe (by assumption) | exact S.cx.lendEq (by assumption) | exact S.cx.lendLe0 | exact S.cx.lendEq0 | exact S.cx.partLe (by assumption) | exact S.cx.partEq (by assumption) | refine ⟨?_, ?_⟩)), (by repeat' (first | exact trivial | exact rfl | exact Nat.le_refl _ | exact S.cx.giveEq | exact S.cx.lendLe (by assumption) | exact S.cx.lendEq (by assumption) | exact S.cx.lendLe0 | exact S.cx.lendEq0 | exact S.cx.partLe (by assumption) | exact S.cx.partEq (by assumption) | refine ⟨?_, ?_⟩))⟩ rfl (fun h => ?_) (fun h => ?_) <;> cbv
    rotate_left
    · exact absurd rfl h
    try (refine Drawn.mk ⟨by kernel_rfl, fun _ => ?_⟩)
    refine ACall.mut3 (dp := false) (markAfters_c S ages0w used0w list0w N_ages0g hN_ages0g N_used0g hN_used0g N_list0g hN_list0g 1 (by lia) (by lia)) ⟨rfl, (by repeat' (first | exact trivial | exact rfl | exact Nat.le_refl _ | exact S.cx.giveEq | exact S.cx.lendLe (by assumption) | exact S.cx.lendEq (by assumption) | exact S.cx.lendLe0 | exact S.cx.lendEq0 | exact S.cx.partLe (by assumption) | exact S.cx.partEq (by assumption) | refine ⟨?_, ?_⟩)), (by repeat' (first | exact trivial | exact rfl | exact Nat.le_refl _ | exact S.cx.giveEq | exact S.cx.lendLe (by assumption) | exact S.cx.lendEq (by assumption) | exact S.cx.lendLe0 | exact S.cx.lendEq0 | exact S.cx.partLe (by assumption) | exact S.cx.partEq (by assumption) | refine ⟨?_, ?_⟩))⟩ rfl (fun m_0 mm_ages0w mm_used0w mm_list0w hm_0 em_ages0w em_used0w em_list0w => ⟨rfl, ?_⟩); cbv
    have l_ages0w : mm_ages0w.length = N_ages0g := by rw [em_ages0w, marks_len]
    have l_ages0w_ := l_ages0w.symm
    have l_used0w : mm_used0w.length = N_used0g := by rw [em_used0w, marks_len]
    have l_used0w_ := l_used0w.symm
    have l_list0w : mm_list0w.length = N_list0g := by rw [em_list0w, marks_len]
    have l_list0w_ := l_list0w.symm
    try (refine Drawn.mk ⟨by kernel_rfl, fun _ => ?_⟩)
    refine ACall.int (dp := false) (heldAfters_c S ⟨⟨mm_ages0w, mm_used0w⟩, mm_list0w⟩ 1 (by lia) (by dsimp only; lia) (by dsimp only; rw [l_ages0w]; exact em_ages0w) (by dsimp only; rw [l_used0w, l_ages0w]; exact em_used0w) (by dsimp only; rw [l_list0w, l_ages0w, l_used0w]; exact em_list0w)) ⟨rfl, (by repeat' (first | exact trivial | exact rfl | exact Nat.le_refl _ | exact S.cx.giveEq | exact S.cx.lendLe (by assumption) | exact S.cx.lendEq (by assumption) | exact S.cx.lendLe0 | exact S.cx.lendEq0 | exact S.cx.partLe (by assumption) | exact S.cx.partEq (by assumption) | refine ⟨?_, ?_⟩)), (by repeat' (first | exact trivial | exact rfl | exact Nat.le_refl _ | exact S.cx.giveEq | exact S.cx.lendLe (by assumption) | exact S.cx.lendEq (by assumption) | exact S.cx.lendLe0 | exact S.cx.lendEq0 | exact S.cx.partLe (by assumption) | exact S.cx.partEq (by assumption) | refine ⟨?_, ?_⟩))⟩ rfl (fun qq_0 hqq_0 => ?_); cbv
    dsimp only at hqq_0
    refine Test.lss (fun h => ?_) (fun h => ?_) <;> cbv
    · exfalso; lia
    refine Test.neq (fun h => ?_) (fun h => ?_) <;> cbv
    · exfalso; lia
    try (refine Drawn.mk ⟨by kernel_rfl, fun _ => ?_⟩)
    refine ACall.valN (r := (fun x : Afters => .agg (ownAfters A x))) (os := fun _ => []) (dp := false) S.cx (toAfters_c S ⟨⟨ages_a, used_a⟩, list_a⟩ ⟨(Nat.le_trans b_ages_a (by decide)), (Nat.le_trans b_used_a (by decide)), (Nat.le_trans b_list_a (by decide))⟩) ⟨rfl, (by repeat' (first | exact trivial | exact rfl | exact Nat.le_refl _ | exact S.cx.giveEq | exact S.cx.lendLe (by assumption) | exact S.cx.lendEq (by assumption) | exact S.cx.lendLe0 | exact S.cx.lendEq0 | exact S.cx.partLe (by assumption) | exact S.cx.partEq (by assumption) | refine ⟨?_, ?_⟩)), (by repeat' (first | exact trivial | exact rfl | exact Nat.le_refl _ | exact S.cx.giveEq | exact S.cx.lendLe (by assumption) | exact S.cx.lendEq (by assumption) | exact S.cx.lendLe0 | exact S.cx.lendEq0 | exact S.cx.partLe (by assumption) | exact S.cx.partEq (by assumption) | refine ⟨?_, ?_⟩))⟩ rfl (fun ln hln x hx => ⟨rfl, ?_⟩)
    obtain ⟨⟨ages_ax, used_ax⟩, list_ax⟩ := x
    cases hx
    cbv
    have hnd_ages_a := hln cInt64 ages_a
    generalize ln (A.enc cInt64 ages_a) = nd_ages_a at hnd_ages_a ⊢
    have hnd_used_a := hln cBool used_a
    generalize ln (A.enc cBool used_a) = nd_used_a at hnd_used_a ⊢
    have hnd_list_a := hln cAfter list_a
    generalize ln (A.enc cAfter list_a) = nd_list_a at hnd_list_a ⊢
    try (refine Drawn.mk ⟨by kernel_rfl, fun _ => ?_⟩)
    refine ACall.valN (r := rAHB A) (os := fun _ => []) (dp := false) S.cx (implRegistered_c S ages_a used_a list_a node fn) ⟨rfl, (by repeat' (first | exact trivial | exact rfl | exact Nat.le_refl _ | exact S.cx.giveEq | exact S.cx.lendLe (by assumption) | exact S.cx.lendEq (by assumption) | exact S.cx.lendLe0 | exact S.cx.lendEq0 | exact S.cx.partLe (by assumption) | exact S.cx.partEq (by assumption) | refine ⟨?_, ?_⟩)), (by repeat' (first | exact trivial | exact rfl | exact Nat.le_refl _ | exact S.cx.giveEq | exact S.cx.lendLe (by assumption) | exact S.cx.lendEq (by assumption) | exact S.cx.lendLe0 | exact S.cx.lendEq0 | exact S.cx.partLe (by assumption) | exact S.cx.partEq (by assumption) | refine ⟨?_, ?_⟩))⟩ rfl (fun ln hln x hx => ⟨rfl, ?_⟩)
    obtain ⟨⟨⟨ages0h, used0h⟩, list0h⟩, ⟨slot1h, age1h⟩, v2h⟩ := x
    cbv
    have hN_ages0h := hln cInt64 ages0h
    generalize ln (A.enc cInt64 ages0h) = N_ages0h at hN_ages0h ⊢
    have hN_used0h := hln cBool used0h
    generalize ln (A.enc cBool used0h) = N_used0h at hN_used0h ⊢
    have hN_list0h := hln cAfter list0h
    generalize ln (A.enc cAfter list0h) = N_list0h at hN_list0h ⊢
    cases hx.trans hw.symm
    try (refine Drawn.mk ⟨by kernel_rfl, fun _ => ?_⟩)
    refine ACall.testD (dp := false) (eqAfters_c S ⟨⟨ages0w, used0w⟩, list0w⟩ ⟨⟨ages0w, used0w⟩, list0w⟩) ⟨rfl, (by repeat' (first | exact trivial | exact rfl | exact Nat.le_refl _ | exact S.cx.giveEq | exact S.cx.lendLe (by assumption) | exact S.cx.lendEq (by assumption) | exact S.cx.lendLe0 | exact S.cx.lendEq0 | exact S.cx.partLe (by assumption) | exact S.cx.partEq (by assumption) | refine ⟨?_, ?_⟩)), (by repeat' (first | exact trivial | exact rfl | exact Nat.le_refl _ | exact S.cx.giveEq | exact S.cx.lendLe (by assumption) | exact S.cx.lendEq (by assumption) | exact S.cx.lendLe0 | exact S.cx.lendEq0 | exact S.cx.partLe (by assumption) | exact S.cx.partEq (by assumption) | refine ⟨?_, ?_⟩))⟩ rfl (fun h => ?_) (fun h => ?_) <;> cbv
    rotate_left
    · exact absurd rfl h
    try (refine Drawn.mk ⟨by kernel_rfl, fun _ => ?_⟩)
    refine ACall.testD (dp := false) (eqHandle_c S ⟨slot1w, age1w⟩ ⟨slot1w, age1w⟩) ⟨rfl, (by repeat' (first | exact trivial | exact rfl | exact Nat.le_refl _ | exact S.cx.giveEq | exact S.cx.lendLe (by assumption) | exact S.cx.lendEq (by assumption) | exact S.cx.lendLe0 | exact S.cx.lendEq0 | exact S.cx.partLe (by assumption) | exact S.cx.partEq (by assumption) | refine ⟨?_, ?_⟩)), (by repeat' (first | exact trivial | exact rfl | exact Nat.le_refl _ | exact S.cx.giveEq | exact S.cx.lendLe (by assumption) | exact S.cx.lendEq (by assumption) | exact S.cx.lendLe0 | exact S.cx.lendEq0 | exact S.cx.partLe (by assumption) | exact S.cx.partEq (by assumption) | refine ⟨?_, ?_⟩))⟩ rfl (fun h => ?_) (fun h => ?_) <;> cbv
    rotate_left
    · exact absurd rfl h
    try (refine Drawn.mk ⟨by kernel_rfl, fun _ => ?_⟩)
    refine ACall.int (dp := false) (heldAfters_c S ⟨⟨mm_ages0w, mm_used0w⟩, mm_list0w⟩ 1 (by lia) (by dsimp only; lia) (by dsimp only; rw [l_ages0w]; exact em_ages0w) (by dsimp only; rw [l_used0w, l_ages0w]; exact em_used0w) (by dsimp only; rw [l_list0w, l_ages0w, l_used0w]; exact em_list0w)) ⟨rfl, (by repeat' (first | exact trivial | exact rfl | exact Nat.le_refl _ | exact S.cx.giveEq | exact S.cx.lendLe (by assumption) | exact S.cx.lendEq (by assumption) | exact S.cx.lendLe0 | exact S.cx.lendEq0 | exact S.cx.partLe (by assumption) | exact S.cx.partEq (by assumption) | refine ⟨?_, ?_⟩)), (by repeat' (first | exact trivial | exact rfl | exact Nat.le_refl _ | exact S.cx.giveEq | exact S.cx.lendLe (by assumption) | exact S.cx.lendEq (by assumption) | exact S.cx.lendLe0 | exact S.cx.lendEq0 | exact S.cx.partLe (by assumption) | exact S.cx.partEq (by assumption) | refine ⟨?_, ?_⟩))⟩ rfl (fun qr_0 hqr_0 => ?_); cbv
    dsimp only at hqr_0
    refine Test.lss (fun h => ?_) (fun h => ?_) <;> cbv
    · exfalso; lia
    refine Test.neq (fun h => ?_) (fun h => ?_) <;> cbv
    · exfalso; lia
    exact Done.to (.bool true) [] rfl rfl trivial ⟨rfl, rfl⟩

end Go.Proofs.Ytmbckmfihcojoaa.AM
