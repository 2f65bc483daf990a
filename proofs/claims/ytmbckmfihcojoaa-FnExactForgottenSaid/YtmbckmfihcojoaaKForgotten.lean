/- Contracts: the law Forgotten. (printed by gk4.py) -/
import Derived.Test.YtmbckmfihcojoaaKT
import Derived.Test.YtmbckmfihcojoaaG5
import Derived.Test.YtmbckmfihcojoaaBC
namespace Go.Proofs.Ytmbckmfihcojoaa.AM
open Go Go.Proofs

set_option maxRecDepth 100000
set_option maxHeartbeats 4000000
set_option linter.unusedVariables false
set_option linter.unusedSimpArgs false

variable {P : Program} {A : Sy}

theorem lawForgotten_c (S : Se P A) (heap_t : List Twig) (list_t : List Timer) (next_t : Int) (q : Int) : Is1 P 12 [.agg (roTimers A ⟨heap_t, list_t, next_t⟩), .int .i64 q] (.bool true) := by
  refine S.cx.by (S.prog ▸ Try.func12) rfl rfl rfl rfl (fun hv ho => ?_)
  cbv
  try (refine Drawn.mk ⟨by kernel_rfl, fun _ => ?_⟩)
  refine ACall.num (dp := false) (szTimers_c S ⟨heap_t, list_t, next_t⟩ 1048576 (by lia)) ⟨rfl, (by repeat' (first | exact trivial | exact rfl | exact Nat.le_refl _ | exact S.cx.giveEq | exact S.cx.lendLe (by assumption) | exact S.cx.lendEq (by assumption) | exact S.cx.lendLe0 | exact S.cx.lendEq0 | exact S.cx.partLe (by assumption) | exact S.cx.partEq (by assumption) | exact .inl rfl | refine ⟨?_, ?_⟩)), (by repeat' (first | exact trivial | exact rfl | exact Nat.le_refl _ | exact S.cx.giveEq | exact S.cx.lendLe (by assumption) | exact S.cx.lendEq (by assumption) | exact S.cx.lendLe0 | exact S.cx.lendEq0 | exact S.cx.partLe (by assumption) | exact S.cx.partEq (by assumption) | exact .inl rfl | refine ⟨?_, ?_⟩))⟩ (fun q_t hq_t => ?_); cbv
  refine Test.lss (fun h => ?_) (fun h => ?_) <;> cbv
  · exact Done.to (.bool true) [] rfl rfl trivial ⟨rfl, rfl⟩
  replace hq_t := hq_t.resolve_left (by lia)
  simp only [Timers.total] at hq_t
  have b_heap_t : heap_t.length ≤ 1048576 := by lia
  have b_list_t : list_t.length ≤ 1048576 := by lia
  try (refine Drawn.mk ⟨by kernel_rfl, fun _ => ?_⟩)
  refine ACall.valN (r := (fun x : Timers => .agg (ownTimers A x))) (os := fun _ => []) (dp := false) S.cx (toTimers_c S ⟨heap_t, list_t, next_t⟩ ⟨(Nat.le_trans b_heap_t (by decide)), (Nat.le_trans b_list_t (by decide))⟩) ⟨rfl, (by repeat' (first | exact trivial | exact rfl | exact Nat.le_refl _ | exact S.cx.giveEq | exact S.cx.lendLe (by assumption) | exact S.cx.lendEq (by assumption) | exact S.cx.lendLe0 | exact S.cx.lendEq0 | exact S.cx.partLe (by assumption) | exact S.cx.partEq (by assumption) | exact .inl rfl | refine ⟨?_, ?_⟩)), (by repeat' (first | exact trivial | exact rfl | exact Nat.le_refl _ | exact S.cx.giveEq | exact S.cx.lendLe (by assumption) | exact S.cx.lendEq (by assumption) | exact S.cx.lendLe0 | exact S.cx.lendEq0 | exact S.cx.partLe (by assumption) | exact S.cx.partEq (by assumption) | exact .inl rfl | refine ⟨?_, ?_⟩))⟩ rfl (fun ln hln x hx => ⟨rfl, ?_⟩)
  obtain ⟨heap_tx, list_tx, next_tx⟩ := x
  cases hx
  cbv
  have hna_heap_t := hln cTwig heap_t
  generalize ln (A.enc cTwig heap_t) = na_heap_t at hna_heap_t ⊢
  have hna_list_t := hln cTimer list_t
  generalize ln (A.enc cTimer list_t) = na_list_t at hna_list_t ⊢
  try (refine Drawn.mk ⟨by kernel_rfl, fun _ => ?_⟩)
  refine ACall.valN (r := rTB A) (os := fun _ => []) (dp := false) S.cx (specForgotten_c S heap_t list_t next_t q (Nat.le_trans b_heap_t (by decide)) (Nat.le_trans b_list_t (by decide))) ⟨rfl, (by repeat' (first | exact trivial | exact rfl | exact Nat.le_refl _ | exact S.cx.giveEq | exact S.cx.lendLe (by assumption) | exact S.cx.lendEq (by assumption) | exact S.cx.lendLe0 | exact S.cx.lendEq0 | exact S.cx.partLe (by assumption) | exact S.cx.partEq (by assumption) | exact .inl rfl | refine ⟨?_, ?_⟩)), (by repeat' (first | exact trivial | exact rfl | exact Nat.le_refl _ | exact S.cx.giveEq | exact S.cx.lendLe (by assumption) | exact S.cx.lendEq (by assumption) | exact S.cx.lendLe0 | exact S.cx.lendEq0 | exact S.cx.partLe (by assumption) | exact S.cx.partEq (by assumption) | exact .inl rfl | refine ⟨?_, ?_⟩))⟩ rfl (fun ln hln x hx => ⟨rfl, ?_⟩)
  obtain ⟨⟨heap0w, list0w, next0w⟩, v1w⟩ := x
  cbv
  have hN_heap0w := hln cTwig heap0w
  generalize ln (A.enc cTwig heap0w) = N_heap0w at hN_heap0w ⊢
  have hN_list0w := hln cTimer list0w
  generalize ln (A.enc cTimer list0w) = N_list0w at hN_list0w ⊢
  have hw := hx
  have hfew := forgotten_few ⟨heap_t, list_t, next_t⟩ q
  rw [← hw] at hfew
  obtain ⟨b_heap0w, b_list0w⟩ := hfew
  try dsimp only at b_heap0w b_list0w
  cases v1w
  all_goals
    try cbv
    try (refine Drawn.mk ⟨by kernel_rfl, fun _ => ?_⟩)
    refine ACall.valN (r := (fun x : Timers => .agg (ownTimers A x))) (os := fun _ => []) (dp := false) S.cx (toTimers_c S ⟨heap_t, list_t, next_t⟩ ⟨(Nat.le_trans b_heap_t (by decide)), (Nat.le_trans b_list_t (by decide))⟩) ⟨rfl, (by repeat' (first | exact trivial | exact rfl | exact Nat.le_refl _ | exact S.cx.giveEq | exact S.cx.lendLe (by assumption) | exact S.cx.lendEq (by assumption) | exact S.cx.lendLe0 | exact S.cx.lendEq0 | exact S.cx.partLe (by assumption) | exact S.cx.partEq (by assumption) | exact .inl rfl | refine ⟨?_, ?_⟩)), (by repeat' (first | exact trivial | exact rfl | exact Nat.le_refl _ | exact S.cx.giveEq | exact S.cx.lendLe (by assumption) | exact S.cx.lendEq (by assumption) | exact S.cx.lendLe0 | exact S.cx.lendEq0 | exact S.cx.partLe (by assumption) | exact S.cx.partEq (by assumption) | exact .inl rfl | refine ⟨?_, ?_⟩))⟩ rfl (fun ln hln x hx => ⟨rfl, ?_⟩)
    obtain ⟨heap_tx, list_tx, next_tx⟩ := x
    cases hx
    cbv
    have hnb_heap_t := hln cTwig heap_t
    generalize ln (A.enc cTwig heap_t) = nb_heap_t at hnb_heap_t ⊢
    have hnb_list_t := hln cTimer list_t
    generalize ln (A.enc cTimer list_t) = nb_list_t at hnb_list_t ⊢
    try (refine Drawn.mk ⟨by kernel_rfl, fun _ => ?_⟩)
    refine ACall.valN (r := rTB A) (os := fun _ => []) (dp := false) S.cx (implForgotten_c S heap_t list_t next_t q (Nat.le_trans b_heap_t (by decide)) (Nat.le_trans b_list_t (by decide))) ⟨rfl, (by repeat' (first | exact trivial | exact rfl | exact Nat.le_refl _ | exact S.cx.giveEq | exact S.cx.lendLe (by assumption) | exact S.cx.lendEq (by assumption) | exact S.cx.lendLe0 | exact S.cx.lendEq0 | exact S.cx.partLe (by assumption) | exact S.cx.partEq (by assumption) | exact .inl rfl | refine ⟨?_, ?_⟩)), (by repeat' (first | exact trivial | exact rfl | exact Nat.le_refl _ | exact S.cx.giveEq | exact S.cx.lendLe (by assumption) | exact S.cx.lendEq (by assumption) | exact S.cx.lendLe0 | exact S.cx.lendEq0 | exact S.cx.partLe (by assumption) | exact S.cx.partEq (by assumption) | exact .inl rfl | refine ⟨?_, ?_⟩))⟩ rfl (fun ln hln x hx => ⟨rfl, ?_⟩)
    obtain ⟨⟨heap0g, list0g, next0g⟩, v1g⟩ := x
    cbv
    have hN_heap0g := hln cTwig heap0g
    generalize ln (A.enc cTwig heap0g) = N_heap0g at hN_heap0g ⊢
    have hN_list0g := hln cTimer list0g
    generalize ln (A.enc cTimer list0g) = N_list0g at hN_list0g ⊢
    cases hx.trans hw.symm
    try (refine Drawn.mk ⟨by kernel_rfl, fun _ => ?_⟩)
    refine ACall.testD (dp := false) (eqTimers_c S ⟨heap0w, list0w, next0w⟩ ⟨heap0w, list0w, next0w⟩) ⟨rfl, (by repeat' (first | exact trivial | exact rfl | exact Nat.le_refl _ | exact S.cx.giveEq | exact S.cx.lendLe (by assumption) | exact S.cx.lendEq (by assumption) | exact S.cx.lendLe0 | exact S.cx.lendEq0 | exact S.cx.partLe (by assumption) | exact S.cx.partEq (by assumption) | exact .inl rfl | refine ⟨?_, ?_⟩)), (by repeat' (first | exact trivial | exact rfl | exact Nat.le_refl _ | exact S.cx.giveEq | exact S.cx.lendLe (by assumption) | exact S.cx.lendEq (by assumption) | exact S.cx.lendLe0 | exact S.cx.lendEq0 | exact S.cx.partLe (by assumption) | exact S.cx.partEq (by assumption) | exact .inl rfl | refine ⟨?_, ?_⟩))⟩ rfl (fun h => ?_) (fun h => ?_) <;> cbv
    rotate_left
    · exact absurd rfl h
    try (refine Drawn.mk ⟨by kernel_rfl, fun _ => ?_⟩)
    refine ACall.valN (r := (fun x : Timers => .agg (ownTimers A x))) (os := fun _ => []) (dp := false) S.cx (toTimers_c S ⟨heap_t, list_t, next_t⟩ ⟨(Nat.le_trans b_heap_t (by decide)), (Nat.le_trans b_list_t (by decide))⟩) ⟨rfl, (by repeat' (first | exact trivial | exact rfl | exact Nat.le_refl _ | exact S.cx.giveEq | exact S.cx.lendLe (by assumption) | exact S.cx.lendEq (by assumption) | exact S.cx.lendLe0 | exact S.cx.lendEq0 | exact S.cx.partLe (by assumption) | exact S.cx.partEq (by assumption) | exact .inl rfl | refine ⟨?_, ?_⟩)), (by repeat' (first | exact trivial | exact rfl | exact Nat.le_refl _ | exact S.cx.giveEq | exact S.cx.lendLe (by assumption) | exact S.cx.lendEq (by assumption) | exact S.cx.lendLe0 | exact S.cx.lendEq0 | exact S.cx.partLe (by assumption) | exact S.cx.partEq (by assumption) | exact .inl rfl | refine ⟨?_, ?_⟩))⟩ rfl (fun ln hln x hx => ⟨rfl, ?_⟩)
    obtain ⟨heap_tx, list_tx, next_tx⟩ := x
    cases hx
    cbv
    have hnc_heap_t := hln cTwig heap_t
    generalize ln (A.enc cTwig heap_t) = nc_heap_t at hnc_heap_t ⊢
    have hnc_list_t := hln cTimer list_t
    generalize ln (A.enc cTimer list_t) = nc_list_t at hnc_list_t ⊢
    try (refine Drawn.mk ⟨by kernel_rfl, fun _ => ?_⟩)
    refine ACall.testD (dp := false) (eqTimers_c S ⟨heap_t, list_t, next_t⟩ ⟨heap_t, list_t, next_t⟩) ⟨rfl, (by repeat' (first | exact trivial | exact rfl | exact Nat.le_refl _ | exact S.cx.giveEq | exact S.cx.lendLe (by assumption) | exact S.cx.lendEq (by assumption) | exact S.cx.lendLe0 | exact S.cx.lendEq0 | exact S.cx.partLe (by assumption) | exact S.cx.partEq (by assumption) | exact .inl rfl | refine ⟨?_, ?_⟩)), (by repeat' (first | exact trivial | exact rfl | exact Nat.le_refl _ | exact S.cx.giveEq | exact S.cx.lendLe (by assumption) | exact S.cx.lendEq (by assumption) | exact S.cx.lendLe0 | exact S.cx.lendEq0 | exact S.cx.partLe (by assumption) | exact S.cx.partEq (by assumption) | exact .inl rfl | refine ⟨?_, ?_⟩))⟩ rfl (fun h => ?_) (fun h => ?_) <;> cbv
    rotate_left
    · exact absurd rfl h
    try (refine Drawn.mk ⟨by kernel_rfl, fun _ => ?_⟩)
    refine ACall.mut2 (dp := false) (markTimers_c S heap_t list_t next_t nb_heap_t hnb_heap_t nb_list_t hnb_list_t 1 (by lia) (by lia)) ⟨rfl, (by repeat' (first | exact trivial | exact rfl | exact Nat.le_refl _ | exact S.cx.giveEq | exact S.cx.lendLe (by assumption) | exact S.cx.lendEq (by assumption) | exact S.cx.lendLe0 | exact S.cx.lendEq0 | exact S.cx.partLe (by assumption) | exact S.cx.partEq (by assumption) | exact .inl rfl | refine ⟨?_, ?_⟩)), (by repeat' (first | exact trivial | exact rfl | exact Nat.le_refl _ | exact S.cx.giveEq | exact S.cx.lendLe (by assumption) | exact S.cx.lendEq (by assumption) | exact S.cx.lendLe0 | exact S.cx.lendEq0 | exact S.cx.partLe (by assumption) | exact S.cx.partEq (by assumption) | exact .inl rfl | refine ⟨?_, ?_⟩))⟩ rfl (fun k_t mk_heap_t mk_list_t hk_t ek_heap_t ek_list_t => ⟨rfl, ?_⟩); cbv
    refine Test.lss (fun h => ?_) (fun h => ?_) <;> cbv
    · exfalso; lia
    try (refine Drawn.mk ⟨by kernel_rfl, fun _ => ?_⟩)
    refine ACall.testD (dp := false) (eqTimers_c S ⟨heap0w, list0w, next0w⟩ ⟨heap0w, list0w, next0w⟩) ⟨rfl, (by repeat' (first | exact trivial | exact rfl | exact Nat.le_refl _ | exact S.cx.giveEq | exact S.cx.lendLe (by assumption) | exact S.cx.lendEq (by assumption) | exact S.cx.lendLe0 | exact S.cx.lendEq0 | exact S.cx.partLe (by assumption) | exact S.cx.partEq (by assumption) | exact .inl rfl | refine ⟨?_, ?_⟩)), (by repeat' (first | exact trivial | exact rfl | exact Nat.le_refl _ | exact S.cx.giveEq | exact S.cx.lendLe (by assumption) | exact S.cx.lendEq (by assumption) | exact S.cx.lendLe0 | exact S.cx.lendEq0 | exact S.cx.partLe (by assumption) | exact S.cx.partEq (by assumption) | exact .inl rfl | refine ⟨?_, ?_⟩))⟩ rfl (fun h => ?_) (fun h => ?_) <;> cbv
    rotate_left
    · exact absurd rfl h
    try (refine Drawn.mk ⟨by kernel_rfl, fun _ => ?_⟩)
    refine ACall.mut2 (dp := false) (markTimers_c S heap0w list0w next0w N_heap0g hN_heap0g N_list0g hN_list0g 1 (by lia) (by lia)) ⟨rfl, (by repeat' (first | exact trivial | exact rfl | exact Nat.le_refl _ | exact S.cx.giveEq | exact S.cx.lendLe (by assumption) | exact S.cx.lendEq (by assumption) | exact S.cx.lendLe0 | exact S.cx.lendEq0 | exact S.cx.partLe (by assumption) | exact S.cx.partEq (by assumption) | exact .inl rfl | refine ⟨?_, ?_⟩)), (by repeat' (first | exact trivial | exact rfl | exact Nat.le_refl _ | exact S.cx.giveEq | exact S.cx.lendLe (by assumption) | exact S.cx.lendEq (by assumption) | exact S.cx.lendLe0 | exact S.cx.lendEq0 | exact S.cx.partLe (by assumption) | exact S.cx.partEq (by assumption) | exact .inl rfl | refine ⟨?_, ?_⟩))⟩ rfl (fun m_0 mm_heap0w mm_list0w hm_0 em_heap0w em_list0w => ⟨rfl, ?_⟩); cbv
    have l_heap0w : mm_heap0w.length = N_heap0g := by rw [em_heap0w, marks_len]
    have l_heap0w_ := l_heap0w.symm
    have l_list0w : mm_list0w.length = N_list0g := by rw [em_list0w, marks_len]
    have l_list0w_ := l_list0w.symm
    try (refine Drawn.mk ⟨by kernel_rfl, fun _ => ?_⟩)
    refine ACall.int (dp := false) (heldTimers_c S ⟨mm_heap0w, mm_list0w, next0w⟩ 1 (by lia) (by dsimp only; lia) (by dsimp only; rw [l_heap0w]; exact em_heap0w) (by dsimp only; rw [l_list0w, l_heap0w]; exact em_list0w)) ⟨rfl, (by repeat' (first | exact trivial | exact rfl | exact Nat.le_refl _ | exact S.cx.giveEq | exact S.cx.lendLe (by assumption) | exact S.cx.lendEq (by assumption) | exact S.cx.lendLe0 | exact S.cx.lendEq0 | exact S.cx.partLe (by assumption) | exact S.cx.partEq (by assumption) | exact .inl rfl | refine ⟨?_, ?_⟩)), (by repeat' (first | exact trivial | exact rfl | exact Nat.le_refl _ | exact S.cx.giveEq | exact S.cx.lendLe (by assumption) | exact S.cx.lendEq (by assumption) | exact S.cx.lendLe0 | exact S.cx.lendEq0 | exact S.cx.partLe (by assumption) | exact S.cx.partEq (by assumption) | exact .inl rfl | refine ⟨?_, ?_⟩))⟩ rfl (fun qq_0 hqq_0 => ?_); cbv
    dsimp only at hqq_0
    refine Test.lss (fun h => ?_) (fun h => ?_) <;> cbv
    · exfalso; lia
    refine Test.neq (fun h => ?_) (fun h => ?_) <;> cbv
    · exfalso; lia
    try (refine Drawn.mk ⟨by kernel_rfl, fun _ => ?_⟩)
    refine ACall.valN (r := (fun x : Timers => .agg (ownTimers A x))) (os := fun _ => []) (dp := false) S.cx (toTimers_c S ⟨heap_t, list_t, next_t⟩ ⟨(Nat.le_trans b_heap_t (by decide)), (Nat.le_trans b_list_t (by decide))⟩) ⟨rfl, (by repeat' (first | exact trivial | exact rfl | exact Nat.le_refl _ | exact S.cx.giveEq | exact S.cx.lendLe (by assumption) | exact S.cx.lendEq (by assumption) | exact S.cx.lendLe0 | exact S.cx.lendEq0 | exact S.cx.partLe (by assumption) | exact S.cx.partEq (by assumption) | exact .inl rfl | refine ⟨?_, ?_⟩)), (by repeat' (first | exact trivial | exact rfl | exact Nat.le_refl _ | exact S.cx.giveEq | exact S.cx.lendLe (by assumption) | exact S.cx.lendEq (by assumption) | exact S.cx.lendLe0 | exact S.cx.lendEq0 | exact S.cx.partLe (by assumption) | exact S.cx.partEq (by assumption) | exact .inl rfl | refine ⟨?_, ?_⟩))⟩ rfl (fun ln hln x hx => ⟨rfl, ?_⟩)
    obtain ⟨heap_tx, list_tx, next_tx⟩ := x
    cases hx
    cbv
    have hnd_heap_t := hln cTwig heap_t
    generalize ln (A.enc cTwig heap_t) = nd_heap_t at hnd_heap_t ⊢
    have hnd_list_t := hln cTimer list_t
    generalize ln (A.enc cTimer list_t) = nd_list_t at hnd_list_t ⊢
    try (refine Drawn.mk ⟨by kernel_rfl, fun _ => ?_⟩)
    refine ACall.valN (r := rTB A) (os := fun _ => []) (dp := false) S.cx (implForgotten_c S heap_t list_t next_t q (Nat.le_trans b_heap_t (by decide)) (Nat.le_trans b_list_t (by decide))) ⟨rfl, (by repeat' (first | exact trivial | exact rfl | exact Nat.le_refl _ | exact S.cx.giveEq | exact S.cx.lendLe (by assumption) | exact S.cx.lendEq (by assumption) | exact S.cx.lendLe0 | exact S.cx.lendEq0 | exact S.cx.partLe (by assumption) | exact S.cx.partEq (by assumption) | exact .inl rfl | refine ⟨?_, ?_⟩)), (by repeat' (first | exact trivial | exact rfl | exact Nat.le_refl _ | exact S.cx.giveEq | exact S.cx.lendLe (by assumption) | exact S.cx.lendEq (by assumption) | exact S.cx.lendLe0 | exact S.cx.lendEq0 | exact S.cx.partLe (by assumption) | exact S.cx.partEq (by assumption) | exact .inl rfl | refine ⟨?_, ?_⟩))⟩ rfl (fun ln hln x hx => ⟨rfl, ?_⟩)
    obtain ⟨⟨heap0h, list0h, next0h⟩, v1h⟩ := x
    cbv
    have hN_heap0h := hln cTwig heap0h
    generalize ln (A.enc cTwig heap0h) = N_heap0h at hN_heap0h ⊢
    have hN_list0h := hln cTimer list0h
    generalize ln (A.enc cTimer list0h) = N_list0h at hN_list0h ⊢
    cases hx.trans hw.symm
    try (refine Drawn.mk ⟨by kernel_rfl, fun _ => ?_⟩)
    refine ACall.testD (dp := false) (eqTimers_c S ⟨heap0w, list0w, next0w⟩ ⟨heap0w, list0w, next0w⟩) ⟨rfl, (by repeat' (first | exact trivial | exact rfl | exact Nat.le_refl _ | exact S.cx.giveEq | exact S.cx.lendLe (by assumption) | exact S.cx.lendEq (by assumption) | exact S.cx.lendLe0 | exact S.cx.lendEq0 | exact S.cx.partLe (by assumption) | exact S.cx.partEq (by assumption) | exact .inl rfl | refine ⟨?_, ?_⟩)), (by repeat' (first | exact trivial | exact rfl | exact Nat.le_refl _ | exact S.cx.giveEq | exact S.cx.lendLe (by assumption) | exact S.cx.lendEq (by assumption) | exact S.cx.lendLe0 | exact S.cx.lendEq0 | exact S.cx.partLe (by assumption) | exact S.cx.partEq (by assumption) | exact .inl rfl | refine ⟨?_, ?_⟩))⟩ rfl (fun h => ?_) (fun h => ?_) <;> cbv
    rotate_left
    · exact absurd rfl h
    try (refine Drawn.mk ⟨by kernel_rfl, fun _ => ?_⟩)
    refine ACall.int (dp := false) (heldTimers_c S ⟨mm_heap0w, mm_list0w, next0w⟩ 1 (by lia) (by dsimp only; lia) (by dsimp only; rw [l_heap0w]; exact em_heap0w) (by dsimp only; rw [l_list0w, l_heap0w]; exact em_list0w)) ⟨rfl, (by repeat' (first | exact trivial | exact rfl | exact Nat.le_refl _ | exact S.cx.giveEq | exact S.cx.lendLe (by assumption) | exact S.cx.lendEq (by assumption) | exact S.cx.lendLe0 | exact S.cx.lendEq0 | exact S.cx.partLe (by assumption) | exact S.cx.partEq (by assumption) | exact .inl rfl | refine ⟨?_, ?_⟩)), (by repeat' (first | exact trivial | exact rfl | exact Nat.le_refl _ | exact S.cx.giveEq | exact S.cx.lendLe (by assumption) | exact S.cx.lendEq (by assumption) | exact S.cx.lendLe0 | exact S.cx.lendEq0 | exact S.cx.partLe (by assumption) | exact S.cx.partEq (by assumption) | exact .inl rfl | refine ⟨?_, ?_⟩))⟩ rfl (fun qr_0 hqr_0 => ?_); cbv
    dsimp only at hqr_0
    refine Test.lss (fun h => ?_) (fun h => ?_) <;> cbv
    · exfalso; lia
    refine Test.neq (fun h => ?_) (fun h => ?_) <;> cbv
    · exfalso; lia
    exact Done.to (.bool true) [] rfl rfl trivial ⟨rfl, rfl⟩

end Go.Proofs.Ytmbckmfihcojoaa.AM
