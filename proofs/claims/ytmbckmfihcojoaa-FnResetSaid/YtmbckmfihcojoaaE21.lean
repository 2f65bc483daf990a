/- Contracts: timers reset, fired, forgotten in the spec. (printed by ge20.py) -/
import Derived.Test.YtmbckmfihcojoaaE20
import Derived.Test.YtmbckmfihcojoaaE19
namespace Go.Proofs.Ytmbckmfihcojoaa.AM
open Go Go.Proofs

set_option maxRecDepth 100000
set_option maxHeartbeats 4000000
set_option linter.unusedVariables false
set_option linter.unusedSimpArgs false

variable {P : Program} {A : Sy}

theorem specIsDue_c (S : Se P A) (now d : Int) : Tests P 122 [.int .i64 now, .int .i64 d] (d ≤ now ∧ d ≠ 9223372036854775807) := by
  refine S.cx.by (S.prog ▸ Try.func122) rfl rfl rfl rfl (fun hv ho => ?_)
  cbv
  refine Test.leq (fun h1 => ?_) (fun h1 => ?_) <;> cbv
  · refine Test.neq (fun h2 => ?_) (fun h2 => ?_) <;> cbv
    · exact Done.yes ⟨h1, h2⟩
    · exact Done.no fun e => e.2 h2
  · exact Done.no fun e => by omega

theorem specReset_c (S : Se P A) (heap : List Twig) (list : List Timer) (next q due : Int) (h1 : heap.length ≤ 4294967296) (h2 : list.length ≤ 4294967296) : Is1 P 55 [.agg (roTimers A ⟨heap, list, next⟩), .int .i64 q, .int .i64 due] (rTB A (Reset ⟨heap, list, next⟩ q due)) := by
  refine S.cx.by (S.prog ▸ Try.func55) rfl rfl rfl rfl (fun hv ho => ?_)
  cbv
  refine ACall.testD (dp := false) (specTimersOk_c S heap list next) ⟨rfl, (by repeat' (first | exact trivial | exact rfl | exact Nat.le_refl _ | exact S.cx.giveEq | exact S.cx.lendLe (by assumption) | exact S.cx.lendEq (by assumption) | exact S.cx.lendLe0 | exact S.cx.lendEq0 | exact S.cx.partLe (by assumption) | exact S.cx.partEq (by assumption) | exact .inl rfl | refine ⟨?_, ?_⟩)), (by repeat' (first | exact trivial | exact rfl | exact Nat.le_refl _ | exact S.cx.giveEq | exact S.cx.lendLe (by assumption) | exact S.cx.lendEq (by assumption) | exact S.cx.lendLe0 | exact S.cx.lendEq0 | exact S.cx.partLe (by assumption) | exact S.cx.partEq (by assumption) | exact .inl rfl | refine ⟨?_, ?_⟩))⟩ rfl (fun hok => ?_) (fun hok => ?_) <;> cbv
  rotate_left
  · exact Done.is (r := rTB A) (x := (timers0, false)) (by repeat' (first | exact trivial | exact rfl | exact resOwn S.cx rfl (by assumption) | exact resOwn S.cx rfl (S.cx.lenE _ _) | exact resOwn1 S.cx rfl (by assumption) | exact resOwnT S.cx rfl (by assumption) | exact S.cx.enc _ [] | refine ⟨?_, ?_⟩)) rfl (if_neg hok)
  have hre : Reset ⟨heap, list, next⟩ q due = resetT ⟨heap, list, next⟩ q due := if_pos hok
  have hst : Stopped ⟨heap, list, next⟩ q = stopT ⟨heap, list, next⟩ q := if_pos hok
  have hsk := stopT_ok q hok
  have hsg := stopT_gone (q := q) hok
  have hsi := stopT_idx ⟨heap, list, next⟩ q q
  have hsf := stopT_off (t := ⟨heap, list, next⟩) (q := q)
  refine ACall.valN (r := rTB A) (os := fun _ => []) (dp := false) S.cx (specStopped_c S heap list next q h1 h2) ⟨rfl, (by repeat' (first | exact trivial | exact rfl | exact Nat.le_refl _ | exact S.cx.giveEq | exact S.cx.lendLe (by assumption) | exact S.cx.lendEq (by assumption) | exact S.cx.lendLe0 | exact S.cx.lendEq0 | exact S.cx.partLe (by assumption) | exact S.cx.partEq (by assumption) | exact .inl rfl | refine ⟨?_, ?_⟩)), (by repeat' (first | exact trivial | exact rfl | exact Nat.le_refl _ | exact S.cx.giveEq | exact S.cx.lendLe (by assumption) | exact S.cx.lendEq (by assumption) | exact S.cx.lendLe0 | exact S.cx.lendEq0 | exact S.cx.partLe (by assumption) | exact S.cx.partEq (by assumption) | exact .inl rfl | refine ⟨?_, ?_⟩))⟩ rfl (fun ln hln x hx => ⟨rfl, ?_⟩)
  obtain ⟨⟨heap1, list1, next1⟩, b⟩ := x
  cbv
  have hN1 := hln cTwig heap1
  generalize ln (A.enc cTwig heap1) = N1 at hN1 ⊢
  have hK1 := hln cTimer list1
  generalize ln (A.enc cTimer list1) = K1 at hK1 ⊢
  rw [hst] at hx
  rw [← hx] at hsk hsg hsi hsf
  dsimp only at hsi hsg hsf
  have hres : resetT ⟨heap, list, next⟩ q due = (againT ⟨heap1, list1, next1⟩ q due, b) := by unfold resetT; rw [← hx]
  rw [hres] at hre
  have hb1 := hsk.2.2.1.1
  have hb2 := hsk.2.1
  dsimp only at hb1 hb2
  refine ACall.int (dp := false) (l4At_c S heap list next q) ⟨rfl, (by repeat' (first | exact trivial | exact rfl | exact Nat.le_refl _ | exact S.cx.giveEq | exact S.cx.lendLe (by assumption) | exact S.cx.lendEq (by assumption) | exact S.cx.lendLe0 | exact S.cx.lendEq0 | exact S.cx.partLe (by assumption) | exact S.cx.partEq (by assumption) | exact .inl rfl | refine ⟨?_, ?_⟩)), (by repeat' (first | exact trivial | exact rfl | exact Nat.le_refl _ | exact S.cx.giveEq | exact S.cx.lendLe (by assumption) | exact S.cx.lendEq (by assumption) | exact S.cx.lendLe0 | exact S.cx.lendEq0 | exact S.cx.partLe (by assumption) | exact S.cx.partEq (by assumption) | exact .inl rfl | refine ⟨?_, ?_⟩))⟩ rfl (fun r hr => ?_); cbv
  refine Test.lss (fun h => ?_) (fun h => ?_) <;> cbv
  · have e := stop_none (t := ⟨heap, list, next⟩) (q := q) (by rw [← hr]; exact h)
    rw [e] at hx
    have hb : b = false := congrArg Prod.snd hx
    exact Done.is (r := rTB A) (x := ((⟨heap1, list1, next1⟩ : Timers), false)) (by repeat' (first | exact trivial | exact rfl | exact resOwn S.cx rfl (by assumption) | exact resOwn S.cx rfl (S.cx.lenE _ _) | exact resOwn1 S.cx rfl (by assumption) | exact resOwnT S.cx rfl (by assumption) | exact S.cx.enc _ [] | refine ⟨?_, ?_⟩)) rfl (by rw [hre, again_none (t := ⟨heap1, list1, next1⟩) (by dsimp only; rw [hsi, ← hr]; omega), hb])
  rw [← hr] at hsi hsf
  obtain ⟨⟨ys, yd, yw, yh, ya⟩, hy, he, hoff⟩ := hsf (by omega)
  dsimp only at he hoff
  have hag := again_some (t := ⟨heap1, list1, next1⟩) (q := q) (due := due) (x := ⟨ys, yd, yw, yh, ya⟩) (by dsimp only; omega) (by dsimp only; rw [hsi]; exact hy)
  dsimp only at hag
  rw [hsi] at hag
  have hlt := (List.getElem?_eq_some_iff.1 hy).1
  have hlt2 : heap1.length < 64 := by
    have g1 := hsk.2.2.2.2.2.1
    have g2 := armed_lt hy hoff
    dsimp only at g1
    omega
  refine ElemRef.go rfl (by lia) (by lia) (by rw [S.cx.lenE']; lia) (fun row2 hrow2 => ?_); cbv
  refine RowSet.enc S.cx (⟨ys, yd, yw, yh, ya⟩ : Timer) ⟨ys, yd, yw, yh, true⟩ (by rw [show row2 = r.toNat by omega]; exact hy) rfl (Nat.le_refl _) rfl (fun list2 hlist2 => ?_); cbv
  have hy2 : list2[r.toNat]? = some ⟨ys, yd, yw, yh, true⟩ := by rw [hlist2, show row2 = r.toNat by omega, List.getElem?_set_self hlt]
  have hl2 : list2.length = list1.length := by rw [hlist2, List.length_set]
  have hK2 : K1 = list2.length := by rw [hl2]; exact hK1
  refine ElemRef.go rfl (by lia) (by lia) (by rw [S.cx.lenE']; lia) (fun row3 hrow3 => ?_); cbv
  refine RowSet.enc S.cx (⟨ys, yd, yw, yh, true⟩ : Timer) ⟨ys, due, yw, yh, true⟩ (by rw [show row3 = r.toNat by omega]; exact hy2) rfl (by show (2 : Nat) ≤ 5; decide) rfl (fun list3 hlist3 => ?_); cbv
  have hl3 : list3.length = list1.length := by rw [hlist3, List.length_set, hl2]
  have hK3 : K1 = list3.length := by rw [hl3]; exact hK1
  have hlist : list3 = list1.set r.toNat ⟨ys, due, yw, yh, true⟩ := by rw [hlist3, hlist2, show row3 = r.toNat by omega, show row2 = r.toNat by omega, List.set_set]
  have hxs := hx
  refine ACall.valN (r := rTwB A) (os := fun _ => []) (dp := false) S.cx (specPut_c S heap1 due q) ⟨rfl, (by repeat' (first | exact trivial | exact rfl | exact Nat.le_refl _ | exact S.cx.giveEq | exact S.cx.lendLe (by assumption) | exact S.cx.lendEq (by assumption) | exact S.cx.lendLe0 | exact S.cx.lendEq0 | exact S.cx.partLe (by assumption) | exact S.cx.partEq (by assumption) | exact .inl rfl | refine ⟨?_, ?_⟩)), (by repeat' (first | exact trivial | exact rfl | exact Nat.le_refl _ | exact S.cx.giveEq | exact S.cx.lendLe (by assumption) | exact S.cx.lendEq (by assumption) | exact S.cx.lendLe0 | exact S.cx.lendEq0 | exact S.cx.partLe (by assumption) | exact S.cx.partEq (by assumption) | exact .inl rfl | refine ⟨?_, ?_⟩))⟩ rfl (fun ln hln x hx => ⟨rfl, ?_⟩)
  obtain ⟨l2, b2⟩ := x
  cbv
  have hN2 := hln cTwig l2
  generalize ln (A.enc cTwig l2) = N2 at hN2 ⊢
  rw [merged_put hsk.2.2.1 hsg hlt2] at hx
  simp only [Prod.mk.injEq] at hx
  obtain ⟨hx1, hx2⟩ := hx
  exact Done.is (r := rTB A) (x := ((⟨l2, list3, next1⟩ : Timers), b)) (by repeat' (first | exact trivial | exact rfl | exact resOwn S.cx rfl (by assumption) | exact resOwn S.cx rfl (S.cx.lenE _ _) | exact resOwn1 S.cx rfl (by assumption) | exact resOwnT S.cx rfl (by assumption) | exact S.cx.enc _ [] | refine ⟨?_, ?_⟩)) rfl (by rw [hre, hag, hx1, hlist])

theorem specFired_c (S : Se P A) (heap : List Twig) (list : List Timer) (next now : Int) (h1 : heap.length ≤ 4294967296) (h2 : list.length ≤ 4294967296) : Is1 P 52 [.agg (roTimers A ⟨heap, list, next⟩), .int .i64 now] (rTTimB A (Fired ⟨heap, list, next⟩ now)) := by
  refine S.cx.by (S.prog ▸ Try.func52) rfl rfl rfl rfl (fun hv ho => ?_)
  cbv
  refine ACall.testD (dp := false) (specTimersOk_c S heap list next) ⟨rfl, (by repeat' (first | exact trivial | exact rfl | exact Nat.le_refl _ | exact S.cx.giveEq | exact S.cx.lendLe (by assumption) | exact S.cx.lendEq (by assumption) | exact S.cx.lendLe0 | exact S.cx.lendEq0 | exact S.cx.partLe (by assumption) | exact S.cx.partEq (by assumption) | exact .inl rfl | refine ⟨?_, ?_⟩)), (by repeat' (first | exact trivial | exact rfl | exact Nat.le_refl _ | exact S.cx.giveEq | exact S.cx.lendLe (by assumption) | exact S.cx.lendEq (by assumption) | exact S.cx.lendLe0 | exact S.cx.lendEq0 | exact S.cx.partLe (by assumption) | exact S.cx.partEq (by assumption) | exact .inl rfl | refine ⟨?_, ?_⟩))⟩ rfl (fun hok => ?_) (fun hok => ?_) <;> cbv
  rotate_left
  · exact Done.is (r := rTTimB A) (x := (timers0, timer0, false)) (by repeat' (first | exact trivial | exact rfl | exact resOwn S.cx rfl (by assumption) | exact resOwn S.cx rfl (S.cx.lenE _ _) | exact resOwn1 S.cx rfl (by assumption) | exact resOwnT S.cx rfl (by assumption) | exact S.cx.enc _ [] | refine ⟨?_, ?_⟩)) rfl (if_neg hok)
  have hfi : Fired ⟨heap, list, next⟩ now = fireT ⟨heap, list, next⟩ now := if_pos hok
  have hb1 := hok.2.2.1.1
  have hb2 := hok.2.1
  dsimp only at hb1 hb2
  refine ACall.valN (r := rT A) (os := fun _ => []) (dp := false) S.cx (l4Copy_c S heap list next h1 h2) ⟨rfl, (by repeat' (first | exact trivial | exact rfl | exact Nat.le_refl _ | exact S.cx.giveEq | exact S.cx.lendLe (by assumption) | exact S.cx.lendEq (by assumption) | exact S.cx.lendLe0 | exact S.cx.lendEq0 | exact S.cx.partLe (by assumption) | exact S.cx.partEq (by assumption) | exact .inl rfl | refine ⟨?_, ?_⟩)), (by repeat' (first | exact trivial | exact rfl | exact Nat.le_refl _ | exact S.cx.giveEq | exact S.cx.lendLe (by assumption) | exact S.cx.lendEq (by assumption) | exact S.cx.lendLe0 | exact S.cx.lendEq0 | exact S.cx.partLe (by assumption) | exact S.cx.partEq (by assumption) | exact .inl rfl | refine ⟨?_, ?_⟩))⟩ rfl (fun ln hln x hx => ⟨rfl, ?_⟩)
  obtain ⟨heap', list', next'⟩ := x
  cases hx
  cbv
  have hN := hln cTwig heap
  generalize ln (A.enc cTwig heap) = N at hN ⊢
  have hK := hln cTimer list
  generalize ln (A.enc cTimer list) = K at hK ⊢
  refine LenR.nat S.cx (fun M hM hm => ?_); cbv
  refine Test.eql (fun h3 => ?_) (fun h3 => ?_) <;> cbv
  · have e : heap = [] := List.length_eq_zero_iff.1 (by lia)
    have e2 := fire_nil (t := ⟨heap, list, next⟩) (now := now) e
    exact Done.is (r := rTTimB A) (x := ((⟨heap, list, next⟩ : Timers), timer0, false)) (by repeat' (first | exact trivial | exact rfl | exact resOwn S.cx rfl (by assumption) | exact resOwn S.cx rfl (S.cx.lenE _ _) | exact resOwn1 S.cx rfl (by assumption) | exact resOwnT S.cx rfl (by assumption) | exact S.cx.enc _ [] | refine ⟨?_, ?_⟩)) rfl (by rw [hfi, e2])
  obtain ⟨w, r, hwr⟩ : ∃ w r, heap = w :: r := by
    cases heap with
    | nil => simp at hM; omega
    | cons w r => exact ⟨w, r, rfl⟩
  have hw0 : heap[(0 : Int).toNat]? = some w := by rw [hwr]; rfl
  have hfs := fun x => fire_some (t := ⟨heap, list, next⟩) (now := now) (x := x) hwr
  have hfl := fire_late (t := ⟨heap, list, next⟩) (now := now) hwr
  have hsh : Shifted heap = (⟨w.due, w.seq, 0⟩, withoutL heap w.seq, true) := by
    have hh := hok.2.2.1
    dsimp only at hh
    rw [hwr] at hh ⊢
    exact if_pos hh
  obtain ⟨h0, ⟨ys, yd, yw, yh, ya⟩, hy, hq, ha, hdu⟩ := first_in hok hwr
  obtain ⟨wd, ws, wk⟩ := w
  dsimp only at hfs hfl h0 hy hq ha hdu hsh
  have hst := stop_is (t := ⟨heap, list, next⟩) (q := ws) hok h0 hy hq
  have hwi : (Without heap ws).1 = withoutL heap ws := by unfold Without; rw [if_pos hok.2.2.1]
  dsimp only at hst
  refine ElemRo.at S.cx (x := (⟨wd, ws, wk⟩ : Twig)) rfl (by decide) hw0 ?_; cbv
  refine ACall.testD (dp := false) (specIsDue_c S now wd) ⟨rfl, (by repeat' (first | exact trivial | exact rfl | exact Nat.le_refl _ | exact S.cx.giveEq | exact S.cx.lendLe (by assumption) | exact S.cx.lendEq (by assumption) | exact S.cx.lendLe0 | exact S.cx.lendEq0 | exact S.cx.partLe (by assumption) | exact S.cx.partEq (by assumption) | exact .inl rfl | refine ⟨?_, ?_⟩)), (by repeat' (first | exact trivial | exact rfl | exact Nat.le_refl _ | exact S.cx.giveEq | exact S.cx.lendLe (by assumption) | exact S.cx.lendEq (by assumption) | exact S.cx.lendLe0 | exact S.cx.lendEq0 | exact S.cx.partLe (by assumption) | exact S.cx.partEq (by assumption) | exact .inl rfl | refine ⟨?_, ?_⟩))⟩ rfl (fun h4 => ?_) (fun h4 => ?_) <;> cbv
  rotate_left
  · exact Done.is (r := rTTimB A) (x := ((⟨heap, list, next⟩ : Timers), timer0, false)) (by repeat' (first | exact trivial | exact rfl | exact resOwn S.cx rfl (by assumption) | exact resOwn S.cx rfl (S.cx.lenE _ _) | exact resOwn1 S.cx rfl (by assumption) | exact resOwnT S.cx rfl (by assumption) | exact S.cx.enc _ [] | refine ⟨?_, ?_⟩)) rfl (by rw [hfi, hfl h4])
  have hfs := hfs _ h4 hy
  try (refine Drawn.mk ⟨by kernel_rfl, fun _ => ?_⟩)
  refine ElemRo.at S.cx (x := (⟨wd, ws, wk⟩ : Twig)) rfl (by decide) hw0 ?_; cbv
  refine ACall.int (dp := false) (l4At_c S heap list next ws) ⟨rfl, (by repeat' (first | exact trivial | exact rfl | exact Nat.le_refl _ | exact S.cx.giveEq | exact S.cx.lendLe (by assumption) | exact S.cx.lendEq (by assumption) | exact S.cx.lendLe0 | exact S.cx.lendEq0 | exact S.cx.partLe (by assumption) | exact S.cx.partEq (by assumption) | exact .inl rfl | refine ⟨?_, ?_⟩)), (by repeat' (first | exact trivial | exact rfl | exact Nat.le_refl _ | exact S.cx.giveEq | exact S.cx.lendLe (by assumption) | exact S.cx.lendEq (by assumption) | exact S.cx.lendLe0 | exact S.cx.lendEq0 | exact S.cx.partLe (by assumption) | exact S.cx.partEq (by assumption) | exact .inl rfl | refine ⟨?_, ?_⟩))⟩ rfl (fun i hi => ?_); cbv
  rw [← hi] at h0 hy hst
  have hlt := (List.getElem?_eq_some_iff.1 hy).1
  refine ElemRef.go rfl (by lia) (by lia) (by rw [S.cx.lenE']; lia) (fun row2 hrow2 => ?_); cbv
  refine RowSet.enc S.cx (⟨ys, yd, yw, yh, ya⟩ : Timer) ⟨ys, yd, yw, yh, false⟩ (by rw [show row2 = i.toNat by omega]; exact hy) rfl (Nat.le_refl _) rfl (fun list' hlist' => ?_); cbv
  have hK' : K = list'.length := by rw [hlist', List.length_set]; exact hK
  refine ACall.valN (r := rTTB A) (os := fun _ => []) (dp := false) S.cx (specShifted_c S heap) ⟨rfl, (by repeat' (first | exact trivial | exact rfl | exact Nat.le_refl _ | exact S.cx.giveEq | exact S.cx.lendLe (by assumption) | exact S.cx.lendEq (by assumption) | exact S.cx.lendLe0 | exact S.cx.lendEq0 | exact S.cx.partLe (by assumption) | exact S.cx.partEq (by assumption) | exact .inl rfl | refine ⟨?_, ?_⟩)), (by repeat' (first | exact trivial | exact rfl | exact Nat.le_refl _ | exact S.cx.giveEq | exact S.cx.lendLe (by assumption) | exact S.cx.lendEq (by assumption) | exact S.cx.lendLe0 | exact S.cx.lendEq0 | exact S.cx.partLe (by assumption) | exact S.cx.partEq (by assumption) | exact .inl rfl | refine ⟨?_, ?_⟩))⟩ rfl (fun ln hln x hx => ⟨rfl, ?_⟩)
  obtain ⟨⟨td, ts, tk⟩, l2, b2⟩ := x
  cbv
  have hN2 := hln cTwig l2
  generalize ln (A.enc cTwig l2) = N2 at hN2 ⊢
  rw [hsh] at hx
  simp only [Prod.mk.injEq] at hx
  obtain ⟨hx1, hx2, hx3⟩ := hx
  try (refine Drawn.mk ⟨by kernel_rfl, fun _ => ?_⟩)
  refine ElemRo.at S.cx (x := (⟨ys, yd, yw, yh, ya⟩ : Timer)) rfl (by lia) hy ?_; cbv
  exact Done.is (r := rTTimB A) (x := ((⟨l2, list', next⟩ : Timers), (⟨ys, yd, yw, yh, ya⟩ : Timer), true)) (by repeat' (first | exact trivial | exact rfl | exact resOwn S.cx rfl (by assumption) | exact resOwn S.cx rfl (S.cx.lenE _ _) | exact resOwn1 S.cx rfl (by assumption) | exact resOwnT S.cx rfl (by assumption) | exact S.cx.enc _ [] | refine ⟨?_, ?_⟩)) rfl (by rw [hfi, hfs, hst, hx2, hwi, hlist', show row2 = i.toNat by omega])

theorem specForgotten_c (S : Se P A) (heap : List Twig) (list : List Timer) (next q : Int) (h1 : heap.length ≤ 4294967296) (h2 : list.length ≤ 4294967296) : Is1 P 57 [.agg (roTimers A ⟨heap, list, next⟩), .int .i64 q] (rTB A (Forgotten ⟨heap, list, next⟩ q)) := by
  refine S.cx.by (S.prog ▸ Try.func57) rfl rfl rfl rfl (fun hv ho => ?_)
  cbv
  refine ACall.testD (dp := false) (specTimersOk_c S heap list next) ⟨rfl, (by repeat' (first | exact trivial | exact rfl | exact Nat.le_refl _ | exact S.cx.giveEq | exact S.cx.lendLe (by assumption) | exact S.cx.lendEq (by assumption) | exact S.cx.lendLe0 | exact S.cx.lendEq0 | exact S.cx.partLe (by assumption) | exact S.cx.partEq (by assumption) | exact .inl rfl | refine ⟨?_, ?_⟩)), (by repeat' (first | exact trivial | exact rfl | exact Nat.le_refl _ | exact S.cx.giveEq | exact S.cx.lendLe (by assumption) | exact S.cx.lendEq (by assumption) | exact S.cx.lendLe0 | exact S.cx.lendEq0 | exact S.cx.partLe (by assumption) | exact S.cx.partEq (by assumption) | exact .inl rfl | refine ⟨?_, ?_⟩))⟩ rfl (fun hok => ?_) (fun hok => ?_) <;> cbv
  rotate_left
  · exact Done.is (r := rTB A) (x := (timers0, false)) (by repeat' (first | exact trivial | exact rfl | exact resOwn S.cx rfl (by assumption) | exact resOwn S.cx rfl (S.cx.lenE _ _) | exact resOwn1 S.cx rfl (by assumption) | exact resOwnT S.cx rfl (by assumption) | exact S.cx.enc _ [] | refine ⟨?_, ?_⟩)) rfl (if_neg hok)
  have hfo : Forgotten ⟨heap, list, next⟩ q = forgetT ⟨heap, list, next⟩ q := if_pos hok
  have hst : Stopped ⟨heap, list, next⟩ q = stopT ⟨heap, list, next⟩ q := if_pos hok
  have hsk := stopT_ok q hok
  have hsi := stopT_idx ⟨heap, list, next⟩ q q
  have hsn := stopT_next ⟨heap, list, next⟩ q
  have hfs := forget_some (t := ⟨heap, list, next⟩) (q := q)
  refine ACall.valN (r := rTB A) (os := fun _ => []) (dp := false) S.cx (specStopped_c S heap list next q h1 h2) ⟨rfl, (by repeat' (first | exact trivial | exact rfl | exact Nat.le_refl _ | exact S.cx.giveEq | exact S.cx.lendLe (by assumption) | exact S.cx.lendEq (by assumption) | exact S.cx.lendLe0 | exact S.cx.lendEq0 | exact S.cx.partLe (by assumption) | exact S.cx.partEq (by assumption) | exact .inl rfl | refine ⟨?_, ?_⟩)), (by repeat' (first | exact trivial | exact rfl | exact Nat.le_refl _ | exact S.cx.giveEq | exact S.cx.lendLe (by assumption) | exact S.cx.lendEq (by assumption) | exact S.cx.lendLe0 | exact S.cx.lendEq0 | exact S.cx.partLe (by assumption) | exact S.cx.partEq (by assumption) | exact .inl rfl | refine ⟨?_, ?_⟩))⟩ rfl (fun ln hln x hx => ⟨rfl, ?_⟩)
  obtain ⟨⟨heap1, list1, next1⟩, b⟩ := x
  cbv
  have hN1 := hln cTwig heap1
  generalize ln (A.enc cTwig heap1) = N1 at hN1 ⊢
  have hK1 := hln cTimer list1
  generalize ln (A.enc cTimer list1) = K1 at hK1 ⊢
  rw [hst] at hx
  rw [← hx] at hsk hsi hsn hfs
  dsimp only at hsi hsn hfs
  have hb1 := hsk.2.2.1.1
  have hb2 := hsk.2.1
  dsimp only at hb1 hb2
  refine ACall.int (dp := false) (l4At_c S heap list next q) ⟨rfl, (by repeat' (first | exact trivial | exact rfl | exact Nat.le_refl _ | exact S.cx.giveEq | exact S.cx.lendLe (by assumption) | exact S.cx.lendEq (by assumption) | exact S.cx.lendLe0 | exact S.cx.lendEq0 | exact S.cx.partLe (by assumption) | exact S.cx.partEq (by assumption) | exact .inl rfl | refine ⟨?_, ?_⟩)), (by repeat' (first | exact trivial | exact rfl | exact Nat.le_refl _ | exact S.cx.giveEq | exact S.cx.lendLe (by assumption) | exact S.cx.lendEq (by assumption) | exact S.cx.lendLe0 | exact S.cx.lendEq0 | exact S.cx.partLe (by assumption) | exact S.cx.partEq (by assumption) | exact .inl rfl | refine ⟨?_, ?_⟩))⟩ rfl (fun r hr => ?_); cbv
  rw [← hr] at hsi hfs
  refine Test.lss (fun h => ?_) (fun h => ?_) <;> cbv
  · have e := stop_none (t := ⟨heap, list, next⟩) (q := q) (by dsimp only; omega)
    rw [e] at hx
    have hx1 : (⟨heap1, list1, next1⟩ : Timers) = ⟨heap, list, next⟩ := congrArg Prod.fst hx
    exact Done.is (r := rTB A) (x := ((⟨heap1, list1, next1⟩ : Timers), false)) (by repeat' (first | exact trivial | exact rfl | exact resOwn S.cx rfl (by assumption) | exact resOwn S.cx rfl (S.cx.lenE _ _) | exact resOwn1 S.cx rfl (by assumption) | exact resOwnT S.cx rfl (by assumption) | exact S.cx.enc _ [] | refine ⟨?_, ?_⟩)) rfl (by rw [hfo, forget_none (t := ⟨heap, list, next⟩) (q := q) (by dsimp only; omega), hx1])
  have hfs := hfs (by omega)
  have hso := @timIdx_some list1 q
  rw [hsi] at hso
  obtain ⟨y, hy, he⟩ := hso (by omega)
  have hlt := (List.getElem?_eq_some_iff.1 hy).1
  try (refine Drawn.mk ⟨by kernel_rfl, fun _ => ?_⟩)
  refine CutRef.go rfl (by lia) (by lia) (by lia) (by rw [S.cx.lenE']; lia) (fun p2 off2 len2 hoff2 hlen2 => ?_); cbv
  refine Part.enc S.cx (by lia) (fun m hm3 => ?_); cbv
  have hml : m.length = r.toNat := by rw [hm3]; simp; lia
  refine AppNew.enc S.cx plainTimer (.inr (.inr trivial)) (fun _ => rfl) (by simp only [maxBytes]; omega) (fun n hn => ?_); cbv
  refine Arith.go (by lia) (fun r1 hr1 => ?_); replace hr1 : r1 = r + 1 := hr1; cbv
  refine CutRef.go rfl (by lia) (by lia) (by lia) (by rw [S.cx.lenE']; lia) (fun p3 off3 len3 hoff3 hlen3 => ?_); cbv
  refine Part.enc S.cx (by lia) (fun m3 hm4 => ?_); cbv
  have hml3 : m3.length = list1.length - r1.toNat := by rw [hm4]; simp; lia
  refine AppRef.pushAll S.cx hn rfl plainTimer (fun _ => rfl) (by simp only [maxBytes]; omega) (fun n2 l2 hl2 hn2 => ?_); cbv
  have hl2e : l2 = list1.eraseIdx r.toNat := by
    rw [List.eraseIdx_eq_take_drop_succ, hl2, hm3, hm4, show off2 = 0 by lia, show len2 = r.toNat by lia, show off3 = r.toNat + 1 by lia]
    congr 1
    exact List.take_of_length_le (by simp; lia)
  exact Done.is (r := rTB A) (x := ((⟨heap1, l2, next1⟩ : Timers), true)) (by repeat' (first | exact trivial | exact rfl | exact resOwn S.cx rfl (by assumption) | exact resOwn S.cx rfl (S.cx.lenE _ _) | exact resOwn1 S.cx rfl (by assumption) | exact resOwnT S.cx rfl (by assumption) | exact S.cx.enc _ [] | refine ⟨?_, ?_⟩)) rfl (by rw [hfo, hfs, hl2e, hsn])

end Go.Proofs.Ytmbckmfihcojoaa.AM
