/- Contracts: slots taken and dropped, of both. (printed by gq3.py) -/
import Derived.Test.YtmbckmfihcojoaaQ2
namespace Go.Proofs.Ytmbckmfihcojoaa.AM
open Go Go.Proofs

set_option maxRecDepth 100000
set_option maxHeartbeats 4000000
set_option linter.unusedVariables false
set_option linter.unusedSimpArgs false

variable {P : Program} {A : Sy}

theorem specTaken_c (S : Se P A) (ages : List Int) (used : List Bool) : Is1 P 93 [.agg (roSlots A ⟨ages, used⟩)] (rSHB A (Taken ⟨ages, used⟩)) := by
  refine S.cx.by (S.prog ▸ Try.func93) rfl rfl rfl rfl (fun hv ho => ?_)
  cbv
  refine ACall.testD (dp := false) (specSlotsOk_c S ages used) ⟨rfl, (by repeat' (first | exact trivial | exact rfl | exact Nat.le_refl _ | exact S.cx.giveEq | exact S.cx.lendLe (by assumption) | exact S.cx.lendEq (by assumption) | exact S.cx.lendLe0 | exact S.cx.lendEq0 | exact S.cx.partLe (by assumption) | exact S.cx.partEq (by assumption) | refine ⟨?_, ?_⟩)), (by repeat' (first | exact trivial | exact rfl | exact Nat.le_refl _ | exact S.cx.giveEq | exact S.cx.lendLe (by assumption) | exact S.cx.lendEq (by assumption) | exact S.cx.lendLe0 | exact S.cx.lendEq0 | exact S.cx.partLe (by assumption) | exact S.cx.partEq (by assumption) | refine ⟨?_, ?_⟩))⟩ rfl (fun hok => ?_) (fun hok => ?_) <;> cbv
  rotate_left
  · exact Done.is (r := rSHB A) (x := (slots0, handle0, false)) (by repeat' (first | exact trivial | exact rfl | exact resOwn S.cx rfl (by assumption) | exact resOwn S.cx rfl (S.cx.lenE _ _) | exact resOwn1 S.cx rfl (by assumption) | exact S.cx.enc _ [] | refine ⟨?_, ?_⟩)) rfl (if_neg hok)
  have hlen : ages.length ≤ 64 := hok.1.2
  have hl : used.length = ages.length := hok.2.1
  have b1 : ages.length ≤ 4294967296 := by omega
  have b2 : used.length ≤ 4294967296 := by omega
  refine ACall.valN (r := rS A) (os := fun _ => []) (dp := false) S.cx (l1CopySlots_c S ages used b1 b2) ⟨rfl, (by repeat' (first | exact trivial | exact rfl | exact Nat.le_refl _ | exact S.cx.giveEq | exact S.cx.lendLe (by assumption) | exact S.cx.lendEq (by assumption) | exact S.cx.lendLe0 | exact S.cx.lendEq0 | exact S.cx.partLe (by assumption) | exact S.cx.partEq (by assumption) | refine ⟨?_, ?_⟩)), (by repeat' (first | exact trivial | exact rfl | exact Nat.le_refl _ | exact S.cx.giveEq | exact S.cx.lendLe (by assumption) | exact S.cx.lendEq (by assumption) | exact S.cx.lendLe0 | exact S.cx.lendEq0 | exact S.cx.partLe (by assumption) | exact S.cx.partEq (by assumption) | refine ⟨?_, ?_⟩))⟩ rfl (fun ln hln x hx => ⟨rfl, ?_⟩)
  obtain ⟨ages', used'⟩ := x
  cases hx
  cbv
  have hn := hln cInt64 ages
  generalize ln (A.enc cInt64 ages) = n at hn ⊢
  have hm := hln cBool used
  generalize ln (A.enc cBool used) = m at hm ⊢
  refine ALoop.goD (ι := Int) (fun i => [(6, .int .i64 i)]) [] (fun i => []) (fun i => 0 ≤ i ∧ Upto (fun j _ => ¬ isFree ⟨ages, used⟩ j) ages i) (fun i => (ages.length - i).toNat) (0) S.cx.tab S.cx.mix S.eq ?_ ?_ ?_
  · exact ⟨Int.le_refl _, .zero⟩
  · (cbv; refine Less.to [] rfl rfl ?_ ?_ <;> repeat' (first | exact trivial | exact ⟨rfl, rfl⟩ | exact ⟨_, rfl, Nat.zero_le _, rfl⟩ | apply And.intro | exact rfl))
  rintro i ⟨h0, hu⟩
  cbv
  refine LenR.nat S.cx (fun N hN hmx => ?_); cbv
  refine Test.lss (fun h => ?_) (fun h => ?_) <;> cbv
  · refine ElemRo.enc S.cx (fun _ => rfl) h0 (by lia) (fun u hu' => ?_); cbv
    have ha' : ∃ a, ages[i.toNat]? = some a := get_of_lt (by lia)
    obtain ⟨a, ha'⟩ := ha'
    cases u <;> cbv
    · refine ElemRo.at S.cx (x := a) rfl h0 ha' ?_; cbv
      refine Test.lss (fun h2 => ?_) (fun h2 => ?_) <;> cbv
      · have hf : isFree ⟨ages, used⟩ i.toNat := ⟨hu', fun e => by rw [ha'] at e; have := Option.some.inj e; omega⟩
        refine ElemRef.go rfl h0 (by lia) (by rw [S.cx.lenE']; lia) (fun row3 hrow3 => ?_); cbv
        have hr3 : row3 = i.toNat := by omega
        refine RowSet.enc S.cx false true (by rw [hr3]; exact hu') rfl (Nat.le_refl _) rfl (fun used' hused => ?_); cbv
        have hm' : m = used'.length := by rw [hused]; simp [hm]
        try (refine Drawn.mk ⟨by kernel_rfl, fun _ => ?_⟩)
        refine ElemRo.at S.cx (x := a) rfl h0 ha' ?_; cbv
        exact Done.is (r := rSHB A) (x := (⟨ages, used'⟩, ⟨i, a⟩, true)) (by repeat' (first | exact trivial | exact rfl | exact resOwn S.cx rfl (by assumption) | exact resOwn S.cx rfl (S.cx.lenE _ _) | exact resOwn1 S.cx rfl (by assumption) | exact S.cx.enc _ [] | refine ⟨?_, ?_⟩)) rfl ((if_pos hok).trans ((take_some (i' := i) h0 hu ha' hf rfl).trans (by rw [hused, hr3])))
      · have hmax := (hok.2.2 a (mem_at ha')).2
        refine Arith.go (by lia) (fun i' hi' => ?_); cbv
        refine Again.on i' (by lia) ⟨by lia, hu.next h0 ha' (fun hf => hf.2 (by rw [show (1000000 : Int) = a by omega]; exact ha')) hi'⟩ ?_
        (cbv; refine Less.to [] rfl rfl ?_ ?_ <;> repeat' (first | exact trivial | exact ⟨rfl, rfl⟩ | exact ⟨_, rfl, Nat.zero_le _, rfl⟩ | apply And.intro | exact rfl))
    · refine Arith.go (by lia) (fun i' hi' => ?_); cbv
      refine Again.on i' (by lia) ⟨by lia, hu.next h0 ha' (fun hf => by have := hf.1; rw [hu'] at this; cases this) hi'⟩ ?_
      (cbv; refine Less.to [] rfl rfl ?_ ?_ <;> repeat' (first | exact trivial | exact ⟨rfl, rfl⟩ | exact ⟨_, rfl, Nat.zero_le _, rfl⟩ | apply And.intro | exact rfl))
  · exact Done.is (r := rSHB A) (x := (⟨ages, used⟩, handle0, false)) (by repeat' (first | exact trivial | exact rfl | exact resOwn S.cx rfl (by assumption) | exact resOwn S.cx rfl (S.cx.lenE _ _) | exact resOwn1 S.cx rfl (by assumption) | exact S.cx.enc _ [] | refine ⟨?_, ?_⟩)) rfl ((if_pos hok).trans (take_none hu (by dsimp only; lia)))

theorem specDropped_c (S : Se P A) (ages : List Int) (used : List Bool) (slot age : Int) : Is1 P 157 [.agg (roSlots A ⟨ages, used⟩), .agg (cHandle ⟨slot, age⟩)] (rSB A (Dropped ⟨ages, used⟩ ⟨slot, age⟩)) := by
  refine S.cx.by (S.prog ▸ Try.func157) rfl rfl rfl rfl (fun hv ho => ?_)
  cbv
  refine ACall.testD (dp := false) (specSlotsOk_c S ages used) ⟨rfl, (by repeat' (first | exact trivial | exact rfl | exact Nat.le_refl _ | exact S.cx.giveEq | exact S.cx.lendLe (by assumption) | exact S.cx.lendEq (by assumption) | exact S.cx.lendLe0 | exact S.cx.lendEq0 | exact S.cx.partLe (by assumption) | exact S.cx.partEq (by assumption) | refine ⟨?_, ?_⟩)), (by repeat' (first | exact trivial | exact rfl | exact Nat.le_refl _ | exact S.cx.giveEq | exact S.cx.lendLe (by assumption) | exact S.cx.lendEq (by assumption) | exact S.cx.lendLe0 | exact S.cx.lendEq0 | exact S.cx.partLe (by assumption) | exact S.cx.partEq (by assumption) | refine ⟨?_, ?_⟩))⟩ rfl (fun hok => ?_) (fun hok => ?_) <;> cbv
  rotate_left
  · exact Done.is (r := rSB A) (x := (slots0, false)) (by repeat' (first | exact trivial | exact rfl | exact resOwn S.cx rfl (by assumption) | exact resOwn S.cx rfl (S.cx.lenE _ _) | exact resOwn1 S.cx rfl (by assumption) | exact S.cx.enc _ [] | refine ⟨?_, ?_⟩)) rfl (if_neg hok)
  have hlen : ages.length ≤ 64 := hok.1.2
  have hl : used.length = ages.length := hok.2.1
  have b1 : ages.length ≤ 4294967296 := by omega
  have b2 : used.length ≤ 4294967296 := by omega
  refine ACall.valN (r := rS A) (os := fun _ => []) (dp := false) S.cx (l1CopySlots_c S ages used b1 b2) ⟨rfl, (by repeat' (first | exact trivial | exact rfl | exact Nat.le_refl _ | exact S.cx.giveEq | exact S.cx.lendLe (by assumption) | exact S.cx.lendEq (by assumption) | exact S.cx.lendLe0 | exact S.cx.lendEq0 | exact S.cx.partLe (by assumption) | exact S.cx.partEq (by assumption) | refine ⟨?_, ?_⟩)), (by repeat' (first | exact trivial | exact rfl | exact Nat.le_refl _ | exact S.cx.giveEq | exact S.cx.lendLe (by assumption) | exact S.cx.lendEq (by assumption) | exact S.cx.lendLe0 | exact S.cx.lendEq0 | exact S.cx.partLe (by assumption) | exact S.cx.partEq (by assumption) | refine ⟨?_, ?_⟩))⟩ rfl (fun ln hln x hx => ⟨rfl, ?_⟩)
  obtain ⟨ages', used'⟩ := x
  cases hx
  cbv
  have hn := hln cInt64 ages
  generalize ln (A.enc cInt64 ages) = n at hn ⊢
  have hm := hln cBool used
  generalize ln (A.enc cBool used) = m at hm ⊢
  refine ACall.testD (dp := false) (specHolds_c S ages used slot age) ⟨rfl, (by repeat' (first | exact trivial | exact rfl | exact Nat.le_refl _ | exact S.cx.giveEq | exact S.cx.lendLe (by assumption) | exact S.cx.lendEq (by assumption) | exact S.cx.lendLe0 | exact S.cx.lendEq0 | exact S.cx.partLe (by assumption) | exact S.cx.partEq (by assumption) | refine ⟨?_, ?_⟩)), (by repeat' (first | exact trivial | exact rfl | exact Nat.le_refl _ | exact S.cx.giveEq | exact S.cx.lendLe (by assumption) | exact S.cx.lendEq (by assumption) | exact S.cx.lendLe0 | exact S.cx.lendEq0 | exact S.cx.partLe (by assumption) | exact S.cx.partEq (by assumption) | refine ⟨?_, ?_⟩))⟩ rfl (fun h => ?_) (fun h => ?_) <;> cbv
  rotate_left
  · exact Done.is (r := rSB A) (x := (⟨ages, used⟩, false)) (by repeat' (first | exact trivial | exact rfl | exact resOwn S.cx rfl (by assumption) | exact resOwn S.cx rfl (S.cx.lenE _ _) | exact resOwn1 S.cx rfl (by assumption) | exact S.cx.enc _ [] | refine ⟨?_, ?_⟩)) rfl ((if_pos hok).trans (if_neg (fun e => h ⟨hok, e.1⟩)))
  refine Test.eql (fun h2 => ?_) (fun h2 => ?_) <;> cbv
  · exact Done.is (r := rSB A) (x := (⟨ages, used⟩, false)) (by repeat' (first | exact trivial | exact rfl | exact resOwn S.cx rfl (by assumption) | exact resOwn S.cx rfl (S.cx.lenE _ _) | exact resOwn1 S.cx rfl (by assumption) | exact S.cx.enc _ [] | refine ⟨?_, ?_⟩)) rfl ((if_pos hok).trans (if_neg (fun e => e.2 h2)))
  obtain ⟨⟨h0, hlt⟩, hu, ha⟩ := id h.2
  dsimp only at h0 hlt hu ha
  refine ElemRef.go rfl h0 (by lia) (by rw [S.cx.lenE']; lia) (fun row hrow => ?_); cbv
  have hr : row = slot.toNat := by omega
  refine RowSet.enc S.cx true false (by rw [hr]; exact hu) rfl (Nat.le_refl _) rfl (fun used' hused => ?_); cbv
  have hb := hok.2.2 age (mem_at ha)
  refine Arith.go (by lia) (fun z hz => ?_); cbv
  refine ElemRef.go rfl h0 (by lia) (by rw [S.cx.lenE']; lia) (fun row3 hrow3 => ?_); cbv
  have hr3 : row3 = slot.toNat := by omega
  refine RowSet.enc S.cx age z (by rw [hr3]; exact ha) rfl (Nat.le_refl _) rfl (fun ages' hages => ?_); cbv
  have hn' : n = ages'.length := by rw [hages]; simp [hn]
  have hm' : m = used'.length := by rw [hused]; simp [hm]
  exact Done.is (r := rSB A) (x := (⟨ages', used'⟩, true)) (by repeat' (first | exact trivial | exact rfl | exact resOwn S.cx rfl (by assumption) | exact resOwn S.cx rfl (S.cx.lenE _ _) | exact resOwn1 S.cx rfl (by assumption) | exact S.cx.enc _ [] | refine ⟨?_, ?_⟩)) rfl ((if_pos hok).trans ((if_pos ⟨h.2, h2⟩).trans (by rw [hages, hused, hr, hr3, hz])))

end Go.Proofs.Ytmbckmfihcojoaa.AM
