/- Contracts: slots taken and dropped, of both. (printed by gq3.py) -/
import Derived.Test.YtihfpbhalnedcaaGreatQA
set_option linter.unusedVariables false
set_option linter.unusedSimpArgs false
namespace Go.Proofs.YtihfpbhalnedcaaGreat.AM
open Go Go.Proofs

set_option maxRecDepth 100000
set_option maxHeartbeats 4000000

variable {P : Program} {A : Sy}

theorem specTaken_c (S : Se P A) (ages : List Int) (used : List Bool) : Is1 P 200 [.agg (roSlots A ⟨ages, used⟩)] (rSHB A (Taken ⟨ages, used⟩)) := by
  refine S.cx.by (S.prog ▸ Tryz.func200) rfl rfl rfl rfl (fun hv ho => ?_)
  cbv
  refine ACall.testD (dp := false) (specSlotsOk_c S ages used) .go rfl (fun hok => ?_) (fun hok => ?_) <;> cbv
  rotate_left
  · exact Done.isA (r := rSHB A) (x := (slots0, handle0, false)) (if_neg hok)
  have hlen : ages.length <= 64 := hok.1.2
  have hl : used.length = ages.length := hok.2.1
  have b1 : ages.length <= 4294967296 := by omega
  have b2 : used.length <= 4294967296 := by omega
  refine ACall.valN (r := rS A) (os := fun _ => []) (dp := false) S.cx (l1CopySlots_c S ages used b1 b2) .go rfl (fun ln hln x hx => ⟨rfl, ?_⟩)
  obtain ⟨ages', used'⟩ := x
  cases hx
  cbv
  have hn := hln cInt64 ages
  generalize ln (A.enc cInt64 ages) = n at hn ⊢
  have hm := hln cBool used
  generalize ln (A.enc cBool used) = m at hm ⊢
  refine ALoop.goD (ι := Int) (fun i => [(6, .int .i64 i)]) [] (fun i => []) (fun i => 0 <= i /\ Upto (fun j _ => ¬ isFree ⟨ages, used⟩ j) ages i) (fun i => (ages.length - i).toNat) (0) S.cx.tab S.cx.mix S.eq ?_ ?_ ?_
  · exact ⟨Int.le_refl _, .zero⟩
  · (cbv; exact Less.toA [])
  rintro i ⟨h0, hu⟩
  cbv
  refine LenR.nat S.cx (fun N hN hmx => ?_); cbv
  refine Test.lss (fun h => ?_) (fun h => ?_) <;> cbv
  · refine ElemRo.enc S.cx (fun _ => rfl) h0 (by lia) (fun u hu' => ?_); cbv
    have ha' : ∃ a, ages[i.toNat]? = some a := get_of_lt (by lia)
    obtain ⟨a, ha'⟩ := ha'
    cases u <;> cbv
    · refine ElemRo.at S.cx (x := a) rfl h0 ha' ?_; cbv
      refine Test.lss (fun h2 => ?_) (fun h2 => ?_) <;> cbv
      · have hf : isFree ⟨ages, used⟩ i.toNat := ⟨hu', fun e => by rw [ha'] at e; have := Option.some.inj e; omega⟩
        refine ElemRef.go rfl h0 (by lia) (by rw [S.cx.lenE']; lia) (fun row3 hrow3 => ?_); cbv
        have hr3 : row3 = i.toNat := by omega
        refine RowSet.enc S.cx false true (by rw [hr3]; exact hu') rfl (Nat.le_refl _) rfl (fun used' hused => ?_); cbv
        have hm' : m = used'.length := by rw [hused]; simp [hm]
        try (refine Drawn.mk ⟨by kernel_rfl, fun _ => ?_⟩)
        refine ElemRo.at S.cx (x := a) rfl h0 ha' ?_; cbv
        exact Done.isA (r := rSHB A) (x := (⟨ages, used'⟩, ⟨i, a⟩, true)) ((if_pos hok).trans ((take_some (i' := i) h0 hu ha' hf rfl).trans (by rw [hused, hr3])))
      · have hmax := (hok.2.2 a (mem_at ha')).2
        refine Arith.go (by lia) (fun i' hi' => ?_); cbv
        refine Again.on i' (by lia) ⟨by lia, hu.next h0 ha' (fun hf => hf.2 (by rw [show (1000000 : Int) = a by omega]; exact ha')) hi'⟩ ?_
        (cbv; exact Less.toA [])
    · refine Arith.go (by lia) (fun i' hi' => ?_); cbv
      refine Again.on i' (by lia) ⟨by lia, hu.next h0 ha' (fun hf => by have := hf.1; rw [hu'] at this; cases this) hi'⟩ ?_
      (cbv; exact Less.toA [])
  · exact Done.isA (r := rSHB A) (x := (⟨ages, used⟩, handle0, false)) ((if_pos hok).trans (take_none hu (by dsimp only; lia)))

theorem specDropped_c (S : Se P A) (ages : List Int) (used : List Bool) (slot age : Int) : Is1 P 270 [.agg (roSlots A ⟨ages, used⟩), .agg (cHandle ⟨slot, age⟩)] (rSB A (Dropped ⟨ages, used⟩ ⟨slot, age⟩)) := by
  refine S.cx.by (S.prog ▸ Tryz.func270) rfl rfl rfl rfl (fun hv ho => ?_)
  cbv
  refine ACall.testD (dp := false) (specSlotsOk_c S ages used) .go rfl (fun hok => ?_) (fun hok => ?_) <;> cbv
  rotate_left
  · exact Done.isA (r := rSB A) (x := (slots0, false)) (if_neg hok)
  have hlen : ages.length <= 64 := hok.1.2
  have hl : used.length = ages.length := hok.2.1
  have b1 : ages.length <= 4294967296 := by omega
  have b2 : used.length <= 4294967296 := by omega
  refine ACall.valN (r := rS A) (os := fun _ => []) (dp := false) S.cx (l1CopySlots_c S ages used b1 b2) .go rfl (fun ln hln x hx => ⟨rfl, ?_⟩)
  obtain ⟨ages', used'⟩ := x
  cases hx
  cbv
  have hn := hln cInt64 ages
  generalize ln (A.enc cInt64 ages) = n at hn ⊢
  have hm := hln cBool used
  generalize ln (A.enc cBool used) = m at hm ⊢
  refine ACall.testD (dp := false) (specHolds_c S ages used slot age) .go rfl (fun h => ?_) (fun h => ?_) <;> cbv
  rotate_left
  · exact Done.isA (r := rSB A) (x := (⟨ages, used⟩, false)) ((if_pos hok).trans (if_neg (fun e => h ⟨hok, e.1⟩)))
  refine Test.eql (fun h2 => ?_) (fun h2 => ?_) <;> cbv
  · exact Done.isA (r := rSB A) (x := (⟨ages, used⟩, false)) ((if_pos hok).trans (if_neg (fun e => e.2 h2)))
  obtain ⟨⟨h0, hlt⟩, hu, ha⟩ := id h.2
  dsimp only at h0 hlt hu ha
  refine ElemRef.go rfl h0 (by lia) (by rw [S.cx.lenE']; lia) (fun row hrow => ?_); cbv
  have hr : row = slot.toNat := by omega
  refine RowSet.enc S.cx true false (by rw [hr]; exact hu) rfl (Nat.le_refl _) rfl (fun used' hused => ?_); cbv
  have hb := hok.2.2 age (mem_at ha)
  refine Arith.go (by lia) (fun z hz => ?_); cbv
  refine ElemRef.go rfl h0 (by lia) (by rw [S.cx.lenE']; lia) (fun row3 hrow3 => ?_); cbv
  have hr3 : row3 = slot.toNat := by omega
  refine RowSet.enc S.cx age z (by rw [hr3]; exact ha) rfl (Nat.le_refl _) rfl (fun ages' hages => ?_); cbv
  have hn' : n = ages'.length := by rw [hages]; simp [hn]
  have hm' : m = used'.length := by rw [hused]; simp [hm]
  exact Done.isA (r := rSB A) (x := (⟨ages', used'⟩, true)) ((if_pos hok).trans ((if_pos ⟨h.2, h2⟩).trans (by rw [hages, hused, hr, hr3, hz])))

end Go.Proofs.YtihfpbhalnedcaaGreat.AM
