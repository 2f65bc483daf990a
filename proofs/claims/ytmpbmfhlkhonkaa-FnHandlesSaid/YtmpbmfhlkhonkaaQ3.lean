/- Contracts: slots taken and dropped, of both. (printed by gq3.py) -/
import Derived.Test.YtmpbmfhlkhonkaaQ2
namespace Go.Proofs.Ytmpbmfhlkhonkaa.AM
open Go Go.Proofs

set_option maxRecDepth 100000
set_option maxHeartbeats 4000000
set_option linter.unusedVariables false
set_option linter.unusedSimpArgs false

variable {P : Program} {A : Sy}

theorem implTaken_c (S : Se P A) (ages : List Int) (used : List Bool) : Is1 P 19 [.agg (roSlots A ⟨ages, used⟩)] (rSHB A (Taken ⟨ages, used⟩)) := by
  refine S.cx.by (S.prog ▸ Try.func19) rfl rfl rfl rfl (fun hv ho => ?_)
  cbv
  refine ACall.testD (dp := false) (implSlotsOk_c S ages used) ⟨rfl, (by repeat' (first | exact trivial | exact rfl | exact Nat.le_refl _ | exact S.cx.giveEq | exact S.cx.lendLe (by assumption) | exact S.cx.lendEq (by assumption) | exact S.cx.lendLe0 | exact S.cx.lendEq0 | exact S.cx.partLe (by assumption) | exact S.cx.partEq (by assumption) | exact .inl rfl | refine ⟨?_, ?_⟩)), (by repeat' (first | exact trivial | exact rfl | exact Nat.le_refl _ | exact S.cx.giveEq | exact S.cx.lendLe (by assumption) | exact S.cx.lendEq (by assumption) | exact S.cx.lendLe0 | exact S.cx.lendEq0 | exact S.cx.partLe (by assumption) | exact S.cx.partEq (by assumption) | exact .inl rfl | refine ⟨?_, ?_⟩))⟩ rfl (fun hok => ?_) (fun hok => ?_) <;> cbv
  rotate_left
  · exact Done.is (r := rSHB A) (x := (slots0, handle0, false)) (by repeat' (first | exact trivial | exact rfl | exact resOwn S.cx rfl (by assumption) | exact resOwn S.cx rfl (S.cx.lenE _ _) | exact resOwn1 S.cx rfl (by assumption) | exact resOwnT S.cx rfl (by assumption) | exact S.cx.enc _ [] | refine ⟨?_, ?_⟩)) rfl (if_neg hok)
  have hlen : ages.length ≤ 64 := hok.1.2
  have hl : used.length = ages.length := hok.2.1
  have b1 : ages.length ≤ 4294967296 := by omega
  have b2 : used.length ≤ 4294967296 := by omega
  refine ACall.valN (r := rS A) (os := fun _ => []) (dp := false) S.cx (clonedSlots_c S ages used b1 b2) ⟨rfl, (by repeat' (first | exact trivial | exact rfl | exact Nat.le_refl _ | exact S.cx.giveEq | exact S.cx.lendLe (by assumption) | exact S.cx.lendEq (by assumption) | exact S.cx.lendLe0 | exact S.cx.lendEq0 | exact S.cx.partLe (by assumption) | exact S.cx.partEq (by assumption) | exact .inl rfl | refine ⟨?_, ?_⟩)), (by repeat' (first | exact trivial | exact rfl | exact Nat.le_refl _ | exact S.cx.giveEq | exact S.cx.lendLe (by assumption) | exact S.cx.lendEq (by assumption) | exact S.cx.lendLe0 | exact S.cx.lendEq0 | exact S.cx.partLe (by assumption) | exact S.cx.partEq (by assumption) | exact .inl rfl | refine ⟨?_, ?_⟩))⟩ rfl (fun ln hln x hx => ⟨rfl, ?_⟩)
  obtain ⟨ages', used'⟩ := x
  cases hx
  cbv
  have hn := hln cInt64 ages
  generalize ln (A.enc cInt64 ages) = n at hn ⊢
  have hm := hln cBool used
  generalize ln (A.enc cBool used) = m at hm ⊢
  refine ACall.valN (r := rHB) (os := oHB A) (dp := false) S.cx (take_c S ages used n m hn hm hl) ⟨rfl, (by repeat' (first | exact trivial | exact rfl | exact Nat.le_refl _ | exact S.cx.giveEq | exact S.cx.lendLe (by assumption) | exact S.cx.lendEq (by assumption) | exact S.cx.lendLe0 | exact S.cx.lendEq0 | exact S.cx.partLe (by assumption) | exact S.cx.partEq (by assumption) | exact .inl rfl | refine ⟨?_, ?_⟩)), (by repeat' (first | exact trivial | exact rfl | exact Nat.le_refl _ | exact S.cx.giveEq | exact S.cx.lendLe (by assumption) | exact S.cx.lendEq (by assumption) | exact S.cx.lendLe0 | exact S.cx.lendEq0 | exact S.cx.partLe (by assumption) | exact S.cx.partEq (by assumption) | exact .inl rfl | refine ⟨?_, ?_⟩))⟩ rfl (fun ln hln x hx => ⟨rfl, ?_⟩)
  obtain ⟨⟨ages', used'⟩, ⟨slot, age⟩, b⟩ := x
  cbv
  try (refine Drawn.mk ⟨by kernel_rfl, fun _ => ?_⟩)
  have h1 : n = ages'.length ∧ m = used'.length := by
    have e : (Take ⟨ages, used⟩).1.ages.length = ages.length ∧ (Take ⟨ages, used⟩).1.used.length = used.length := by unfold Take; split <;> simp
    rw [← hx] at e
    dsimp only at e
    omega
  obtain ⟨h1, h2⟩ := h1
  exact Done.is (r := rSHB A) (x := (⟨ages', used'⟩, ⟨slot, age⟩, b)) (by repeat' (first | exact trivial | exact rfl | exact resOwn S.cx rfl (by assumption) | exact resOwn S.cx rfl (S.cx.lenE _ _) | exact resOwn1 S.cx rfl (by assumption) | exact resOwnT S.cx rfl (by assumption) | exact S.cx.enc _ [] | refine ⟨?_, ?_⟩)) rfl ((if_pos hok).trans hx.symm)

theorem implDropped_c (S : Se P A) (ages : List Int) (used : List Bool) (slot age : Int) : Is1 P 20 [.agg (roSlots A ⟨ages, used⟩), .agg (cHandle ⟨slot, age⟩)] (rSB A (Dropped ⟨ages, used⟩ ⟨slot, age⟩)) := by
  refine S.cx.by (S.prog ▸ Try.func20) rfl rfl rfl rfl (fun hv ho => ?_)
  cbv
  refine ACall.testD (dp := false) (implSlotsOk_c S ages used) ⟨rfl, (by repeat' (first | exact trivial | exact rfl | exact Nat.le_refl _ | exact S.cx.giveEq | exact S.cx.lendLe (by assumption) | exact S.cx.lendEq (by assumption) | exact S.cx.lendLe0 | exact S.cx.lendEq0 | exact S.cx.partLe (by assumption) | exact S.cx.partEq (by assumption) | exact .inl rfl | refine ⟨?_, ?_⟩)), (by repeat' (first | exact trivial | exact rfl | exact Nat.le_refl _ | exact S.cx.giveEq | exact S.cx.lendLe (by assumption) | exact S.cx.lendEq (by assumption) | exact S.cx.lendLe0 | exact S.cx.lendEq0 | exact S.cx.partLe (by assumption) | exact S.cx.partEq (by assumption) | exact .inl rfl | refine ⟨?_, ?_⟩))⟩ rfl (fun hok => ?_) (fun hok => ?_) <;> cbv
  rotate_left
  · exact Done.is (r := rSB A) (x := (slots0, false)) (by repeat' (first | exact trivial | exact rfl | exact resOwn S.cx rfl (by assumption) | exact resOwn S.cx rfl (S.cx.lenE _ _) | exact resOwn1 S.cx rfl (by assumption) | exact resOwnT S.cx rfl (by assumption) | exact S.cx.enc _ [] | refine ⟨?_, ?_⟩)) rfl (if_neg hok)
  have hlen : ages.length ≤ 64 := hok.1.2
  have hl : used.length = ages.length := hok.2.1
  have b1 : ages.length ≤ 4294967296 := by omega
  have b2 : used.length ≤ 4294967296 := by omega
  refine ACall.valN (r := rS A) (os := fun _ => []) (dp := false) S.cx (clonedSlots_c S ages used b1 b2) ⟨rfl, (by repeat' (first | exact trivial | exact rfl | exact Nat.le_refl _ | exact S.cx.giveEq | exact S.cx.lendLe (by assumption) | exact S.cx.lendEq (by assumption) | exact S.cx.lendLe0 | exact S.cx.lendEq0 | exact S.cx.partLe (by assumption) | exact S.cx.partEq (by assumption) | exact .inl rfl | refine ⟨?_, ?_⟩)), (by repeat' (first | exact trivial | exact rfl | exact Nat.le_refl _ | exact S.cx.giveEq | exact S.cx.lendLe (by assumption) | exact S.cx.lendEq (by assumption) | exact S.cx.lendLe0 | exact S.cx.lendEq0 | exact S.cx.partLe (by assumption) | exact S.cx.partEq (by assumption) | exact .inl rfl | refine ⟨?_, ?_⟩))⟩ rfl (fun ln hln x hx => ⟨rfl, ?_⟩)
  obtain ⟨ages', used'⟩ := x
  cases hx
  cbv
  have hn := hln cInt64 ages
  generalize ln (A.enc cInt64 ages) = n at hn ⊢
  have hm := hln cBool used
  generalize ln (A.enc cBool used) = m at hm ⊢
  refine ACall.valN (r := rB) (os := oB A) (dp := false) S.cx (drop_c S ages used slot age n m hn hm hl hok.2.2) ⟨rfl, (by repeat' (first | exact trivial | exact rfl | exact Nat.le_refl _ | exact S.cx.giveEq | exact S.cx.lendLe (by assumption) | exact S.cx.lendEq (by assumption) | exact S.cx.lendLe0 | exact S.cx.lendEq0 | exact S.cx.partLe (by assumption) | exact S.cx.partEq (by assumption) | exact .inl rfl | refine ⟨?_, ?_⟩)), (by repeat' (first | exact trivial | exact rfl | exact Nat.le_refl _ | exact S.cx.giveEq | exact S.cx.lendLe (by assumption) | exact S.cx.lendEq (by assumption) | exact S.cx.lendLe0 | exact S.cx.lendEq0 | exact S.cx.partLe (by assumption) | exact S.cx.partEq (by assumption) | exact .inl rfl | refine ⟨?_, ?_⟩))⟩ rfl (fun ln hln x hx => ⟨rfl, ?_⟩)
  obtain ⟨⟨ages', used'⟩, b⟩ := x
  cbv
  have h1 : n = ages'.length ∧ m = used'.length := by
    have e : (Drop ⟨ages, used⟩ ⟨slot, age⟩).1.ages.length = ages.length ∧ (Drop ⟨ages, used⟩ ⟨slot, age⟩).1.used.length = used.length := by unfold Drop; split <;> simp
    rw [← hx] at e
    dsimp only at e
    omega
  obtain ⟨h1, h2⟩ := h1
  exact Done.is (r := rSB A) (x := (⟨ages', used'⟩, b)) (by repeat' (first | exact trivial | exact rfl | exact resOwn S.cx rfl (by assumption) | exact resOwn S.cx rfl (S.cx.lenE _ _) | exact resOwn1 S.cx rfl (by assumption) | exact resOwnT S.cx rfl (by assumption) | exact S.cx.enc _ [] | refine ⟨?_, ?_⟩)) rfl ((if_pos hok).trans hx.symm)

end Go.Proofs.Ytmpbmfhlkhonkaa.AM
