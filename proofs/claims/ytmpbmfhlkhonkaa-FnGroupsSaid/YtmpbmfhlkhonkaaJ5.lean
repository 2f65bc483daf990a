/- Contracts: groups left, passed on. (printed by gj5.py) -/
import Derived.Test.YtmpbmfhlkhonkaaJ4
namespace Go.Proofs.Ytmpbmfhlkhonkaa.AM
open Go Go.Proofs

set_option maxRecDepth 100000
set_option maxHeartbeats 4000000
set_option linter.unusedVariables false
set_option linter.unusedSimpArgs false

variable {P : Program} {A : Sy}

def Fails (g : Group) (err : Int) : Bool × Group := (decide (g.first = 0 ∧ err ≠ 0), { g with first := errFirst g.first err })
def rFB (x : Bool × Group) : AV := .bool x.1
def oFB (A : Sy) (x : Bool × Group) : List (Option Obj) := [some (.box (ownGroup A x.2))]
def rFG (A : Sy) (x : Bool × Group) : AV := .tup [.agg (ownGroup A x.2), .bool x.1]

theorem fails_d (S : Se P A) (node limit active : Int) (waits : List Int) (first : Int) (err : Int) : SoundM P 76 false [.ptr 1000 0 0, .int .i64 err] [.box (ownGroup A ⟨node, limit, active, waits, first⟩)]
    (fun v os => v = rFB (Fails ⟨node, limit, active, waits, first⟩ err) ∧ os = oFB A (Fails ⟨node, limit, active, waits, first⟩ err)) := fails_c S node limit active waits first err

theorem l12First_d (S : Se P A) (node limit active : Int) (waits : List Int) (first : Int) (err : Int) (n : Nat) (hn : n = waits.length) : SoundM P 82 false [.agg [.int .i64 node, .int .i64 limit, .int .i64 active, .ref false 1000 0 n, .int .i64 first], .int .i64 err] [.arr 1 true (A.enc cInt64 waits)]
    (fun v os => v = rFG A (Fails ⟨node, limit, active, waits, first⟩ err) ∧ os = [none]) := l12First_c S node limit active waits first err n hn

theorem implLeftBy_c (S : Se P A) (node limit active : Int) (waits : List Int) (first : Int) (err : Int) (hb : waits.length ≤ 4294967296) : Is1 P 41 [.agg (roGroup A ⟨node, limit, active, waits, first⟩), .int .i64 err] (rGBB A (LeftBy ⟨node, limit, active, waits, first⟩ err)) := by
  refine S.cx.by (S.prog ▸ Try.func41) rfl rfl rfl rfl (fun hv ho => ?_)
  cbv
  refine ACall.testD (dp := false) (implGroupOk_c S _ _ _ _ _) ⟨rfl, (by repeat' (first | exact trivial | exact rfl | exact Nat.le_refl _ | exact S.cx.giveEq | exact S.cx.lendLe (by assumption) | exact S.cx.lendEq (by assumption) | exact S.cx.lendLe0 | exact S.cx.lendEq0 | exact S.cx.partLe (by assumption) | exact S.cx.partEq (by assumption) | exact .inl rfl | refine ⟨?_, ?_⟩)), (by repeat' (first | exact trivial | exact rfl | exact Nat.le_refl _ | exact S.cx.giveEq | exact S.cx.lendLe (by assumption) | exact S.cx.lendEq (by assumption) | exact S.cx.lendLe0 | exact S.cx.lendEq0 | exact S.cx.partLe (by assumption) | exact S.cx.partEq (by assumption) | exact .inl rfl | refine ⟨?_, ?_⟩))⟩ rfl (fun h => ?_) (fun h => ?_) <;> cbv
  rotate_left
  · exact Done.is (r := rGBB A) (x := (group0, false, false)) (by repeat' (first | exact trivial | exact rfl | exact resOwn S.cx rfl (by assumption) | exact resOwn S.cx rfl (S.cx.lenE _ _) | exact resOwn1 S.cx rfl (by assumption) | exact resOwnT S.cx rfl (by assumption) | exact S.cx.enc _ [] | refine ⟨?_, ?_⟩)) rfl (if_neg h)
  refine ACall.valN (r := rG A) (os := fun _ => []) (dp := false) S.cx (cloned_c S _ _ _ _ _ hb) ⟨rfl, (by repeat' (first | exact trivial | exact rfl | exact Nat.le_refl _ | exact S.cx.giveEq | exact S.cx.lendLe (by assumption) | exact S.cx.lendEq (by assumption) | exact S.cx.lendLe0 | exact S.cx.lendEq0 | exact S.cx.partLe (by assumption) | exact S.cx.partEq (by assumption) | exact .inl rfl | refine ⟨?_, ?_⟩)), (by repeat' (first | exact trivial | exact rfl | exact Nat.le_refl _ | exact S.cx.giveEq | exact S.cx.lendLe (by assumption) | exact S.cx.lendEq (by assumption) | exact S.cx.lendLe0 | exact S.cx.lendEq0 | exact S.cx.partLe (by assumption) | exact S.cx.partEq (by assumption) | exact .inl rfl | refine ⟨?_, ?_⟩))⟩ rfl (fun ln hln x hx => ⟨rfl, ?_⟩)
  obtain ⟨node', limit', active', waits', first'⟩ := x
  cases hx
  cbv
  have hM := hln cInt64 waits
  generalize ln (A.enc cInt64 waits) = M at hM ⊢
  refine Test.eql (fun h1 => ?_) (fun h1 => ?_) <;> cbv
  · exact Done.is (r := rGBB A) (x := (⟨node, limit, active, waits, first⟩, false, false)) (by repeat' (first | exact trivial | exact rfl | exact resOwn S.cx rfl (by assumption) | exact resOwn S.cx rfl (S.cx.lenE _ _) | exact resOwn1 S.cx rfl (by assumption) | exact resOwnT S.cx rfl (by assumption) | exact S.cx.enc _ [] | refine ⟨?_, ?_⟩)) rfl ((if_pos h).trans (if_neg (fun e => e.1 h1)))
  refine LenR.nat S.cx (fun N hN hm => ?_); cbv
  refine Test.gtr (fun h2 => ?_) (fun h2 => ?_) <;> cbv
  · exact Done.is (r := rGBB A) (x := (⟨node, limit, active, waits, first⟩, false, false)) (by repeat' (first | exact trivial | exact rfl | exact resOwn S.cx rfl (by assumption) | exact resOwn S.cx rfl (S.cx.lenE _ _) | exact resOwn1 S.cx rfl (by assumption) | exact resOwnT S.cx rfl (by assumption) | exact S.cx.enc _ [] | refine ⟨?_, ?_⟩)) rfl ((if_pos h).trans (if_neg (fun e => by have h3 := e.2.1; dsimp only at h3; rw [h3] at hN; simp at hN; omega)))
  refine ACall.testD (dp := false) (within_c S _ _ _) ⟨rfl, (by repeat' (first | exact trivial | exact rfl | exact Nat.le_refl _ | exact S.cx.giveEq | exact S.cx.lendLe (by assumption) | exact S.cx.lendEq (by assumption) | exact S.cx.lendLe0 | exact S.cx.lendEq0 | exact S.cx.partLe (by assumption) | exact S.cx.partEq (by assumption) | exact .inl rfl | refine ⟨?_, ?_⟩)), (by repeat' (first | exact trivial | exact rfl | exact Nat.le_refl _ | exact S.cx.giveEq | exact S.cx.lendLe (by assumption) | exact S.cx.lendEq (by assumption) | exact S.cx.lendLe0 | exact S.cx.lendEq0 | exact S.cx.partLe (by assumption) | exact S.cx.partEq (by assumption) | exact .inl rfl | refine ⟨?_, ?_⟩))⟩ rfl (fun h3 => ?_) (fun h3 => ?_) <;> cbv
  rotate_left
  · exact Done.is (r := rGBB A) (x := (⟨node, limit, active, waits, first⟩, false, false)) (by repeat' (first | exact trivial | exact rfl | exact resOwn S.cx rfl (by assumption) | exact resOwn S.cx rfl (S.cx.lenE _ _) | exact resOwn1 S.cx rfl (by assumption) | exact resOwnT S.cx rfl (by assumption) | exact S.cx.enc _ [] | refine ⟨?_, ?_⟩)) rfl ((if_pos h).trans (if_neg (fun e => h3 e.2.2)))
  have hw : waits = [] := List.length_eq_zero_iff.1 (by omega)
  refine Arith.go (by have := h.2.2.1; dsimp only at this; lia) (fun z hz => ?_); cbv
  refine ACall.valN (r := rFB) (os := oFB A) (dp := false) S.cx (fails_d S _ _ _ waits _ _) ⟨rfl, (by repeat' (first | exact trivial | exact rfl | exact Nat.le_refl _ | exact S.cx.giveEq | exact S.cx.lendLe (by assumption) | exact S.cx.lendEq (by assumption) | exact S.cx.lendLe0 | exact S.cx.lendEq0 | exact S.cx.partLe (by assumption) | exact S.cx.partEq (by assumption) | exact .inl rfl | refine ⟨?_, ?_⟩)), (by repeat' (first | exact trivial | exact rfl | exact Nat.le_refl _ | exact S.cx.giveEq | exact S.cx.lendLe (by assumption) | exact S.cx.lendEq (by assumption) | exact S.cx.lendLe0 | exact S.cx.lendEq0 | exact S.cx.partLe (by assumption) | exact S.cx.partEq (by assumption) | exact .inl rfl | refine ⟨?_, ?_⟩))⟩ rfl (fun ln hln x hx => ⟨rfl, ?_⟩)
  obtain ⟨b, node', limit', active', waits', first'⟩ := x
  cbv
  have hW := hln cInt64 waits'
  generalize ln (A.enc cInt64 waits') = W at hW ⊢
  simp only [Fails, Prod.mk.injEq, Group.mk.injEq] at hx
  exact Done.is (r := rGBB A) (x := (⟨node', limit', active', waits', first'⟩, true, b)) (by repeat' (first | exact trivial | exact rfl | exact resOwn S.cx rfl (by assumption) | exact resOwn S.cx rfl (S.cx.lenE _ _) | exact resOwn1 S.cx rfl (by assumption) | exact resOwnT S.cx rfl (by assumption) | exact S.cx.enc _ [] | refine ⟨?_, ?_⟩)) rfl ((if_pos h).trans ((if_pos ⟨h1, hw, h3⟩).trans (by simp only [hx, hz])))

theorem specLeftBy_c (S : Se P A) (node limit active : Int) (waits : List Int) (first : Int) (err : Int) (hb : waits.length ≤ 4294967296) : Is1 P 53 [.agg (roGroup A ⟨node, limit, active, waits, first⟩), .int .i64 err] (rGBB A (LeftBy ⟨node, limit, active, waits, first⟩ err)) := by
  refine S.cx.by (S.prog ▸ Try.func53) rfl rfl rfl rfl (fun hv ho => ?_)
  cbv
  refine ACall.testD (dp := false) (specGroupOk_c S _ _ _ _ _) ⟨rfl, (by repeat' (first | exact trivial | exact rfl | exact Nat.le_refl _ | exact S.cx.giveEq | exact S.cx.lendLe (by assumption) | exact S.cx.lendEq (by assumption) | exact S.cx.lendLe0 | exact S.cx.lendEq0 | exact S.cx.partLe (by assumption) | exact S.cx.partEq (by assumption) | exact .inl rfl | refine ⟨?_, ?_⟩)), (by repeat' (first | exact trivial | exact rfl | exact Nat.le_refl _ | exact S.cx.giveEq | exact S.cx.lendLe (by assumption) | exact S.cx.lendEq (by assumption) | exact S.cx.lendLe0 | exact S.cx.lendEq0 | exact S.cx.partLe (by assumption) | exact S.cx.partEq (by assumption) | exact .inl rfl | refine ⟨?_, ?_⟩))⟩ rfl (fun h => ?_) (fun h => ?_) <;> cbv
  rotate_left
  · exact Done.is (r := rGBB A) (x := (group0, false, false)) (by repeat' (first | exact trivial | exact rfl | exact resOwn S.cx rfl (by assumption) | exact resOwn S.cx rfl (S.cx.lenE _ _) | exact resOwn1 S.cx rfl (by assumption) | exact resOwnT S.cx rfl (by assumption) | exact S.cx.enc _ [] | refine ⟨?_, ?_⟩)) rfl (if_neg h)
  refine ACall.valN (r := rG A) (os := fun _ => []) (dp := false) S.cx (l12Copy_c S _ _ _ _ _ hb) ⟨rfl, (by repeat' (first | exact trivial | exact rfl | exact Nat.le_refl _ | exact S.cx.giveEq | exact S.cx.lendLe (by assumption) | exact S.cx.lendEq (by assumption) | exact S.cx.lendLe0 | exact S.cx.lendEq0 | exact S.cx.partLe (by assumption) | exact S.cx.partEq (by assumption) | exact .inl rfl | refine ⟨?_, ?_⟩)), (by repeat' (first | exact trivial | exact rfl | exact Nat.le_refl _ | exact S.cx.giveEq | exact S.cx.lendLe (by assumption) | exact S.cx.lendEq (by assumption) | exact S.cx.lendLe0 | exact S.cx.lendEq0 | exact S.cx.partLe (by assumption) | exact S.cx.partEq (by assumption) | exact .inl rfl | refine ⟨?_, ?_⟩))⟩ rfl (fun ln hln x hx => ⟨rfl, ?_⟩)
  obtain ⟨node', limit', active', waits', first'⟩ := x
  cases hx
  cbv
  have hM := hln cInt64 waits
  generalize ln (A.enc cInt64 waits) = M at hM ⊢
  refine Test.eql (fun h1 => ?_) (fun h1 => ?_) <;> cbv
  · exact Done.is (r := rGBB A) (x := (⟨node, limit, active, waits, first⟩, false, false)) (by repeat' (first | exact trivial | exact rfl | exact resOwn S.cx rfl (by assumption) | exact resOwn S.cx rfl (S.cx.lenE _ _) | exact resOwn1 S.cx rfl (by assumption) | exact resOwnT S.cx rfl (by assumption) | exact S.cx.enc _ [] | refine ⟨?_, ?_⟩)) rfl ((if_pos h).trans (if_neg (fun e => e.1 h1)))
  refine LenR.nat S.cx (fun N hN hm => ?_); cbv
  refine Test.gtr (fun h2 => ?_) (fun h2 => ?_) <;> cbv
  · exact Done.is (r := rGBB A) (x := (⟨node, limit, active, waits, first⟩, false, false)) (by repeat' (first | exact trivial | exact rfl | exact resOwn S.cx rfl (by assumption) | exact resOwn S.cx rfl (S.cx.lenE _ _) | exact resOwn1 S.cx rfl (by assumption) | exact resOwnT S.cx rfl (by assumption) | exact S.cx.enc _ [] | refine ⟨?_, ?_⟩)) rfl ((if_pos h).trans (if_neg (fun e => by have h3 := e.2.1; dsimp only at h3; rw [h3] at hN; simp at hN; omega)))
  refine ACall.testD (dp := false) (l1In_c S _ _ _) ⟨rfl, (by repeat' (first | exact trivial | exact rfl | exact Nat.le_refl _ | exact S.cx.giveEq | exact S.cx.lendLe (by assumption) | exact S.cx.lendEq (by assumption) | exact S.cx.lendLe0 | exact S.cx.lendEq0 | exact S.cx.partLe (by assumption) | exact S.cx.partEq (by assumption) | exact .inl rfl | refine ⟨?_, ?_⟩)), (by repeat' (first | exact trivial | exact rfl | exact Nat.le_refl _ | exact S.cx.giveEq | exact S.cx.lendLe (by assumption) | exact S.cx.lendEq (by assumption) | exact S.cx.lendLe0 | exact S.cx.lendEq0 | exact S.cx.partLe (by assumption) | exact S.cx.partEq (by assumption) | exact .inl rfl | refine ⟨?_, ?_⟩))⟩ rfl (fun h3 => ?_) (fun h3 => ?_) <;> cbv
  rotate_left
  · exact Done.is (r := rGBB A) (x := (⟨node, limit, active, waits, first⟩, false, false)) (by repeat' (first | exact trivial | exact rfl | exact resOwn S.cx rfl (by assumption) | exact resOwn S.cx rfl (S.cx.lenE _ _) | exact resOwn1 S.cx rfl (by assumption) | exact resOwnT S.cx rfl (by assumption) | exact S.cx.enc _ [] | refine ⟨?_, ?_⟩)) rfl ((if_pos h).trans (if_neg (fun e => h3 e.2.2)))
  have hw : waits = [] := List.length_eq_zero_iff.1 (by omega)
  refine Arith.go (by have := h.2.2.1; dsimp only at this; lia) (fun z hz => ?_); cbv
  refine ACall.valN (r := rFG A) (os := fun _ => [none]) (dp := false) S.cx (l12First_d S _ _ _ waits _ _ _ hM) ⟨rfl, (by repeat' (first | exact trivial | exact rfl | exact Nat.le_refl _ | exact S.cx.giveEq | exact S.cx.lendLe (by assumption) | exact S.cx.lendEq (by assumption) | exact S.cx.lendLe0 | exact S.cx.lendEq0 | exact S.cx.partLe (by assumption) | exact S.cx.partEq (by assumption) | exact .inl rfl | refine ⟨?_, ?_⟩)), (by repeat' (first | exact trivial | exact rfl | exact Nat.le_refl _ | exact S.cx.giveEq | exact S.cx.lendLe (by assumption) | exact S.cx.lendEq (by assumption) | exact S.cx.lendLe0 | exact S.cx.lendEq0 | exact S.cx.partLe (by assumption) | exact S.cx.partEq (by assumption) | exact .inl rfl | refine ⟨?_, ?_⟩))⟩ rfl (fun ln hln x hx => ⟨rfl, ?_⟩)
  obtain ⟨b, node', limit', active', waits', first'⟩ := x
  cbv
  have hW := hln cInt64 waits'
  generalize ln (A.enc cInt64 waits') = W at hW ⊢
  simp only [Fails, Prod.mk.injEq, Group.mk.injEq] at hx
  exact Done.is (r := rGBB A) (x := (⟨node', limit', active', waits', first'⟩, true, b)) (by repeat' (first | exact trivial | exact rfl | exact resOwn S.cx rfl (by assumption) | exact resOwn S.cx rfl (S.cx.lenE _ _) | exact resOwn1 S.cx rfl (by assumption) | exact resOwnT S.cx rfl (by assumption) | exact S.cx.enc _ [] | refine ⟨?_, ?_⟩)) rfl ((if_pos h).trans ((if_pos ⟨h1, hw, h3⟩).trans (by simp only [hx, hz])))

theorem implPassed_c (S : Se P A) (node limit active : Int) (waits : List Int) (first : Int) (err : Int) (hb : waits.length ≤ 4294967296) : Is1 P 42 [.agg (roGroup A ⟨node, limit, active, waits, first⟩), .int .i64 err] (rGIBB A (Passed ⟨node, limit, active, waits, first⟩ err)) := by
  refine S.cx.by (S.prog ▸ Try.func42) rfl rfl rfl rfl (fun hv ho => ?_)
  cbv
  refine ACall.testD (dp := false) (implGroupOk_c S _ _ _ _ _) ⟨rfl, (by repeat' (first | exact trivial | exact rfl | exact Nat.le_refl _ | exact S.cx.giveEq | exact S.cx.lendLe (by assumption) | exact S.cx.lendEq (by assumption) | exact S.cx.lendLe0 | exact S.cx.lendEq0 | exact S.cx.partLe (by assumption) | exact S.cx.partEq (by assumption) | exact .inl rfl | refine ⟨?_, ?_⟩)), (by repeat' (first | exact trivial | exact rfl | exact Nat.le_refl _ | exact S.cx.giveEq | exact S.cx.lendLe (by assumption) | exact S.cx.lendEq (by assumption) | exact S.cx.lendLe0 | exact S.cx.lendEq0 | exact S.cx.partLe (by assumption) | exact S.cx.partEq (by assumption) | exact .inl rfl | refine ⟨?_, ?_⟩))⟩ rfl (fun h => ?_) (fun h => ?_) <;> cbv
  rotate_left
  · exact Done.is (r := rGIBB A) (x := (group0, -1, false, false)) (by repeat' (first | exact trivial | exact rfl | exact resOwn S.cx rfl (by assumption) | exact resOwn S.cx rfl (S.cx.lenE _ _) | exact resOwn1 S.cx rfl (by assumption) | exact resOwnT S.cx rfl (by assumption) | exact S.cx.enc _ [] | refine ⟨?_, ?_⟩)) rfl (if_neg h)
  refine ACall.valN (r := rG A) (os := fun _ => []) (dp := false) S.cx (cloned_c S _ _ _ _ _ hb) ⟨rfl, (by repeat' (first | exact trivial | exact rfl | exact Nat.le_refl _ | exact S.cx.giveEq | exact S.cx.lendLe (by assumption) | exact S.cx.lendEq (by assumption) | exact S.cx.lendLe0 | exact S.cx.lendEq0 | exact S.cx.partLe (by assumption) | exact S.cx.partEq (by assumption) | exact .inl rfl | refine ⟨?_, ?_⟩)), (by repeat' (first | exact trivial | exact rfl | exact Nat.le_refl _ | exact S.cx.giveEq | exact S.cx.lendLe (by assumption) | exact S.cx.lendEq (by assumption) | exact S.cx.lendLe0 | exact S.cx.lendEq0 | exact S.cx.partLe (by assumption) | exact S.cx.partEq (by assumption) | exact .inl rfl | refine ⟨?_, ?_⟩))⟩ rfl (fun ln hln x hx => ⟨rfl, ?_⟩)
  obtain ⟨node', limit', active', waits', first'⟩ := x
  cases hx
  cbv
  have hM := hln cInt64 waits
  generalize ln (A.enc cInt64 waits) = M at hM ⊢
  refine Test.eql (fun h1 => ?_) (fun h1 => ?_) <;> cbv
  · exact Done.is (r := rGIBB A) (x := (⟨node, limit, active, waits, first⟩, -1, false, false)) (by repeat' (first | exact trivial | exact rfl | exact resOwn S.cx rfl (by assumption) | exact resOwn S.cx rfl (S.cx.lenE _ _) | exact resOwn1 S.cx rfl (by assumption) | exact resOwnT S.cx rfl (by assumption) | exact S.cx.enc _ [] | refine ⟨?_, ?_⟩)) rfl ((if_pos h).trans (if_neg (fun e => e.1 h1)))
  refine LenR.nat S.cx (fun N hN hm => ?_); cbv
  refine Test.eql (fun h2 => ?_) (fun h2 => ?_) <;> cbv
  · exact Done.is (r := rGIBB A) (x := (⟨node, limit, active, waits, first⟩, -1, false, false)) (by repeat' (first | exact trivial | exact rfl | exact resOwn S.cx rfl (by assumption) | exact resOwn S.cx rfl (S.cx.lenE _ _) | exact resOwn1 S.cx rfl (by assumption) | exact resOwnT S.cx rfl (by assumption) | exact S.cx.enc _ [] | refine ⟨?_, ?_⟩)) rfl ((if_pos h).trans (if_neg (fun e => e.2.1 (List.length_eq_zero_iff.1 (by dsimp only; omega)))))
  refine ACall.testD (dp := false) (within_c S _ _ _) ⟨rfl, (by repeat' (first | exact trivial | exact rfl | exact Nat.le_refl _ | exact S.cx.giveEq | exact S.cx.lendLe (by assumption) | exact S.cx.lendEq (by assumption) | exact S.cx.lendLe0 | exact S.cx.lendEq0 | exact S.cx.partLe (by assumption) | exact S.cx.partEq (by assumption) | exact .inl rfl | refine ⟨?_, ?_⟩)), (by repeat' (first | exact trivial | exact rfl | exact Nat.le_refl _ | exact S.cx.giveEq | exact S.cx.lendLe (by assumption) | exact S.cx.lendEq (by assumption) | exact S.cx.lendLe0 | exact S.cx.lendEq0 | exact S.cx.partLe (by assumption) | exact S.cx.partEq (by assumption) | exact .inl rfl | refine ⟨?_, ?_⟩))⟩ rfl (fun h3 => ?_) (fun h3 => ?_) <;> cbv
  rotate_left
  · exact Done.is (r := rGIBB A) (x := (⟨node, limit, active, waits, first⟩, -1, false, false)) (by repeat' (first | exact trivial | exact rfl | exact resOwn S.cx rfl (by assumption) | exact resOwn S.cx rfl (S.cx.lenE _ _) | exact resOwn1 S.cx rfl (by assumption) | exact resOwnT S.cx rfl (by assumption) | exact S.cx.enc _ [] | refine ⟨?_, ?_⟩)) rfl ((if_pos h).trans (if_neg (fun e => h3 e.2.2)))
  obtain ⟨w, ws, hw⟩ : ∃ w ws, waits = w :: ws := by
    cases waits with
    | nil => simp at hN; omega
    | cons w ws => exact ⟨w, ws, rfl⟩
  have hfin : Passed ⟨node, limit, active, waits, first⟩ err = (⟨node, limit, active, ws, errFirst first err⟩, w, true, decide (first = 0 ∧ err ≠ 0)) := (if_pos h).trans ((if_pos ⟨h1, (by dsimp only; rw [hw]; simp), h3⟩).trans (by dsimp only; rw [hw]; rfl))
  refine ElemRef.go rfl (by decide) (by omega) (by rw [S.cx.lenE']; omega) (fun row hrow => ?_); cbv
  refine Row.enc S.cx (by omega) (fun w' hw' => ?_)
  have e : w' = w := by rw [hrow, hw] at hw'; simpa using hw'.symm
  subst e
  cbv
  refine CutRef.go rfl (by decide) (by lia) (by lia) (by rw [S.cx.lenE']; omega) (fun p' off' len' hoff hlen => ?_); cbv
  have hp1 : off' + len' ≤ waits.length := by lia
  have hp2 : ws = (waits.drop off').take len' := by
    have e1 : off' = 1 := by rw [hoff]; rfl
    have e2 : len' = ws.length := by rw [hw] at hM; simp at hM; lia
    rw [e1, e2, hw]; simp
  refine ACall.valN (r := rFB) (os := oFB A) (dp := false) S.cx (fails_d S _ _ _ ws _ _) ⟨rfl, (by repeat' (first | exact trivial | exact rfl | exact Nat.le_refl _ | exact S.cx.giveEq | exact S.cx.lendLe (by assumption) | exact S.cx.lendEq (by assumption) | exact S.cx.lendLe0 | exact S.cx.lendEq0 | exact S.cx.partLe (by assumption) | exact S.cx.partEq (by assumption) | exact .inl rfl | refine ⟨?_, ?_⟩)), (by repeat' (first | exact trivial | exact rfl | exact Nat.le_refl _ | exact S.cx.giveEq | exact S.cx.lendLe (by assumption) | exact S.cx.lendEq (by assumption) | exact S.cx.lendLe0 | exact S.cx.lendEq0 | exact S.cx.partLe (by assumption) | exact S.cx.partEq (by assumption) | exact .inl rfl | refine ⟨?_, ?_⟩))⟩ rfl (fun ln hln x hx => ⟨rfl, ?_⟩)
  obtain ⟨b, node', limit', active', waits', first'⟩ := x
  cbv
  have hW := hln cInt64 waits'
  generalize ln (A.enc cInt64 waits') = W at hW ⊢
  simp only [Fails, Prod.mk.injEq, Group.mk.injEq] at hx
  exact Done.is (r := rGIBB A) (x := (⟨node', limit', active', waits', first'⟩, w', true, b)) (by repeat' (first | exact trivial | exact rfl | exact resOwn S.cx rfl (by assumption) | exact resOwn S.cx rfl (S.cx.lenE _ _) | exact resOwn1 S.cx rfl (by assumption) | exact resOwnT S.cx rfl (by assumption) | exact S.cx.enc _ [] | refine ⟨?_, ?_⟩)) rfl (by rw [hfin]; simp only [hx])

theorem specPassed_c (S : Se P A) (node limit active : Int) (waits : List Int) (first : Int) (err : Int) (hb : waits.length ≤ 4294967296) : Is1 P 54 [.agg (roGroup A ⟨node, limit, active, waits, first⟩), .int .i64 err] (rGIBB A (Passed ⟨node, limit, active, waits, first⟩ err)) := by
  refine S.cx.by (S.prog ▸ Try.func54) rfl rfl rfl rfl (fun hv ho => ?_)
  cbv
  refine ACall.testD (dp := false) (specGroupOk_c S _ _ _ _ _) ⟨rfl, (by repeat' (first | exact trivial | exact rfl | exact Nat.le_refl _ | exact S.cx.giveEq | exact S.cx.lendLe (by assumption) | exact S.cx.lendEq (by assumption) | exact S.cx.lendLe0 | exact S.cx.lendEq0 | exact S.cx.partLe (by assumption) | exact S.cx.partEq (by assumption) | exact .inl rfl | refine ⟨?_, ?_⟩)), (by repeat' (first | exact trivial | exact rfl | exact Nat.le_refl _ | exact S.cx.giveEq | exact S.cx.lendLe (by assumption) | exact S.cx.lendEq (by assumption) | exact S.cx.lendLe0 | exact S.cx.lendEq0 | exact S.cx.partLe (by assumption) | exact S.cx.partEq (by assumption) | exact .inl rfl | refine ⟨?_, ?_⟩))⟩ rfl (fun h => ?_) (fun h => ?_) <;> cbv
  rotate_left
  · exact Done.is (r := rGIBB A) (x := (group0, -1, false, false)) (by repeat' (first | exact trivial | exact rfl | exact resOwn S.cx rfl (by assumption) | exact resOwn S.cx rfl (S.cx.lenE _ _) | exact resOwn1 S.cx rfl (by assumption) | exact resOwnT S.cx rfl (by assumption) | exact S.cx.enc _ [] | refine ⟨?_, ?_⟩)) rfl (if_neg h)
  refine ACall.valN (r := rG A) (os := fun _ => []) (dp := false) S.cx (l12Copy_c S _ _ _ _ _ hb) ⟨rfl, (by repeat' (first | exact trivial | exact rfl | exact Nat.le_refl _ | exact S.cx.giveEq | exact S.cx.lendLe (by assumption) | exact S.cx.lendEq (by assumption) | exact S.cx.lendLe0 | exact S.cx.lendEq0 | exact S.cx.partLe (by assumption) | exact S.cx.partEq (by assumption) | exact .inl rfl | refine ⟨?_, ?_⟩)), (by repeat' (first | exact trivial | exact rfl | exact Nat.le_refl _ | exact S.cx.giveEq | exact S.cx.lendLe (by assumption) | exact S.cx.lendEq (by assumption) | exact S.cx.lendLe0 | exact S.cx.lendEq0 | exact S.cx.partLe (by assumption) | exact S.cx.partEq (by assumption) | exact .inl rfl | refine ⟨?_, ?_⟩))⟩ rfl (fun ln hln x hx => ⟨rfl, ?_⟩)
  obtain ⟨node', limit', active', waits', first'⟩ := x
  cases hx
  cbv
  have hM := hln cInt64 waits
  generalize ln (A.enc cInt64 waits) = M at hM ⊢
  refine Test.eql (fun h1 => ?_) (fun h1 => ?_) <;> cbv
  · exact Done.is (r := rGIBB A) (x := (⟨node, limit, active, waits, first⟩, -1, false, false)) (by repeat' (first | exact trivial | exact rfl | exact resOwn S.cx rfl (by assumption) | exact resOwn S.cx rfl (S.cx.lenE _ _) | exact resOwn1 S.cx rfl (by assumption) | exact resOwnT S.cx rfl (by assumption) | exact S.cx.enc _ [] | refine ⟨?_, ?_⟩)) rfl ((if_pos h).trans (if_neg (fun e => e.1 h1)))
  refine LenR.nat S.cx (fun N hN hm => ?_); cbv
  refine Test.eql (fun h2 => ?_) (fun h2 => ?_) <;> cbv
  · exact Done.is (r := rGIBB A) (x := (⟨node, limit, active, waits, first⟩, -1, false, false)) (by repeat' (first | exact trivial | exact rfl | exact resOwn S.cx rfl (by assumption) | exact resOwn S.cx rfl (S.cx.lenE _ _) | exact resOwn1 S.cx rfl (by assumption) | exact resOwnT S.cx rfl (by assumption) | exact S.cx.enc _ [] | refine ⟨?_, ?_⟩)) rfl ((if_pos h).trans (if_neg (fun e => e.2.1 (List.length_eq_zero_iff.1 (by dsimp only; omega)))))
  refine ACall.testD (dp := false) (l1In_c S _ _ _) ⟨rfl, (by repeat' (first | exact trivial | exact rfl | exact Nat.le_refl _ | exact S.cx.giveEq | exact S.cx.lendLe (by assumption) | exact S.cx.lendEq (by assumption) | exact S.cx.lendLe0 | exact S.cx.lendEq0 | exact S.cx.partLe (by assumption) | exact S.cx.partEq (by assumption) | exact .inl rfl | refine ⟨?_, ?_⟩)), (by repeat' (first | exact trivial | exact rfl | exact Nat.le_refl _ | exact S.cx.giveEq | exact S.cx.lendLe (by assumption) | exact S.cx.lendEq (by assumption) | exact S.cx.lendLe0 | exact S.cx.lendEq0 | exact S.cx.partLe (by assumption) | exact S.cx.partEq (by assumption) | exact .inl rfl | refine ⟨?_, ?_⟩))⟩ rfl (fun h3 => ?_) (fun h3 => ?_) <;> cbv
  rotate_left
  · exact Done.is (r := rGIBB A) (x := (⟨node, limit, active, waits, first⟩, -1, false, false)) (by repeat' (first | exact trivial | exact rfl | exact resOwn S.cx rfl (by assumption) | exact resOwn S.cx rfl (S.cx.lenE _ _) | exact resOwn1 S.cx rfl (by assumption) | exact resOwnT S.cx rfl (by assumption) | exact S.cx.enc _ [] | refine ⟨?_, ?_⟩)) rfl ((if_pos h).trans (if_neg (fun e => h3 e.2.2)))
  obtain ⟨w, ws, hw⟩ : ∃ w ws, waits = w :: ws := by
    cases waits with
    | nil => simp at hN; omega
    | cons w ws => exact ⟨w, ws, rfl⟩
  have hfin : Passed ⟨node, limit, active, waits, first⟩ err = (⟨node, limit, active, ws, errFirst first err⟩, w, true, decide (first = 0 ∧ err ≠ 0)) := (if_pos h).trans ((if_pos ⟨h1, (by dsimp only; rw [hw]; simp), h3⟩).trans (by dsimp only; rw [hw]; rfl))
  refine CutRoE.enc S.cx (fun _ => rfl) (by decide) (by rw [hw]; simp; omega) (fun l' hl' => ?_)
  have hl : l' = ws := by rw [hl', hw]; rfl
  subst hl
  cbv
  refine AppNew.enc S.cx plainInt64 (.inr (.inr trivial)) (fun _ => rfl) (by rw [hw] at hb; simp at hb; simp only [maxBytes]; omega) (fun n hn => ?_); cbv
  refine ACall.valN (r := rFG A) (os := fun _ => [none]) (dp := false) S.cx (l12First_d S _ _ _ l' _ _ _ hn) ⟨rfl, (by repeat' (first | exact trivial | exact rfl | exact Nat.le_refl _ | exact S.cx.giveEq | exact S.cx.lendLe (by assumption) | exact S.cx.lendEq (by assumption) | exact S.cx.lendLe0 | exact S.cx.lendEq0 | exact S.cx.partLe (by assumption) | exact S.cx.partEq (by assumption) | exact .inl rfl | refine ⟨?_, ?_⟩)), (by repeat' (first | exact trivial | exact rfl | exact Nat.le_refl _ | exact S.cx.giveEq | exact S.cx.lendLe (by assumption) | exact S.cx.lendEq (by assumption) | exact S.cx.lendLe0 | exact S.cx.lendEq0 | exact S.cx.partLe (by assumption) | exact S.cx.partEq (by assumption) | exact .inl rfl | refine ⟨?_, ?_⟩))⟩ rfl (fun ln hln x hx => ⟨rfl, ?_⟩)
  obtain ⟨b, node', limit', active', waits', first'⟩ := x
  cbv
  have hW := hln cInt64 waits'
  generalize ln (A.enc cInt64 waits') = W at hW ⊢
  simp only [Fails, Prod.mk.injEq, Group.mk.injEq] at hx
  try (refine Drawn.mk ⟨by kernel_rfl, fun _ => ?_⟩)
  refine ElemRo.at S.cx (x := w) rfl (by decide) (by rw [hw]; rfl) ?_; cbv
  exact Done.is (r := rGIBB A) (x := (⟨node', limit', active', waits', first'⟩, w, true, b)) (by repeat' (first | exact trivial | exact rfl | exact resOwn S.cx rfl (by assumption) | exact resOwn S.cx rfl (S.cx.lenE _ _) | exact resOwn1 S.cx rfl (by assumption) | exact resOwnT S.cx rfl (by assumption) | exact S.cx.enc _ [] | refine ⟨?_, ?_⟩)) rfl (by rw [hfin]; simp only [hx])

end Go.Proofs.Ytmpbmfhlkhonkaa.AM
