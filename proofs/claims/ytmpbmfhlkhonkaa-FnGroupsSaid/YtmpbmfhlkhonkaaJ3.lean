/- Contracts: groups copied, entered, left. -/
import Derived.Test.YtmpbmfhlkhonkaaJ2
namespace Go.Proofs.Ytmpbmfhlkhonkaa.AM
open Go Go.Proofs

set_option maxRecDepth 100000
set_option maxHeartbeats 4000000
set_option linter.unusedVariables false
set_option linter.unusedSimpArgs false

variable {P : Program} {A : Sy}

theorem plainInt64 : Plain cInt64 := fun _ => rfl

theorem cloneInt64_c (S : Se P A) (l : List Int) (hb : l.length ≤ 4294967296) : Is1 P 83 [.ro (A.enc cInt64 l)] (.own 1 true (A.enc cInt64 l)) := by
  refine S.cx.by (S.prog ▸ Try.func83) rfl rfl rfl rfl (fun hv ho => ?_)
  cbv
  refine NilT.ro S.cx (fun h => ?_) ?_ <;> cbv
  · subst h
    refine Done.to (.own 1 true (A.enc cInt64 [])) [] rfl ?_ trivial ⟨rfl, rfl⟩
    show A.enc cInt64 [] = []
    rw [S.cx.enc]; rfl
  · refine AppNew.enc S.cx plainInt64 (.inr (.inr trivial)) (fun _ => rfl) (by simp only [maxBytes]; omega) (fun n hn => ?_); cbv
    exact Done.own S.cx rfl rfl hn rfl

def rG (A : Sy) (x : Group) : AV := .agg (ownGroup A x)
def rGB (A : Sy) (x : Group × Bool) : AV := .tup [.agg (ownGroup A x.1), .bool x.2]
def rGBB (A : Sy) (x : Group × Bool × Bool) : AV := .tup [.agg (ownGroup A x.1), .bool x.2.1, .bool x.2.2]
def rGIBB (A : Sy) (x : Group × Int × Bool × Bool) : AV := .tup [.agg (ownGroup A x.1), .int .i64 x.2.1, .bool x.2.2.1, .bool x.2.2.2]

theorem cloned_c (S : Se P A) (node limit active : Int) (waits : List Int) (first : Int) (hb : waits.length ≤ 4294967296) : Is1 P 75 [.agg (roGroup A ⟨node, limit, active, waits, first⟩)] (rG A ⟨node, limit, active, waits, first⟩) := by
  refine S.cx.by (S.prog ▸ Try.func75) rfl rfl rfl rfl (fun hv ho => ?_)
  cbv
  refine ACall.own S.cx (dp := false) (cloneInt64_c S waits hb) ⟨rfl, (by repeat' (first | exact trivial | exact rfl | exact Nat.le_refl _ | exact S.cx.giveEq | exact S.cx.lendLe (by assumption) | exact S.cx.lendEq (by assumption) | exact S.cx.lendLe0 | exact S.cx.lendEq0 | exact S.cx.partLe (by assumption) | exact S.cx.partEq (by assumption) | exact .inl rfl | refine ⟨?_, ?_⟩)), trivial⟩ rfl rfl (fun x n hx hn => ?_); obtain rfl := hx.symm; cbv
  exact Done.is (r := rG A) (x := ⟨node, limit, active, waits, first⟩) (by repeat' (first | exact trivial | exact rfl | exact resOwn S.cx rfl (by assumption) | exact resOwn S.cx rfl (S.cx.lenE _ _) | exact resOwn1 S.cx rfl (by assumption) | exact resOwnT S.cx rfl (by assumption) | exact S.cx.enc _ [] | refine ⟨?_, ?_⟩)) rfl (rfl)

theorem l12Copy_c (S : Se P A) (node limit active : Int) (waits : List Int) (first : Int) (hb : waits.length ≤ 4294967296) : Is1 P 79 [.agg (roGroup A ⟨node, limit, active, waits, first⟩)] (rG A ⟨node, limit, active, waits, first⟩) := by
  refine S.cx.by (S.prog ▸ Try.func79) rfl rfl rfl rfl (fun hv ho => ?_)
  cbv
  refine AppNew.enc S.cx plainInt64 (.inr (.inr trivial)) (fun _ => rfl) (by simp only [maxBytes]; omega) (fun n hn => ?_); cbv
  exact Done.is (r := rG A) (x := ⟨node, limit, active, waits, first⟩) (by repeat' (first | exact trivial | exact rfl | exact resOwn S.cx rfl (by assumption) | exact resOwn S.cx rfl (S.cx.lenE _ _) | exact resOwn1 S.cx rfl (by assumption) | exact resOwnT S.cx rfl (by assumption) | exact S.cx.enc _ [] | refine ⟨?_, ?_⟩)) rfl (rfl)

theorem hasRoom_c (S : Se P A) (node limit active : Int) (waits : List Int) (first : Int) : Tests P 70 [.agg (roGroup A ⟨node, limit, active, waits, first⟩)] (Room ⟨node, limit, active, waits, first⟩) := by
  refine S.cx.by (S.prog ▸ Try.func70) rfl rfl rfl rfl (fun hv ho => ?_)
  cbv
  repeat' (first
    | (refine Test.eql (fun _ => ?_) (fun _ => ?_) <;> cbv)
    | (refine Test.neq (fun _ => ?_) (fun _ => ?_) <;> cbv)
    | (refine Test.lss (fun _ => ?_) (fun _ => ?_) <;> cbv)
    | (refine Test.leq (fun _ => ?_) (fun _ => ?_) <;> cbv)
    | (refine Test.gtr (fun _ => ?_) (fun _ => ?_) <;> cbv)
    | (refine Test.geq (fun _ => ?_) (fun _ => ?_) <;> cbv)
    | (refine ⟨⟨by kernel_rfl, fun _ => ?_⟩⟩)
    | (refine LenR.nat S.cx (fun N hN hm => ?_); cbv)
    | exact Done.yes (by simp only [Room]; omega)
    | exact Done.no (by simp only [Room]; omega))

theorem specRoomIn_c (S : Se P A) (node limit active : Int) (waits : List Int) (first : Int) : Tests P 29 [.agg (roGroup A ⟨node, limit, active, waits, first⟩)] (GroupOk ⟨node, limit, active, waits, first⟩ ∧ Room ⟨node, limit, active, waits, first⟩) := by
  refine S.cx.by (S.prog ▸ Try.func29) rfl rfl rfl rfl (fun hv ho => ?_)
  cbv
  refine ACall.testD (dp := false) (specGroupOk_c S _ _ _ _ _) ⟨rfl, (by repeat' (first | exact trivial | exact rfl | exact Nat.le_refl _ | exact S.cx.giveEq | exact S.cx.lendLe (by assumption) | exact S.cx.lendEq (by assumption) | exact S.cx.lendLe0 | exact S.cx.lendEq0 | exact S.cx.partLe (by assumption) | exact S.cx.partEq (by assumption) | exact .inl rfl | refine ⟨?_, ?_⟩)), (by repeat' (first | exact trivial | exact rfl | exact Nat.le_refl _ | exact S.cx.giveEq | exact S.cx.lendLe (by assumption) | exact S.cx.lendEq (by assumption) | exact S.cx.lendLe0 | exact S.cx.lendEq0 | exact S.cx.partLe (by assumption) | exact S.cx.partEq (by assumption) | exact .inl rfl | refine ⟨?_, ?_⟩))⟩ rfl (fun h => ?_) (fun h => ?_) <;> cbv
  rotate_left
  · exact Done.no (fun e => h e.1)
  repeat' (first
    | (refine Test.eql (fun _ => ?_) (fun _ => ?_) <;> cbv)
    | (refine Test.neq (fun _ => ?_) (fun _ => ?_) <;> cbv)
    | (refine Test.lss (fun _ => ?_) (fun _ => ?_) <;> cbv)
    | (refine Test.leq (fun _ => ?_) (fun _ => ?_) <;> cbv)
    | (refine Test.gtr (fun _ => ?_) (fun _ => ?_) <;> cbv)
    | (refine Test.geq (fun _ => ?_) (fun _ => ?_) <;> cbv)
    | (refine ⟨⟨by kernel_rfl, fun _ => ?_⟩⟩)
    | (refine LenR.nat S.cx (fun N hN hm => ?_); cbv)
    | exact Done.yes (by simp only [h, Room, true_and]; omega)
    | exact Done.no (by simp only [h, Room, true_and]; omega))

theorem implEntered_c (S : Se P A) (node limit active : Int) (waits : List Int) (first : Int) (hb : waits.length ≤ 4294967296) : Is1 P 39 [.agg (roGroup A ⟨node, limit, active, waits, first⟩)] (rGB A (Entered ⟨node, limit, active, waits, first⟩)) := by
  refine S.cx.by (S.prog ▸ Try.func39) rfl rfl rfl rfl (fun hv ho => ?_)
  cbv
  refine ACall.testD (dp := false) (implGroupOk_c S _ _ _ _ _) ⟨rfl, (by repeat' (first | exact trivial | exact rfl | exact Nat.le_refl _ | exact S.cx.giveEq | exact S.cx.lendLe (by assumption) | exact S.cx.lendEq (by assumption) | exact S.cx.lendLe0 | exact S.cx.lendEq0 | exact S.cx.partLe (by assumption) | exact S.cx.partEq (by assumption) | exact .inl rfl | refine ⟨?_, ?_⟩)), (by repeat' (first | exact trivial | exact rfl | exact Nat.le_refl _ | exact S.cx.giveEq | exact S.cx.lendLe (by assumption) | exact S.cx.lendEq (by assumption) | exact S.cx.lendLe0 | exact S.cx.lendEq0 | exact S.cx.partLe (by assumption) | exact S.cx.partEq (by assumption) | exact .inl rfl | refine ⟨?_, ?_⟩))⟩ rfl (fun h => ?_) (fun h => ?_) <;> cbv
  rotate_left
  · exact Done.is (r := rGB A) (x := (group0, false)) (by repeat' (first | exact trivial | exact rfl | exact resOwn S.cx rfl (by assumption) | exact resOwn S.cx rfl (S.cx.lenE _ _) | exact resOwn1 S.cx rfl (by assumption) | exact resOwnT S.cx rfl (by assumption) | exact S.cx.enc _ [] | refine ⟨?_, ?_⟩)) rfl (if_neg h)
  refine ACall.val (r := rG A) (os := fun _ => []) (dp := false) (cloned_c S _ _ _ _ _ hb) ⟨rfl, (by repeat' (first | exact trivial | exact rfl | exact Nat.le_refl _ | exact S.cx.giveEq | exact S.cx.lendLe (by assumption) | exact S.cx.lendEq (by assumption) | exact S.cx.lendLe0 | exact S.cx.lendEq0 | exact S.cx.partLe (by assumption) | exact S.cx.partEq (by assumption) | exact .inl rfl | refine ⟨?_, ?_⟩)), (by repeat' (first | exact trivial | exact rfl | exact Nat.le_refl _ | exact S.cx.giveEq | exact S.cx.lendLe (by assumption) | exact S.cx.lendEq (by assumption) | exact S.cx.lendLe0 | exact S.cx.lendEq0 | exact S.cx.partLe (by assumption) | exact S.cx.partEq (by assumption) | exact .inl rfl | refine ⟨?_, ?_⟩))⟩ rfl (fun x hx => ⟨rfl, ?_⟩)
  obtain ⟨node', limit', active', waits', first'⟩ := x
  cases hx
  cbv
  refine ACall.testD (dp := false) (hasRoom_c S _ _ _ _ _) ⟨rfl, (by repeat' (first | exact trivial | exact rfl | exact Nat.le_refl _ | exact S.cx.giveEq | exact S.cx.lendLe (by assumption) | exact S.cx.lendEq (by assumption) | exact S.cx.lendLe0 | exact S.cx.lendEq0 | exact S.cx.partLe (by assumption) | exact S.cx.partEq (by assumption) | exact .inl rfl | refine ⟨?_, ?_⟩)), (by repeat' (first | exact trivial | exact rfl | exact Nat.le_refl _ | exact S.cx.giveEq | exact S.cx.lendLe (by assumption) | exact S.cx.lendEq (by assumption) | exact S.cx.lendLe0 | exact S.cx.lendEq0 | exact S.cx.partLe (by assumption) | exact S.cx.partEq (by assumption) | exact .inl rfl | refine ⟨?_, ?_⟩))⟩ rfl (fun h2 => ?_) (fun h2 => ?_) <;> cbv
  · have hr : Room ⟨node, limit, active, waits, first⟩ := h2
    refine Arith.go (by have := h.2.2.1; dsimp only at this; lia) (fun z hz => ?_); cbv
    exact Done.is (r := rGB A) (x := (⟨node, limit, z, waits, first⟩, true)) (by repeat' (first | exact trivial | exact rfl | exact resOwn S.cx rfl (by assumption) | exact resOwn S.cx rfl (S.cx.lenE _ _) | exact resOwn1 S.cx rfl (by assumption) | exact resOwnT S.cx rfl (by assumption) | exact S.cx.enc _ [] | refine ⟨?_, ?_⟩)) rfl ((if_pos h).trans ((if_pos hr).trans (by rw [hz])))
  · have hr : ¬ Room ⟨node, limit, active, waits, first⟩ := h2
    exact Done.is (r := rGB A) (x := (⟨node, limit, active, waits, first⟩, false)) (by repeat' (first | exact trivial | exact rfl | exact resOwn S.cx rfl (by assumption) | exact resOwn S.cx rfl (S.cx.lenE _ _) | exact resOwn1 S.cx rfl (by assumption) | exact resOwnT S.cx rfl (by assumption) | exact S.cx.enc _ [] | refine ⟨?_, ?_⟩)) rfl ((if_pos h).trans (if_neg hr))

theorem specEntered_c (S : Se P A) (node limit active : Int) (waits : List Int) (first : Int) (hb : waits.length ≤ 4294967296) : Is1 P 49 [.agg (roGroup A ⟨node, limit, active, waits, first⟩)] (rGB A (Entered ⟨node, limit, active, waits, first⟩)) := by
  refine S.cx.by (S.prog ▸ Try.func49) rfl rfl rfl rfl (fun hv ho => ?_)
  cbv
  refine ACall.testD (dp := false) (specGroupOk_c S _ _ _ _ _) ⟨rfl, (by repeat' (first | exact trivial | exact rfl | exact Nat.le_refl _ | exact S.cx.giveEq | exact S.cx.lendLe (by assumption) | exact S.cx.lendEq (by assumption) | exact S.cx.lendLe0 | exact S.cx.lendEq0 | exact S.cx.partLe (by assumption) | exact S.cx.partEq (by assumption) | exact .inl rfl | refine ⟨?_, ?_⟩)), (by repeat' (first | exact trivial | exact rfl | exact Nat.le_refl _ | exact S.cx.giveEq | exact S.cx.lendLe (by assumption) | exact S.cx.lendEq (by assumption) | exact S.cx.lendLe0 | exact S.cx.lendEq0 | exact S.cx.partLe (by assumption) | exact S.cx.partEq (by assumption) | exact .inl rfl | refine ⟨?_, ?_⟩))⟩ rfl (fun h => ?_) (fun h => ?_) <;> cbv
  rotate_left
  · exact Done.is (r := rGB A) (x := (group0, false)) (by repeat' (first | exact trivial | exact rfl | exact resOwn S.cx rfl (by assumption) | exact resOwn S.cx rfl (S.cx.lenE _ _) | exact resOwn1 S.cx rfl (by assumption) | exact resOwnT S.cx rfl (by assumption) | exact S.cx.enc _ [] | refine ⟨?_, ?_⟩)) rfl (if_neg h)
  refine ACall.val (r := rG A) (os := fun _ => []) (dp := false) (l12Copy_c S _ _ _ _ _ hb) ⟨rfl, (by repeat' (first | exact trivial | exact rfl | exact Nat.le_refl _ | exact S.cx.giveEq | exact S.cx.lendLe (by assumption) | exact S.cx.lendEq (by assumption) | exact S.cx.lendLe0 | exact S.cx.lendEq0 | exact S.cx.partLe (by assumption) | exact S.cx.partEq (by assumption) | exact .inl rfl | refine ⟨?_, ?_⟩)), (by repeat' (first | exact trivial | exact rfl | exact Nat.le_refl _ | exact S.cx.giveEq | exact S.cx.lendLe (by assumption) | exact S.cx.lendEq (by assumption) | exact S.cx.lendLe0 | exact S.cx.lendEq0 | exact S.cx.partLe (by assumption) | exact S.cx.partEq (by assumption) | exact .inl rfl | refine ⟨?_, ?_⟩))⟩ rfl (fun x hx => ⟨rfl, ?_⟩)
  obtain ⟨node', limit', active', waits', first'⟩ := x
  cases hx
  cbv
  refine ACall.testD (dp := false) (specRoomIn_c S _ _ _ _ _) ⟨rfl, (by repeat' (first | exact trivial | exact rfl | exact Nat.le_refl _ | exact S.cx.giveEq | exact S.cx.lendLe (by assumption) | exact S.cx.lendEq (by assumption) | exact S.cx.lendLe0 | exact S.cx.lendEq0 | exact S.cx.partLe (by assumption) | exact S.cx.partEq (by assumption) | exact .inl rfl | refine ⟨?_, ?_⟩)), (by repeat' (first | exact trivial | exact rfl | exact Nat.le_refl _ | exact S.cx.giveEq | exact S.cx.lendLe (by assumption) | exact S.cx.lendEq (by assumption) | exact S.cx.lendLe0 | exact S.cx.lendEq0 | exact S.cx.partLe (by assumption) | exact S.cx.partEq (by assumption) | exact .inl rfl | refine ⟨?_, ?_⟩))⟩ rfl (fun h2 => ?_) (fun h2 => ?_) <;> cbv
  · have hr : Room ⟨node, limit, active, waits, first⟩ := h2.2
    refine Arith.go (by have := h.2.2.1; dsimp only at this; lia) (fun z hz => ?_); cbv
    exact Done.is (r := rGB A) (x := (⟨node, limit, z, waits, first⟩, true)) (by repeat' (first | exact trivial | exact rfl | exact resOwn S.cx rfl (by assumption) | exact resOwn S.cx rfl (S.cx.lenE _ _) | exact resOwn1 S.cx rfl (by assumption) | exact resOwnT S.cx rfl (by assumption) | exact S.cx.enc _ [] | refine ⟨?_, ?_⟩)) rfl ((if_pos h).trans ((if_pos hr).trans (by rw [hz])))
  · have hr : ¬ Room ⟨node, limit, active, waits, first⟩ := fun e => h2 ⟨h, e⟩
    exact Done.is (r := rGB A) (x := (⟨node, limit, active, waits, first⟩, false)) (by repeat' (first | exact trivial | exact rfl | exact resOwn S.cx rfl (by assumption) | exact resOwn S.cx rfl (S.cx.lenE _ _) | exact resOwn1 S.cx rfl (by assumption) | exact resOwnT S.cx rfl (by assumption) | exact S.cx.enc _ [] | refine ⟨?_, ?_⟩)) rfl ((if_pos h).trans (if_neg hr))

end Go.Proofs.Ytmpbmfhlkhonkaa.AM
