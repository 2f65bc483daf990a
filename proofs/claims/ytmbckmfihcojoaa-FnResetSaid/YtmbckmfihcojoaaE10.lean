/- Contracts: timers armed and disarmed. (printed by ge10.py) -/
import Derived.Test.YtmbckmfihcojoaaE9
namespace Go.Proofs.Ytmbckmfihcojoaa.AM
open Go Go.Proofs

set_option maxRecDepth 100000
set_option maxHeartbeats 4000000
set_option linter.unusedVariables false
set_option linter.unusedSimpArgs false

variable {P : Program} {A : Sy}

def rTimer (A : Sy) (l : List Timer) : AV := .own 5 true (A.enc cTimer l)
theorem plainTimer : Plain cTimer := fun _ => rfl
theorem cloneTimer_c (S : Se P A) (l : List Timer) (hb : l.length ≤ 4294967296) : Is1 P 160 [.ro (A.enc cTimer l)] (rTimer A l) := by
  refine S.cx.by (S.prog ▸ Try.func160) rfl rfl rfl rfl (fun hv ho => ?_)
  cbv
  refine NilT.ro S.cx (fun h => ?_) ?_ <;> cbv
  · subst h
    exact Done.is (r := rTimer A) (x := []) (by repeat' (first | exact trivial | exact rfl | exact resOwn S.cx rfl (by assumption) | exact resOwn S.cx rfl (S.cx.lenE _ _) | exact resOwn1 S.cx rfl (by assumption) | exact resOwnT S.cx rfl (by assumption) | exact S.cx.enc _ [] | refine ⟨?_, ?_⟩)) rfl (rfl)
  · refine AppNew.enc S.cx plainTimer (.inr (.inr trivial)) (fun _ => rfl) (by simp only [maxBytes]; omega) (fun n hn => ?_); cbv
    exact Done.is (r := rTimer A) (x := l) (by repeat' (first | exact trivial | exact rfl | exact resOwn S.cx rfl (by assumption) | exact resOwn S.cx rfl (S.cx.lenE _ _) | exact resOwn1 S.cx rfl (by assumption) | exact resOwnT S.cx rfl (by assumption) | exact S.cx.enc _ [] | refine ⟨?_, ?_⟩)) rfl (rfl)

def rT (A : Sy) (x : Timers) : AV := .agg (ownTimers A x)

theorem timCloned_c (S : Se P A) (heap : List Twig) (list : List Timer) (next : Int) (h1 : heap.length ≤ 4294967296) (h2 : list.length ≤ 4294967296) : Is1 P 98 [.agg (roTimers A ⟨heap, list, next⟩)] (rT A ⟨heap, list, next⟩) := by
  refine S.cx.by (S.prog ▸ Try.func98) rfl rfl rfl rfl (fun hv ho => ?_)
  cbv
  try (refine Drawn.mk ⟨by kernel_rfl, fun _ => ?_⟩)
  refine ACall.valN (r := rTwig A) (os := fun _ => []) (dp := false) S.cx (cloneTwig_c S heap h1) ⟨rfl, (by repeat' (first | exact trivial | exact rfl | exact Nat.le_refl _ | exact S.cx.giveEq | exact S.cx.lendLe (by assumption) | exact S.cx.lendEq (by assumption) | exact S.cx.lendLe0 | exact S.cx.lendEq0 | exact S.cx.partLe (by assumption) | exact S.cx.partEq (by assumption) | exact .inl rfl | refine ⟨?_, ?_⟩)), (by repeat' (first | exact trivial | exact rfl | exact Nat.le_refl _ | exact S.cx.giveEq | exact S.cx.lendLe (by assumption) | exact S.cx.lendEq (by assumption) | exact S.cx.lendLe0 | exact S.cx.lendEq0 | exact S.cx.partLe (by assumption) | exact S.cx.partEq (by assumption) | exact .inl rfl | refine ⟨?_, ?_⟩))⟩ rfl (fun ln hln l1 hx => ⟨rfl, ?_⟩)
  cases hx
  cbv
  have hN1 := hln cTwig heap
  generalize ln (A.enc cTwig heap) = N1 at hN1 ⊢
  refine ACall.valN (r := rTimer A) (os := fun _ => []) (dp := false) S.cx (cloneTimer_c S list h2) ⟨rfl, (by repeat' (first | exact trivial | exact rfl | exact Nat.le_refl _ | exact S.cx.giveEq | exact S.cx.lendLe (by assumption) | exact S.cx.lendEq (by assumption) | exact S.cx.lendLe0 | exact S.cx.lendEq0 | exact S.cx.partLe (by assumption) | exact S.cx.partEq (by assumption) | exact .inl rfl | refine ⟨?_, ?_⟩)), (by repeat' (first | exact trivial | exact rfl | exact Nat.le_refl _ | exact S.cx.giveEq | exact S.cx.lendLe (by assumption) | exact S.cx.lendEq (by assumption) | exact S.cx.lendLe0 | exact S.cx.lendEq0 | exact S.cx.partLe (by assumption) | exact S.cx.partEq (by assumption) | exact .inl rfl | refine ⟨?_, ?_⟩))⟩ rfl (fun ln hln l2 hx => ⟨rfl, ?_⟩)
  cases hx
  cbv
  have hN2 := hln cTimer list
  generalize ln (A.enc cTimer list) = N2 at hN2 ⊢
  exact Done.is (r := rT A) (x := (⟨heap, list, next⟩ : Timers)) (by repeat' (first | exact trivial | exact rfl | exact resOwn S.cx rfl (by assumption) | exact resOwn S.cx rfl (S.cx.lenE _ _) | exact resOwn1 S.cx rfl (by assumption) | exact resOwnT S.cx rfl (by assumption) | exact S.cx.enc _ [] | refine ⟨?_, ?_⟩)) rfl (rfl)


def oTB (A : Sy) (x : Timers × Bool) : List (Option Obj) := [some (.box (ownTimers A x.1))]
def rTB1 (x : Timers × Bool) : AV := .bool x.2
def rTB (A : Sy) (x : Timers × Bool) : AV := .tup [.agg (ownTimers A x.1), .bool x.2]

theorem stop_none {t : Timers} {q : Int} (h : timIdx t.list q < 0) : stopT t q = (t, false) := if_neg (by omega)
theorem stop_some {t : Timers} {q : Int} {x : Timer} (h : 0 ≤ timIdx t.list q) (hx : t.list[(timIdx t.list q).toNat]? = some x) : stopT t q = if x.armed = true then (⟨withoutL t.heap q, t.list.set (timIdx t.list q).toNat { x with armed := false }, t.next⟩, true) else (t, false) := by
  unfold stopT; rw [if_pos h, hx]

theorem stop_c (S : Se P A) (heap : List Twig) (list : List Timer) (next q : Int) (hok : TimersOk ⟨heap, list, next⟩) : SoundM P 100 false [.ptr 1000 0 0, .int .i64 q] [.box (ownTimers A ⟨heap, list, next⟩)]
    (fun v os => v = rTB1 (stopT ⟨heap, list, next⟩ q) ∧ os = oTB A (stopT ⟨heap, list, next⟩ q)) := by
  have hb1 : heap.length ≤ 64 := hok.2.2.1.1
  have hb2 : list.length ≤ 64 := hok.2.1
  refine S.cx.byN (S.prog ▸ Try.func100) rfl rfl rfl rfl (fun ln hln hv ho => ?_)
  cbv
  have hN := hln cTwig heap
  generalize ln (A.enc cTwig heap) = N at hN ⊢
  have hK := hln cTimer list
  generalize ln (A.enc cTimer list) = K at hK ⊢
  refine ACall.int (dp := false) (timAt_c S heap list next q) ⟨rfl, (by repeat' (first | exact trivial | exact rfl | exact Nat.le_refl _ | exact S.cx.giveEq | exact S.cx.lendLe (by assumption) | exact S.cx.lendEq (by assumption) | exact S.cx.lendLe0 | exact S.cx.lendEq0 | exact S.cx.partLe (by assumption) | exact S.cx.partEq (by assumption) | exact .inl rfl | refine ⟨?_, ?_⟩)), (by repeat' (first | exact trivial | exact rfl | exact Nat.le_refl _ | exact S.cx.giveEq | exact S.cx.lendLe (by assumption) | exact S.cx.lendEq (by assumption) | exact S.cx.lendLe0 | exact S.cx.lendEq0 | exact S.cx.partLe (by assumption) | exact S.cx.partEq (by assumption) | exact .inl rfl | refine ⟨?_, ?_⟩))⟩ rfl (fun r hr => ?_); cbv
  refine Test.lss (fun h1 => ?_) (fun h1 => ?_) <;> cbv
  · rw [stop_none (t := ⟨heap, list, next⟩) (by rw [← hr]; exact h1)]
    exact Done.to (rTB1 (⟨heap, list, next⟩, false)) (oTB A (⟨heap, list, next⟩, false)) rfl (by repeat' (first | exact trivial | exact rfl | exact resOwn S.cx rfl (by assumption) | exact resOwn S.cx rfl (S.cx.lenE _ _) | exact resOwn1 S.cx rfl (by assumption) | exact resOwnT S.cx rfl (by assumption) | exact S.cx.enc _ [] | refine ⟨?_, ?_⟩)) (by repeat' (first | exact trivial | exact rfl | exact resOwn S.cx rfl (by assumption) | exact resOwn S.cx rfl (S.cx.lenE _ _) | exact resOwn1 S.cx rfl (by assumption) | exact resOwnT S.cx rfl (by assumption) | exact S.cx.enc _ [] | refine ⟨?_, ?_⟩)) ⟨rfl, rfl⟩
  have hs := fun x => stop_some (t := ⟨heap, list, next⟩) (q := q) (x := x)
  dsimp only at hs
  have hso := @timIdx_some list q
  rw [← hr] at hs hso
  obtain ⟨⟨ys, yd, yw, yh, ya⟩, hy, he⟩ := hso (by omega)
  dsimp only at he
  have hs := hs _ (by omega) hy
  have hlt := (List.getElem?_eq_some_iff.1 hy).1
  refine ElemRef.go rfl (by lia) (by lia) (by rw [S.cx.lenE']; lia) (fun row hrow => ?_); cbv
  refine Row.enc S.cx (by lia) (fun y' hy' => ?_)
  obtain rfl : y' = ⟨ys, yd, yw, yh, ya⟩ := by rw [show row = r.toNat by omega, hy] at hy'; exact (Option.some.inj hy').symm
  cbv
  cases ya <;> cbv
  · rw [hs, if_neg (by simp)]
    exact Done.to (rTB1 (⟨heap, list, next⟩, false)) (oTB A (⟨heap, list, next⟩, false)) rfl (by repeat' (first | exact trivial | exact rfl | exact resOwn S.cx rfl (by assumption) | exact resOwn S.cx rfl (S.cx.lenE _ _) | exact resOwn1 S.cx rfl (by assumption) | exact resOwnT S.cx rfl (by assumption) | exact S.cx.enc _ [] | refine ⟨?_, ?_⟩)) (by repeat' (first | exact trivial | exact rfl | exact resOwn S.cx rfl (by assumption) | exact resOwn S.cx rfl (S.cx.lenE _ _) | exact resOwn1 S.cx rfl (by assumption) | exact resOwnT S.cx rfl (by assumption) | exact S.cx.enc _ [] | refine ⟨?_, ?_⟩)) ⟨rfl, rfl⟩
  have hhp := heapOf_is hok.2.2.1.2.2
  have hqm : q ∈ (heapOf heap).seqs := by
    rw [heapOf_seqs hok.2.2.1.2.2, ← he]
    exact armed_in hok (mem_at hy) rfl
  refine ElemRef.go rfl (by lia) (by lia) (by rw [S.cx.lenE']; lia) (fun row2 hrow2 => ?_); cbv
  refine RowSet.enc S.cx (⟨ys, yd, yw, yh, true⟩ : Timer) ⟨ys, yd, yw, yh, false⟩ (by rw [show row2 = r.toNat by omega]; exact hy) rfl (Nat.le_refl _) rfl (fun list' hlist' => ?_); cbv
  have hK' : K = list'.length := by rw [hlist', List.length_set]; exact hK
  refine ACall.valN (r := rTwig A) (os := fun _ => []) (dp := false) S.cx (without_c S (heapOf heap) heap q hhp.2 hqm (by omega)) ⟨rfl, (by repeat' (first | exact trivial | exact rfl | exact Nat.le_refl _ | exact S.cx.giveEq | exact S.cx.lendLe (by assumption) | exact S.cx.lendEq (by assumption) | exact S.cx.lendLe0 | exact S.cx.lendEq0 | exact S.cx.partLe (by assumption) | exact S.cx.partEq (by assumption) | exact .inl rfl | refine ⟨?_, ?_⟩)), (by repeat' (first | exact trivial | exact rfl | exact Nat.le_refl _ | exact S.cx.giveEq | exact S.cx.lendLe (by assumption) | exact S.cx.lendEq (by assumption) | exact S.cx.lendLe0 | exact S.cx.lendEq0 | exact S.cx.partLe (by assumption) | exact S.cx.partEq (by assumption) | exact .inl rfl | refine ⟨?_, ?_⟩))⟩ rfl (fun ln hln w hx => ⟨rfl, ?_⟩)
  cbv
  have hW := hln cTwig w
  generalize ln (A.enc cTwig w) = W at hW ⊢
  rw [hs, if_pos rfl]
  have e1 : withoutL heap q = w := hx.symm
  have e2 : list.set r.toNat ⟨ys, yd, yw, yh, false⟩ = list' := by rw [hlist', show row2 = r.toNat by omega]
  dsimp only
  rw [e1, e2]
  exact Done.to (rTB1 (⟨w, list', next⟩, true)) (oTB A (⟨w, list', next⟩, true)) rfl (by repeat' (first | exact trivial | exact rfl | exact resOwn S.cx rfl (by assumption) | exact resOwn S.cx rfl (S.cx.lenE _ _) | exact resOwn1 S.cx rfl (by assumption) | exact resOwnT S.cx rfl (by assumption) | exact S.cx.enc _ [] | refine ⟨?_, ?_⟩)) (by repeat' (first | exact trivial | exact rfl | exact resOwn S.cx rfl (by assumption) | exact resOwn S.cx rfl (S.cx.lenE _ _) | exact resOwn1 S.cx rfl (by assumption) | exact resOwnT S.cx rfl (by assumption) | exact S.cx.enc _ [] | refine ⟨?_, ?_⟩)) ⟨rfl, rfl⟩

def armTB (x : Timers × Int) : AV := .int .i64 x.2
def oTI (A : Sy) (x : Timers × Int) : List (Option Obj) := [some (.box (ownTimers A x.1))]
def rTI (A : Sy) (x : Timers × Int) : AV := .tup [.agg (ownTimers A x.1), .int .i64 x.2]

theorem arm_c (S : Se P A) (heap : List Twig) (list : List Timer) (next due what whom : Int) (hok : TimersOk ⟨heap, list, next⟩) : SoundM P 99 false [.ptr 1000 0 0, .int .i64 due, .int .i64 what, .int .i64 whom] [.box (ownTimers A ⟨heap, list, next⟩)]
    (fun v os => v = armTB (armT ⟨heap, list, next⟩ due what whom) ∧ os = oTI A (armT ⟨heap, list, next⟩ due what whom)) := by
  have hb1 : heap.length ≤ 64 := hok.2.2.1.1
  have hb2 : list.length ≤ 64 := hok.2.1
  have hn := hok.1
  dsimp only at hn
  have hno : ∀ h : list.length = 64 ∨ next = 1000000 ∨ ¬ (0 ≤ what ∧ what ≤ 2) ∨ ¬ (0 ≤ whom ∧ whom ≤ 99), armT ⟨heap, list, next⟩ due what whom = (⟨heap, list, next⟩, -1) := fun h => if_pos h
  refine S.cx.byN (S.prog ▸ Try.func99) rfl rfl rfl rfl (fun ln hln hv ho => ?_)
  cbv
  have hN := hln cTwig heap
  generalize ln (A.enc cTwig heap) = N at hN ⊢
  have hK := hln cTimer list
  generalize ln (A.enc cTimer list) = K at hK ⊢
  refine Len.nat (fun M hM hm => ?_); cbv
  refine Test.eql (fun h1 => ?_) (fun h1 => ?_) <;> cbv
  · rw [hno (.inl (by lia))]
    exact Done.to (armTB (⟨heap, list, next⟩, -1)) (oTI A (⟨heap, list, next⟩, -1)) rfl (by repeat' (first | exact trivial | exact rfl | exact resOwn S.cx rfl (by assumption) | exact resOwn S.cx rfl (S.cx.lenE _ _) | exact resOwn1 S.cx rfl (by assumption) | exact resOwnT S.cx rfl (by assumption) | exact S.cx.enc _ [] | refine ⟨?_, ?_⟩)) (by repeat' (first | exact trivial | exact rfl | exact resOwn S.cx rfl (by assumption) | exact resOwn S.cx rfl (S.cx.lenE _ _) | exact resOwn1 S.cx rfl (by assumption) | exact resOwnT S.cx rfl (by assumption) | exact S.cx.enc _ [] | refine ⟨?_, ?_⟩)) ⟨rfl, rfl⟩
  refine Test.eql (fun h2 => ?_) (fun h2 => ?_) <;> cbv
  · rw [hno (.inr (.inl h2))]
    exact Done.to (armTB (⟨heap, list, next⟩, -1)) (oTI A (⟨heap, list, next⟩, -1)) rfl (by repeat' (first | exact trivial | exact rfl | exact resOwn S.cx rfl (by assumption) | exact resOwn S.cx rfl (S.cx.lenE _ _) | exact resOwn1 S.cx rfl (by assumption) | exact resOwnT S.cx rfl (by assumption) | exact S.cx.enc _ [] | refine ⟨?_, ?_⟩)) (by repeat' (first | exact trivial | exact rfl | exact resOwn S.cx rfl (by assumption) | exact resOwn S.cx rfl (S.cx.lenE _ _) | exact resOwn1 S.cx rfl (by assumption) | exact resOwnT S.cx rfl (by assumption) | exact S.cx.enc _ [] | refine ⟨?_, ?_⟩)) ⟨rfl, rfl⟩
  refine ACall.testD (dp := false) (within_c S what 0 2) ⟨rfl, (by repeat' (first | exact trivial | exact rfl | exact Nat.le_refl _ | exact S.cx.giveEq | exact S.cx.lendLe (by assumption) | exact S.cx.lendEq (by assumption) | exact S.cx.lendLe0 | exact S.cx.lendEq0 | exact S.cx.partLe (by assumption) | exact S.cx.partEq (by assumption) | exact .inl rfl | refine ⟨?_, ?_⟩)), (by repeat' (first | exact trivial | exact rfl | exact Nat.le_refl _ | exact S.cx.giveEq | exact S.cx.lendLe (by assumption) | exact S.cx.lendEq (by assumption) | exact S.cx.lendLe0 | exact S.cx.lendEq0 | exact S.cx.partLe (by assumption) | exact S.cx.partEq (by assumption) | exact .inl rfl | refine ⟨?_, ?_⟩))⟩ rfl (fun h3 => ?_) (fun h3 => ?_) <;> cbv
  rotate_left
  · rw [hno (.inr (.inr (.inl h3)))]
    exact Done.to (armTB (⟨heap, list, next⟩, -1)) (oTI A (⟨heap, list, next⟩, -1)) rfl (by repeat' (first | exact trivial | exact rfl | exact resOwn S.cx rfl (by assumption) | exact resOwn S.cx rfl (S.cx.lenE _ _) | exact resOwn1 S.cx rfl (by assumption) | exact resOwnT S.cx rfl (by assumption) | exact S.cx.enc _ [] | refine ⟨?_, ?_⟩)) (by repeat' (first | exact trivial | exact rfl | exact resOwn S.cx rfl (by assumption) | exact resOwn S.cx rfl (S.cx.lenE _ _) | exact resOwn1 S.cx rfl (by assumption) | exact resOwnT S.cx rfl (by assumption) | exact S.cx.enc _ [] | refine ⟨?_, ?_⟩)) ⟨rfl, rfl⟩
  refine ACall.testD (dp := false) (within_c S whom 0 99) ⟨rfl, (by repeat' (first | exact trivial | exact rfl | exact Nat.le_refl _ | exact S.cx.giveEq | exact S.cx.lendLe (by assumption) | exact S.cx.lendEq (by assumption) | exact S.cx.lendLe0 | exact S.cx.lendEq0 | exact S.cx.partLe (by assumption) | exact S.cx.partEq (by assumption) | exact .inl rfl | refine ⟨?_, ?_⟩)), (by repeat' (first | exact trivial | exact rfl | exact Nat.le_refl _ | exact S.cx.giveEq | exact S.cx.lendLe (by assumption) | exact S.cx.lendEq (by assumption) | exact S.cx.lendLe0 | exact S.cx.lendEq0 | exact S.cx.partLe (by assumption) | exact S.cx.partEq (by assumption) | exact .inl rfl | refine ⟨?_, ?_⟩))⟩ rfl (fun h4 => ?_) (fun h4 => ?_) <;> cbv
  rotate_left
  · rw [hno (.inr (.inr (.inr h4)))]
    exact Done.to (armTB (⟨heap, list, next⟩, -1)) (oTI A (⟨heap, list, next⟩, -1)) rfl (by repeat' (first | exact trivial | exact rfl | exact resOwn S.cx rfl (by assumption) | exact resOwn S.cx rfl (S.cx.lenE _ _) | exact resOwn1 S.cx rfl (by assumption) | exact resOwnT S.cx rfl (by assumption) | exact S.cx.enc _ [] | refine ⟨?_, ?_⟩)) (by repeat' (first | exact trivial | exact rfl | exact resOwn S.cx rfl (by assumption) | exact resOwn S.cx rfl (S.cx.lenE _ _) | exact resOwn1 S.cx rfl (by assumption) | exact resOwnT S.cx rfl (by assumption) | exact S.cx.enc _ [] | refine ⟨?_, ?_⟩)) ⟨rfl, rfl⟩
  have hyes : armT ⟨heap, list, next⟩ due what whom = (⟨putL heap due next, list ++ [⟨next, due, what, whom, true⟩], next + 1⟩, next) := by
    refine if_neg fun h => ?_
    rcases h with h | h | h | h
    · dsimp only at h; exact h1 (by lia)
    · exact h2 h
    · exact h h3
    · exact h h4
  have hhp := heapOf_is hok.2.2.1.2.2
  refine Part.one ?_; cbv
  refine AppRef.push S.cx (⟨next, due, what, whom, true⟩ : Timer) (by assumption) rfl rfl plainTimer (fun _ => rfl) (by simp only [maxBytes]; omega) (fun m w hw hml => ?_); cbv
  refine Arith.go (by lia) (fun nx hnx => ?_); replace hnx : nx = next + 1 := hnx; cbv
  refine ACall.valN (r := rTwig A) (os := fun _ => []) (dp := false) S.cx (put_c S (heapOf heap) heap hhp.2 (by omega) due next) ⟨rfl, (by repeat' (first | exact trivial | exact rfl | exact Nat.le_refl _ | exact S.cx.giveEq | exact S.cx.lendLe (by assumption) | exact S.cx.lendEq (by assumption) | exact S.cx.lendLe0 | exact S.cx.lendEq0 | exact S.cx.partLe (by assumption) | exact S.cx.partEq (by assumption) | exact .inl rfl | refine ⟨?_, ?_⟩)), (by repeat' (first | exact trivial | exact rfl | exact Nat.le_refl _ | exact S.cx.giveEq | exact S.cx.lendLe (by assumption) | exact S.cx.lendEq (by assumption) | exact S.cx.lendLe0 | exact S.cx.lendEq0 | exact S.cx.partLe (by assumption) | exact S.cx.partEq (by assumption) | exact .inl rfl | refine ⟨?_, ?_⟩))⟩ rfl (fun ln hln l2 hx => ⟨rfl, ?_⟩)
  cbv
  have hN2 := hln cTwig l2
  generalize ln (A.enc cTwig l2) = N2 at hN2 ⊢
  have e1 : putL heap due next = l2 := hx.symm
  rw [hyes, e1, ← hw, ← hnx]
  exact Done.to (armTB (⟨l2, w, nx⟩, next)) (oTI A (⟨l2, w, nx⟩, next)) rfl (by repeat' (first | exact trivial | exact rfl | exact resOwn S.cx rfl (by assumption) | exact resOwn S.cx rfl (S.cx.lenE _ _) | exact resOwn1 S.cx rfl (by assumption) | exact resOwnT S.cx rfl (by assumption) | exact S.cx.enc _ [] | refine ⟨?_, ?_⟩)) (by repeat' (first | exact trivial | exact rfl | exact resOwn S.cx rfl (by assumption) | exact resOwn S.cx rfl (S.cx.lenE _ _) | exact resOwn1 S.cx rfl (by assumption) | exact resOwnT S.cx rfl (by assumption) | exact S.cx.enc _ [] | refine ⟨?_, ?_⟩)) ⟨rfl, rfl⟩

theorem implStopped_c (S : Se P A) (heap : List Twig) (list : List Timer) (next q : Int) (h1 : heap.length ≤ 4294967296) (h2 : list.length ≤ 4294967296) : Is1 P 42 [.agg (roTimers A ⟨heap, list, next⟩), .int .i64 q] (rTB A (Stopped ⟨heap, list, next⟩ q)) := by
  refine S.cx.by (S.prog ▸ Try.func42) rfl rfl rfl rfl (fun hv ho => ?_)
  cbv
  refine ACall.testD (dp := false) (implTimersOk_c S heap list next) ⟨rfl, (by repeat' (first | exact trivial | exact rfl | exact Nat.le_refl _ | exact S.cx.giveEq | exact S.cx.lendLe (by assumption) | exact S.cx.lendEq (by assumption) | exact S.cx.lendLe0 | exact S.cx.lendEq0 | exact S.cx.partLe (by assumption) | exact S.cx.partEq (by assumption) | exact .inl rfl | refine ⟨?_, ?_⟩)), (by repeat' (first | exact trivial | exact rfl | exact Nat.le_refl _ | exact S.cx.giveEq | exact S.cx.lendLe (by assumption) | exact S.cx.lendEq (by assumption) | exact S.cx.lendLe0 | exact S.cx.lendEq0 | exact S.cx.partLe (by assumption) | exact S.cx.partEq (by assumption) | exact .inl rfl | refine ⟨?_, ?_⟩))⟩ rfl (fun hok => ?_) (fun hok => ?_) <;> cbv
  rotate_left
  · exact Done.is (r := rTB A) (x := (timers0, false)) (by repeat' (first | exact trivial | exact rfl | exact resOwn S.cx rfl (by assumption) | exact resOwn S.cx rfl (S.cx.lenE _ _) | exact resOwn1 S.cx rfl (by assumption) | exact resOwnT S.cx rfl (by assumption) | exact S.cx.enc _ [] | refine ⟨?_, ?_⟩)) rfl (if_neg hok)
  refine ACall.valN (r := rT A) (os := fun _ => []) (dp := false) S.cx (timCloned_c S heap list next h1 h2) ⟨rfl, (by repeat' (first | exact trivial | exact rfl | exact Nat.le_refl _ | exact S.cx.giveEq | exact S.cx.lendLe (by assumption) | exact S.cx.lendEq (by assumption) | exact S.cx.lendLe0 | exact S.cx.lendEq0 | exact S.cx.partLe (by assumption) | exact S.cx.partEq (by assumption) | exact .inl rfl | refine ⟨?_, ?_⟩)), (by repeat' (first | exact trivial | exact rfl | exact Nat.le_refl _ | exact S.cx.giveEq | exact S.cx.lendLe (by assumption) | exact S.cx.lendEq (by assumption) | exact S.cx.lendLe0 | exact S.cx.lendEq0 | exact S.cx.partLe (by assumption) | exact S.cx.partEq (by assumption) | exact .inl rfl | refine ⟨?_, ?_⟩))⟩ rfl (fun ln hln x hx => ⟨rfl, ?_⟩)
  obtain ⟨heap', list', next'⟩ := x
  cases hx
  cbv
  have hN := hln cTwig heap
  generalize ln (A.enc cTwig heap) = N at hN ⊢
  have hK := hln cTimer list
  generalize ln (A.enc cTimer list) = K at hK ⊢
  refine ACall.valN (r := rTB1) (os := oTB A) (dp := false) S.cx (stop_c S heap list next q hok) ⟨rfl, (by repeat' (first | exact trivial | exact rfl | exact Nat.le_refl _ | exact S.cx.giveEq | exact S.cx.lendLe (by assumption) | exact S.cx.lendEq (by assumption) | exact S.cx.lendLe0 | exact S.cx.lendEq0 | exact S.cx.partLe (by assumption) | exact S.cx.partEq (by assumption) | exact .inl rfl | refine ⟨?_, ?_⟩)), (by repeat' (first | exact trivial | exact rfl | exact Nat.le_refl _ | exact S.cx.giveEq | exact S.cx.lendLe (by assumption) | exact S.cx.lendEq (by assumption) | exact S.cx.lendLe0 | exact S.cx.lendEq0 | exact S.cx.partLe (by assumption) | exact S.cx.partEq (by assumption) | exact .inl rfl | refine ⟨?_, ?_⟩))⟩ rfl (fun ln hln x hx => ⟨rfl, ?_⟩)
  obtain ⟨⟨heap1, list1, next1⟩, b⟩ := x
  cbv
  have hN1 := hln cTwig heap1
  generalize ln (A.enc cTwig heap1) = N1 at hN1 ⊢
  have hK1 := hln cTimer list1
  generalize ln (A.enc cTimer list1) = K1 at hK1 ⊢
  exact Done.is (r := rTB A) (x := (⟨heap1, list1, next1⟩, b)) (by repeat' (first | exact trivial | exact rfl | exact resOwn S.cx rfl (by assumption) | exact resOwn S.cx rfl (S.cx.lenE _ _) | exact resOwn1 S.cx rfl (by assumption) | exact resOwnT S.cx rfl (by assumption) | exact S.cx.enc _ [] | refine ⟨?_, ?_⟩)) rfl ((if_pos hok).trans hx.symm)

theorem implArmed_c (S : Se P A) (heap : List Twig) (list : List Timer) (next due what whom : Int) (h1 : heap.length ≤ 4294967296) (h2 : list.length ≤ 4294967296) : Is1 P 41 [.agg (roTimers A ⟨heap, list, next⟩), .int .i64 due, .int .i64 what, .int .i64 whom] (rTI A (Armed ⟨heap, list, next⟩ due what whom)) := by
  refine S.cx.by (S.prog ▸ Try.func41) rfl rfl rfl rfl (fun hv ho => ?_)
  cbv
  refine ACall.testD (dp := false) (implTimersOk_c S heap list next) ⟨rfl, (by repeat' (first | exact trivial | exact rfl | exact Nat.le_refl _ | exact S.cx.giveEq | exact S.cx.lendLe (by assumption) | exact S.cx.lendEq (by assumption) | exact S.cx.lendLe0 | exact S.cx.lendEq0 | exact S.cx.partLe (by assumption) | exact S.cx.partEq (by assumption) | exact .inl rfl | refine ⟨?_, ?_⟩)), (by repeat' (first | exact trivial | exact rfl | exact Nat.le_refl _ | exact S.cx.giveEq | exact S.cx.lendLe (by assumption) | exact S.cx.lendEq (by assumption) | exact S.cx.lendLe0 | exact S.cx.lendEq0 | exact S.cx.partLe (by assumption) | exact S.cx.partEq (by assumption) | exact .inl rfl | refine ⟨?_, ?_⟩))⟩ rfl (fun hok => ?_) (fun hok => ?_) <;> cbv
  rotate_left
  · exact Done.is (r := rTI A) (x := (timers0, -1)) (by repeat' (first | exact trivial | exact rfl | exact resOwn S.cx rfl (by assumption) | exact resOwn S.cx rfl (S.cx.lenE _ _) | exact resOwn1 S.cx rfl (by assumption) | exact resOwnT S.cx rfl (by assumption) | exact S.cx.enc _ [] | refine ⟨?_, ?_⟩)) rfl (if_neg hok)
  refine ACall.valN (r := rT A) (os := fun _ => []) (dp := false) S.cx (timCloned_c S heap list next h1 h2) ⟨rfl, (by repeat' (first | exact trivial | exact rfl | exact Nat.le_refl _ | exact S.cx.giveEq | exact S.cx.lendLe (by assumption) | exact S.cx.lendEq (by assumption) | exact S.cx.lendLe0 | exact S.cx.lendEq0 | exact S.cx.partLe (by assumption) | exact S.cx.partEq (by assumption) | exact .inl rfl | refine ⟨?_, ?_⟩)), (by repeat' (first | exact trivial | exact rfl | exact Nat.le_refl _ | exact S.cx.giveEq | exact S.cx.lendLe (by assumption) | exact S.cx.lendEq (by assumption) | exact S.cx.lendLe0 | exact S.cx.lendEq0 | exact S.cx.partLe (by assumption) | exact S.cx.partEq (by assumption) | exact .inl rfl | refine ⟨?_, ?_⟩))⟩ rfl (fun ln hln x hx => ⟨rfl, ?_⟩)
  obtain ⟨heap', list', next'⟩ := x
  cases hx
  cbv
  have hN := hln cTwig heap
  generalize ln (A.enc cTwig heap) = N at hN ⊢
  have hK := hln cTimer list
  generalize ln (A.enc cTimer list) = K at hK ⊢
  refine ACall.valN (r := armTB) (os := oTI A) (dp := false) S.cx (arm_c S heap list next due what whom hok) ⟨rfl, (by repeat' (first | exact trivial | exact rfl | exact Nat.le_refl _ | exact S.cx.giveEq | exact S.cx.lendLe (by assumption) | exact S.cx.lendEq (by assumption) | exact S.cx.lendLe0 | exact S.cx.lendEq0 | exact S.cx.partLe (by assumption) | exact S.cx.partEq (by assumption) | exact .inl rfl | refine ⟨?_, ?_⟩)), (by repeat' (first | exact trivial | exact rfl | exact Nat.le_refl _ | exact S.cx.giveEq | exact S.cx.lendLe (by assumption) | exact S.cx.lendEq (by assumption) | exact S.cx.lendLe0 | exact S.cx.lendEq0 | exact S.cx.partLe (by assumption) | exact S.cx.partEq (by assumption) | exact .inl rfl | refine ⟨?_, ?_⟩))⟩ rfl (fun ln hln x hx => ⟨rfl, ?_⟩)
  obtain ⟨⟨heap1, list1, next1⟩, b⟩ := x
  cbv
  have hN1 := hln cTwig heap1
  generalize ln (A.enc cTwig heap1) = N1 at hN1 ⊢
  have hK1 := hln cTimer list1
  generalize ln (A.enc cTimer list1) = K1 at hK1 ⊢
  exact Done.is (r := rTI A) (x := (⟨heap1, list1, next1⟩, b)) (by repeat' (first | exact trivial | exact rfl | exact resOwn S.cx rfl (by assumption) | exact resOwn S.cx rfl (S.cx.lenE _ _) | exact resOwn1 S.cx rfl (by assumption) | exact resOwnT S.cx rfl (by assumption) | exact S.cx.enc _ [] | refine ⟨?_, ?_⟩)) rfl ((if_pos hok).trans hx.symm)

end Go.Proofs.Ytmbckmfihcojoaa.AM
