/- Contracts: slots taken and dropped. -/
import Derived.Test.YtmpbmfhlkhonkaaQ1
namespace Go.Proofs.Ytmpbmfhlkhonkaa.AM
open Go Go.Proofs

set_option maxRecDepth 100000
set_option maxHeartbeats 4000000
set_option linter.unusedVariables false
set_option linter.unusedSimpArgs false

variable {P : Program} {A : Sy}

/-- A slot that can be taken. -/
def isFree (s : Slots) (j : Nat) : Prop := s.used[j]? = some false ∧ s.ages[j]? ≠ some 1000000
instance (s : Slots) (j : Nat) : Decidable (isFree s j) := by unfold isFree; infer_instance
def firstFree (s : Slots) : Option Nat := (List.range s.ages.length).find? fun j => decide (isFree s j)

def Take (s : Slots) : Slots × Handle × Bool :=
  match firstFree s with
  | some j => ({ s with used := s.used.set j true }, ⟨j, s.ages[j]?.getD 0⟩, true)
  | none => (s, handle0, false)

def Taken (s : Slots) : Slots × Handle × Bool := if SlotsOk s then Take s else (slots0, handle0, false)

def Holds (s : Slots) (h : Handle) : Prop := (0 ≤ h.slot ∧ h.slot.toNat < s.ages.length) ∧ s.used[h.slot.toNat]? = some true ∧ s.ages[h.slot.toNat]? = some h.age
instance (s : Slots) (h : Handle) : Decidable (Holds s h) := by unfold Holds; infer_instance

def Drop (s : Slots) (h : Handle) : Slots × Bool :=
  if Holds s h ∧ h.age ≠ 1000000 then (⟨s.ages.set h.slot.toNat (h.age + 1), s.used.set h.slot.toNat false⟩, true) else (s, false)

def Dropped (s : Slots) (h : Handle) : Slots × Bool := if SlotsOk s then Drop s h else (slots0, false)

theorem take_some {s : Slots} {i : Int} {a : Int} (h0 : 0 ≤ i) (hu : Upto (fun j _ => ¬ isFree s j) s.ages i) (ha : s.ages[i.toNat]? = some a) (hf : isFree s i.toNat) {i' : Int} (hi : i' = i) : Take s = ({ s with used := s.used.set i.toNat true }, ⟨i', a⟩, true) := by
  have : firstFree s = some i.toNat := by
    refine List.find?_range_eq_some.2 ⟨by simpa using hf, by simpa using lt_of_get ha, fun j hj => ?_⟩
    obtain ⟨x, hx⟩ : ∃ x, s.ages[j]? = some x := get_of_lt (Nat.lt_trans hj (lt_of_get ha))
    simpa using hu j x (by omega) hx
  rw [Take, this]
  simp only [ha, Option.getD_some]
  rw [show ((i.toNat : Nat) : Int) = i' by omega]

theorem take_none {s : Slots} {i : Int} (hu : Upto (fun j _ => ¬ isFree s j) s.ages i) (hi : (s.ages.length : Int) ≤ i) : Take s = (s, handle0, false) := by
  have : firstFree s = none := by
    refine List.find?_range_eq_none.2 fun j hj => ?_
    obtain ⟨x, hx⟩ : ∃ x, s.ages[j]? = some x := get_of_lt hj
    simpa using hu.all hi j x hx
  rw [Take, this]

def rHB (x : Slots × Handle × Bool) : AV := .tup [.agg (cHandle x.2.1), .bool x.2.2]
def oHB (A : Sy) (x : Slots × Handle × Bool) : List (Option Obj) := [some (.arr 1 true (A.enc cInt64 x.1.ages)), some (.arr 1 true (A.enc cBool x.1.used))]
def rSHB (A : Sy) (x : Slots × Handle × Bool) : AV := .tup [.agg (ownSlots A x.1), .agg (cHandle x.2.1), .bool x.2.2]
def rSB (A : Sy) (x : Slots × Bool) : AV := .tup [.agg (ownSlots A x.1), .bool x.2]
def rB (x : Slots × Bool) : AV := .bool x.2
def oB (A : Sy) (x : Slots × Bool) : List (Option Obj) := [some (.arr 1 true (A.enc cInt64 x.1.ages)), some (.arr 1 true (A.enc cBool x.1.used))]

theorem take_c (S : Se P A) (ages : List Int) (used : List Bool) (n m : Nat) (hn : n = ages.length) (hm : m = used.length) (hl : used.length = ages.length) : SoundM P 57 false [.agg [.ref false 1000 0 n, .ref false 2000 0 m]] [.arr 1 true (A.enc cInt64 ages), .arr 1 true (A.enc cBool used)]
    (fun v os => v = rHB (Take ⟨ages, used⟩) ∧ os = oHB A (Take ⟨ages, used⟩)) := by
  refine S.cx.by (S.prog ▸ Try.func57) rfl rfl rfl rfl (fun hv ho => ?_)
  cbv
  refine Len.nat (fun N hN hmx => ?_); cbv
  refine ALoop.goD (ι := Int) (fun i => [(9, .int .i64 i)]) [] (fun i => []) (fun i => 0 ≤ i ∧ Upto (fun j _ => ¬ isFree ⟨ages, used⟩ j) ages i) (fun i => (ages.length - i).toNat) (0) S.cx.tab S.cx.mix S.eq ?_ ?_ ?_
  · exact ⟨Int.le_refl _, .zero⟩
  · (cbv; refine Less.to [] rfl rfl ?_ ?_ <;> repeat' (first | exact trivial | exact ⟨rfl, rfl⟩ | exact ⟨_, rfl, Nat.zero_le _, rfl⟩ | apply And.intro | exact rfl))
  rintro i ⟨h0, hu⟩
  cbv
  refine Test.lss (fun h => ?_) (fun h => ?_) <;> cbv
  · refine ElemRef.go rfl h0 (by lia) (by rw [S.cx.lenE']; lia) (fun row hrow => ?_); cbv
    refine Row.enc S.cx (by lia) (fun a ha => ?_); cbv
    refine ElemRef.go rfl h0 (by lia) (by rw [S.cx.lenE']; lia) (fun row2 hrow2 => ?_); cbv
    refine Row.enc S.cx (by lia) (fun u hu2 => ?_); cbv
    have ha' : ages[i.toNat]? = some a := by rw [← ha, hrow]; congr 1; omega
    have hu' : used[i.toNat]? = some u := by rw [← hu2, hrow2]; congr 1; omega
    cases u <;> cbv
    · refine Test.neq (fun h2 => ?_) (fun h2 => ?_) <;> cbv
      · have hf : isFree ⟨ages, used⟩ i.toNat := ⟨hu', fun e => h2 (by rw [ha'] at e; exact Option.some.inj e)⟩
        refine ElemRef.go rfl h0 (by lia) (by rw [S.cx.lenE']; lia) (fun row3 hrow3 => ?_); cbv
        refine RowSet.enc S.cx false true (by rw [show row3 = row2 by omega]; exact hu2) rfl (Nat.le_refl _) rfl (fun used' hused => ?_); cbv
        rw [take_some (i' := i) h0 hu ha' hf rfl]
        refine Done.to (rHB (⟨ages, used'⟩, ⟨i, a⟩, true)) (oHB A (⟨ages, used'⟩, ⟨i, a⟩, true)) rfl ?_ ?_ ⟨rfl, by rw [hused, show row3 = i.toNat by omega]⟩
        · repeat' (first | exact trivial | exact rfl | exact resOwn S.cx rfl (by assumption) | exact resOwn S.cx rfl (S.cx.lenE _ _) | exact resOwn1 S.cx rfl (by assumption) | exact resOwnT S.cx rfl (by assumption) | exact S.cx.enc _ [] | refine ⟨?_, ?_⟩)
        · repeat' (first | exact trivial | exact rfl | exact resOwn S.cx rfl (by assumption) | exact resOwn S.cx rfl (S.cx.lenE _ _) | exact resOwn1 S.cx rfl (by assumption) | exact resOwnT S.cx rfl (by assumption) | exact S.cx.enc _ [] | refine ⟨?_, ?_⟩)
      · refine Arith.go (by lia) (fun i' hi' => ?_); cbv
        refine Again.on i' (by lia) ⟨by lia, hu.next h0 ha' (fun hf => hf.2 (by rw [h2] at ha'; exact ha')) hi'⟩ ?_
        (cbv; refine Less.to [] rfl rfl ?_ ?_ <;> repeat' (first | exact trivial | exact ⟨rfl, rfl⟩ | exact ⟨_, rfl, Nat.zero_le _, rfl⟩ | apply And.intro | exact rfl))
    · refine Arith.go (by lia) (fun i' hi' => ?_); cbv
      refine Again.on i' (by lia) ⟨by lia, hu.next h0 ha' (fun hf => by have := hf.1; rw [hu'] at this; cases this) hi'⟩ ?_
      (cbv; refine Less.to [] rfl rfl ?_ ?_ <;> repeat' (first | exact trivial | exact ⟨rfl, rfl⟩ | exact ⟨_, rfl, Nat.zero_le _, rfl⟩ | apply And.intro | exact rfl))
  · rw [take_none hu (by dsimp only; lia)]
    refine Done.to (rHB (⟨ages, used⟩, handle0, false)) (oHB A (⟨ages, used⟩, handle0, false)) rfl ?_ ?_ ⟨rfl, rfl⟩
    · repeat' (first | exact trivial | exact rfl | exact resOwn S.cx rfl (by assumption) | exact resOwn S.cx rfl (S.cx.lenE _ _) | exact resOwn1 S.cx rfl (by assumption) | exact resOwnT S.cx rfl (by assumption) | exact S.cx.enc _ [] | refine ⟨?_, ?_⟩)
    · repeat' (first | exact trivial | exact rfl | exact resOwn S.cx rfl (by assumption) | exact resOwn S.cx rfl (S.cx.lenE _ _) | exact resOwn1 S.cx rfl (by assumption) | exact resOwnT S.cx rfl (by assumption) | exact S.cx.enc _ [] | refine ⟨?_, ?_⟩)

theorem holds_c (S : Se P A) (ages : List Int) (used : List Bool) (slot age : Int) (hl : used.length = ages.length) : Tests P 60 [.agg (roSlots A ⟨ages, used⟩), .agg (cHandle ⟨slot, age⟩)] (Holds ⟨ages, used⟩ ⟨slot, age⟩) := by
  refine S.cx.by (S.prog ▸ Try.func60) rfl rfl rfl rfl (fun hv ho => ?_)
  cbv
  try (refine Drawn.mk ⟨by kernel_rfl, fun _ => ?_⟩)
  refine ACall.testD (dp := false) (isInInt64_c S slot ages) ⟨rfl, (by repeat' (first | exact trivial | exact rfl | exact Nat.le_refl _ | exact S.cx.giveEq | exact S.cx.lendLe (by assumption) | exact S.cx.lendEq (by assumption) | exact S.cx.lendLe0 | exact S.cx.lendEq0 | exact S.cx.partLe (by assumption) | exact S.cx.partEq (by assumption) | exact .inl rfl | refine ⟨?_, ?_⟩)), (by repeat' (first | exact trivial | exact rfl | exact Nat.le_refl _ | exact S.cx.giveEq | exact S.cx.lendLe (by assumption) | exact S.cx.lendEq (by assumption) | exact S.cx.lendLe0 | exact S.cx.lendEq0 | exact S.cx.partLe (by assumption) | exact S.cx.partEq (by assumption) | exact .inl rfl | refine ⟨?_, ?_⟩))⟩ rfl (fun h => ?_) (fun h => ?_) <;> cbv
  rotate_left
  · exact Done.no (fun e => h e.1)
  refine ElemRo.enc S.cx (fun _ => rfl) h.1 (by lia) (fun u hu => ?_); cbv
  cases u <;> cbv
  · exact Done.no (fun e => by have := e.2.1; dsimp only at this; rw [hu] at this; cases this)
  refine ElemRo.enc S.cx (fun _ => rfl) h.1 (by lia) (fun a ha => ?_); cbv
  refine Test.eql (fun h2 => ?_) (fun h2 => ?_) <;> cbv
  · exact Done.yes ⟨h, hu, by rw [← h2]; exact ha⟩
  · exact Done.no (fun e => h2 (by have := e.2.2; dsimp only at this; rw [ha] at this; exact Option.some.inj this))

theorem drop_c (S : Se P A) (ages : List Int) (used : List Bool) (slot age : Int) (n m : Nat) (hn : n = ages.length) (hm : m = used.length) (hl : used.length = ages.length) (hag : ∀ a ∈ ages, 0 ≤ a ∧ a ≤ 1000000) : SoundM P 58 false [.agg [.ref false 1000 0 n, .ref false 2000 0 m], .agg (cHandle ⟨slot, age⟩)] [.arr 1 true (A.enc cInt64 ages), .arr 1 true (A.enc cBool used)]
    (fun v os => v = rB (Drop ⟨ages, used⟩ ⟨slot, age⟩) ∧ os = oB A (Drop ⟨ages, used⟩ ⟨slot, age⟩)) := by
  refine S.cx.by (S.prog ▸ Try.func58) rfl rfl rfl rfl (fun hv ho => ?_)
  cbv
  refine ACall.testD (dp := false) (holds_c S ages used slot age hl) ⟨rfl, (by repeat' (first | exact trivial | exact rfl | exact Nat.le_refl _ | exact S.cx.giveEq | exact S.cx.lendLe (by assumption) | exact S.cx.lendEq (by assumption) | exact S.cx.lendLe0 | exact S.cx.lendEq0 | exact S.cx.partLe (by assumption) | exact S.cx.partEq (by assumption) | exact .inl rfl | refine ⟨?_, ?_⟩)), (by repeat' (first | exact trivial | exact rfl | exact Nat.le_refl _ | exact S.cx.giveEq | exact S.cx.lendLe (by assumption) | exact S.cx.lendEq (by assumption) | exact S.cx.lendLe0 | exact S.cx.lendEq0 | exact S.cx.partLe (by assumption) | exact S.cx.partEq (by assumption) | exact .inl rfl | refine ⟨?_, ?_⟩))⟩ rfl (fun h => ?_) (fun h => ?_) <;> cbv
  rotate_left
  · rw [Drop, if_neg (fun e => h e.1)]
    refine Done.to (rB (⟨ages, used⟩, false)) (oB A (⟨ages, used⟩, false)) rfl ?_ ?_ ⟨rfl, rfl⟩
    · repeat' (first | exact trivial | exact rfl | exact resOwn S.cx rfl (by assumption) | exact resOwn S.cx rfl (S.cx.lenE _ _) | exact resOwn1 S.cx rfl (by assumption) | exact resOwnT S.cx rfl (by assumption) | exact S.cx.enc _ [] | refine ⟨?_, ?_⟩)
    · repeat' (first | exact trivial | exact rfl | exact resOwn S.cx rfl (by assumption) | exact resOwn S.cx rfl (S.cx.lenE _ _) | exact resOwn1 S.cx rfl (by assumption) | exact resOwnT S.cx rfl (by assumption) | exact S.cx.enc _ [] | refine ⟨?_, ?_⟩)
  refine Test.eql (fun h2 => ?_) (fun h2 => ?_) <;> cbv
  · rw [Drop, if_neg (fun e => e.2 h2)]
    refine Done.to (rB (⟨ages, used⟩, false)) (oB A (⟨ages, used⟩, false)) rfl ?_ ?_ ⟨rfl, rfl⟩
    · repeat' (first | exact trivial | exact rfl | exact resOwn S.cx rfl (by assumption) | exact resOwn S.cx rfl (S.cx.lenE _ _) | exact resOwn1 S.cx rfl (by assumption) | exact resOwnT S.cx rfl (by assumption) | exact S.cx.enc _ [] | refine ⟨?_, ?_⟩)
    · repeat' (first | exact trivial | exact rfl | exact resOwn S.cx rfl (by assumption) | exact resOwn S.cx rfl (S.cx.lenE _ _) | exact resOwn1 S.cx rfl (by assumption) | exact resOwnT S.cx rfl (by assumption) | exact S.cx.enc _ [] | refine ⟨?_, ?_⟩)
  obtain ⟨⟨h0, hlt⟩, hu, ha⟩ := id h
  dsimp only at h0 hlt hu ha
  refine ElemRef.go rfl h0 (by lia) (by rw [S.cx.lenE']; lia) (fun row hrow => ?_); cbv
  have hr : row = slot.toNat := by omega
  refine RowSet.enc S.cx true false (by rw [hr]; exact hu) rfl (Nat.le_refl _) rfl (fun used' hused => ?_); cbv
  refine ElemRef.go rfl h0 (by lia) (by rw [S.cx.lenE']; lia) (fun row2 hrow2 => ?_); cbv
  have hr2 : row2 = slot.toNat := by omega
  refine Row.enc S.cx (by lia) (fun a ha2 => ?_); cbv
  obtain rfl : a = age := by rw [hr2, ha] at ha2; exact (Option.some.inj ha2).symm
  have hb := hag a (mem_at ha)
  refine Arith.go (by lia) (fun z hz => ?_); cbv
  refine ElemRef.go rfl h0 (by lia) (by rw [S.cx.lenE']; lia) (fun row3 hrow3 => ?_); cbv
  have hr3 : row3 = slot.toNat := by omega
  refine RowSet.enc S.cx a z (by rw [hr3]; exact ha) rfl (Nat.le_refl _) rfl (fun ages' hages => ?_); cbv
  rw [Drop, if_pos ⟨h, h2⟩]
  refine Done.to (rB (⟨ages', used'⟩, true)) (oB A (⟨ages', used'⟩, true)) rfl ?_ ?_ ⟨rfl, by rw [hages, hused, hr, hr3, hz]⟩
  · repeat' (first | exact trivial | exact rfl | exact resOwn S.cx rfl (by assumption) | exact resOwn S.cx rfl (S.cx.lenE _ _) | exact resOwn1 S.cx rfl (by assumption) | exact resOwnT S.cx rfl (by assumption) | exact S.cx.enc _ [] | refine ⟨?_, ?_⟩)
  · repeat' (first | exact trivial | exact rfl | exact resOwn S.cx rfl (by assumption) | exact resOwn S.cx rfl (S.cx.lenE _ _) | exact resOwn1 S.cx rfl (by assumption) | exact resOwnT S.cx rfl (by assumption) | exact S.cx.enc _ [] | refine ⟨?_, ?_⟩)

end Go.Proofs.Ytmpbmfhlkhonkaa.AM
