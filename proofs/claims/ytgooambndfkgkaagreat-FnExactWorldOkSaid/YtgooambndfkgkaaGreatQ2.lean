/- Contracts: slots taken and dropped. -/
import Derived.Test.YtgooambndfkgkaaGreatQ1
namespace Go.Proofs.YtgooambndfkgkaaGreat.AM
open Go Go.Proofs

set_option maxRecDepth 100000
set_option maxHeartbeats 4000000
set_option linter.unusedVariables false
set_option linter.unusedSimpArgs false

variable {P : Program} {A : Sy}

/-- A slot that can be taken. -/
def isFree (s : Slots) (j : Nat) : Prop := s.used[j]? = some false ∧ s.ages[j]? ≠ some 1000000
instance (s : Slots) (j : Nat) : Decidable (isFree s j) := by unfold isFree; infer_instance
def firstFree (s : Slots) : Option Nat := (List.range s.ages.length).find? fun j => decide (isFree s j)

def Take (s : Slots) : Slots × Handle × Bool :=
  match firstFree s with
  | some j => ({ s with used := s.used.set j true }, ⟨j, s.ages[j]?.getD 0⟩, true)
  | none => (s, handle0, false)

def Taken (s : Slots) : Slots × Handle × Bool := if SlotsOk s then Take s else (slots0, handle0, false)

def Holds (s : Slots) (h : Handle) : Prop := (0 ≤ h.slot ∧ h.slot.toNat < s.ages.length) ∧ s.used[h.slot.toNat]? = some true ∧ s.ages[h.slot.toNat]? = some h.age
instance (s : Slots) (h : Handle) : Decidable (Holds s h) := by unfold Holds; infer_instance

def Drop (s : Slots) (h : Handle) : Slots × Bool :=
  if Holds s h ∧ h.age ≠ 1000000 then (⟨s.ages.set h.slot.toNat (h.age + 1), s.used.set h.slot.toNat false⟩, true) else (s, false)

def Dropped (s : Slots) (h : Handle) : Slots × Bool := if SlotsOk s then Drop s h else (slots0, false)

theorem take_some {s : Slots} {i : Int} {a : Int} (h0 : 0 ≤ i) (hu : Upto (fun j _ => ¬ isFree s j) s.ages i) (ha : s.ages[i.toNat]? = some a) (hf : isFree s i.toNat) {i' : Int} (hi : i' = i) : Take s = ({ s with used := s.used.set i.toNat true }, ⟨i', a⟩, true) := by
  have : firstFree s = some i.toNat := by
    refine List.find?_range_eq_some.2 ⟨by simpa using hf, by simpa using lt_of_get ha, fun j hj => ?_⟩
    obtain ⟨x, hx⟩ : ∃ x, s.ages[j]? = some x := get_of_lt (Nat.lt_trans hj (lt_of_get ha))
    simpa using hu j x (by omega) hx
  rw [Take, this]
  simp only [ha, Option.getD_some]
  rw [show ((i.toNat : Nat) : Int) = i' by omega]

theorem take_none {s : Slots} {i : Int} (hu : Upto (fun j _ => ¬ isFree s j) s.ages i) (hi : (s.ages.length : Int) ≤ i) : Take s = (s, handle0, false) := by
  have : firstFree s = none := by
    refine List.find?_range_eq_none.2 fun j hj => ?_
    obtain ⟨x, hx⟩ : ∃ x, s.ages[j]? = some x := get_of_lt hj
    simpa using hu.all hi j x hx
  rw [Take, this]

def rHB (x : Slots × Handle × Bool) : AV := .tup [.agg (cHandle x.2.1), .bool x.2.2]
def oHB (A : Sy) (x : Slots × Handle × Bool) : List (Option Obj) := [some (.arr 1 true (A.enc cInt64 x.1.ages)), some (.arr 1 true (A.enc cBool x.1.used))]
def rSHB (A : Sy) (x : Slots × Handle × Bool) : AV := .tup [.agg (ownSlots A x.1), .agg (cHandle x.2.1), .bool x.2.2]
def rSB (A : Sy) (x : Slots × Bool) : AV := .tup [.agg (ownSlots A x.1), .bool x.2]
def rB (x : Slots × Bool) : AV := .bool x.2
def oB (A : Sy) (x : Slots × Bool) : List (Option Obj) := [some (.arr 1 true (A.enc cInt64 x.1.ages)), some (.arr 1 true (A.enc cBool x.1.used))]

theorem holds_c (S : Se P A) (ages : List Int) (used : List Bool) (slot age : Int) (hl : used.length = ages.length) : Tests P 149 [.agg (roSlots A ⟨ages, used⟩), .agg (cHandle ⟨slot, age⟩)] (Holds ⟨ages, used⟩ ⟨slot, age⟩) := by
  refine S.cx.by (S.prog ▸ Tryz.func149) rfl rfl rfl rfl (fun hv ho => ?_)
  cbv
  try (refine Drawn.mk ⟨by kernel_rfl, fun _ => ?_⟩)
  refine ACall.testD (dp := false) (isInInt64_c S slot ages) ⟨rfl, (by repeat' (first | exact trivial | exact rfl | exact Nat.le_refl _ | exact S.cx.giveEq | exact S.cx.lendLe (by assumption) | exact S.cx.lendEq (by assumption) | exact S.cx.lendLe0 | exact S.cx.lendEq0 | exact S.cx.partLe (by assumption) | exact S.cx.partEq (by assumption) | exact S.cx.enc _ [] | exact .inl rfl | refine ⟨?_, ?_⟩)), (by repeat' (first | exact trivial | exact rfl | exact Nat.le_refl _ | exact S.cx.giveEq | exact S.cx.lendLe (by assumption) | exact S.cx.lendEq (by assumption) | exact S.cx.lendLe0 | exact S.cx.lendEq0 | exact S.cx.partLe (by assumption) | exact S.cx.partEq (by assumption) | exact S.cx.enc _ [] | exact .inl rfl | refine ⟨?_, ?_⟩))⟩ rfl (fun h => ?_) (fun h => ?_) <;> cbv
  rotate_left
  · exact Done.no (fun e => h e.1)
  refine ElemRo.enc S.cx (fun _ => rfl) h.1 (by lia) (fun u hu => ?_); cbv
  cases u <;> cbv
  · exact Done.no (fun e => by have := e.2.1; dsimp only at this; rw [hu] at this; cases this)
  refine ElemRo.enc S.cx (fun _ => rfl) h.1 (by lia) (fun a ha => ?_); cbv
  refine Test.eql (fun h2 => ?_) (fun h2 => ?_) <;> cbv
  · exact Done.yes ⟨h, hu, by rw [← h2]; exact ha⟩
  · exact Done.no (fun e => h2 (by have := e.2.2; dsimp only at this; rw [ha] at this; exact Option.some.inj this))

theorem specHolds_c (S : Se P A) (ages : List Int) (used : List Bool) (slot age : Int) : Tests P 269 [.agg (roSlots A ⟨ages, used⟩), .agg (cHandle ⟨slot, age⟩)] (SlotsOk ⟨ages, used⟩ ∧ Holds ⟨ages, used⟩ ⟨slot, age⟩) := by
  refine S.cx.by (S.prog ▸ Tryz.func269) rfl rfl rfl rfl (fun hv ho => ?_)
  cbv
  try (refine Drawn.mk ⟨by kernel_rfl, fun _ => ?_⟩)
  refine ACall.testD (dp := false) (specSlotsOk_c S ages used) ⟨rfl, (by repeat' (first | exact trivial | exact rfl | exact Nat.le_refl _ | exact S.cx.giveEq | exact S.cx.lendLe (by assumption) | exact S.cx.lendEq (by assumption) | exact S.cx.lendLe0 | exact S.cx.lendEq0 | exact S.cx.partLe (by assumption) | exact S.cx.partEq (by assumption) | exact S.cx.enc _ [] | exact .inl rfl | refine ⟨?_, ?_⟩)), (by repeat' (first | exact trivial | exact rfl | exact Nat.le_refl _ | exact S.cx.giveEq | exact S.cx.lendLe (by assumption) | exact S.cx.lendEq (by assumption) | exact S.cx.lendLe0 | exact S.cx.lendEq0 | exact S.cx.partLe (by assumption) | exact S.cx.partEq (by assumption) | exact S.cx.enc _ [] | exact .inl rfl | refine ⟨?_, ?_⟩))⟩ rfl (fun hok => ?_) (fun hok => ?_) <;> cbv
  rotate_left
  · exact Done.no (fun e => hok e.1)
  have hlen : ages.length ≤ 64 := hok.1.2
  have hl : used.length = ages.length := hok.2.1
  refine LenR.natD S.cx (by omega) (fun N hN => ?_); cbv
  refine Arith.go (by lia) (fun m hm => ?_); cbv
  replace hm : m = N - 1 := hm
  refine ACall.testD (dp := false) (l1In_c S slot 0 m) ⟨rfl, (by repeat' (first | exact trivial | exact rfl | exact Nat.le_refl _ | exact S.cx.giveEq | exact S.cx.lendLe (by assumption) | exact S.cx.lendEq (by assumption) | exact S.cx.lendLe0 | exact S.cx.lendEq0 | exact S.cx.partLe (by assumption) | exact S.cx.partEq (by assumption) | exact S.cx.enc _ [] | exact .inl rfl | refine ⟨?_, ?_⟩)), (by repeat' (first | exact trivial | exact rfl | exact Nat.le_refl _ | exact S.cx.giveEq | exact S.cx.lendLe (by assumption) | exact S.cx.lendEq (by assumption) | exact S.cx.lendLe0 | exact S.cx.lendEq0 | exact S.cx.partLe (by assumption) | exact S.cx.partEq (by assumption) | exact S.cx.enc _ [] | exact .inl rfl | refine ⟨?_, ?_⟩))⟩ rfl (fun h => ?_) (fun h => ?_) <;> cbv
  rotate_left
  · exact Done.no (fun e => h (by have := e.2.1; dsimp only at this; omega))
  have h : 0 ≤ slot ∧ slot.toNat < ages.length := by omega
  refine ElemRo.enc S.cx (fun _ => rfl) h.1 (by lia) (fun u hu => ?_); cbv
  cases u <;> cbv
  · exact Done.no (fun e => by have := e.2.2.1; dsimp only at this; rw [hu] at this; cases this)
  refine ElemRo.enc S.cx (fun _ => rfl) h.1 (by lia) (fun a ha => ?_); cbv
  refine Test.eql (fun h2 => ?_) (fun h2 => ?_) <;> cbv
  · exact Done.yes ⟨hok, h, hu, by rw [← h2]; exact ha⟩
  · exact Done.no (fun e => h2 (by have := e.2.2.2; dsimp only at this; rw [ha] at this; exact Option.some.inj this))

end Go.Proofs.YtgooambndfkgkaaGreat.AM
