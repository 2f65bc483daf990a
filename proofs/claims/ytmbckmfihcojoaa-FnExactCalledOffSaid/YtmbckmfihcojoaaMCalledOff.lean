import Derived.Test.YtmbckmfihcojoaaA1
import Derived.Test.YtmbckmfihcojoaaB32
import Derived.Test.YtmbckmfihcojoaaQ3
import Derived.Test.YtmbckmfihcojoaaB35
import Derived.Test.YtmbckmfihcojoaaG5
import Derived.Test.YtmbckmfihcojoaaB33
/- Merged: A2 A3 A4 A5 A6 KCalledOff -/
namespace Go.Proofs.Ytmbckmfihcojoaa.AM
open Go Go.Proofs

set_option maxRecDepth 100000
set_option maxHeartbeats 4000000
set_option linter.unusedVariables false
set_option linter.unusedSimpArgs false

variable {P : Program} {A : Sy}

theorem Upto.take {α : Type} {p : α → Prop} {l : List α} {i : Int} (h : Upto (fun _ y => p y) l i) : ∀ y ∈ l.take i.toNat, p y := fun y hy => by
  obtain ⟨k, hk⟩ := List.getElem?_of_mem hy
  rw [List.getElem?_take] at hk
  split at hk
  · rename_i hkr; exact h k y (by omega) hk
  · cases hk

theorem mem_take_at {α : Type} {l : List α} {i j : Nat} {y : α} (h : l[j]? = some y) (hj : j < i) : y ∈ l.take i := by
  refine List.mem_of_getElem? (i := j) ?_
  rw [List.getElem?_take, if_pos hj]; exact h

theorem implAftersOk_c (S : Se P A) (ages : List Int) (used : List Bool) (list : List After) : Tests P 84 [.agg (roAfters A ⟨⟨ages, used⟩, list⟩)] (AftersOk ⟨⟨ages, used⟩, list⟩) := by
  refine S.cx.by (S.prog ▸ Try.func84) rfl rfl rfl rfl (fun hv ho => ?_)
  cbv
  try (refine Drawn.mk ⟨by kernel_rfl, fun _ => ?_⟩)
  refine ACall.testD (dp := false) (implSlotsOk_c S ages used) ⟨rfl, (by repeat' (first | exact trivial | exact rfl | exact Nat.le_refl _ | exact S.cx.giveEq | exact S.cx.lendLe (by assumption) | exact S.cx.lendEq (by assumption) | exact S.cx.lendLe0 | exact S.cx.lendEq0 | exact S.cx.partLe (by assumption) | exact S.cx.partEq (by assumption) | refine ⟨?_, ?_⟩)), (by repeat' (first | exact trivial | exact rfl | exact Nat.le_refl _ | exact S.cx.giveEq | exact S.cx.lendLe (by assumption) | exact S.cx.lendEq (by assumption) | exact S.cx.lendLe0 | exact S.cx.lendEq0 | exact S.cx.partLe (by assumption) | exact S.cx.partEq (by assumption) | refine ⟨?_, ?_⟩))⟩ rfl (fun hok => ?_) (fun hok => ?_) <;> cbv
  rotate_left
  · exact Done.no (fun e => hok e.1)
  refine ACall.int (dp := false) (SoundM.known (e := (list.length : Int)) (sizeAfter_c S list) (fun n h => by omega)) ⟨rfl, (by repeat' (first | exact trivial | exact rfl | exact Nat.le_refl _ | exact S.cx.giveEq | exact S.cx.lendLe (by assumption) | exact S.cx.lendEq (by assumption) | exact S.cx.lendLe0 | exact S.cx.lendEq0 | exact S.cx.partLe (by assumption) | exact S.cx.partEq (by assumption) | refine ⟨?_, ?_⟩)), (by repeat' (first | exact trivial | exact rfl | exact Nat.le_refl _ | exact S.cx.giveEq | exact S.cx.lendLe (by assumption) | exact S.cx.lendEq (by assumption) | exact S.cx.lendLe0 | exact S.cx.lendEq0 | exact S.cx.partLe (by assumption) | exact S.cx.partEq (by assumption) | refine ⟨?_, ?_⟩))⟩ rfl (fun N hN => ?_); cbv
  refine ACall.int (dp := false) (SoundM.known (e := (usedN used : Int)) (used_c S ages used) (fun n h => by omega)) ⟨rfl, (by repeat' (first | exact trivial | exact rfl | exact Nat.le_refl _ | exact S.cx.giveEq | exact S.cx.lendLe (by assumption) | exact S.cx.lendEq (by assumption) | exact S.cx.lendLe0 | exact S.cx.lendEq0 | exact S.cx.partLe (by assumption) | exact S.cx.partEq (by assumption) | refine ⟨?_, ?_⟩)), (by repeat' (first | exact trivial | exact rfl | exact Nat.le_refl _ | exact S.cx.giveEq | exact S.cx.lendLe (by assumption) | exact S.cx.lendEq (by assumption) | exact S.cx.lendLe0 | exact S.cx.lendEq0 | exact S.cx.partLe (by assumption) | exact S.cx.partEq (by assumption) | refine ⟨?_, ?_⟩))⟩ rfl (fun M hM => ?_); cbv
  refine Test.neq (fun h1 => ?_) (fun h1 => ?_) <;> cbv
  · exact Done.no (fun e => h1 (by rw [hN, hM]; exact congrArg Int.ofNat e.2.1))
  have hlen : list.length = usedN used := by lia
  have hl : used.length = ages.length := hok.2.1
  refine LenR.nat S.cx (fun K hK hm => ?_); cbv
  refine ALoop.goD (ι := Int) (fun i => [(21, .int .i64 i)]) [] (fun i => []) (fun i => 0 ≤ i ∧ Upto (fun j x => AfterOk ⟨ages, used⟩ (list.take j) x) list i) (fun i => (list.length - i).toNat) (0) S.cx.tab S.cx.mix S.eq ?_ ?_ ?_
  · exact ⟨Int.le_refl _, .zero⟩
  · (cbv; refine Less.to [] rfl rfl ?_ ?_ <;> repeat' (first | exact trivial | exact ⟨rfl, rfl⟩ | exact ⟨_, rfl, Nat.zero_le _, rfl⟩ | apply And.intro | exact rfl))
  rintro i ⟨h0, hu⟩
  cbv
  refine Test.lss (fun h2 => ?_) (fun h2 => ?_) <;> cbv
  · refine ElemRo.enc S.cx (fun _ => rfl) (by lia) (by lia) (fun x hx => ?_); cbv
    have hno : ∀ {p : Prop}, (AfterOk ⟨ages, used⟩ (list.take i.toNat) x → p) → AftersOk ⟨⟨ages, used⟩, list⟩ → p := fun hp e => hp (e.get hx)
    refine ACall.testD (dp := false) (isAfter_c S x.node x.func) ⟨rfl, (by repeat' (first | exact trivial | exact rfl | exact Nat.le_refl _ | exact S.cx.giveEq | exact S.cx.lendLe (by assumption) | exact S.cx.lendEq (by assumption) | exact S.cx.lendLe0 | exact S.cx.lendEq0 | exact S.cx.partLe (by assumption) | exact S.cx.partEq (by assumption) | refine ⟨?_, ?_⟩)), (by repeat' (first | exact trivial | exact rfl | exact Nat.le_refl _ | exact S.cx.giveEq | exact S.cx.lendLe (by assumption) | exact S.cx.lendEq (by assumption) | exact S.cx.lendLe0 | exact S.cx.lendEq0 | exact S.cx.partLe (by assumption) | exact S.cx.partEq (by assumption) | refine ⟨?_, ?_⟩))⟩ rfl (fun h3 => ?_) (fun h3 => ?_) <;> cbv
    rotate_left
    · exact Done.no (hno fun e => h3 ⟨e.2.1, e.2.2.1⟩)
    refine ACall.testD (dp := false) (holds_c S ages used x.slot x.age hl) ⟨rfl, (by repeat' (first | exact trivial | exact rfl | exact Nat.le_refl _ | exact S.cx.giveEq | exact S.cx.lendLe (by assumption) | exact S.cx.lendEq (by assumption) | exact S.cx.lendLe0 | exact S.cx.lendEq0 | exact S.cx.partLe (by assumption) | exact S.cx.partEq (by assumption) | refine ⟨?_, ?_⟩)), (by repeat' (first | exact trivial | exact rfl | exact Nat.le_refl _ | exact S.cx.giveEq | exact S.cx.lendLe (by assumption) | exact S.cx.lendEq (by assumption) | exact S.cx.lendLe0 | exact S.cx.lendEq0 | exact S.cx.partLe (by assumption) | exact S.cx.partEq (by assumption) | refine ⟨?_, ?_⟩))⟩ rfl (fun h4 => ?_) (fun h4 => ?_) <;> cbv
    rotate_left
    · exact Done.no (hno fun e => h4 e.1)
    refine ACall.num (dp := false) (afterAt_c S ages used list x.slot x.age) ⟨rfl, (by repeat' (first | exact trivial | exact rfl | exact Nat.le_refl _ | exact S.cx.giveEq | exact S.cx.lendLe (by assumption) | exact S.cx.lendEq (by assumption) | exact S.cx.lendLe0 | exact S.cx.lendEq0 | exact S.cx.partLe (by assumption) | exact S.cx.partEq (by assumption) | refine ⟨?_, ?_⟩)), (by repeat' (first | exact trivial | exact rfl | exact Nat.le_refl _ | exact S.cx.giveEq | exact S.cx.lendLe (by assumption) | exact S.cx.lendEq (by assumption) | exact S.cx.lendLe0 | exact S.cx.lendEq0 | exact S.cx.partLe (by assumption) | exact S.cx.partEq (by assumption) | refine ⟨?_, ?_⟩))⟩ (fun r hr => ?_); cbv
    refine Test.neq (fun h5 => ?_) (fun h5 => ?_) <;> cbv
    · refine Done.no (hno fun e => h5 ?_)
      rcases hr with ⟨hr0, ⟨y, hy, hyx⟩, hru⟩ | ⟨_, hr⟩
      · rcases Int.lt_trichotomy r i with hlt | heq | hgt
        · exact absurd hyx (e.2.2.2 y (mem_take_at hy (by omega)))
        · exact heq
        · exact absurd rfl (hru i.toNat x (by omega) hx)
      · exact absurd rfl (hr x (mem_at hx))
    · have hall : ∀ y ∈ list.take i.toNat, y.handle ≠ x.handle := by
        rcases hr with ⟨hr0, _, hru⟩ | ⟨hr0, _⟩
        · rw [h5] at hru; exact hru.take
        · omega
      refine Arith.go (by lia) (fun i' hi' => ?_); cbv
      refine Again.on i' (by lia) ⟨by lia, hu.next h0 hx ⟨h4, h3.1, h3.2, hall⟩ hi'⟩ ?_
      (cbv; refine Less.to [] rfl rfl ?_ ?_ <;> repeat' (first | exact trivial | exact ⟨rfl, rfl⟩ | exact ⟨_, rfl, Nat.zero_le _, rfl⟩ | apply And.intro | exact rfl))
  · exact Done.yes (.of hok hlen (hu.all (by omega)))

theorem specAftersOk_c (S : Se P A) (ages : List Int) (used : List Bool) (list : List After) : Tests P 80 [.agg (roAfters A ⟨⟨ages, used⟩, list⟩)] (AftersOk ⟨⟨ages, used⟩, list⟩) := by
  have hreal := @AV.real.len
  refine S.cx.by (S.prog ▸ Try.func80) rfl rfl rfl rfl (fun hv ho => ?_)
  cbv
  have hll : list.length ≤ 9223372036854775807 := by
    have h1 := AV.real.len ((hv _ (List.mem_singleton.2 rfl)).agg (v := .ro (A.enc cAfter list)) (by simp [roAfters]))
    rw [S.cx.lenE'] at h1; simp only [maxLen] at h1; omega
  try (refine Drawn.mk ⟨by kernel_rfl, fun _ => ?_⟩)
  refine ACall.testD (dp := false) (specSlotsOk_c S ages used) ⟨rfl, (by repeat' (first | exact trivial | exact rfl | exact Nat.le_refl _ | exact S.cx.giveEq | exact S.cx.lendLe (by assumption) | exact S.cx.lendEq (by assumption) | exact S.cx.lendLe0 | exact S.cx.lendEq0 | exact S.cx.partLe (by assumption) | exact S.cx.partEq (by assumption) | refine ⟨?_, ?_⟩)), (by repeat' (first | exact trivial | exact rfl | exact Nat.le_refl _ | exact S.cx.giveEq | exact S.cx.lendLe (by assumption) | exact S.cx.lendEq (by assumption) | exact S.cx.lendLe0 | exact S.cx.lendEq0 | exact S.cx.partLe (by assumption) | exact S.cx.partEq (by assumption) | refine ⟨?_, ?_⟩))⟩ rfl (fun hok => ?_) (fun hok => ?_) <;> cbv
  rotate_left
  · exact Done.no (fun e => hok e.1)
  refine LenR.natD S.cx hll (fun N hN => ?_); cbv
  refine ACall.int (dp := false) (SoundM.known (e := (usedN used : Int)) (usedIn_c S ages used hok) (fun n h => by omega)) ⟨rfl, (by repeat' (first | exact trivial | exact rfl | exact Nat.le_refl _ | exact S.cx.giveEq | exact S.cx.lendLe (by assumption) | exact S.cx.lendEq (by assumption) | exact S.cx.lendLe0 | exact S.cx.lendEq0 | exact S.cx.partLe (by assumption) | exact S.cx.partEq (by assumption) | refine ⟨?_, ?_⟩)), (by repeat' (first | exact trivial | exact rfl | exact Nat.le_refl _ | exact S.cx.giveEq | exact S.cx.lendLe (by assumption) | exact S.cx.lendEq (by assumption) | exact S.cx.lendLe0 | exact S.cx.lendEq0 | exact S.cx.partLe (by assumption) | exact S.cx.partEq (by assumption) | refine ⟨?_, ?_⟩))⟩ rfl (fun M hM => ?_); cbv
  refine Test.neq (fun h1 => ?_) (fun h1 => ?_) <;> cbv
  · exact Done.no (fun e => h1 (by rw [hM]; have := e.2.1; dsimp only at this; lia))
  have hlen : list.length = usedN used := by lia
  have hl : used.length = ages.length := hok.2.1
  refine ALoop.goD (ι := Int) (fun i => [(3, .int .i64 i)]) [] (fun i => []) (fun i => 0 ≤ i ∧ Upto (fun j x => AfterOk ⟨ages, used⟩ (list.take j) x) list i) (fun i => (list.length - i).toNat) (0) S.cx.tab S.cx.mix S.eq ?_ ?_ ?_
  · exact ⟨Int.le_refl _, .zero⟩
  · (cbv; refine Less.to [] rfl rfl ?_ ?_ <;> repeat' (first | exact trivial | exact ⟨rfl, rfl⟩ | exact ⟨_, rfl, Nat.zero_le _, rfl⟩ | apply And.intro | exact rfl))
  rintro i ⟨h0, hu⟩
  cbv
  refine LenR.nat S.cx (fun K hK hm => ?_); cbv
  refine Test.lss (fun h2 => ?_) (fun h2 => ?_) <;> cbv
  · refine ElemRo.enc S.cx (fun _ => rfl) (by lia) (by lia) (fun x hx => ?_); cbv
    have hno : ∀ {p : Prop}, (AfterOk ⟨ages, used⟩ (list.take i.toNat) x → p) → AftersOk ⟨⟨ages, used⟩, list⟩ → p := fun hp e => hp (e.get hx)
    refine ACall.testD (dp := false) (specHolds_c S ages used x.slot x.age) ⟨rfl, (by repeat' (first | exact trivial | exact rfl | exact Nat.le_refl _ | exact S.cx.giveEq | exact S.cx.lendLe (by assumption) | exact S.cx.lendEq (by assumption) | exact S.cx.lendLe0 | exact S.cx.lendEq0 | exact S.cx.partLe (by assumption) | exact S.cx.partEq (by assumption) | refine ⟨?_, ?_⟩)), (by repeat' (first | exact trivial | exact rfl | exact Nat.le_refl _ | exact S.cx.giveEq | exact S.cx.lendLe (by assumption) | exact S.cx.lendEq (by assumption) | exact S.cx.lendLe0 | exact S.cx.lendEq0 | exact S.cx.partLe (by assumption) | exact S.cx.partEq (by assumption) | refine ⟨?_, ?_⟩))⟩ rfl (fun h4 => ?_) (fun h4 => ?_) <;> cbv
    rotate_left
    · exact Done.no (hno fun e => h4 ⟨hok, e.1⟩)
    refine ACall.testD (dp := false) (l1In_c S x.node _ _) ⟨rfl, (by repeat' (first | exact trivial | exact rfl | exact Nat.le_refl _ | exact S.cx.giveEq | exact S.cx.lendLe (by assumption) | exact S.cx.lendEq (by assumption) | exact S.cx.lendLe0 | exact S.cx.lendEq0 | exact S.cx.partLe (by assumption) | exact S.cx.partEq (by assumption) | refine ⟨?_, ?_⟩)), (by repeat' (first | exact trivial | exact rfl | exact Nat.le_refl _ | exact S.cx.giveEq | exact S.cx.lendLe (by assumption) | exact S.cx.lendEq (by assumption) | exact S.cx.lendLe0 | exact S.cx.lendEq0 | exact S.cx.partLe (by assumption) | exact S.cx.partEq (by assumption) | refine ⟨?_, ?_⟩))⟩ rfl (fun h3 => ?_) (fun h3 => ?_) <;> cbv
    rotate_left
    · exact Done.no (hno fun e => h3 e.2.1)
    refine ACall.testD (dp := false) (l1In_c S x.func _ _) ⟨rfl, (by repeat' (first | exact trivial | exact rfl | exact Nat.le_refl _ | exact S.cx.giveEq | exact S.cx.lendLe (by assumption) | exact S.cx.lendEq (by assumption) | exact S.cx.lendLe0 | exact S.cx.lendEq0 | exact S.cx.partLe (by assumption) | exact S.cx.partEq (by assumption) | refine ⟨?_, ?_⟩)), (by repeat' (first | exact trivial | exact rfl | exact Nat.le_refl _ | exact S.cx.giveEq | exact S.cx.lendLe (by assumption) | exact S.cx.lendEq (by assumption) | exact S.cx.lendLe0 | exact S.cx.lendEq0 | exact S.cx.partLe (by assumption) | exact S.cx.partEq (by assumption) | refine ⟨?_, ?_⟩))⟩ rfl (fun h3' => ?_) (fun h3' => ?_) <;> cbv
    rotate_left
    · exact Done.no (hno fun e => h3' e.2.2.1)
    refine ALoop.goD (ι := Int) (fun i => [(5, .int .i64 i)]) [] (fun i => []) (fun i => 0 ≤ i ∧ Upto (fun _ y => y.handle ≠ x.handle) list i) (fun i => (list.length - i).toNat) (0) S.cx.tab S.cx.mix S.eq ?_ ?_ ?_
    · exact ⟨Int.le_refl _, .zero⟩
    · (cbv; refine Less.to [] rfl rfl ?_ ?_ <;> repeat' (first | exact trivial | exact ⟨rfl, rfl⟩ | exact ⟨_, rfl, Nat.zero_le _, rfl⟩ | apply And.intro | exact rfl))
    intro k hk
    have hk0 : 0 ≤ k := hk.1
    have hku : Upto (fun _ y => y.handle ≠ x.handle) list k := hk.2
    clear hk
    cbv
    refine Test.lss (fun h5 => ?_) (fun h5 => ?_) <;> cbv
    · try (refine Drawn.mk ⟨by kernel_rfl, fun _ => ?_⟩)
      refine ElemRo.enc S.cx (fun _ => rfl) (by lia) (by lia) (fun y hy => ?_); cbv
      refine ⟨⟨by rw [S.prog]; kernel_rfl⟩, SEq.go (fun h => ?_) (fun h => ?_)⟩ <;> cbv
      · refine Done.no (hno fun e => e.2.2.2 y (mem_take_at hy (by omega)) ?_)
        injection h with h1 h2; injection h1 with _ h1; injection h2 with h2 _; injection h2 with _ h2
        simp [After.handle, h1, h2]
      · refine Arith.go (by lia) (fun k' hk' => ?_); cbv
        refine Again.on k' (by lia) ⟨by lia, hku.next hk0 hy (fun e => h ?_) hk'⟩ ?_
        · injection e with e1 e2
          rw [e1, e2]
        · (cbv; refine Less.to [] rfl rfl ?_ ?_ <;> repeat' (first | exact trivial | exact ⟨rfl, rfl⟩ | exact ⟨_, rfl, Nat.zero_le _, rfl⟩ | apply And.intro | exact rfl))
    · have hall : ∀ y ∈ list.take i.toNat, y.handle ≠ x.handle := fun y hy => Upto.take (i := i) (p := fun y : After => y.handle ≠ x.handle) (fun j z hj hz => hku j z (by omega) hz) y hy
      refine Arith.go (by lia) (fun i' hi' => ?_); cbv
      refine Again.on i' (by lia) ⟨by lia, hu.next h0 hx ⟨h4.2, h3, h3', hall⟩ hi'⟩ ?_
      (cbv; refine Less.to [] rfl rfl ?_ ?_ <;> repeat' (first | exact trivial | exact ⟨rfl, rfl⟩ | exact ⟨_, rfl, Nat.zero_le _, rfl⟩ | apply And.intro | exact rfl))
  · exact Done.yes (.of hok hlen (hu.all (by omega)))

def rA (A : Sy) (x : Afters) : AV := .agg (ownAfters A x)

theorem clonedAfters_c (S : Se P A) (ages : List Int) (used : List Bool) (list : List After) (h1 : ages.length ≤ 4294967296) (h2 : used.length ≤ 4294967296) (h3 : list.length ≤ 4294967296) : Is1 P 85 [.agg (roAfters A ⟨⟨ages, used⟩, list⟩)] (rA A ⟨⟨ages, used⟩, list⟩) := by
  refine S.cx.by (S.prog ▸ Try.func85) rfl rfl rfl rfl (fun hv ho => ?_)
  cbv
  try (refine Drawn.mk ⟨by kernel_rfl, fun _ => ?_⟩)
  refine ACall.valN (r := rS A) (os := fun _ => []) (dp := false) S.cx (clonedSlots_c S ages used h1 h2) ⟨rfl, (by repeat' (first | exact trivial | exact rfl | exact Nat.le_refl _ | exact S.cx.giveEq | exact S.cx.lendLe (by assumption) | exact S.cx.lendEq (by assumption) | exact S.cx.lendLe0 | exact S.cx.lendEq0 | exact S.cx.partLe (by assumption) | exact S.cx.partEq (by assumption) | refine ⟨?_, ?_⟩)), (by repeat' (first | exact trivial | exact rfl | exact Nat.le_refl _ | exact S.cx.giveEq | exact S.cx.lendLe (by assumption) | exact S.cx.lendEq (by assumption) | exact S.cx.lendLe0 | exact S.cx.lendEq0 | exact S.cx.partLe (by assumption) | exact S.cx.partEq (by assumption) | refine ⟨?_, ?_⟩))⟩ rfl (fun ln hln x hx => ⟨rfl, ?_⟩)
  obtain ⟨ages', used'⟩ := x
  cases hx
  cbv
  have hN := hln cInt64 ages
  generalize ln (A.enc cInt64 ages) = N at hN ⊢
  have hM := hln cBool used
  generalize ln (A.enc cBool used) = M at hM ⊢
  refine ACall.valN (r := rAfter A) (os := fun _ => []) (dp := false) S.cx (cloneAfter_c S list h3) ⟨rfl, (by repeat' (first | exact trivial | exact rfl | exact Nat.le_refl _ | exact S.cx.giveEq | exact S.cx.lendLe (by assumption) | exact S.cx.lendEq (by assumption) | exact S.cx.lendLe0 | exact S.cx.lendEq0 | exact S.cx.partLe (by assumption) | exact S.cx.partEq (by assumption) | refine ⟨?_, ?_⟩)), (by repeat' (first | exact trivial | exact rfl | exact Nat.le_refl _ | exact S.cx.giveEq | exact S.cx.lendLe (by assumption) | exact S.cx.lendEq (by assumption) | exact S.cx.lendLe0 | exact S.cx.lendEq0 | exact S.cx.partLe (by assumption) | exact S.cx.partEq (by assumption) | refine ⟨?_, ?_⟩))⟩ rfl (fun ln hln l' hx => ⟨rfl, ?_⟩)
  cases hx
  cbv
  have hK := hln cAfter list
  generalize ln (A.enc cAfter list) = K at hK ⊢
  exact Done.is (r := rA A) (x := ⟨⟨ages, used⟩, list⟩) (by repeat' (first | exact trivial | exact rfl | exact resOwn S.cx rfl (by assumption) | exact resOwn S.cx rfl (S.cx.lenE _ _) | exact resOwn1 S.cx rfl (by assumption) | exact S.cx.enc _ [] | refine ⟨?_, ?_⟩)) rfl (rfl)

theorem l8Copy_c (S : Se P A) (ages : List Int) (used : List Bool) (list : List After) (h1 : ages.length ≤ 4294967296) (h2 : used.length ≤ 4294967296) (h3 : list.length ≤ 4294967296) : Is1 P 81 [.agg (roAfters A ⟨⟨ages, used⟩, list⟩)] (rA A ⟨⟨ages, used⟩, list⟩) := by
  refine S.cx.by (S.prog ▸ Try.func81) rfl rfl rfl rfl (fun hv ho => ?_)
  cbv
  try (refine Drawn.mk ⟨by kernel_rfl, fun _ => ?_⟩)
  refine ACall.valN (r := rS A) (os := fun _ => []) (dp := false) S.cx (l1CopySlots_c S ages used h1 h2) ⟨rfl, (by repeat' (first | exact trivial | exact rfl | exact Nat.le_refl _ | exact S.cx.giveEq | exact S.cx.lendLe (by assumption) | exact S.cx.lendEq (by assumption) | exact S.cx.lendLe0 | exact S.cx.lendEq0 | exact S.cx.partLe (by assumption) | exact S.cx.partEq (by assumption) | refine ⟨?_, ?_⟩)), (by repeat' (first | exact trivial | exact rfl | exact Nat.le_refl _ | exact S.cx.giveEq | exact S.cx.lendLe (by assumption) | exact S.cx.lendEq (by assumption) | exact S.cx.lendLe0 | exact S.cx.lendEq0 | exact S.cx.partLe (by assumption) | exact S.cx.partEq (by assumption) | refine ⟨?_, ?_⟩))⟩ rfl (fun ln hln x hx => ⟨rfl, ?_⟩)
  obtain ⟨ages', used'⟩ := x
  cases hx
  cbv
  have hN := hln cInt64 ages
  generalize ln (A.enc cInt64 ages) = N at hN ⊢
  have hM := hln cBool used
  generalize ln (A.enc cBool used) = M at hM ⊢
  refine AppNew.enc S.cx plainAfter (.inr (.inr trivial)) (fun _ => rfl) (by simp only [maxBytes]; omega) (fun n hn => ?_); cbv
  exact Done.is (r := rA A) (x := ⟨⟨ages, used⟩, list⟩) (by repeat' (first | exact trivial | exact rfl | exact resOwn S.cx rfl (by assumption) | exact resOwn S.cx rfl (S.cx.lenE _ _) | exact resOwn1 S.cx rfl (by assumption) | exact S.cx.enc _ [] | refine ⟨?_, ?_⟩)) rfl (rfl)

end Go.Proofs.Ytmbckmfihcojoaa.AM

namespace Go.Proofs.Ytmbckmfihcojoaa.AM
open Go Go.Proofs

set_option maxRecDepth 100000
set_option maxHeartbeats 4000000
set_option linter.unusedVariables false
set_option linter.unusedSimpArgs false

variable {P : Program} {A : Sy}

/-- Up to a place the elements are turned. -/
def MapTo {α : Type} (q : α → α) (l m : List α) (i : Int) : Prop := ∀ j : Nat, m[j]? = (l[j]?).map fun x => if (j : Int) < i then q x else x

theorem MapTo.zero {α : Type} {q : α → α} {l : List α} : MapTo q l l 0 := fun j => by
  have : ¬ ((j : Int) < 0) := by omega
  simp [this]
theorem MapTo.len {α : Type} {q : α → α} {l m : List α} {i : Int} (h : MapTo q l m i) : m.length = l.length := by
  have h1 : m[l.length]? = none := (h l.length).trans (by rw [List.getElem?_eq_none (Nat.le_refl _)]; rfl)
  have h2 := Option.map_eq_none_iff.1 ((h m.length).symm.trans (List.getElem?_eq_none (Nat.le_refl _)))
  exact Nat.le_antisymm (List.getElem?_eq_none_iff.1 h1) (List.getElem?_eq_none_iff.1 h2)
theorem MapTo.get {α : Type} {q : α → α} {l m : List α} {i : Int} {x : α} (h : MapTo q l m i) (h0 : 0 ≤ i) (hx : l[i.toNat]? = some x) : m[i.toNat]? = some x := by
  rw [h i.toNat, hx, Option.map_some, if_neg (by omega)]
theorem MapTo.next {α : Type} {q : α → α} {l m m' : List α} {i i' : Int} {x : α} (h : MapTo q l m i) (h0 : 0 ≤ i) (hx : l[i.toNat]? = some x) (hm : m' = m.set i.toNat (q x)) (hi : i' = i + 1) : MapTo q l m' i' := fun j => by
  have hl := h.len
  have hlt := lt_of_get hx
  rw [hm]
  by_cases hj : i.toNat = j
  · subst hj
    rw [List.getElem?_set_self (by omega), hx, Option.map_some, if_pos (by omega)]
  · rw [List.getElem?_set_ne hj, h j]
    congr 1
    funext y
    by_cases h1 : (j : Int) < i
    · rw [if_pos h1, if_pos (by omega)]
    · rw [if_neg h1, if_neg (by omega)]
theorem MapTo.skip {α : Type} {q : α → α} {l m : List α} {i i' : Int} {x : α} (h : MapTo q l m i) (h0 : 0 ≤ i) (hx : l[i.toNat]? = some x) (hq : q x = x) (hi : i' = i + 1) : MapTo q l m i' := by
  refine h.next h0 hx ?_ hi
  rw [hq]
  refine List.ext_getElem? fun j => ?_
  by_cases hj : i.toNat = j
  · subst hj
    rw [h.get h0 hx]
    have : i.toNat < m.length := by rw [h.len]; exact lt_of_get hx
    simp [this]
  · rw [List.getElem?_set_ne hj]
theorem MapTo.done {α : Type} {q : α → α} {l m : List α} {i : Int} (h : MapTo q l m i) (hi : (l.length : Int) ≤ i) : m = l.map q := by
  refine List.ext_getElem? fun j => ?_
  rw [h j, List.getElem?_map]
  cases hx : l[j]? with
  | none => rfl
  | some x =>
    have := lt_of_get hx
    rw [Option.map_some, Option.map_some, if_pos (by omega)]

def queueIf (node : Int) (x : After) : After := if x.node = node then { x with queued := true } else x
def QueuedBy (a : Afters) (node : Int) : Afters := if AftersOk a then { a with list := a.list.map (queueIf node) } else afters0
def oA (A : Sy) (x : Afters) : List (Option Obj) := [some (.box (ownAfters A x))]

theorem queue_c (S : Se P A) (ages : List Int) (used : List Bool) (list : List After) (node : Int) : SoundM P 86 false [.ptr 1000 0 0, .int .i64 node] [.box (ownAfters A ⟨⟨ages, used⟩, list⟩)]
    (fun v os => v = .tup [] ∧ os = oA A ⟨⟨ages, used⟩, list.map (queueIf node)⟩) := by
  refine S.cx.byN (S.prog ▸ Try.func86) rfl rfl rfl rfl (fun ln hln hv ho => ?_)
  cbv
  have hN := hln cInt64 ages
  generalize ln (A.enc cInt64 ages) = N at hN ⊢
  have hM := hln cBool used
  generalize ln (A.enc cBool used) = M at hM ⊢
  have hK := hln cAfter list
  generalize ln (A.enc cAfter list) = K at hK ⊢
  refine Len.nat (fun L hL hmx => ?_); cbv
  refine ALoop.goS (ι := Int × List After) (fun i => [(10, .int .i64 i.1)]) [1003] (fun i => [(1003, .arr 5 true (A.enc cAfter i.2))]) (fun i => 0 ≤ i.1 ∧ MapTo (queueIf node) list i.2 i.1) (fun i => (list.length - i.1).toNat) (0, list) S.cx.tab S.cx.mix S.eq ?_ ?_ ?_
  · exact ⟨Int.le_refl _, .zero⟩
  · (cbv; refine Less.to [] rfl rfl ?_ ?_ <;> repeat' (first | exact trivial | exact ⟨rfl, rfl⟩ | exact ⟨_, rfl, Nat.zero_le _, rfl⟩ | apply And.intro | exact rfl))
  rintro ⟨i, m⟩ ⟨h0, hm⟩
  dsimp only at h0 hm
  have hml := hm.len
  refine Rnd.mk ?_; cbv
  refine Test.lss (fun h => ?_) (fun h => ?_) <;> cbv
  · obtain ⟨x, hx⟩ : ∃ x, list[i.toNat]? = some x := get_of_lt (by lia)
    have hmx2 := hm.get h0 hx
    refine ElemRef.go rfl h0 (by lia) (by rw [S.cx.lenE']; lia) (fun row hrow => ?_); cbv
    have hr : row = i.toNat := by omega
    refine Row.enc S.cx (by lia) (fun y hy => ?_)
    obtain rfl : y = x := by rw [hr, hmx2] at hy; exact (Option.some.inj hy).symm
    cbv
    refine Test.eql (fun h2 => ?_) (fun h2 => ?_) <;> cbv
    · refine ElemRef.go rfl h0 (by lia) (by rw [S.cx.lenE']; lia) (fun row2 hrow2 => ?_); cbv
      have hr2 : row2 = i.toNat := by omega
      refine RowSet.enc S.cx y { y with queued := true } (by rw [hr2]; exact hmx2) rfl (by rw [len_cAfter]; decide) rfl (fun m' hm' => ?_); cbv
      refine Arith.go (by lia) (fun i' hi' => ?_); cbv
      refine Again.on (i', m') (by dsimp only; lia) ⟨by dsimp only; lia, hm.next h0 hx (by rw [hm', hr2, queueIf, if_pos h2]) hi'⟩ ?_
      (cbv; refine Less.to [] rfl rfl ?_ ?_ <;> repeat' (first | exact trivial | exact ⟨rfl, rfl⟩ | exact ⟨_, rfl, Nat.zero_le _, rfl⟩ | apply And.intro | exact rfl))
    · refine Arith.go (by lia) (fun i' hi' => ?_); cbv
      refine Again.on (i', m) (by dsimp only; lia) ⟨by dsimp only; lia, hm.skip h0 hx (by rw [queueIf, if_neg h2]) hi'⟩ ?_
      (cbv; refine Less.to [] rfl rfl ?_ ?_ <;> repeat' (first | exact trivial | exact ⟨rfl, rfl⟩ | exact ⟨_, rfl, Nat.zero_le _, rfl⟩ | apply And.intro | exact rfl))
  · have hall := hm.done (i := i) (by lia)
    have hK' : K = m.length := by rw [hK, hml]
    refine Done.to (.tup []) (oA A ⟨⟨ages, used⟩, m⟩) rfl (by repeat' (first | exact trivial | exact rfl | exact resOwn S.cx rfl (by assumption) | exact resOwn S.cx rfl (S.cx.lenE _ _) | exact resOwn1 S.cx rfl (by assumption) | exact S.cx.enc _ [] | refine ⟨?_, ?_⟩)) (by repeat' (first | exact trivial | exact rfl | exact resOwn S.cx rfl (by assumption) | exact resOwn S.cx rfl (S.cx.lenE _ _) | exact resOwn1 S.cx rfl (by assumption) | exact S.cx.enc _ [] | refine ⟨?_, ?_⟩)) ⟨rfl, by rw [hall]⟩

theorem implQueuedBy_c (S : Se P A) (ages : List Int) (used : List Bool) (list : List After) (node : Int) : Is1 P 28 [.agg (roAfters A ⟨⟨ages, used⟩, list⟩), .int .i64 node] (rA A (QueuedBy ⟨⟨ages, used⟩, list⟩ node)) := by
  refine S.cx.by (S.prog ▸ Try.func28) rfl rfl rfl rfl (fun hv ho => ?_)
  cbv
  refine ACall.testD (dp := false) (implAftersOk_c S ages used list) ⟨rfl, (by repeat' (first | exact trivial | exact rfl | exact Nat.le_refl _ | exact S.cx.giveEq | exact S.cx.lendLe (by assumption) | exact S.cx.lendEq (by assumption) | exact S.cx.lendLe0 | exact S.cx.lendEq0 | exact S.cx.partLe (by assumption) | exact S.cx.partEq (by assumption) | refine ⟨?_, ?_⟩)), (by repeat' (first | exact trivial | exact rfl | exact Nat.le_refl _ | exact S.cx.giveEq | exact S.cx.lendLe (by assumption) | exact S.cx.lendEq (by assumption) | exact S.cx.lendLe0 | exact S.cx.lendEq0 | exact S.cx.partLe (by assumption) | exact S.cx.partEq (by assumption) | refine ⟨?_, ?_⟩))⟩ rfl (fun hok => ?_) (fun hok => ?_) <;> cbv
  rotate_left
  · exact Done.is (r := rA A) (x := afters0) (by repeat' (first | exact trivial | exact rfl | exact resOwn S.cx rfl (by assumption) | exact resOwn S.cx rfl (S.cx.lenE _ _) | exact resOwn1 S.cx rfl (by assumption) | exact S.cx.enc _ [] | refine ⟨?_, ?_⟩)) rfl (if_neg hok)
  have b1 : ages.length ≤ 64 := hok.1.1.2
  have b2 : used.length = ages.length := hok.1.2.1
  have b3 : list.length = usedN used := hok.2.1
  have b4 := usedN_le used
  have b5 : ages.length ≤ 4294967296 := by omega
  have b6 : used.length ≤ 4294967296 := by omega
  have b7 : list.length ≤ 4294967296 := by omega
  refine ACall.valN (r := rA A) (os := fun _ => []) (dp := false) S.cx (clonedAfters_c S ages used list b5 b6 b7) ⟨rfl, (by repeat' (first | exact trivial | exact rfl | exact Nat.le_refl _ | exact S.cx.giveEq | exact S.cx.lendLe (by assumption) | exact S.cx.lendEq (by assumption) | exact S.cx.lendLe0 | exact S.cx.lendEq0 | exact S.cx.partLe (by assumption) | exact S.cx.partEq (by assumption) | refine ⟨?_, ?_⟩)), (by repeat' (first | exact trivial | exact rfl | exact Nat.le_refl _ | exact S.cx.giveEq | exact S.cx.lendLe (by assumption) | exact S.cx.lendEq (by assumption) | exact S.cx.lendLe0 | exact S.cx.lendEq0 | exact S.cx.partLe (by assumption) | exact S.cx.partEq (by assumption) | refine ⟨?_, ?_⟩))⟩ rfl (fun ln hln x hx => ⟨rfl, ?_⟩)
  obtain ⟨⟨ages', used'⟩, list'⟩ := x
  cases hx
  cbv
  have hN := hln cInt64 ages
  generalize ln (A.enc cInt64 ages) = N at hN ⊢
  have hM := hln cBool used
  generalize ln (A.enc cBool used) = M at hM ⊢
  have hK := hln cAfter list
  generalize ln (A.enc cAfter list) = K at hK ⊢
  refine ACall.valN (r := fun _ => .tup []) (os := oA A) (e := ⟨⟨ages, used⟩, list.map (queueIf node)⟩) (dp := false) S.cx (queue_c S ages used list node) ⟨rfl, (by repeat' (first | exact trivial | exact rfl | exact Nat.le_refl _ | exact S.cx.giveEq | exact S.cx.lendLe (by assumption) | exact S.cx.lendEq (by assumption) | exact S.cx.lendLe0 | exact S.cx.lendEq0 | exact S.cx.partLe (by assumption) | exact S.cx.partEq (by assumption) | refine ⟨?_, ?_⟩)), (by repeat' (first | exact trivial | exact rfl | exact Nat.le_refl _ | exact S.cx.giveEq | exact S.cx.lendLe (by assumption) | exact S.cx.lendEq (by assumption) | exact S.cx.lendLe0 | exact S.cx.lendEq0 | exact S.cx.partLe (by assumption) | exact S.cx.partEq (by assumption) | refine ⟨?_, ?_⟩))⟩ rfl (fun ln hln x hx => ⟨rfl, ?_⟩)
  obtain ⟨⟨ages2, used2⟩, list2⟩ := x
  cbv
  have hN2 := hln cInt64 ages2
  generalize ln (A.enc cInt64 ages2) = N2 at hN2 ⊢
  have hM2 := hln cBool used2
  generalize ln (A.enc cBool used2) = M2 at hM2 ⊢
  have hK2 := hln cAfter list2
  generalize ln (A.enc cAfter list2) = K2 at hK2 ⊢
  exact Done.is (r := rA A) (x := ⟨⟨ages2, used2⟩, list2⟩) (by repeat' (first | exact trivial | exact rfl | exact resOwn S.cx rfl (by assumption) | exact resOwn S.cx rfl (S.cx.lenE _ _) | exact resOwn1 S.cx rfl (by assumption) | exact S.cx.enc _ [] | refine ⟨?_, ?_⟩)) rfl ((if_pos hok).trans hx.symm)

theorem specQueuedBy_c (S : Se P A) (ages : List Int) (used : List Bool) (list : List After) (node : Int) : Is1 P 26 [.agg (roAfters A ⟨⟨ages, used⟩, list⟩), .int .i64 node] (rA A (QueuedBy ⟨⟨ages, used⟩, list⟩ node)) := by
  refine S.cx.by (S.prog ▸ Try.func26) rfl rfl rfl rfl (fun hv ho => ?_)
  cbv
  refine ACall.testD (dp := false) (specAftersOk_c S ages used list) ⟨rfl, (by repeat' (first | exact trivial | exact rfl | exact Nat.le_refl _ | exact S.cx.giveEq | exact S.cx.lendLe (by assumption) | exact S.cx.lendEq (by assumption) | exact S.cx.lendLe0 | exact S.cx.lendEq0 | exact S.cx.partLe (by assumption) | exact S.cx.partEq (by assumption) | refine ⟨?_, ?_⟩)), (by repeat' (first | exact trivial | exact rfl | exact Nat.le_refl _ | exact S.cx.giveEq | exact S.cx.lendLe (by assumption) | exact S.cx.lendEq (by assumption) | exact S.cx.lendLe0 | exact S.cx.lendEq0 | exact S.cx.partLe (by assumption) | exact S.cx.partEq (by assumption) | refine ⟨?_, ?_⟩))⟩ rfl (fun hok => ?_) (fun hok => ?_) <;> cbv
  rotate_left
  · exact Done.is (r := rA A) (x := afters0) (by repeat' (first | exact trivial | exact rfl | exact resOwn S.cx rfl (by assumption) | exact resOwn S.cx rfl (S.cx.lenE _ _) | exact resOwn1 S.cx rfl (by assumption) | exact S.cx.enc _ [] | refine ⟨?_, ?_⟩)) rfl (if_neg hok)
  have b1 : ages.length ≤ 64 := hok.1.1.2
  have b2 : used.length = ages.length := hok.1.2.1
  have b3 : list.length = usedN used := hok.2.1
  have b4 := usedN_le used
  have b5 : ages.length ≤ 4294967296 := by omega
  have b6 : used.length ≤ 4294967296 := by omega
  have b7 : list.length ≤ 4294967296 := by omega
  refine ACall.valN (r := rA A) (os := fun _ => []) (dp := false) S.cx (l8Copy_c S ages used list b5 b6 b7) ⟨rfl, (by repeat' (first | exact trivial | exact rfl | exact Nat.le_refl _ | exact S.cx.giveEq | exact S.cx.lendLe (by assumption) | exact S.cx.lendEq (by assumption) | exact S.cx.lendLe0 | exact S.cx.lendEq0 | exact S.cx.partLe (by assumption) | exact S.cx.partEq (by assumption) | refine ⟨?_, ?_⟩)), (by repeat' (first | exact trivial | exact rfl | exact Nat.le_refl _ | exact S.cx.giveEq | exact S.cx.lendLe (by assumption) | exact S.cx.lendEq (by assumption) | exact S.cx.lendLe0 | exact S.cx.lendEq0 | exact S.cx.partLe (by assumption) | exact S.cx.partEq (by assumption) | refine ⟨?_, ?_⟩))⟩ rfl (fun ln hln x hx => ⟨rfl, ?_⟩)
  obtain ⟨⟨ages', used'⟩, list'⟩ := x
  cases hx
  cbv
  have hN := hln cInt64 ages
  generalize ln (A.enc cInt64 ages) = N at hN ⊢
  have hM := hln cBool used
  generalize ln (A.enc cBool used) = M at hM ⊢
  have hK := hln cAfter list
  generalize ln (A.enc cAfter list) = K at hK ⊢
  refine ALoop.goS (ι := Int × List After) (fun i => [(6, .int .i64 i.1)]) [4010002] (fun i => [(4010002, .arr 5 true (A.enc cAfter i.2))]) (fun i => 0 ≤ i.1 ∧ MapTo (queueIf node) list i.2 i.1) (fun i => (list.length - i.1).toNat) (0, list) S.cx.tab S.cx.mix S.eq ?_ ?_ ?_
  · exact ⟨Int.le_refl _, .zero⟩
  · (cbv; refine Less.to [] rfl rfl ?_ ?_ <;> repeat' (first | exact trivial | exact ⟨rfl, rfl⟩ | exact ⟨_, rfl, Nat.zero_le _, rfl⟩ | apply And.intro | exact rfl))
  rintro ⟨i, m⟩ ⟨h0, hm⟩
  dsimp only at h0 hm
  have hml := hm.len
  refine Rnd.mk ?_; cbv
  refine Len.nat (fun L hL hmx => ?_); cbv
  refine Test.lss (fun h => ?_) (fun h => ?_) <;> cbv
  · obtain ⟨x, hx⟩ : ∃ x, list[i.toNat]? = some x := get_of_lt (by lia)
    have hmx2 := hm.get h0 hx
    refine ElemRef.go rfl h0 (by lia) (by rw [S.cx.lenE']; lia) (fun row hrow => ?_); cbv
    have hr : row = i.toNat := by omega
    refine Row.enc S.cx (by lia) (fun y hy => ?_)
    obtain rfl : y = x := by rw [hr, hmx2] at hy; exact (Option.some.inj hy).symm
    cbv
    refine Test.eql (fun h2 => ?_) (fun h2 => ?_) <;> cbv
    · refine ElemRef.go rfl h0 (by lia) (by rw [S.cx.lenE']; lia) (fun row2 hrow2 => ?_); cbv
      have hr2 : row2 = i.toNat := by omega
      refine RowSet.enc S.cx y { y with queued := true } (by rw [hr2]; exact hmx2) rfl (by rw [len_cAfter]; decide) rfl (fun m' hm' => ?_); cbv
      refine Arith.go (by lia) (fun i' hi' => ?_); cbv
      refine Again.on (i', m') (by dsimp only; lia) ⟨by dsimp only; lia, hm.next h0 hx (by rw [hm', hr2, queueIf, if_pos h2]) hi'⟩ ?_
      (cbv; refine Less.to [] rfl rfl ?_ ?_ <;> repeat' (first | exact trivial | exact ⟨rfl, rfl⟩ | exact ⟨_, rfl, Nat.zero_le _, rfl⟩ | apply And.intro | exact rfl))
    · refine Arith.go (by lia) (fun i' hi' => ?_); cbv
      refine Again.on (i', m) (by dsimp only; lia) ⟨by dsimp only; lia, hm.skip h0 hx (by rw [queueIf, if_neg h2]) hi'⟩ ?_
      (cbv; refine Less.to [] rfl rfl ?_ ?_ <;> repeat' (first | exact trivial | exact ⟨rfl, rfl⟩ | exact ⟨_, rfl, Nat.zero_le _, rfl⟩ | apply And.intro | exact rfl))
  · have hall := hm.done (i := i) (by lia)
    have hK' : K = m.length := by rw [hK, hml]
    exact Done.is (r := rA A) (x := ⟨⟨ages, used⟩, m⟩) (by repeat' (first | exact trivial | exact rfl | exact resOwn S.cx rfl (by assumption) | exact resOwn S.cx rfl (S.cx.lenE _ _) | exact resOwn1 S.cx rfl (by assumption) | exact S.cx.enc _ [] | refine ⟨?_, ?_⟩)) rfl ((if_pos hok).trans (by rw [hall]))

end Go.Proofs.Ytmbckmfihcojoaa.AM

namespace Go.Proofs.Ytmbckmfihcojoaa.AM
open Go Go.Proofs

set_option maxRecDepth 100000
set_option maxHeartbeats 4000000
set_option linter.unusedVariables false
set_option linter.unusedSimpArgs false

variable {P : Program} {A : Sy}

def Register (a : Afters) (node fn : Int) : Afters × Handle × Bool :=
  if ((0 ≤ node ∧ node ≤ 59) ∧ 0 ≤ fn ∧ fn ≤ 99) ∧ (Take a.slots).2.2 = true then (⟨(Take a.slots).1, a.list ++ [⟨(Take a.slots).2.1.slot, (Take a.slots).2.1.age, node, fn, false⟩]⟩, (Take a.slots).2.1, true) else (a, handle0, false)
def Registered (a : Afters) (node fn : Int) : Afters × Handle × Bool := if AftersOk a then Register a node fn else (afters0, handle0, false)
def rHB3 (x : Afters × Handle × Bool) : AV := .tup [.agg (cHandle x.2.1), .bool x.2.2]
def oA3 (A : Sy) (x : Afters × Handle × Bool) : List (Option Obj) := [some (.box (ownAfters A x.1))]
def rAHB (A : Sy) (x : Afters × Handle × Bool) : AV := .tup [.agg (ownAfters A x.1), .agg (cHandle x.2.1), .bool x.2.2]

theorem take_stay {s : Slots} (h : (Take s).2.2 = false) : Take s = (s, handle0, false) := by
  unfold Take at h ⊢
  split at h
  · cases h
  · rfl
theorem take_len (s : Slots) : (Take s).1.ages.length = s.ages.length ∧ (Take s).1.used.length = s.used.length := by
  unfold Take; split <;> simp

theorem register_c (S : Se P A) (ages : List Int) (used : List Bool) (list : List After) (hl : used.length = ages.length) (hb : list.length ≤ 4294967200) (node fn : Int) : SoundM P 95 false [.ptr 1000 0 0, .int .i64 node, .int .i64 fn] [.box (ownAfters A ⟨⟨ages, used⟩, list⟩)]
    (fun v os => v = rHB3 (Register ⟨⟨ages, used⟩, list⟩ node fn) ∧ os = oA3 A (Register ⟨⟨ages, used⟩, list⟩ node fn)) := by
  refine S.cx.byN (S.prog ▸ Try.func95) rfl rfl rfl rfl (fun ln hln hv ho => ?_)
  cbv
  have hN := hln cInt64 ages
  generalize ln (A.enc cInt64 ages) = N at hN ⊢
  have hM := hln cBool used
  generalize ln (A.enc cBool used) = M at hM ⊢
  have hK := hln cAfter list
  generalize ln (A.enc cAfter list) = K at hK ⊢
  refine ACall.testD (dp := false) (isAfter_c S node fn) ⟨rfl, (by repeat' (first | exact trivial | exact rfl | exact Nat.le_refl _ | exact S.cx.giveEq | exact S.cx.lendLe (by assumption) | exact S.cx.lendEq (by assumption) | exact S.cx.lendLe0 | exact S.cx.lendEq0 | exact S.cx.partLe (by assumption) | exact S.cx.partEq (by assumption) | refine ⟨?_, ?_⟩)), (by repeat' (first | exact trivial | exact rfl | exact Nat.le_refl _ | exact S.cx.giveEq | exact S.cx.lendLe (by assumption) | exact S.cx.lendEq (by assumption) | exact S.cx.lendLe0 | exact S.cx.lendEq0 | exact S.cx.partLe (by assumption) | exact S.cx.partEq (by assumption) | refine ⟨?_, ?_⟩))⟩ rfl (fun h => ?_) (fun h => ?_) <;> cbv
  rotate_left
  · rw [Register, if_neg (fun e => h e.1)]
    exact Done.to (rHB3 (⟨⟨ages, used⟩, list⟩, handle0, false)) (oA3 A (⟨⟨ages, used⟩, list⟩, handle0, false)) rfl (by repeat' (first | exact trivial | exact rfl | exact resOwn S.cx rfl (by assumption) | exact resOwn S.cx rfl (S.cx.lenE _ _) | exact resOwn1 S.cx rfl (by assumption) | exact S.cx.enc _ [] | refine ⟨?_, ?_⟩)) (by repeat' (first | exact trivial | exact rfl | exact resOwn S.cx rfl (by assumption) | exact resOwn S.cx rfl (S.cx.lenE _ _) | exact resOwn1 S.cx rfl (by assumption) | exact S.cx.enc _ [] | refine ⟨?_, ?_⟩)) ⟨rfl, rfl⟩
  refine ACall.valN (r := rHB) (os := oHB A) (dp := false) S.cx (take_c S ages used N M hN hM hl) ⟨rfl, (by repeat' (first | exact trivial | exact rfl | exact Nat.le_refl _ | exact S.cx.giveEq | exact S.cx.lendLe (by assumption) | exact S.cx.lendEq (by assumption) | exact S.cx.lendLe0 | exact S.cx.lendEq0 | exact S.cx.partLe (by assumption) | exact S.cx.partEq (by assumption) | refine ⟨?_, ?_⟩)), (by repeat' (first | exact trivial | exact rfl | exact Nat.le_refl _ | exact S.cx.giveEq | exact S.cx.lendLe (by assumption) | exact S.cx.lendEq (by assumption) | exact S.cx.lendLe0 | exact S.cx.lendEq0 | exact S.cx.partLe (by assumption) | exact S.cx.partEq (by assumption) | refine ⟨?_, ?_⟩))⟩ rfl (fun ln hln x hx => ⟨rfl, ?_⟩)
  obtain ⟨⟨ages', used'⟩, ⟨slot, age⟩, b⟩ := x
  cbv
  have hlen := take_len ⟨ages, used⟩
  have hx2 : Take ⟨ages, used⟩ = (⟨ages', used'⟩, ⟨slot, age⟩, b) := hx.symm
  rw [hx2] at hlen
  dsimp only at hlen
  have hN' : N = ages'.length := by omega
  have hM' : M = used'.length := by omega
  cases b <;> cbv
  · have hst := take_stay (s := ⟨ages, used⟩) (by rw [hx2])
    rw [Register, if_neg (fun e => by have := e.2; dsimp only at this; rw [hx2] at this; cases this)]
    have e := hx2.symm.trans hst
    injection e with e1 e2
    injection e1 with e1 e1'
    injection e2 with e2 _
    injection e2 with e2 e2'
    exact Done.to (rHB3 (⟨⟨ages', used'⟩, list⟩, ⟨slot, age⟩, false)) (oA3 A (⟨⟨ages', used'⟩, list⟩, ⟨slot, age⟩, false)) rfl (by repeat' (first | exact trivial | exact rfl | exact resOwn S.cx rfl (by assumption) | exact resOwn S.cx rfl (S.cx.lenE _ _) | exact resOwn1 S.cx rfl (by assumption) | exact S.cx.enc _ [] | refine ⟨?_, ?_⟩)) (by repeat' (first | exact trivial | exact rfl | exact resOwn S.cx rfl (by assumption) | exact resOwn S.cx rfl (S.cx.lenE _ _) | exact resOwn1 S.cx rfl (by assumption) | exact S.cx.enc _ [] | refine ⟨?_, ?_⟩)) ⟨by rw [e2, e2']; rfl, by rw [e1, e1']; rfl⟩
  try (refine Drawn.mk ⟨by kernel_rfl, fun _ => ?_⟩)
  refine Part.one ?_; cbv
  refine AppRef.push S.cx (⟨slot, age, node, fn, false⟩ : After) (by assumption) rfl rfl plainAfter (fun _ => rfl) (by simp only [maxBytes]; omega) (fun m w hw hml => ?_); cbv
  have hR : Register ⟨⟨ages, used⟩, list⟩ node fn = (⟨⟨ages', used'⟩, w⟩, ⟨slot, age⟩, true) := by rw [Register, if_pos ⟨h, by rw [hx2]⟩, hx2, hw]
  rw [hR]
  exact Done.to (rHB3 (⟨⟨ages', used'⟩, w⟩, ⟨slot, age⟩, true)) (oA3 A (⟨⟨ages', used'⟩, w⟩, ⟨slot, age⟩, true)) rfl (by repeat' (first | exact trivial | exact rfl | exact resOwn S.cx rfl (by assumption) | exact resOwn S.cx rfl (S.cx.lenE _ _) | exact resOwn1 S.cx rfl (by assumption) | exact S.cx.enc _ [] | refine ⟨?_, ?_⟩)) (by repeat' (first | exact trivial | exact rfl | exact resOwn S.cx rfl (by assumption) | exact resOwn S.cx rfl (S.cx.lenE _ _) | exact resOwn1 S.cx rfl (by assumption) | exact S.cx.enc _ [] | refine ⟨?_, ?_⟩)) ⟨rfl, rfl⟩

theorem implRegistered_c (S : Se P A) (ages : List Int) (used : List Bool) (list : List After) (node fn : Int) : Is1 P 33 [.agg (roAfters A ⟨⟨ages, used⟩, list⟩), .int .i64 node, .int .i64 fn] (rAHB A (Registered ⟨⟨ages, used⟩, list⟩ node fn)) := by
  refine S.cx.by (S.prog ▸ Try.func33) rfl rfl rfl rfl (fun hv ho => ?_)
  cbv
  refine ACall.testD (dp := false) (implAftersOk_c S ages used list) ⟨rfl, (by repeat' (first | exact trivial | exact rfl | exact Nat.le_refl _ | exact S.cx.giveEq | exact S.cx.lendLe (by assumption) | exact S.cx.lendEq (by assumption) | exact S.cx.lendLe0 | exact S.cx.lendEq0 | exact S.cx.partLe (by assumption) | exact S.cx.partEq (by assumption) | refine ⟨?_, ?_⟩)), (by repeat' (first | exact trivial | exact rfl | exact Nat.le_refl _ | exact S.cx.giveEq | exact S.cx.lendLe (by assumption) | exact S.cx.lendEq (by assumption) | exact S.cx.lendLe0 | exact S.cx.lendEq0 | exact S.cx.partLe (by assumption) | exact S.cx.partEq (by assumption) | refine ⟨?_, ?_⟩))⟩ rfl (fun hok => ?_) (fun hok => ?_) <;> cbv
  rotate_left
  · exact Done.is (r := rAHB A) (x := (afters0, handle0, false)) (by repeat' (first | exact trivial | exact rfl | exact resOwn S.cx rfl (by assumption) | exact resOwn S.cx rfl (S.cx.lenE _ _) | exact resOwn1 S.cx rfl (by assumption) | exact S.cx.enc _ [] | refine ⟨?_, ?_⟩)) rfl (if_neg hok)
  have b1 : ages.length ≤ 64 := hok.1.1.2
  have b2 : used.length = ages.length := hok.1.2.1
  have b3 : list.length = usedN used := hok.2.1
  have b4 := usedN_le used
  have b5 : ages.length ≤ 4294967296 := by omega
  have b6 : used.length ≤ 4294967296 := by omega
  have b7 : list.length ≤ 4294967296 := by omega
  have b8 : list.length ≤ 4294967200 := by omega
  refine ACall.valN (r := rA A) (os := fun _ => []) (dp := false) S.cx (clonedAfters_c S ages used list b5 b6 b7) ⟨rfl, (by repeat' (first | exact trivial | exact rfl | exact Nat.le_refl _ | exact S.cx.giveEq | exact S.cx.lendLe (by assumption) | exact S.cx.lendEq (by assumption) | exact S.cx.lendLe0 | exact S.cx.lendEq0 | exact S.cx.partLe (by assumption) | exact S.cx.partEq (by assumption) | refine ⟨?_, ?_⟩)), (by repeat' (first | exact trivial | exact rfl | exact Nat.le_refl _ | exact S.cx.giveEq | exact S.cx.lendLe (by assumption) | exact S.cx.lendEq (by assumption) | exact S.cx.lendLe0 | exact S.cx.lendEq0 | exact S.cx.partLe (by assumption) | exact S.cx.partEq (by assumption) | refine ⟨?_, ?_⟩))⟩ rfl (fun ln hln x hx => ⟨rfl, ?_⟩)
  obtain ⟨⟨ages', used'⟩, list'⟩ := x
  cases hx
  cbv
  have hN := hln cInt64 ages
  generalize ln (A.enc cInt64 ages) = N at hN ⊢
  have hM := hln cBool used
  generalize ln (A.enc cBool used) = M at hM ⊢
  have hK := hln cAfter list
  generalize ln (A.enc cAfter list) = K at hK ⊢
  refine ACall.valN (r := rHB3) (os := oA3 A) (dp := false) S.cx (register_c S ages used list b2 b8 node fn) ⟨rfl, (by repeat' (first | exact trivial | exact rfl | exact Nat.le_refl _ | exact S.cx.giveEq | exact S.cx.lendLe (by assumption) | exact S.cx.lendEq (by assumption) | exact S.cx.lendLe0 | exact S.cx.lendEq0 | exact S.cx.partLe (by assumption) | exact S.cx.partEq (by assumption) | refine ⟨?_, ?_⟩)), (by repeat' (first | exact trivial | exact rfl | exact Nat.le_refl _ | exact S.cx.giveEq | exact S.cx.lendLe (by assumption) | exact S.cx.lendEq (by assumption) | exact S.cx.lendLe0 | exact S.cx.lendEq0 | exact S.cx.partLe (by assumption) | exact S.cx.partEq (by assumption) | refine ⟨?_, ?_⟩))⟩ rfl (fun ln hln x hx => ⟨rfl, ?_⟩)
  obtain ⟨⟨⟨ages2, used2⟩, list2⟩, ⟨slot, age⟩, b⟩ := x
  cbv
  have hN2 := hln cInt64 ages2
  generalize ln (A.enc cInt64 ages2) = N2 at hN2 ⊢
  have hM2 := hln cBool used2
  generalize ln (A.enc cBool used2) = M2 at hM2 ⊢
  have hK2 := hln cAfter list2
  generalize ln (A.enc cAfter list2) = K2 at hK2 ⊢
  try (refine Drawn.mk ⟨by kernel_rfl, fun _ => ?_⟩)
  exact Done.is (r := rAHB A) (x := (⟨⟨ages2, used2⟩, list2⟩, ⟨slot, age⟩, b)) (by repeat' (first | exact trivial | exact rfl | exact resOwn S.cx rfl (by assumption) | exact resOwn S.cx rfl (S.cx.lenE _ _) | exact resOwn1 S.cx rfl (by assumption) | exact S.cx.enc _ [] | refine ⟨?_, ?_⟩)) rfl ((if_pos hok).trans hx.symm)

theorem specRegistered_c (S : Se P A) (ages : List Int) (used : List Bool) (list : List After) (node fn : Int) : Is1 P 32 [.agg (roAfters A ⟨⟨ages, used⟩, list⟩), .int .i64 node, .int .i64 fn] (rAHB A (Registered ⟨⟨ages, used⟩, list⟩ node fn)) := by
  refine S.cx.by (S.prog ▸ Try.func32) rfl rfl rfl rfl (fun hv ho => ?_)
  cbv
  refine ACall.testD (dp := false) (specAftersOk_c S ages used list) ⟨rfl, (by repeat' (first | exact trivial | exact rfl | exact Nat.le_refl _ | exact S.cx.giveEq | exact S.cx.lendLe (by assumption) | exact S.cx.lendEq (by assumption) | exact S.cx.lendLe0 | exact S.cx.lendEq0 | exact S.cx.partLe (by assumption) | exact S.cx.partEq (by assumption) | refine ⟨?_, ?_⟩)), (by repeat' (first | exact trivial | exact rfl | exact Nat.le_refl _ | exact S.cx.giveEq | exact S.cx.lendLe (by assumption) | exact S.cx.lendEq (by assumption) | exact S.cx.lendLe0 | exact S.cx.lendEq0 | exact S.cx.partLe (by assumption) | exact S.cx.partEq (by assumption) | refine ⟨?_, ?_⟩))⟩ rfl (fun hok => ?_) (fun hok => ?_) <;> cbv
  rotate_left
  · exact Done.is (r := rAHB A) (x := (afters0, handle0, false)) (by repeat' (first | exact trivial | exact rfl | exact resOwn S.cx rfl (by assumption) | exact resOwn S.cx rfl (S.cx.lenE _ _) | exact resOwn1 S.cx rfl (by assumption) | exact S.cx.enc _ [] | refine ⟨?_, ?_⟩)) rfl (if_neg hok)
  have b1 : ages.length ≤ 64 := hok.1.1.2
  have b2 : used.length = ages.length := hok.1.2.1
  have b3 : list.length = usedN used := hok.2.1
  have b4 := usedN_le used
  have b5 : ages.length ≤ 4294967296 := by omega
  have b6 : used.length ≤ 4294967296 := by omega
  have b7 : list.length ≤ 4294967296 := by omega
  refine ACall.valN (r := rA A) (os := fun _ => []) (dp := false) S.cx (l8Copy_c S ages used list b5 b6 b7) ⟨rfl, (by repeat' (first | exact trivial | exact rfl | exact Nat.le_refl _ | exact S.cx.giveEq | exact S.cx.lendLe (by assumption) | exact S.cx.lendEq (by assumption) | exact S.cx.lendLe0 | exact S.cx.lendEq0 | exact S.cx.partLe (by assumption) | exact S.cx.partEq (by assumption) | refine ⟨?_, ?_⟩)), (by repeat' (first | exact trivial | exact rfl | exact Nat.le_refl _ | exact S.cx.giveEq | exact S.cx.lendLe (by assumption) | exact S.cx.lendEq (by assumption) | exact S.cx.lendLe0 | exact S.cx.lendEq0 | exact S.cx.partLe (by assumption) | exact S.cx.partEq (by assumption) | refine ⟨?_, ?_⟩))⟩ rfl (fun ln hln x hx => ⟨rfl, ?_⟩)
  obtain ⟨⟨ages', used'⟩, list'⟩ := x
  cases hx
  cbv
  have hN := hln cInt64 ages
  generalize ln (A.enc cInt64 ages) = N at hN ⊢
  have hM := hln cBool used
  generalize ln (A.enc cBool used) = M at hM ⊢
  have hK := hln cAfter list
  generalize ln (A.enc cAfter list) = K at hK ⊢
  refine ACall.valN (r := rSHB A) (os := fun _ => []) (dp := false) S.cx (specTaken_c S ages used) ⟨rfl, (by repeat' (first | exact trivial | exact rfl | exact Nat.le_refl _ | exact S.cx.giveEq | exact S.cx.lendLe (by assumption) | exact S.cx.lendEq (by assumption) | exact S.cx.lendLe0 | exact S.cx.lendEq0 | exact S.cx.partLe (by assumption) | exact S.cx.partEq (by assumption) | refine ⟨?_, ?_⟩)), (by repeat' (first | exact trivial | exact rfl | exact Nat.le_refl _ | exact S.cx.giveEq | exact S.cx.lendLe (by assumption) | exact S.cx.lendEq (by assumption) | exact S.cx.lendLe0 | exact S.cx.lendEq0 | exact S.cx.partLe (by assumption) | exact S.cx.partEq (by assumption) | refine ⟨?_, ?_⟩))⟩ rfl (fun ln hln x hx => ⟨rfl, ?_⟩)
  obtain ⟨⟨ages2, used2⟩, ⟨slot, age⟩, b⟩ := x
  cbv
  have hN2 := hln cInt64 ages2
  generalize ln (A.enc cInt64 ages2) = N2 at hN2 ⊢
  have hM2 := hln cBool used2
  generalize ln (A.enc cBool used2) = M2 at hM2 ⊢
  have hx2 : Take ⟨ages, used⟩ = (⟨ages2, used2⟩, ⟨slot, age⟩, b) := (if_pos hok.1).symm.trans hx.symm
  cases b <;> cbv
  · exact Done.is (r := rAHB A) (x := (⟨⟨ages, used⟩, list⟩, handle0, false)) (by repeat' (first | exact trivial | exact rfl | exact resOwn S.cx rfl (by assumption) | exact resOwn S.cx rfl (S.cx.lenE _ _) | exact resOwn1 S.cx rfl (by assumption) | exact S.cx.enc _ [] | refine ⟨?_, ?_⟩)) rfl ((if_pos hok).trans (if_neg (fun e => by have := e.2; dsimp only at this; rw [hx2] at this; cases this)))
  refine ACall.testD (dp := false) (l1In_c S node _ _) ⟨rfl, (by repeat' (first | exact trivial | exact rfl | exact Nat.le_refl _ | exact S.cx.giveEq | exact S.cx.lendLe (by assumption) | exact S.cx.lendEq (by assumption) | exact S.cx.lendLe0 | exact S.cx.lendEq0 | exact S.cx.partLe (by assumption) | exact S.cx.partEq (by assumption) | refine ⟨?_, ?_⟩)), (by repeat' (first | exact trivial | exact rfl | exact Nat.le_refl _ | exact S.cx.giveEq | exact S.cx.lendLe (by assumption) | exact S.cx.lendEq (by assumption) | exact S.cx.lendLe0 | exact S.cx.lendEq0 | exact S.cx.partLe (by assumption) | exact S.cx.partEq (by assumption) | refine ⟨?_, ?_⟩))⟩ rfl (fun h1 => ?_) (fun h1 => ?_) <;> cbv
  rotate_left
  · exact Done.is (r := rAHB A) (x := (⟨⟨ages, used⟩, list⟩, handle0, false)) (by repeat' (first | exact trivial | exact rfl | exact resOwn S.cx rfl (by assumption) | exact resOwn S.cx rfl (S.cx.lenE _ _) | exact resOwn1 S.cx rfl (by assumption) | exact S.cx.enc _ [] | refine ⟨?_, ?_⟩)) rfl ((if_pos hok).trans (if_neg (fun e => h1 e.1.1)))
  refine ACall.testD (dp := false) (l1In_c S fn _ _) ⟨rfl, (by repeat' (first | exact trivial | exact rfl | exact Nat.le_refl _ | exact S.cx.giveEq | exact S.cx.lendLe (by assumption) | exact S.cx.lendEq (by assumption) | exact S.cx.lendLe0 | exact S.cx.lendEq0 | exact S.cx.partLe (by assumption) | exact S.cx.partEq (by assumption) | refine ⟨?_, ?_⟩)), (by repeat' (first | exact trivial | exact rfl | exact Nat.le_refl _ | exact S.cx.giveEq | exact S.cx.lendLe (by assumption) | exact S.cx.lendEq (by assumption) | exact S.cx.lendLe0 | exact S.cx.lendEq0 | exact S.cx.partLe (by assumption) | exact S.cx.partEq (by assumption) | refine ⟨?_, ?_⟩))⟩ rfl (fun h2 => ?_) (fun h2 => ?_) <;> cbv
  rotate_left
  · exact Done.is (r := rAHB A) (x := (⟨⟨ages, used⟩, list⟩, handle0, false)) (by repeat' (first | exact trivial | exact rfl | exact resOwn S.cx rfl (by assumption) | exact resOwn S.cx rfl (S.cx.lenE _ _) | exact resOwn1 S.cx rfl (by assumption) | exact S.cx.enc _ [] | refine ⟨?_, ?_⟩)) rfl ((if_pos hok).trans (if_neg (fun e => h2 e.1.2)))
  refine Part.one ?_; cbv
  refine AppRef.push S.cx (⟨slot, age, node, fn, false⟩ : After) (by assumption) rfl rfl plainAfter (fun _ => rfl) (by simp only [maxBytes]; omega) (fun m w hw hml => ?_); cbv
  try (refine Drawn.mk ⟨by kernel_rfl, fun _ => ?_⟩)
  exact Done.is (r := rAHB A) (x := (⟨⟨ages2, used2⟩, w⟩, ⟨slot, age⟩, true)) (by repeat' (first | exact trivial | exact rfl | exact resOwn S.cx rfl (by assumption) | exact resOwn S.cx rfl (S.cx.lenE _ _) | exact resOwn1 S.cx rfl (by assumption) | exact S.cx.enc _ [] | refine ⟨?_, ?_⟩)) rfl ((if_pos hok).trans ((if_pos ⟨⟨h1, h2⟩, by rw [hx2]⟩).trans (by rw [hx2, hw])))

end Go.Proofs.Ytmbckmfihcojoaa.AM

namespace Go.Proofs.Ytmbckmfihcojoaa.AM
open Go Go.Proofs

set_option maxRecDepth 100000
set_option maxHeartbeats 4000000
set_option linter.unusedVariables false
set_option linter.unusedSimpArgs false

variable {P : Program} {A : Sy}

theorem resPart1 {T : Nat → Option TI} (C : Cx P T A) {al : Bool} {st : St} {p : Bool} {id off n s : Nat} {α : Type} {f : α → List AV} {l m : List α} (hq : lk st.sto id = some (.arr s true (A.enc f l))) (hn : off + n ≤ l.length) (hm : m = (l.drop off).take n) : resOk al st (.ref p id off n) (.own s true (A.enc f m)) := by
  show resCell al st (.ref p id off n) (.own s true (A.enc f m))
  exact resPart C hq hn hm

theorem deleteAtAfter_c (S : Se P A) (l : List After) (i j : Int) (h0 : 0 ≤ i) (hi : i.toNat < l.length) (hj : j = i + 1) (n : Nat) (hn : n = l.length) (hb : l.length ≤ 4294967296) : SoundM P 197 false [.ref false 1000 0 n, .int .i64 i, .int .i64 j] [.arr 5 true (A.enc cAfter l)]
    (fun v os => v = rAfter A (l.eraseIdx i.toNat) ∧ os = [none]) := by
  refine S.cx.by (S.prog ▸ Try.func197) rfl rfl rfl rfl (fun hv ho => ?_)
  cbv
  refine Len.nat (fun N hN hm => ?_); cbv
  refine AOp.slice3 S.cx.tab rfl rfl rfl rfl rfl rfl rfl rfl h0 (by lia) (by lia) (by lia) ?_; cbv
  refine Test.eql (fun h1 => ?_) (fun h1 => ?_) <;> cbv
  · exfalso; lia
  refine Len.nat (fun M hM hm2 => ?_); cbv
  try (refine Drawn.mk ⟨by kernel_rfl, fun _ => ?_⟩)
  refine CutRef.goP rfl (by decide) h0 (by lia) (by rw [S.cx.lenE']; lia) (fun p1 off1 len1 hp1 hoff1 hlen1 => ?_); cbv
  have hp1 : p1 = true := by rw [hp1, S.cx.lenE']; simp; lia
  refine CutRef.go rfl (by lia) (by lia) (by lia) (by rw [S.cx.lenE']; lia) (fun p2 off2 len2 hoff2 hlen2 => ?_); cbv
  refine Part.enc S.cx (by lia) (fun m hm3 => ?_); cbv
  have hml : m.length = l.length - (i.toNat + 1) := by rw [hm3]; simp; lia
  refine AppRef.inPlace S.cx rfl plainAfter (fun _ => rfl) ?_ ?_ (fun k l' hk hl' => ?_)
  · exact .inl hp1
  · lia
  cbv
  have hk2 : k = l.length - 1 := by lia
  have hl2 : l'.length = l.length := by rw [hl']; simp; lia
  have hl3 : l'.take k = l.eraseIdx i.toNat := by
    rw [List.eraseIdx_eq_take_drop_succ, hl', show off1 + len1 = i.toNat by lia]
    have e1 : (l.take i.toNat ++ m).length = k := by simp; lia
    have e2 : (l.take i.toNat ++ m).take k = l.take i.toNat ++ m := List.take_of_length_le (by rw [e1]; exact Nat.le_refl _)
    have e3 : m = l.drop (i.toNat + 1) := by
      rw [hm3, show off2 = i.toNat + 1 by lia]
      exact List.take_of_length_le (by simp; lia)
    rw [List.take_append_of_le_length (by rw [e1]; exact Nat.le_refl _), e2, ← e3]
  refine Len.nat (fun K hK hm4 => ?_); cbv
  refine CutRef.cap rfl (by first | exact hp1 | rfl) (by lia) (by lia) (by rw [S.cx.lenE']; lia) (by rw [S.cx.lenE']; lia) (fun p3 off3 len3 hoff3 hlen3 => ?_); cbv
  refine ⟨⟨rfl⟩, Clear.enc S.cx (⟨0, 0, 0, 0, false⟩ : After) rfl rfl ?_ (fun l4 hl4 => ?_)⟩
  · lia
  cbv
  have hl5 : l4.take k = l'.take k := by
    rw [hl4, List.append_assoc, List.take_append_of_le_length (by simp; lia), List.take_take]; congr 1; lia
  refine Done.to (rAfter A (l.eraseIdx i.toNat)) [none] rfl ?_ trivial ⟨rfl, rfl⟩
  have h9 : 0 + k ≤ l4.length := by rw [hl4]; simp; lia
  refine resPart1 S.cx (f := cAfter) (l := l4) rfl ?_ ?_
  · lia
  · rw [← hl3, ← hl5, show off1 = 0 by lia]
    rfl

/-- Without the function at a place, if its slot can be freed. -/
def Remove (a : Afters) (i : Nat) : Afters × Bool :=
  match a.list[i]? with
  | some x => if (Drop a.slots x.handle).2 = true then (⟨(Drop a.slots x.handle).1, a.list.eraseIdx i⟩, true) else (a, false)
  | none => (a, false)
theorem remove_some {a : Afters} {i : Nat} {x : After} (hx : a.list[i]? = some x) : Remove a i = if (Drop a.slots x.handle).2 = true then (⟨(Drop a.slots x.handle).1, a.list.eraseIdx i⟩, true) else (a, false) := by
  unfold Remove; rw [hx]
def rAB2 (x : Afters × Bool) : AV := .bool x.2
def oAB (A : Sy) (x : Afters × Bool) : List (Option Obj) := [some (.box (ownAfters A x.1))]
def rAB (A : Sy) (x : Afters × Bool) : AV := .tup [.agg (ownAfters A x.1), .bool x.2]

theorem drop_len (s : Slots) (h : Handle) : (Drop s h).1.ages.length = s.ages.length ∧ (Drop s h).1.used.length = s.used.length := by
  unfold Drop; split <;> simp
theorem drop_stay {s : Slots} {h : Handle} (e : (Drop s h).2 = false) : Drop s h = (s, false) := by
  unfold Drop at e ⊢
  split at e
  · cases e
  · rename_i hn; rw [if_neg hn]

theorem remove_c (S : Se P A) (ages : List Int) (used : List Bool) (list : List After) (hl : used.length = ages.length) (hag : ∀ a ∈ ages, 0 ≤ a ∧ a ≤ 1000000) (hb : list.length ≤ 4294967296) (i : Int) (h0 : 0 ≤ i) (hi : i.toNat < list.length) : SoundM P 158 false [.ptr 1000 0 0, .int .i64 i] [.box (ownAfters A ⟨⟨ages, used⟩, list⟩)]
    (fun v os => v = rAB2 (Remove ⟨⟨ages, used⟩, list⟩ i.toNat) ∧ os = oAB A (Remove ⟨⟨ages, used⟩, list⟩ i.toNat)) := by
  obtain ⟨x, hx⟩ := get_of_lt hi
  refine S.cx.byN (S.prog ▸ Try.func158) rfl rfl rfl rfl (fun ln hln hv ho => ?_)
  cbv
  have hN := hln cInt64 ages
  generalize ln (A.enc cInt64 ages) = N at hN ⊢
  have hM := hln cBool used
  generalize ln (A.enc cBool used) = M at hM ⊢
  have hK := hln cAfter list
  generalize ln (A.enc cAfter list) = K at hK ⊢
  try (refine Drawn.mk ⟨by kernel_rfl, fun _ => ?_⟩)
  refine ElemRef.go rfl h0 (by lia) (by rw [S.cx.lenE']; lia) (fun row hrow => ?_); cbv
  refine Row.enc S.cx (by lia) (fun y hy => ?_)
  obtain rfl : y = x := by rw [show row = i.toNat by omega, hx] at hy; exact (Option.some.inj hy).symm
  cbv
  have hxl := hx
  refine ACall.valN (r := rB) (os := oB A) (dp := false) S.cx (drop_c S ages used y.slot y.age N M hN hM hl hag) ⟨rfl, (by repeat' (first | exact trivial | exact rfl | exact Nat.le_refl _ | exact S.cx.giveEq | exact S.cx.lendLe (by assumption) | exact S.cx.lendEq (by assumption) | exact S.cx.lendLe0 | exact S.cx.lendEq0 | exact S.cx.partLe (by assumption) | exact S.cx.partEq (by assumption) | refine ⟨?_, ?_⟩)), (by repeat' (first | exact trivial | exact rfl | exact Nat.le_refl _ | exact S.cx.giveEq | exact S.cx.lendLe (by assumption) | exact S.cx.lendEq (by assumption) | exact S.cx.lendLe0 | exact S.cx.lendEq0 | exact S.cx.partLe (by assumption) | exact S.cx.partEq (by assumption) | refine ⟨?_, ?_⟩))⟩ rfl (fun ln hln x hx => ⟨rfl, ?_⟩)
  obtain ⟨⟨ages', used'⟩, b⟩ := x
  cbv
  have hx2 : Drop ⟨ages, used⟩ y.handle = (⟨ages', used'⟩, b) := (show (⟨⟨ages', used'⟩, b⟩ : Slots × Bool) = Drop ⟨ages, used⟩ ⟨y.slot, y.age⟩ from by assumption).symm
  have hlen := drop_len ⟨ages, used⟩ y.handle
  rw [hx2] at hlen
  dsimp only at hlen
  have hN' : N = ages'.length := by omega
  have hM' : M = used'.length := by omega
  cases b <;> cbv
  · have e := hx2.symm.trans (drop_stay (by rw [hx2]))
    injection e with e1 _
    injection e1 with e1 e2
    have hR : Remove ⟨⟨ages, used⟩, list⟩ i.toNat = (⟨⟨ages', used'⟩, list⟩, false) := by
      rw [remove_some (a := ⟨⟨ages, used⟩, list⟩) hxl, if_neg (by dsimp only; rw [hx2]; simp), e1, e2]
    rw [hR]
    exact Done.to (rAB2 (⟨⟨ages', used'⟩, list⟩, false)) (oAB A (⟨⟨ages', used'⟩, list⟩, false)) rfl (by repeat' (first | exact trivial | exact rfl | exact resOwn S.cx rfl (by assumption) | exact resOwn S.cx rfl (S.cx.lenE _ _) | exact resOwn1 S.cx rfl (by assumption) | exact S.cx.enc _ [] | refine ⟨?_, ?_⟩)) (by repeat' (first | exact trivial | exact rfl | exact resOwn S.cx rfl (by assumption) | exact resOwn S.cx rfl (S.cx.lenE _ _) | exact resOwn1 S.cx rfl (by assumption) | exact S.cx.enc _ [] | refine ⟨?_, ?_⟩)) ⟨rfl, rfl⟩
  refine Arith.go (by lia) (fun j hj => ?_); replace hj : j = i + 1 := hj; cbv
  have hR : Remove ⟨⟨ages, used⟩, list⟩ i.toNat = (⟨⟨ages', used'⟩, list.eraseIdx i.toNat⟩, true) := by
    rw [remove_some (a := ⟨⟨ages, used⟩, list⟩) hxl, if_pos (by dsimp only; rw [hx2])]
    dsimp only
    rw [hx2]
  refine ACall.valN (r := rAfter A) (os := fun _ => [none]) (dp := false) S.cx (deleteAtAfter_c S list i j h0 hi hj K hK hb) ⟨rfl, (by repeat' (first | exact trivial | exact rfl | exact Nat.le_refl _ | exact S.cx.giveEq | exact S.cx.lendLe (by assumption) | exact S.cx.lendEq (by assumption) | exact S.cx.lendLe0 | exact S.cx.lendEq0 | exact S.cx.partLe (by assumption) | exact S.cx.partEq (by assumption) | refine ⟨?_, ?_⟩)), (by repeat' (first | exact trivial | exact rfl | exact Nat.le_refl _ | exact S.cx.giveEq | exact S.cx.lendLe (by assumption) | exact S.cx.lendEq (by assumption) | exact S.cx.lendLe0 | exact S.cx.lendEq0 | exact S.cx.partLe (by assumption) | exact S.cx.partEq (by assumption) | refine ⟨?_, ?_⟩))⟩ rfl (fun ln hln w hx => ⟨rfl, ?_⟩)
  cbv
  have hW := hln cAfter w
  generalize ln (A.enc cAfter w) = W at hW ⊢
  rw [hR, ← hx]
  exact Done.to (rAB2 (⟨⟨ages', used'⟩, w⟩, true)) (oAB A (⟨⟨ages', used'⟩, w⟩, true)) rfl (by repeat' (first | exact trivial | exact rfl | exact resOwn S.cx rfl (by assumption) | exact resOwn S.cx rfl (S.cx.lenE _ _) | exact resOwn1 S.cx rfl (by assumption) | exact S.cx.enc _ [] | refine ⟨?_, ?_⟩)) (by repeat' (first | exact trivial | exact rfl | exact resOwn S.cx rfl (by assumption) | exact resOwn S.cx rfl (S.cx.lenE _ _) | exact resOwn1 S.cx rfl (by assumption) | exact S.cx.enc _ [] | refine ⟨?_, ?_⟩)) ⟨rfl, rfl⟩

end Go.Proofs.Ytmbckmfihcojoaa.AM

namespace Go.Proofs.Ytmbckmfihcojoaa.AM
open Go Go.Proofs

set_option maxRecDepth 100000
set_option maxHeartbeats 4000000
set_option linter.unusedVariables false
set_option linter.unusedSimpArgs false

variable {P : Program} {A : Sy}

/-- The place of the function with a handle. -/
def afterAt (list : List After) (h : Handle) : Int := match list.findIdx? (fun x => decide (x.handle = h)) with
  | some i => (i : Int)
  | none => -1
theorem afterAt_spec (list : List After) (h : Handle) : 0 ≤ afterAt list h ∧ (∃ x, list[(afterAt list h).toNat]? = some x ∧ x.handle = h) ∧ Upto (fun _ x => ¬ x.handle = h) list (afterAt list h) ∨ afterAt list h = -1 ∧ ∀ x ∈ list, ¬ x.handle = h := by
  unfold afterAt
  cases hf : list.findIdx? (fun x => decide (x.handle = h)) with
  | none => exact .inr ⟨rfl, fun x hx => by simpa using List.findIdx?_eq_none_iff.1 hf x hx⟩
  | some i =>
    obtain ⟨hi, h1, h2⟩ := List.findIdx?_eq_some_iff_getElem.1 hf
    refine .inl ⟨by dsimp only; omega, ⟨list[i], by simp, by simpa using h1⟩, fun j y hj hy => ?_⟩
    have hjl := lt_of_get hy
    have := h2 j (by dsimp only at hj; omega)
    rw [(List.getElem?_eq_some_iff.1 hy).2] at this
    simpa using this
theorem afterAt_uniq {list : List After} {h : Handle} {r : Int} (hr : 0 ≤ r ∧ (∃ x, list[r.toNat]? = some x ∧ x.handle = h) ∧ Upto (fun _ x => ¬ x.handle = h) list r ∨ r = -1 ∧ ∀ x ∈ list, ¬ x.handle = h) : r = afterAt list h := by
  rcases afterAt_spec list h with ⟨h0, ⟨x, hx, hxh⟩, hu⟩ | ⟨h0, hn⟩ <;> rcases hr with ⟨r0, ⟨y, hy, hyh⟩, ru⟩ | ⟨r0, rn⟩
  · rcases Int.lt_trichotomy r (afterAt list h) with e | e | e
    · exact absurd hyh (hu r.toNat y (by omega) hy)
    · exact e
    · exact absurd hxh (ru _ x (by omega) hx)
  · exact absurd hxh (rn x (mem_at hx))
  · exact absurd hyh (hn y (mem_at hy))
  · omega

theorem afterAt_d (S : Se P A) (ages : List Int) (used : List Bool) (list : List After) (slot age : Int) : Is1 P 152 [.agg (roAfters A ⟨⟨ages, used⟩, list⟩), .agg (cHandle ⟨slot, age⟩)] (.int .i64 (afterAt list ⟨slot, age⟩)) :=
  SoundM.known (afterAt_c S ages used list slot age) fun n h => afterAt_uniq h

def CallOff (a : Afters) (h : Handle) : Afters × Bool :=
  match a.list.findIdx? (fun x => decide (x.handle = h)) with
  | some i => if a.list[i]?.map (·.queued) = some false then Remove a i else (a, false)
  | none => (a, false)
def CalledOff (a : Afters) (h : Handle) : Afters × Bool := if AftersOk a then CallOff a h else (afters0, false)

theorem callOff_none {a : Afters} {h : Handle} (hn : ∀ x ∈ a.list, ¬ x.handle = h) : CallOff a h = (a, false) := by
  have : a.list.findIdx? (fun x => decide (x.handle = h)) = none := List.findIdx?_eq_none_iff.2 fun x hx => by simpa using hn x hx
  rw [CallOff, this]

theorem callOff_at {a : Afters} {h : Handle} {i : Nat} {x : After} (hx : a.list[i]? = some x) (hh : x.handle = h) (hu : ∀ j y, j < i → a.list[j]? = some y → ¬ y.handle = h) : CallOff a h = if x.queued = false then Remove a i else (a, false) := by
  have : a.list.findIdx? (fun x => decide (x.handle = h)) = some i := by
    refine List.findIdx?_eq_some_iff_getElem.2 ⟨lt_of_get hx, ?_, fun j hj => ?_⟩
    · rw [(List.getElem?_eq_some_iff.1 hx).2]; simpa using hh
    · have hlt : j < a.list.length := Nat.lt_trans hj (lt_of_get hx)
      simpa using hu j a.list[j] hj (List.getElem?_eq_getElem hlt)
  rw [CallOff, this]
  simp [hx]

theorem callOff_c (S : Se P A) (ages : List Int) (used : List Bool) (list : List After) (hl : used.length = ages.length) (hag : ∀ a ∈ ages, 0 ≤ a ∧ a ≤ 1000000) (hb : list.length ≤ 4294967296) (slot age : Int) : SoundM P 97 false [.ptr 1000 0 0, .agg (cHandle ⟨slot, age⟩)] [.box (ownAfters A ⟨⟨ages, used⟩, list⟩)]
    (fun v os => v = rAB2 (CallOff ⟨⟨ages, used⟩, list⟩ ⟨slot, age⟩) ∧ os = oAB A (CallOff ⟨⟨ages, used⟩, list⟩ ⟨slot, age⟩)) := by
  refine S.cx.byN (S.prog ▸ Try.func97) rfl rfl rfl rfl (fun ln hln hv ho => ?_)
  cbv
  have hN := hln cInt64 ages
  generalize ln (A.enc cInt64 ages) = N at hN ⊢
  have hM := hln cBool used
  generalize ln (A.enc cBool used) = M at hM ⊢
  have hK := hln cAfter list
  generalize ln (A.enc cAfter list) = K at hK ⊢
  try (refine Drawn.mk ⟨by kernel_rfl, fun _ => ?_⟩)
  have hreal : True := trivial
  refine ACall.int (dp := false) (afterAt_d S ages used list slot age) ⟨rfl, (by repeat' (first | exact trivial | exact rfl | exact Nat.le_refl _ | exact S.cx.giveEq | exact S.cx.lendLe (by assumption) | exact S.cx.lendEq (by assumption) | exact S.cx.lendLe0 | exact S.cx.lendEq0 | exact S.cx.partLe (by assumption) | exact S.cx.partEq (by assumption) | refine ⟨?_, ?_⟩)), (by repeat' (first | exact trivial | exact rfl | exact Nat.le_refl _ | exact S.cx.giveEq | exact S.cx.lendLe (by assumption) | exact S.cx.lendEq (by assumption) | exact S.cx.lendLe0 | exact S.cx.lendEq0 | exact S.cx.partLe (by assumption) | exact S.cx.partEq (by assumption) | refine ⟨?_, ?_⟩))⟩ rfl (fun r hr => ?_); cbv
  have hfin := afterAt_spec list ⟨slot, age⟩
  rw [← hr] at hfin
  refine Test.geq (fun h => ?_) (fun h => ?_) <;> cbv
  rotate_left
  · have hno : ∀ x ∈ list, ¬ x.handle = ⟨slot, age⟩ := by rcases hfin with ⟨h1, _⟩ | ⟨_, h1⟩; omega; exact h1
    rw [callOff_none (a := ⟨⟨ages, used⟩, list⟩) hno]
    exact Done.to (rAB2 (⟨⟨ages, used⟩, list⟩, false)) (oAB A (⟨⟨ages, used⟩, list⟩, false)) rfl (by repeat' (first | exact trivial | exact rfl | exact resOwn S.cx rfl (by assumption) | exact resOwn S.cx rfl (S.cx.lenE _ _) | exact resOwn1 S.cx rfl (by assumption) | exact S.cx.enc _ [] | refine ⟨?_, ?_⟩)) (by repeat' (first | exact trivial | exact rfl | exact resOwn S.cx rfl (by assumption) | exact resOwn S.cx rfl (S.cx.lenE _ _) | exact resOwn1 S.cx rfl (by assumption) | exact S.cx.enc _ [] | refine ⟨?_, ?_⟩)) ⟨rfl, rfl⟩
  obtain ⟨hr0, ⟨x, hx, hxh⟩, hru⟩ : 0 ≤ r ∧ (∃ x, list[r.toNat]? = some x ∧ x.handle = ⟨slot, age⟩) ∧ Upto (fun _ x => ¬ x.handle = ⟨slot, age⟩) list r := by
    rcases hfin with h1 | ⟨h1, _⟩
    · exact h1
    · omega
  have hlt := lt_of_get hx
  have hC : CallOff ⟨⟨ages, used⟩, list⟩ ⟨slot, age⟩ = if x.queued = false then Remove ⟨⟨ages, used⟩, list⟩ r.toNat else (⟨⟨ages, used⟩, list⟩, false) := callOff_at (a := ⟨⟨ages, used⟩, list⟩) hx hxh fun j y hj hy => hru j y (by omega) hy
  refine ElemRef.go rfl hr0 (by lia) (by rw [S.cx.lenE']; lia) (fun row hrow => ?_); cbv
  refine Row.enc S.cx (by lia) (fun y hy => ?_)
  obtain rfl : y = x := by rw [show row = r.toNat by omega, hx] at hy; exact (Option.some.inj hy).symm
  obtain ⟨xs, xa, xn, xf, xq⟩ := y
  cbv
  cases xq <;> cbv
  rotate_left
  · rw [hC, if_neg (by simp)]
    exact Done.to (rAB2 (⟨⟨ages, used⟩, list⟩, false)) (oAB A (⟨⟨ages, used⟩, list⟩, false)) rfl (by repeat' (first | exact trivial | exact rfl | exact resOwn S.cx rfl (by assumption) | exact resOwn S.cx rfl (S.cx.lenE _ _) | exact resOwn1 S.cx rfl (by assumption) | exact S.cx.enc _ [] | refine ⟨?_, ?_⟩)) (by repeat' (first | exact trivial | exact rfl | exact resOwn S.cx rfl (by assumption) | exact resOwn S.cx rfl (S.cx.lenE _ _) | exact resOwn1 S.cx rfl (by assumption) | exact S.cx.enc _ [] | refine ⟨?_, ?_⟩)) ⟨rfl, rfl⟩
  rw [hC, if_pos rfl]
  refine ACall.valN (r := rAB2) (os := oAB A) (dp := false) S.cx (remove_c S ages used list hl hag hb r hr0 hlt) ⟨rfl, (by repeat' (first | exact trivial | exact rfl | exact Nat.le_refl _ | exact S.cx.giveEq | exact S.cx.lendLe (by assumption) | exact S.cx.lendEq (by assumption) | exact S.cx.lendLe0 | exact S.cx.lendEq0 | exact S.cx.partLe (by assumption) | exact S.cx.partEq (by assumption) | refine ⟨?_, ?_⟩)), (by repeat' (first | exact trivial | exact rfl | exact Nat.le_refl _ | exact S.cx.giveEq | exact S.cx.lendLe (by assumption) | exact S.cx.lendEq (by assumption) | exact S.cx.lendLe0 | exact S.cx.lendEq0 | exact S.cx.partLe (by assumption) | exact S.cx.partEq (by assumption) | refine ⟨?_, ?_⟩))⟩ rfl (fun ln hln x hx => ⟨rfl, ?_⟩)
  obtain ⟨⟨⟨ages2, used2⟩, list2⟩, b⟩ := x
  cbv
  have hN2 := hln cInt64 ages2
  generalize ln (A.enc cInt64 ages2) = N2 at hN2 ⊢
  have hM2 := hln cBool used2
  generalize ln (A.enc cBool used2) = M2 at hM2 ⊢
  have hK2 := hln cAfter list2
  generalize ln (A.enc cAfter list2) = K2 at hK2 ⊢
  have hx9 : (⟨⟨⟨ages2, used2⟩, list2⟩, b⟩ : Afters × Bool) = Remove ⟨⟨ages, used⟩, list⟩ r.toNat := by assumption
  rw [← hx9]
  cases b <;> cbv
  · exact Done.to (rAB2 (⟨⟨ages2, used2⟩, list2⟩, false)) (oAB A (⟨⟨ages2, used2⟩, list2⟩, false)) rfl (by repeat' (first | exact trivial | exact rfl | exact resOwn S.cx rfl (by assumption) | exact resOwn S.cx rfl (S.cx.lenE _ _) | exact resOwn1 S.cx rfl (by assumption) | exact S.cx.enc _ [] | refine ⟨?_, ?_⟩)) (by repeat' (first | exact trivial | exact rfl | exact resOwn S.cx rfl (by assumption) | exact resOwn S.cx rfl (S.cx.lenE _ _) | exact resOwn1 S.cx rfl (by assumption) | exact S.cx.enc _ [] | refine ⟨?_, ?_⟩)) ⟨rfl, rfl⟩
  · exact Done.to (rAB2 (⟨⟨ages2, used2⟩, list2⟩, true)) (oAB A (⟨⟨ages2, used2⟩, list2⟩, true)) rfl (by repeat' (first | exact trivial | exact rfl | exact resOwn S.cx rfl (by assumption) | exact resOwn S.cx rfl (S.cx.lenE _ _) | exact resOwn1 S.cx rfl (by assumption) | exact S.cx.enc _ [] | refine ⟨?_, ?_⟩)) (by repeat' (first | exact trivial | exact rfl | exact resOwn S.cx rfl (by assumption) | exact resOwn S.cx rfl (S.cx.lenE _ _) | exact resOwn1 S.cx rfl (by assumption) | exact S.cx.enc _ [] | refine ⟨?_, ?_⟩)) ⟨rfl, rfl⟩

theorem implCalledOff_c (S : Se P A) (ages : List Int) (used : List Bool) (list : List After) (slot age : Int) : Is1 P 37 [.agg (roAfters A ⟨⟨ages, used⟩, list⟩), .agg (cHandle ⟨slot, age⟩)] (rAB A (CalledOff ⟨⟨ages, used⟩, list⟩ ⟨slot, age⟩)) := by
  refine S.cx.by (S.prog ▸ Try.func37) rfl rfl rfl rfl (fun hv ho => ?_)
  cbv
  refine ACall.testD (dp := false) (implAftersOk_c S ages used list) ⟨rfl, (by repeat' (first | exact trivial | exact rfl | exact Nat.le_refl _ | exact S.cx.giveEq | exact S.cx.lendLe (by assumption) | exact S.cx.lendEq (by assumption) | exact S.cx.lendLe0 | exact S.cx.lendEq0 | exact S.cx.partLe (by assumption) | exact S.cx.partEq (by assumption) | refine ⟨?_, ?_⟩)), (by repeat' (first | exact trivial | exact rfl | exact Nat.le_refl _ | exact S.cx.giveEq | exact S.cx.lendLe (by assumption) | exact S.cx.lendEq (by assumption) | exact S.cx.lendLe0 | exact S.cx.lendEq0 | exact S.cx.partLe (by assumption) | exact S.cx.partEq (by assumption) | refine ⟨?_, ?_⟩))⟩ rfl (fun hok => ?_) (fun hok => ?_) <;> cbv
  rotate_left
  · exact Done.is (r := rAB A) (x := (afters0, false)) (by repeat' (first | exact trivial | exact rfl | exact resOwn S.cx rfl (by assumption) | exact resOwn S.cx rfl (S.cx.lenE _ _) | exact resOwn1 S.cx rfl (by assumption) | exact S.cx.enc _ [] | refine ⟨?_, ?_⟩)) rfl (if_neg hok)
  have b1 : ages.length ≤ 64 := hok.1.1.2
  have b2 : used.length = ages.length := hok.1.2.1
  have b3 : list.length = usedN used := hok.2.1
  have b4 := usedN_le used
  have b5 : ages.length ≤ 4294967296 := by omega
  have b6 : used.length ≤ 4294967296 := by omega
  have b7 : list.length ≤ 4294967296 := by omega
  refine ACall.valN (r := rA A) (os := fun _ => []) (dp := false) S.cx (clonedAfters_c S ages used list b5 b6 b7) ⟨rfl, (by repeat' (first | exact trivial | exact rfl | exact Nat.le_refl _ | exact S.cx.giveEq | exact S.cx.lendLe (by assumption) | exact S.cx.lendEq (by assumption) | exact S.cx.lendLe0 | exact S.cx.lendEq0 | exact S.cx.partLe (by assumption) | exact S.cx.partEq (by assumption) | refine ⟨?_, ?_⟩)), (by repeat' (first | exact trivial | exact rfl | exact Nat.le_refl _ | exact S.cx.giveEq | exact S.cx.lendLe (by assumption) | exact S.cx.lendEq (by assumption) | exact S.cx.lendLe0 | exact S.cx.lendEq0 | exact S.cx.partLe (by assumption) | exact S.cx.partEq (by assumption) | refine ⟨?_, ?_⟩))⟩ rfl (fun ln hln x hx => ⟨rfl, ?_⟩)
  obtain ⟨⟨ages', used'⟩, list'⟩ := x
  cases hx
  cbv
  have hN := hln cInt64 ages
  generalize ln (A.enc cInt64 ages) = N at hN ⊢
  have hM := hln cBool used
  generalize ln (A.enc cBool used) = M at hM ⊢
  have hK := hln cAfter list
  generalize ln (A.enc cAfter list) = K at hK ⊢
  refine ACall.valN (r := rAB2) (os := oAB A) (dp := false) S.cx (callOff_c S ages used list b2 hok.1.2.2 b7 slot age) ⟨rfl, (by repeat' (first | exact trivial | exact rfl | exact Nat.le_refl _ | exact S.cx.giveEq | exact S.cx.lendLe (by assumption) | exact S.cx.lendEq (by assumption) | exact S.cx.lendLe0 | exact S.cx.lendEq0 | exact S.cx.partLe (by assumption) | exact S.cx.partEq (by assumption) | refine ⟨?_, ?_⟩)), (by repeat' (first | exact trivial | exact rfl | exact Nat.le_refl _ | exact S.cx.giveEq | exact S.cx.lendLe (by assumption) | exact S.cx.lendEq (by assumption) | exact S.cx.lendLe0 | exact S.cx.lendEq0 | exact S.cx.partLe (by assumption) | exact S.cx.partEq (by assumption) | refine ⟨?_, ?_⟩))⟩ rfl (fun ln hln x hx => ⟨rfl, ?_⟩)
  obtain ⟨⟨⟨ages2, used2⟩, list2⟩, b⟩ := x
  cbv
  have hN2 := hln cInt64 ages2
  generalize ln (A.enc cInt64 ages2) = N2 at hN2 ⊢
  have hM2 := hln cBool used2
  generalize ln (A.enc cBool used2) = M2 at hM2 ⊢
  have hK2 := hln cAfter list2
  generalize ln (A.enc cAfter list2) = K2 at hK2 ⊢
  exact Done.is (r := rAB A) (x := (⟨⟨ages2, used2⟩, list2⟩, b)) (by repeat' (first | exact trivial | exact rfl | exact resOwn S.cx rfl (by assumption) | exact resOwn S.cx rfl (S.cx.lenE _ _) | exact resOwn1 S.cx rfl (by assumption) | exact S.cx.enc _ [] | refine ⟨?_, ?_⟩)) rfl ((if_pos hok).trans hx.symm)

theorem l8Away_c (S : Se P A) (ages : List Int) (used : List Bool) (list : List After) (hok : AftersOk ⟨⟨ages, used⟩, list⟩) (i : Int) (h0 : 0 ≤ i) (x : After) (hx : list[i.toNat]? = some x) : Is1 P 96 [.agg (roAfters A ⟨⟨ages, used⟩, list⟩), .int .i64 i] (rA A ⟨(Drop ⟨ages, used⟩ x.handle).1, list.eraseIdx i.toNat⟩) := by
  have hxx := hx
  have b1 : ages.length ≤ 64 := hok.1.1.2
  have b2 : used.length = ages.length := hok.1.2.1
  have b3 : list.length = usedN used := hok.2.1
  have b4 := usedN_le used
  have b5 : ages.length ≤ 4294967296 := by omega
  have b6 : used.length ≤ 4294967296 := by omega
  have b7 : list.length ≤ 4294967296 := by omega
  have hlt := lt_of_get hx
  refine S.cx.by (S.prog ▸ Try.func96) rfl rfl rfl rfl (fun hv ho => ?_)
  cbv
  refine ACall.valN (r := rA A) (os := fun _ => []) (dp := false) S.cx (l8Copy_c S ages used list b5 b6 b7) ⟨rfl, (by repeat' (first | exact trivial | exact rfl | exact Nat.le_refl _ | exact S.cx.giveEq | exact S.cx.lendLe (by assumption) | exact S.cx.lendEq (by assumption) | exact S.cx.lendLe0 | exact S.cx.lendEq0 | exact S.cx.partLe (by assumption) | exact S.cx.partEq (by assumption) | refine ⟨?_, ?_⟩)), (by repeat' (first | exact trivial | exact rfl | exact Nat.le_refl _ | exact S.cx.giveEq | exact S.cx.lendLe (by assumption) | exact S.cx.lendEq (by assumption) | exact S.cx.lendLe0 | exact S.cx.lendEq0 | exact S.cx.partLe (by assumption) | exact S.cx.partEq (by assumption) | refine ⟨?_, ?_⟩))⟩ rfl (fun ln hln x hx => ⟨rfl, ?_⟩)
  obtain ⟨⟨ages', used'⟩, list'⟩ := x
  cases hx
  cbv
  have hN := hln cInt64 ages
  generalize ln (A.enc cInt64 ages) = N at hN ⊢
  have hM := hln cBool used
  generalize ln (A.enc cBool used) = M at hM ⊢
  have hK := hln cAfter list
  generalize ln (A.enc cAfter list) = K at hK ⊢
  try (refine Drawn.mk ⟨by kernel_rfl, fun _ => ?_⟩)
  refine ElemRo.at S.cx (x := x) rfl h0 hxx ?_; cbv
  refine ACall.valN (r := rSB A) (os := fun _ => []) (dp := false) S.cx (specDropped_c S ages used x.slot x.age) ⟨rfl, (by repeat' (first | exact trivial | exact rfl | exact Nat.le_refl _ | exact S.cx.giveEq | exact S.cx.lendLe (by assumption) | exact S.cx.lendEq (by assumption) | exact S.cx.lendLe0 | exact S.cx.lendEq0 | exact S.cx.partLe (by assumption) | exact S.cx.partEq (by assumption) | refine ⟨?_, ?_⟩)), (by repeat' (first | exact trivial | exact rfl | exact Nat.le_refl _ | exact S.cx.giveEq | exact S.cx.lendLe (by assumption) | exact S.cx.lendEq (by assumption) | exact S.cx.lendLe0 | exact S.cx.lendEq0 | exact S.cx.partLe (by assumption) | exact S.cx.partEq (by assumption) | refine ⟨?_, ?_⟩))⟩ rfl (fun ln hln x hx => ⟨rfl, ?_⟩)
  obtain ⟨⟨ages2, used2⟩, b⟩ := x
  cbv
  have hN2 := hln cInt64 ages2
  generalize ln (A.enc cInt64 ages2) = N2 at hN2 ⊢
  have hM2 := hln cBool used2
  generalize ln (A.enc cBool used2) = M2 at hM2 ⊢
  have hd : Drop ⟨ages, used⟩ x.handle = (⟨ages2, used2⟩, b) := (if_pos hok.1).symm.trans (show (⟨⟨ages2, used2⟩, b⟩ : Slots × Bool) = Dropped ⟨ages, used⟩ ⟨x.slot, x.age⟩ from by assumption).symm
  rw [hd]
  try (refine Drawn.mk ⟨by kernel_rfl, fun _ => ?_⟩)
  refine CutRo.enc S.cx (fun _ => rfl) (by lia) h0 (by lia) (fun l1 hl1 => ?_); cbv
  have hl1l : l1.length = i.toNat := by rw [hl1]; simp; lia
  refine AppNew.enc S.cx plainAfter (.inr (.inr trivial)) (fun _ => rfl) (by simp only [maxBytes]; omega) (fun n1 hn1 => ?_); cbv
  refine Arith.go (by lia) (fun j hj => ?_); replace hj : j = i + 1 := hj; cbv
  refine CutRoE.enc S.cx (fun _ => rfl) (by lia) (by lia) (fun l2 hl2 => ?_); cbv
  have hl2l : l2.length = list.length - (i.toNat + 1) := by rw [hl2]; simp; lia
  refine AppRef.pushAll S.cx hn1 rfl plainAfter (fun _ => rfl) (by simp only [maxBytes]; omega) (fun n3 l3 hl3 hn3 => ?_); cbv
  have he : l3 = list.eraseIdx i.toNat := by
    rw [List.eraseIdx_eq_take_drop_succ, hl3, hl1, hl2, show j.toNat = i.toNat + 1 by omega]; simp
  exact Done.is (r := rA A) (x := ⟨⟨ages2, used2⟩, l3⟩) (by repeat' (first | exact trivial | exact rfl | exact resOwn S.cx rfl (by assumption) | exact resOwn S.cx rfl (S.cx.lenE _ _) | exact resOwn1 S.cx rfl (by assumption) | exact S.cx.enc _ [] | refine ⟨?_, ?_⟩)) rfl (by rw [he])

theorem specCalledOff_c (S : Se P A) (ages : List Int) (used : List Bool) (list : List After) (slot age : Int) : Is1 P 35 [.agg (roAfters A ⟨⟨ages, used⟩, list⟩), .agg (cHandle ⟨slot, age⟩)] (rAB A (CalledOff ⟨⟨ages, used⟩, list⟩ ⟨slot, age⟩)) := by
  refine S.cx.by (S.prog ▸ Try.func35) rfl rfl rfl rfl (fun hv ho => ?_)
  cbv
  refine ACall.testD (dp := false) (specAftersOk_c S ages used list) ⟨rfl, (by repeat' (first | exact trivial | exact rfl | exact Nat.le_refl _ | exact S.cx.giveEq | exact S.cx.lendLe (by assumption) | exact S.cx.lendEq (by assumption) | exact S.cx.lendLe0 | exact S.cx.lendEq0 | exact S.cx.partLe (by assumption) | exact S.cx.partEq (by assumption) | refine ⟨?_, ?_⟩)), (by repeat' (first | exact trivial | exact rfl | exact Nat.le_refl _ | exact S.cx.giveEq | exact S.cx.lendLe (by assumption) | exact S.cx.lendEq (by assumption) | exact S.cx.lendLe0 | exact S.cx.lendEq0 | exact S.cx.partLe (by assumption) | exact S.cx.partEq (by assumption) | refine ⟨?_, ?_⟩))⟩ rfl (fun hok => ?_) (fun hok => ?_) <;> cbv
  rotate_left
  · exact Done.is (r := rAB A) (x := (afters0, false)) (by repeat' (first | exact trivial | exact rfl | exact resOwn S.cx rfl (by assumption) | exact resOwn S.cx rfl (S.cx.lenE _ _) | exact resOwn1 S.cx rfl (by assumption) | exact S.cx.enc _ [] | refine ⟨?_, ?_⟩)) rfl (if_neg hok)
  have b1 : ages.length ≤ 64 := hok.1.1.2
  have b2 : used.length = ages.length := hok.1.2.1
  have b3 : list.length = usedN used := hok.2.1
  have b4 := usedN_le used
  have b5 : ages.length ≤ 4294967296 := by omega
  have b6 : used.length ≤ 4294967296 := by omega
  have b7 : list.length ≤ 4294967296 := by omega
  refine ALoop.goS (ι := Int) (fun i => [(6, .int .i64 i)]) [] (fun i => []) (fun i => 0 ≤ i ∧ Upto (fun _ x => ¬ (x.handle = ⟨slot, age⟩ ∧ x.queued = false ∧ age < 1000000)) list i) (fun i => (list.length - i).toNat) (0) S.cx.tab S.cx.mix S.eq ?_ ?_ ?_
  · exact ⟨Int.le_refl _, .zero⟩
  · (cbv; refine Less.to [] rfl rfl ?_ ?_ <;> repeat' (first | exact trivial | exact ⟨rfl, rfl⟩ | exact ⟨_, rfl, Nat.zero_le _, rfl⟩ | apply And.intro | exact rfl))
  rintro i ⟨h0, hu⟩
  refine Rnd.mk ?_; cbv
  refine LenR.nat S.cx (fun L hL hm => ?_); cbv
  refine Test.lss (fun h => ?_) (fun h => ?_) <;> cbv
  · try (refine Drawn.mk ⟨by kernel_rfl, fun _ => ?_⟩)
    refine ElemRo.enc S.cx (fun _ => rfl) (by lia) (by lia) (fun x hx => ?_); cbv
    have hgo : ¬ (x.handle = ⟨slot, age⟩ ∧ x.queued = false ∧ age < 1000000) → ∀ i', i' = i + 1 → 0 ≤ i' ∧ Upto (fun _ x => ¬ (x.handle = ⟨slot, age⟩ ∧ x.queued = false ∧ age < 1000000)) list i' := fun hn i' hi' => ⟨by omega, hu.next h0 hx hn hi'⟩
    refine ⟨⟨by rw [S.prog]; kernel_rfl⟩, SEq.go (fun h1 => ?_) (fun h1 => ?_)⟩ <;> cbv
    rotate_left
    · refine Arith.go (by lia) (fun i' hi' => ?_); cbv
      refine Again.on i' (by lia) (hgo (fun e => h1 (by obtain ⟨e, _⟩ := e; injection e with e1 e2; rw [e1, e2])) i' hi') ?_
      (cbv; refine Less.to [] rfl rfl ?_ ?_ <;> repeat' (first | exact trivial | exact ⟨rfl, rfl⟩ | exact ⟨_, rfl, Nat.zero_le _, rfl⟩ | apply And.intro | exact rfl))
    have hh : x.handle = ⟨slot, age⟩ := by
      injection h1 with h1 h2; injection h1 with _ h1; injection h2 with h2 _; injection h2 with _ h2
      simp [After.handle, h1, h2]
    refine ElemRo.at S.cx (x := x) rfl h0 hx ?_
    obtain ⟨xs, xa, xn, xf, xq⟩ := x
    cbv
    cases xq <;> cbv
    rotate_left
    · refine Arith.go (by lia) (fun i' hi' => ?_); cbv
      refine Again.on i' (by lia) (hgo (fun e => by have := e.2.1; cases this) i' hi') ?_
      (cbv; refine Less.to [] rfl rfl ?_ ?_ <;> repeat' (first | exact trivial | exact ⟨rfl, rfl⟩ | exact ⟨_, rfl, Nat.zero_le _, rfl⟩ | apply And.intro | exact rfl))
    refine Test.lss (fun h2 => ?_) (fun h2 => ?_) <;> cbv
    rotate_left
    · refine Arith.go (by lia) (fun i' hi' => ?_); cbv
      refine Again.on i' (by lia) (hgo (fun e => by have := e.2.2; omega) i' hi') ?_
      (cbv; refine Less.to [] rfl rfl ?_ ?_ <;> repeat' (first | exact trivial | exact ⟨rfl, rfl⟩ | exact ⟨_, rfl, Nat.zero_le _, rfl⟩ | apply And.intro | exact rfl))
    have hxx := hx
    have hA := hok.get (a := ⟨⟨ages, used⟩, list⟩) hxx
    have hD : (Drop ⟨ages, used⟩ (⟨slot, age⟩ : Handle)).2 = true := by
      have := hA.1
      rw [hh] at this
      rw [Drop, if_pos ⟨this, by dsimp only; omega⟩]
    have hC : CallOff ⟨⟨ages, used⟩, list⟩ ⟨slot, age⟩ = (⟨(Drop ⟨ages, used⟩ (⟨slot, age⟩ : Handle)).1, list.eraseIdx i.toNat⟩, true) := by
      rw [callOff_at (a := ⟨⟨ages, used⟩, list⟩) hxx hh fun j y hj hy e => hA.2.2.2 y (mem_take_at hy hj) (e.trans hh.symm), if_pos rfl, remove_some (a := ⟨⟨ages, used⟩, list⟩) hxx, hh, if_pos hD]
    refine ACall.valN (r := rA A) (os := fun _ => []) (dp := false) S.cx (l8Away_c S ages used list hok i h0 _ hxx) ⟨rfl, (by repeat' (first | exact trivial | exact rfl | exact Nat.le_refl _ | exact S.cx.giveEq | exact S.cx.lendLe (by assumption) | exact S.cx.lendEq (by assumption) | exact S.cx.lendLe0 | exact S.cx.lendEq0 | exact S.cx.partLe (by assumption) | exact S.cx.partEq (by assumption) | refine ⟨?_, ?_⟩)), (by repeat' (first | exact trivial | exact rfl | exact Nat.le_refl _ | exact S.cx.giveEq | exact S.cx.lendLe (by assumption) | exact S.cx.lendEq (by assumption) | exact S.cx.lendLe0 | exact S.cx.lendEq0 | exact S.cx.partLe (by assumption) | exact S.cx.partEq (by assumption) | refine ⟨?_, ?_⟩))⟩ rfl (fun ln hln x hx => ⟨rfl, ?_⟩)
    obtain ⟨⟨ages2, used2⟩, list2⟩ := x
    cbv
    have hN2 := hln cInt64 ages2
    generalize ln (A.enc cInt64 ages2) = N2 at hN2 ⊢
    have hM2 := hln cBool used2
    generalize ln (A.enc cBool used2) = M2 at hM2 ⊢
    have hK2 := hln cAfter list2
    generalize ln (A.enc cAfter list2) = K2 at hK2 ⊢
    have hx9 : (⟨⟨ages2, used2⟩, list2⟩ : Afters) = ⟨(Drop ⟨ages, used⟩ (⟨slot, age⟩ : Handle)).1, list.eraseIdx i.toNat⟩ := by rw [← hh]; assumption
    exact Done.is (r := rAB A) (x := (⟨⟨ages2, used2⟩, list2⟩, true)) (by repeat' (first | exact trivial | exact rfl | exact resOwn S.cx rfl (by assumption) | exact resOwn S.cx rfl (S.cx.lenE _ _) | exact resOwn1 S.cx rfl (by assumption) | exact S.cx.enc _ [] | refine ⟨?_, ?_⟩)) rfl ((if_pos hok).trans (by rw [hC, hx9]))
  · have hall := hu.mem (by lia)
    have hC : CallOff ⟨⟨ages, used⟩, list⟩ ⟨slot, age⟩ = (⟨⟨ages, used⟩, list⟩, false) := by
      rcases afterAt_spec list ⟨slot, age⟩ with ⟨hr0, ⟨x, hx, hxh⟩, hru⟩ | ⟨_, hn⟩
      · have hA := hok.get (a := ⟨⟨ages, used⟩, list⟩) hx
        rw [callOff_at (a := ⟨⟨ages, used⟩, list⟩) hx hxh fun j y hj hy => hru j y (by omega) hy]
        split
        · rename_i hq
          rw [remove_some (a := ⟨⟨ages, used⟩, list⟩) hx, if_neg]
          intro hD
          have hn := hall x (mem_at hx)
          have hage : ¬ age < 1000000 := fun e => hn ⟨hxh, hq, e⟩
          rw [hxh] at hD
          have hH := hA.1
          rw [hxh] at hH
          have hle := (hok.1.2.2 age (mem_at hH.2.2)).2
          rw [Drop, if_neg (fun e => e.2 (by dsimp only; omega))] at hD
          cases hD
        · rfl
      · exact callOff_none (a := ⟨⟨ages, used⟩, list⟩) hn
    refine ACall.valN (r := rA A) (os := fun _ => []) (dp := false) S.cx (l8Copy_c S ages used list b5 b6 b7) ⟨rfl, (by repeat' (first | exact trivial | exact rfl | exact Nat.le_refl _ | exact S.cx.giveEq | exact S.cx.lendLe (by assumption) | exact S.cx.lendEq (by assumption) | exact S.cx.lendLe0 | exact S.cx.lendEq0 | exact S.cx.partLe (by assumption) | exact S.cx.partEq (by assumption) | refine ⟨?_, ?_⟩)), (by repeat' (first | exact trivial | exact rfl | exact Nat.le_refl _ | exact S.cx.giveEq | exact S.cx.lendLe (by assumption) | exact S.cx.lendEq (by assumption) | exact S.cx.lendLe0 | exact S.cx.lendEq0 | exact S.cx.partLe (by assumption) | exact S.cx.partEq (by assumption) | refine ⟨?_, ?_⟩))⟩ rfl (fun ln hln x hx => ⟨rfl, ?_⟩)
    obtain ⟨⟨ages', used'⟩, list'⟩ := x
    cases hx
    cbv
    have hN := hln cInt64 ages
    generalize ln (A.enc cInt64 ages) = N at hN ⊢
    have hM := hln cBool used
    generalize ln (A.enc cBool used) = M at hM ⊢
    have hK := hln cAfter list
    generalize ln (A.enc cAfter list) = K at hK ⊢
    exact Done.is (r := rAB A) (x := (⟨⟨ages, used⟩, list⟩, false)) (by repeat' (first | exact trivial | exact rfl | exact resOwn S.cx rfl (by assumption) | exact resOwn S.cx rfl (S.cx.lenE _ _) | exact resOwn1 S.cx rfl (by assumption) | exact S.cx.enc _ [] | refine ⟨?_, ?_⟩)) rfl ((if_pos hok).trans hC)

end Go.Proofs.Ytmbckmfihcojoaa.AM

namespace Go.Proofs.Ytmbckmfihcojoaa.AM
open Go Go.Proofs

set_option maxRecDepth 100000
set_option maxHeartbeats 4000000
set_option linter.unusedVariables false
set_option linter.unusedSimpArgs false

variable {P : Program} {A : Sy}

theorem remove_few (a : Afters) (i : Nat) : (Remove a i).1.slots.ages.length = a.slots.ages.length ∧ (Remove a i).1.slots.used.length = a.slots.used.length ∧ (Remove a i).1.list.length ≤ a.list.length := by
  unfold Remove; split
  · rename_i x hx
    have := drop_len a.slots x.handle
    split
    · exact ⟨this.1, this.2, List.length_eraseIdx_le a.list i⟩
    · exact ⟨rfl, rfl, Nat.le_refl _⟩
  · exact ⟨rfl, rfl, Nat.le_refl _⟩

theorem calledOff_few (a : Afters) (h : Handle) : (CalledOff a h).1.slots.ages.length ≤ 1048576 ∧ (CalledOff a h).1.slots.used.length ≤ 1048576 ∧ (CalledOff a h).1.list.length ≤ 1048576 := by
  unfold CalledOff; split
  · rename_i hk
    have b1 := hk.1.1.2
    have b2 := hk.1.2.1
    have b3 := hk.2.1
    have b4 := usedN_le a.slots.used
    unfold CallOff; split
    · rename_i i hi
      have := remove_few a i
      split
      · omega
      · dsimp only; omega
    · dsimp only; omega
  · exact ⟨Nat.zero_le _, Nat.zero_le _, Nat.zero_le _⟩

theorem lawCalledOff_c (S : Se P A) (ages_a : List Int) (used_a : List Bool) (list_a : List After) (slot_h : Int) (age_h : Int) : Is1 P 6 [.agg (roAfters A ⟨⟨ages_a, used_a⟩, list_a⟩), .agg (cHandle ⟨slot_h, age_h⟩)] (.bool true) := by
  refine S.cx.by (S.prog ▸ Try.func6) rfl rfl rfl rfl (fun hv ho => ?_)
  cbv
  try (refine Drawn.mk ⟨by kernel_rfl, fun _ => ?_⟩)
  refine ACall.num (dp := false) (szAfters_c S ⟨⟨ages_a, used_a⟩, list_a⟩ 1048576 (by lia)) ⟨rfl, (by repeat' (first | exact trivial | exact rfl | exact Nat.le_refl _ | exact S.cx.giveEq | exact S.cx.lendLe (by assumption) | exact S.cx.lendEq (by assumption) | exact S.cx.lendLe0 | exact S.cx.lendEq0 | exact S.cx.partLe (by assumption) | exact S.cx.partEq (by assumption) | refine ⟨?_, ?_⟩)), (by repeat' (first | exact trivial | exact rfl | exact Nat.le_refl _ | exact S.cx.giveEq | exact S.cx.lendLe (by assumption) | exact S.cx.lendEq (by assumption) | exact S.cx.lendLe0 | exact S.cx.lendEq0 | exact S.cx.partLe (by assumption) | exact S.cx.partEq (by assumption) | refine ⟨?_, ?_⟩))⟩ (fun q_a hq_a => ?_); cbv
  refine Test.lss (fun h => ?_) (fun h => ?_) <;> cbv
  · exact Done.to (.bool true) [] rfl rfl trivial ⟨rfl, rfl⟩
  replace hq_a := hq_a.resolve_left (by lia)
  simp only [Afters.total, Slots.total] at hq_a
  have b_ages_a : ages_a.length ≤ 1048576 := by lia
  have b_used_a : used_a.length ≤ 1048576 := by lia
  have b_list_a : list_a.length ≤ 1048576 := by lia
  try (refine Drawn.mk ⟨by kernel_rfl, fun _ => ?_⟩)
  refine ACall.valN (r := (fun x : Afters => .agg (ownAfters A x))) (os := fun _ => []) (dp := false) S.cx (toAfters_c S ⟨⟨ages_a, used_a⟩, list_a⟩ ⟨(Nat.le_trans b_ages_a (by decide)), (Nat.le_trans b_used_a (by decide)), (Nat.le_trans b_list_a (by decide))⟩) ⟨rfl, (by repeat' (first | exact trivial | exact rfl | exact Nat.le_refl _ | exact S.cx.giveEq | exact S.cx.lendLe (by assumption) | exact S.cx.lendEq (by assumption) | exact S.cx.lendLe0 | exact S.cx.lendEq0 | exact S.cx.partLe (by assumption) | exact S.cx.partEq (by assumption) | refine ⟨?_, ?_⟩)), (by repeat' (first | exact trivial | exact rfl | exact Nat.le_refl _ | exact S.cx.giveEq | exact S.cx.lendLe (by assumption) | exact S.cx.lendEq (by assumption) | exact S.cx.lendLe0 | exact S.cx.lendEq0 | exact S.cx.partLe (by assumption) | exact S.cx.partEq (by assumption) | refine ⟨?_, ?_⟩))⟩ rfl (fun ln hln x hx => ⟨rfl, ?_⟩)
  obtain ⟨⟨ages_ax, used_ax⟩, list_ax⟩ := x
  cases hx
  cbv
  have hna_ages_a := hln cInt64 ages_a
  generalize ln (A.enc cInt64 ages_a) = na_ages_a at hna_ages_a ⊢
  have hna_used_a := hln cBool used_a
  generalize ln (A.enc cBool used_a) = na_used_a at hna_used_a ⊢
  have hna_list_a := hln cAfter list_a
  generalize ln (A.enc cAfter list_a) = na_list_a at hna_list_a ⊢
  try (refine Drawn.mk ⟨by kernel_rfl, fun _ => ?_⟩)
  refine ACall.valN (r := (fun x : Handle => .agg (cHandle x))) (os := fun _ => []) (dp := false) S.cx (toHandle_c S ⟨slot_h, age_h⟩) ⟨rfl, (by repeat' (first | exact trivial | exact rfl | exact Nat.le_refl _ | exact S.cx.giveEq | exact S.cx.lendLe (by assumption) | exact S.cx.lendEq (by assumption) | exact S.cx.lendLe0 | exact S.cx.lendEq0 | exact S.cx.partLe (by assumption) | exact S.cx.partEq (by assumption) | refine ⟨?_, ?_⟩)), (by repeat' (first | exact trivial | exact rfl | exact Nat.le_refl _ | exact S.cx.giveEq | exact S.cx.lendLe (by assumption) | exact S.cx.lendEq (by assumption) | exact S.cx.lendLe0 | exact S.cx.lendEq0 | exact S.cx.partLe (by assumption) | exact S.cx.partEq (by assumption) | refine ⟨?_, ?_⟩))⟩ rfl (fun ln hln x hx => ⟨rfl, ?_⟩)
  obtain ⟨slot_hx, age_hx⟩ := x
  cases hx
  cbv
  try (refine Drawn.mk ⟨by kernel_rfl, fun _ => ?_⟩)
  refine ACall.valN (r := rAB A) (os := fun _ => []) (dp := false) S.cx (specCalledOff_c S ages_a used_a list_a slot_h age_h) ⟨rfl, (by repeat' (first | exact trivial | exact rfl | exact Nat.le_refl _ | exact S.cx.giveEq | exact S.cx.lendLe (by assumption) | exact S.cx.lendEq (by assumption) | exact S.cx.lendLe0 | exact S.cx.lendEq0 | exact S.cx.partLe (by assumption) | exact S.cx.partEq (by assumption) | refine ⟨?_, ?_⟩)), (by repeat' (first | exact trivial | exact rfl | exact Nat.le_refl _ | exact S.cx.giveEq | exact S.cx.lendLe (by assumption) | exact S.cx.lendEq (by assumption) | exact S.cx.lendLe0 | exact S.cx.lendEq0 | exact S.cx.partLe (by assumption) | exact S.cx.partEq (by assumption) | refine ⟨?_, ?_⟩))⟩ rfl (fun ln hln x hx => ⟨rfl, ?_⟩)
  obtain ⟨⟨⟨ages0w, used0w⟩, list0w⟩, v1w⟩ := x
  cbv
  have hN_ages0w := hln cInt64 ages0w
  generalize ln (A.enc cInt64 ages0w) = N_ages0w at hN_ages0w ⊢
  have hN_used0w := hln cBool used0w
  generalize ln (A.enc cBool used0w) = N_used0w at hN_used0w ⊢
  have hN_list0w := hln cAfter list0w
  generalize ln (A.enc cAfter list0w) = N_list0w at hN_list0w ⊢
  have hw := hx
  have hfew := calledOff_few ⟨⟨ages_a, used_a⟩, list_a⟩ ⟨slot_h, age_h⟩
  rw [← hw] at hfew
  obtain ⟨b_ages0w, b_used0w, b_list0w⟩ := hfew
  try dsimp only at b_ages0w b_used0w b_list0w
  cases v1w
  all_goals
    try cbv
    try (refine Drawn.mk ⟨by kernel_rfl, fun _ => ?_⟩)
    refine ACall.valN (r := (fun x : Afters => .agg (ownAfters A x))) (os := fun _ => []) (dp := false) S.cx (toAfters_c S ⟨⟨ages_a, used_a⟩, list_a⟩ ⟨(Nat.le_trans b_ages_a (by decide)), (Nat.le_trans b_used_a (by decide)), (Nat.le_trans b_list_a (by decide))⟩) ⟨rfl, (by repeat' (first | exact trivial | exact rfl | exact Nat.le_refl _ | exact S.cx.giveEq | exact S.cx.lendLe (by assumption) | exact S.cx.lendEq (by assumption) | exact S.cx.lendLe0 | exact S.cx.lendEq0 | exact S.cx.partLe (by assumption) | exact S.cx.partEq (by assumption) | refine ⟨?_, ?_⟩)), (by repeat' (first | exact trivial | exact rfl | exact Nat.le_refl _ | exact S.cx.giveEq | exact S.cx.lendLe (by assumption) | exact S.cx.lendEq (by assumption) | exact S.cx.lendLe0 | exact S.cx.lendEq0 | exact S.cx.partLe (by assumption) | exact S.cx.partEq (by assumption) | refine ⟨?_, ?_⟩))⟩ rfl (fun ln hln x hx => ⟨rfl, ?_⟩)
    obtain ⟨⟨ages_ax, used_ax⟩, list_ax⟩ := x
    cases hx
    cbv
    have hnb_ages_a := hln cInt64 ages_a
    generalize ln (A.enc cInt64 ages_a) = nb_ages_a at hnb_ages_a ⊢
    have hnb_used_a := hln cBool used_a
    generalize ln (A.enc cBool used_a) = nb_used_a at hnb_used_a ⊢
    have hnb_list_a := hln cAfter list_a
    generalize ln (A.enc cAfter list_a) = nb_list_a at hnb_list_a ⊢
    try (refine Drawn.mk ⟨by kernel_rfl, fun _ => ?_⟩)
    refine ACall.valN (r := (fun x : Handle => .agg (cHandle x))) (os := fun _ => []) (dp := false) S.cx (toHandle_c S ⟨slot_h, age_h⟩) ⟨rfl, (by repeat' (first | exact trivial | exact rfl | exact Nat.le_refl _ | exact S.cx.giveEq | exact S.cx.lendLe (by assumption) | exact S.cx.lendEq (by assumption) | exact S.cx.lendLe0 | exact S.cx.lendEq0 | exact S.cx.partLe (by assumption) | exact S.cx.partEq (by assumption) | refine ⟨?_, ?_⟩)), (by repeat' (first | exact trivial | exact rfl | exact Nat.le_refl _ | exact S.cx.giveEq | exact S.cx.lendLe (by assumption) | exact S.cx.lendEq (by assumption) | exact S.cx.lendLe0 | exact S.cx.lendEq0 | exact S.cx.partLe (by assumption) | exact S.cx.partEq (by assumption) | refine ⟨?_, ?_⟩))⟩ rfl (fun ln hln x hx => ⟨rfl, ?_⟩)
    obtain ⟨slot_hx, age_hx⟩ := x
    cases hx
    cbv
    try (refine Drawn.mk ⟨by kernel_rfl, fun _ => ?_⟩)
    refine ACall.valN (r := rAB A) (os := fun _ => []) (dp := false) S.cx (implCalledOff_c S ages_a used_a list_a slot_h age_h) ⟨rfl, (by repeat' (first | exact trivial | exact rfl | exact Nat.le_refl _ | exact S.cx.giveEq | exact S.cx.lendLe (by assumption) | exact S.cx.lendEq (by assumption) | exact S.cx.lendLe0 | exact S.cx.lendEq0 | exact S.cx.partLe (by assumption) | exact S.cx.partEq (by assumption) | refine ⟨?_, ?_⟩)), (by repeat' (first | exact trivial | exact rfl | exact Nat.le_refl _ | exact S.cx.giveEq | exact S.cx.lendLe (by assumption) | exact S.cx.lendEq (by assumption) | exact S.cx.lendLe0 | exact S.cx.lendEq0 | exact S.cx.partLe (by assumption) | exact S.cx.partEq (by assumption) | refine ⟨?_, ?_⟩))⟩ rfl (fun ln hln x hx => ⟨rfl, ?_⟩)
    obtain ⟨⟨⟨ages0g, used0g⟩, list0g⟩, v1g⟩ := x
    cbv
    have hN_ages0g := hln cInt64 ages0g
    generalize ln (A.enc cInt64 ages0g) = N_ages0g at hN_ages0g ⊢
    have hN_used0g := hln cBool used0g
    generalize ln (A.enc cBool used0g) = N_used0g at hN_used0g ⊢
    have hN_list0g := hln cAfter list0g
    generalize ln (A.enc cAfter list0g) = N_list0g at hN_list0g ⊢
    cases hx.trans hw.symm
    try (refine Drawn.mk ⟨by kernel_rfl, fun _ => ?_⟩)
    refine ACall.testD (dp := false) (eqAfters_c S ⟨⟨ages0w, used0w⟩, list0w⟩ ⟨⟨ages0w, used0w⟩, list0w⟩) ⟨rfl, (by repeat' (first | exact trivial | exact rfl | exact Nat.le_refl _ | exact S.cx.giveEq | exact S.cx.lendLe (by assumption) | exact S.cx.lendEq (by assumption) | exact S.cx.lendLe0 | exact S.cx.lendEq0 | exact S.cx.partLe (by assumption) | exact S.cx.partEq (by assumption) | refine ⟨?_, ?_⟩)), (by repeat' (first | exact trivial | exact rfl | exact Nat.le_refl _ | exact S.cx.giveEq | exact S.cx.lendLe (by assumption) | exact S.cx.lendEq (by assumption) | exact S.cx.lendLe0 | exact S.cx.lendEq0 | exact S.cx.partLe (by assumption) | exact S.cx.partEq (by assumption) | refine ⟨?_, ?_⟩))⟩ rfl (fun h => ?_) (fun h => ?_) <;> cbv
    rotate_left
    · exact absurd rfl h
    try (refine Drawn.mk ⟨by kernel_rfl, fun _ => ?_⟩)
    refine ACall.valN (r := (fun x : Afters => .agg (ownAfters A x))) (os := fun _ => []) (dp := false) S.cx (toAfters_c S ⟨⟨ages_a, used_a⟩, list_a⟩ ⟨(Nat.le_trans b_ages_a (by decide)), (Nat.le_trans b_used_a (by decide)), (Nat.le_trans b_list_a (by decide))⟩) ⟨rfl, (by repeat' (first | exact trivial | exact rfl | exact Nat.le_refl _ | exact S.cx.giveEq | exact S.cx.lendLe (by assumption) | exact S.cx.lendEq (by assumption) | exact S.cx.lendLe0 | exact S.cx.lendEq0 | exact S.cx.partLe (by assumption) | exact S.cx.partEq (by assumption) | refine ⟨?_, ?_⟩)), (by repeat' (first | exact trivial | exact rfl | exact Nat.le_refl _ | exact S.cx.giveEq | exact S.cx.lendLe (by assumption) | exact S.cx.lendEq (by assumption) | exact S.cx.lendLe0 | exact S.cx.lendEq0 | exact S.cx.partLe (by assumption) | exact S.cx.partEq (by assumption) | refine ⟨?_, ?_⟩))⟩ rfl (fun ln hln x hx => ⟨rfl, ?_⟩)
    obtain ⟨⟨ages_ax, used_ax⟩, list_ax⟩ := x
    cases hx
    cbv
    have hnc_ages_a := hln cInt64 ages_a
    generalize ln (A.enc cInt64 ages_a) = nc_ages_a at hnc_ages_a ⊢
    have hnc_used_a := hln cBool used_a
    generalize ln (A.enc cBool used_a) = nc_used_a at hnc_used_a ⊢
    have hnc_list_a := hln cAfter list_a
    generalize ln (A.enc cAfter list_a) = nc_list_a at hnc_list_a ⊢
    try (refine Drawn.mk ⟨by kernel_rfl, fun _ => ?_⟩)
    refine ACall.testD (dp := false) (eqAfters_c S ⟨⟨ages_a, used_a⟩, list_a⟩ ⟨⟨ages_a, used_a⟩, list_a⟩) ⟨rfl, (by repeat' (first | exact trivial | exact rfl | exact Nat.le_refl _ | exact S.cx.giveEq | exact S.cx.lendLe (by assumption) | exact S.cx.lendEq (by assumption) | exact S.cx.lendLe0 | exact S.cx.lendEq0 | exact S.cx.partLe (by assumption) | exact S.cx.partEq (by assumption) | refine ⟨?_, ?_⟩)), (by repeat' (first | exact trivial | exact rfl | exact Nat.le_refl _ | exact S.cx.giveEq | exact S.cx.lendLe (by assumption) | exact S.cx.lendEq (by assumption) | exact S.cx.lendLe0 | exact S.cx.lendEq0 | exact S.cx.partLe (by assumption) | exact S.cx.partEq (by assumption) | refine ⟨?_, ?_⟩))⟩ rfl (fun h => ?_) (fun h => ?_) <;> cbv
    rotate_left
    · exact absurd rfl h
    try (refine Drawn.mk ⟨by kernel_rfl, fun _ => ?_⟩)
    refine ACall.mut3 (dp := false) (markAfters_c S ages_a used_a list_a nb_ages_a hnb_ages_a nb_used_a hnb_used_a nb_list_a hnb_list_a 1 (by lia) (by lia)) ⟨rfl, (by repeat' (first | exact trivial | exact rfl | exact Nat.le_refl _ | exact S.cx.giveEq | exact S.cx.lendLe (by assumption) | exact S.cx.lendEq (by assumption) | exact S.cx.lendLe0 | exact S.cx.lendEq0 | exact S.cx.partLe (by assumption) | exact S.cx.partEq (by assumption) | refine ⟨?_, ?_⟩)), (by repeat' (first | exact trivial | exact rfl | exact Nat.le_refl _ | exact S.cx.giveEq | exact S.cx.lendLe (by assumption) | exact S.cx.lendEq (by assumption) | exact S.cx.lendLe0 | exact S.cx.lendEq0 | exact S.cx.partLe (by assumption) | exact S.cx.partEq (by assumption) | refine ⟨?_, ?_⟩))⟩ rfl (fun k_a mk_ages_a mk_used_a mk_list_a hk_a ek_ages_a ek_used_a ek_list_a => ⟨rfl, ?_⟩); cbv
    refine Test.lss (fun h => ?_) (fun h => ?_) <;> cbv
    · exfalso; lia
    try (refine Drawn.mk ⟨by kernel_rfl, fun _ => ?_⟩)
    refine ACall.testD (dp := false) (eqAfters_c S ⟨⟨ages0w, used0w⟩, list0w⟩ ⟨⟨ages0w, used0w⟩, list0w⟩) ⟨rfl, (by repeat' (first | exact trivial | exact rfl | exact Nat.le_refl _ | exact S.cx.giveEq | exact S.cx.lendLe (by assumption) | exact S.cx.lendEq (by assumption) | exact S.cx.lendLe0 | exact S.cx.lendEq0 | exact S.cx.partLe (by assumption) | exact S.cx.partEq (by assumption) | refine ⟨?_, ?_⟩)), (by repeat' (first | exact trivial | exact rfl | exact Nat.le_refl _ | exact S.cx.giveEq | exact S.cx.lendLe (by assumption) | exact S.cx.lendEq (by assumption) | exact S.cx.lendLe0 | exact S.cx.lendEq0 | exact S.cx.partLe (by assumption) | exact S.cx.partEq (by assumption) | refine ⟨?_, ?_⟩))⟩ rfl (fun h => ?_) (fun h => ?_) <;> cbv
    rotate_left
    · exact absurd rfl h
    try (refine Drawn.mk ⟨by kernel_rfl, fun _ => ?_⟩)
    refine ACall.mut3 (dp := false) (markAfters_c S ages0w used0w list0w N_ages0g hN_ages0g N_used0g hN_used0g N_list0g hN_list0g 1 (by lia) (by lia)) ⟨rfl, (by repeat' (first | exact trivial | exact rfl | exact Nat.le_refl _ | exact S.cx.giveEq | exact S.cx.lendLe (by assumption) | exact S.cx.lendEq (by assumption) | exact S.cx.lendLe0 | exact S.cx.lendEq0 | exact S.cx.partLe (by assumption) | exact S.cx.partEq (by assumption) | refine ⟨?_, ?_⟩)), (by repeat' (first | exact trivial | exact rfl | exact Nat.le_refl _ | exact S.cx.giveEq | exact S.cx.lendLe (by assumption) | exact S.cx.lendEq (by assumption) | exact S.cx.lendLe0 | exact S.cx.lendEq0 | exact S.cx.partLe (by assumption) | exact S.cx.partEq (by assumption) | refine ⟨?_, ?_⟩))⟩ rfl (fun m_0 mm_ages0w mm_used0w mm_list0w hm_0 em_ages0w em_used0w em_list0w => ⟨rfl, ?_⟩); cbv
    have l_ages0w : mm_ages0w.length = N_ages0g := by rw [em_ages0w, marks_len]
    have l_ages0w_ := l_ages0w.symm
    have l_used0w : mm_used0w.length = N_used0g := by rw [em_used0w, marks_len]
    have l_used0w_ := l_used0w.symm
    have l_list0w : mm_list0w.length = N_list0g := by rw [em_list0w, marks_len]
    have l_list0w_ := l_list0w.symm
    try (refine Drawn.mk ⟨by kernel_rfl, fun _ => ?_⟩)
    refine ACall.int (dp := false) (heldAfters_c S ⟨⟨mm_ages0w, mm_used0w⟩, mm_list0w⟩ 1 (by lia) (by dsimp only; lia) (by dsimp only; rw [l_ages0w]; exact em_ages0w) (by dsimp only; rw [l_used0w, l_ages0w]; exact em_used0w) (by dsimp only; rw [l_list0w, l_ages0w, l_used0w]; exact em_list0w)) ⟨rfl, (by repeat' (first | exact trivial | exact rfl | exact Nat.le_refl _ | exact S.cx.giveEq | exact S.cx.lendLe (by assumption) | exact S.cx.lendEq (by assumption) | exact S.cx.lendLe0 | exact S.cx.lendEq0 | exact S.cx.partLe (by assumption) | exact S.cx.partEq (by assumption) | refine ⟨?_, ?_⟩)), (by repeat' (first | exact trivial | exact rfl | exact Nat.le_refl _ | exact S.cx.giveEq | exact S.cx.lendLe (by assumption) | exact S.cx.lendEq (by assumption) | exact S.cx.lendLe0 | exact S.cx.lendEq0 | exact S.cx.partLe (by assumption) | exact S.cx.partEq (by assumption) | refine ⟨?_, ?_⟩))⟩ rfl (fun qq_0 hqq_0 => ?_); cbv
    dsimp only at hqq_0
    refine Test.lss (fun h => ?_) (fun h => ?_) <;> cbv
    · exfalso; lia
    refine Test.neq (fun h => ?_) (fun h => ?_) <;> cbv
    · exfalso; lia
    try (refine Drawn.mk ⟨by kernel_rfl, fun _ => ?_⟩)
    refine ACall.valN (r := (fun x : Afters => .agg (ownAfters A x))) (os := fun _ => []) (dp := false) S.cx (toAfters_c S ⟨⟨ages_a, used_a⟩, list_a⟩ ⟨(Nat.le_trans b_ages_a (by decide)), (Nat.le_trans b_used_a (by decide)), (Nat.le_trans b_list_a (by decide))⟩) ⟨rfl, (by repeat' (first | exact trivial | exact rfl | exact Nat.le_refl _ | exact S.cx.giveEq | exact S.cx.lendLe (by assumption) | exact S.cx.lendEq (by assumption) | exact S.cx.lendLe0 | exact S.cx.lendEq0 | exact S.cx.partLe (by assumption) | exact S.cx.partEq (by assumption) | refine ⟨?_, ?_⟩)), (by repeat' (first | exact trivial | exact rfl | exact Nat.le_refl _ | exact S.cx.giveEq | exact S.cx.lendLe (by assumption) | exact S.cx.lendEq (by assumption) | exact S.cx.lendLe0 | exact S.cx.lendEq0 | exact S.cx.partLe (by assumption) | exact S.cx.partEq (by assumption) | refine ⟨?_, ?_⟩))⟩ rfl (fun ln hln x hx => ⟨rfl, ?_⟩)
    obtain ⟨⟨ages_ax, used_ax⟩, list_ax⟩ := x
    cases hx
    cbv
    have hnd_ages_a := hln cInt64 ages_a
    generalize ln (A.enc cInt64 ages_a) = nd_ages_a at hnd_ages_a ⊢
    have hnd_used_a := hln cBool used_a
    generalize ln (A.enc cBool used_a) = nd_used_a at hnd_used_a ⊢
    have hnd_list_a := hln cAfter list_a
    generalize ln (A.enc cAfter list_a) = nd_list_a at hnd_list_a ⊢
    try (refine Drawn.mk ⟨by kernel_rfl, fun _ => ?_⟩)
    refine ACall.valN (r := (fun x : Handle => .agg (cHandle x))) (os := fun _ => []) (dp := false) S.cx (toHandle_c S ⟨slot_h, age_h⟩) ⟨rfl, (by repeat' (first | exact trivial | exact rfl | exact Nat.le_refl _ | exact S.cx.giveEq | exact S.cx.lendLe (by assumption) | exact S.cx.lendEq (by assumption) | exact S.cx.lendLe0 | exact S.cx.lendEq0 | exact S.cx.partLe (by assumption) | exact S.cx.partEq (by assumption) | refine ⟨?_, ?_⟩)), (by repeat' (first | exact trivial | exact rfl | exact Nat.le_refl _ | exact S.cx.giveEq | exact S.cx.lendLe (by assumption) | exact S.cx.lendEq (by assumption) | exact S.cx.lendLe0 | exact S.cx.lendEq0 | exact S.cx.partLe (by assumption) | exact S.cx.partEq (by assumption) | refine ⟨?_, ?_⟩))⟩ rfl (fun ln hln x hx => ⟨rfl, ?_⟩)
    obtain ⟨slot_hx, age_hx⟩ := x
    cases hx
    cbv
    try (refine Drawn.mk ⟨by kernel_rfl, fun _ => ?_⟩)
    refine ACall.valN (r := rAB A) (os := fun _ => []) (dp := false) S.cx (implCalledOff_c S ages_a used_a list_a slot_h age_h) ⟨rfl, (by repeat' (first | exact trivial | exact rfl | exact Nat.le_refl _ | exact S.cx.giveEq | exact S.cx.lendLe (by assumption) | exact S.cx.lendEq (by assumption) | exact S.cx.lendLe0 | exact S.cx.lendEq0 | exact S.cx.partLe (by assumption) | exact S.cx.partEq (by assumption) | refine ⟨?_, ?_⟩)), (by repeat' (first | exact trivial | exact rfl | exact Nat.le_refl _ | exact S.cx.giveEq | exact S.cx.lendLe (by assumption) | exact S.cx.lendEq (by assumption) | exact S.cx.lendLe0 | exact S.cx.lendEq0 | exact S.cx.partLe (by assumption) | exact S.cx.partEq (by assumption) | refine ⟨?_, ?_⟩))⟩ rfl (fun ln hln x hx => ⟨rfl, ?_⟩)
    obtain ⟨⟨⟨ages0h, used0h⟩, list0h⟩, v1h⟩ := x
    cbv
    have hN_ages0h := hln cInt64 ages0h
    generalize ln (A.enc cInt64 ages0h) = N_ages0h at hN_ages0h ⊢
    have hN_used0h := hln cBool used0h
    generalize ln (A.enc cBool used0h) = N_used0h at hN_used0h ⊢
    have hN_list0h := hln cAfter list0h
    generalize ln (A.enc cAfter list0h) = N_list0h at hN_list0h ⊢
    cases hx.trans hw.symm
    try (refine Drawn.mk ⟨by kernel_rfl, fun _ => ?_⟩)
    refine ACall.testD (dp := false) (eqAfters_c S ⟨⟨ages0w, used0w⟩, list0w⟩ ⟨⟨ages0w, used0w⟩, list0w⟩) ⟨rfl, (by repeat' (first | exact trivial | exact rfl | exact Nat.le_refl _ | exact S.cx.giveEq | exact S.cx.lendLe (by assumption) | exact S.cx.lendEq (by assumption) | exact S.cx.lendLe0 | exact S.cx.lendEq0 | exact S.cx.partLe (by assumption) | exact S.cx.partEq (by assumption) | refine ⟨?_, ?_⟩)), (by repeat' (first | exact trivial | exact rfl | exact Nat.le_refl _ | exact S.cx.giveEq | exact S.cx.lendLe (by assumption) | exact S.cx.lendEq (by assumption) | exact S.cx.lendLe0 | exact S.cx.lendEq0 | exact S.cx.partLe (by assumption) | exact S.cx.partEq (by assumption) | refine ⟨?_, ?_⟩))⟩ rfl (fun h => ?_) (fun h => ?_) <;> cbv
    rotate_left
    · exact absurd rfl h
    try (refine Drawn.mk ⟨by kernel_rfl, fun _ => ?_⟩)
    refine ACall.int (dp := false) (heldAfters_c S ⟨⟨mm_ages0w, mm_used0w⟩, mm_list0w⟩ 1 (by lia) (by dsimp only; lia) (by dsimp only; rw [l_ages0w]; exact em_ages0w) (by dsimp only; rw [l_used0w, l_ages0w]; exact em_used0w) (by dsimp only; rw [l_list0w, l_ages0w, l_used0w]; exact em_list0w)) ⟨rfl, (by repeat' (first | exact trivial | exact rfl | exact Nat.le_refl _ | exact S.cx.giveEq | exact S.cx.lendLe (by assumption) | exact S.cx.lendEq (by assumption) | exact S.cx.lendLe0 | exact S.cx.lendEq0 | exact S.cx.partLe (by assumption) | exact S.cx.partEq (by assumption) | refine ⟨?_, ?_⟩)), (by repeat' (first | exact trivial | exact rfl | exact Nat.le_refl _ | exact S.cx.giveEq | exact S.cx.lendLe (by assumption) | exact S.cx.lendEq (by assumption) | exact S.cx.lendLe0 | exact S.cx.lendEq0 | exact S.cx.partLe (by assumption) | exact S.cx.partEq (by assumption) | refine ⟨?_, ?_⟩))⟩ rfl (fun qr_0 hqr_0 => ?_); cbv
    dsimp only at hqr_0
    refine Test.lss (fun h => ?_) (fun h => ?_) <;> cbv
    · exfalso; lia
    refine Test.neq (fun h => ?_) (fun h => ?_) <;> cbv
    · exfalso; lia
    exact Done.to (.bool true) [] rfl rfl trivial ⟨rfl, rfl⟩

end Go.Proofs.Ytmbckmfihcojoaa.AM
