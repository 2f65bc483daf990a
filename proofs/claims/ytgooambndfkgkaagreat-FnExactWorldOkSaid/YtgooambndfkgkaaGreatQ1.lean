/- Contracts: copies of slices; places in slices; slots. (printed by gq1.py) -/
import Derived.Test.YtgooambndfkgkaaGreatH1
import Derived.Test.YtgooambndfkgkaaGreatBC
import Derived.Test.YtgooambndfkgkaaGreatPL
namespace Go.Proofs.YtgooambndfkgkaaGreat.AM
open Go Go.Proofs

set_option maxRecDepth 100000
set_option maxHeartbeats 4000000
set_option linter.unusedVariables false
set_option linter.unusedSimpArgs false

variable {P : Program} {A : Sy}

theorem plainInt64 : Plain cInt64 := fun _ => rfl
def rInt64 (A : Sy) (l : List Int) : AV := .own 1 true (A.enc cInt64 l)
theorem plainBool : Plain cBool := fun _ => rfl
def rBool (A : Sy) (l : List Bool) : AV := .own 1 true (A.enc cBool l)

theorem sizeInt64_c (S : Se P A) (l : List Int) : Nums P 174 [.ro (A.enc cInt64 l)] (fun n => 0 ≤ n ∧ n.toNat = l.length) := by
  refine S.cx.by (S.prog ▸ Tryz.func174) rfl rfl rfl rfl (fun hv ho => ?_)
  cbv
  refine LenR.nat S.cx (fun N hN hm => ?_); cbv
  exact Done.num hN

theorem isInInt64_c (S : Se P A) (n : Int) (l : List Int) : Tests P 242 [.int .i64 n, .ro (A.enc cInt64 l)] (0 ≤ n ∧ n.toNat < l.length) := by
  refine S.cx.by (S.prog ▸ Tryz.func242) rfl rfl rfl rfl (fun hv ho => ?_)
  cbv
  refine ACall.num (dp := false) (sizeInt64_c S l) ⟨rfl, (by repeat' (first | exact trivial | exact rfl | exact Nat.le_refl _ | exact S.cx.giveEq | exact S.cx.lendLe (by assumption) | exact S.cx.lendEq (by assumption) | exact S.cx.lendLe0 | exact S.cx.lendEq0 | exact S.cx.partLe (by assumption) | exact S.cx.partEq (by assumption) | exact S.cx.enc _ [] | exact .inl rfl | refine ⟨?_, ?_⟩)), (by repeat' (first | exact trivial | exact rfl | exact Nat.le_refl _ | exact S.cx.giveEq | exact S.cx.lendLe (by assumption) | exact S.cx.lendEq (by assumption) | exact S.cx.lendLe0 | exact S.cx.lendEq0 | exact S.cx.partLe (by assumption) | exact S.cx.partEq (by assumption) | exact S.cx.enc _ [] | exact .inl rfl | refine ⟨?_, ?_⟩))⟩ (fun N hN => ?_); cbv
  refine Arith.know (fun h1 h2 => by lia) (fun m hm h1 h2 => ?_); cbv
  replace hm : m = N - 1 := hm
  refine ACall.testD (dp := false) (within_c S n 0 m) ⟨rfl, (by repeat' (first | exact trivial | exact rfl | exact Nat.le_refl _ | exact S.cx.giveEq | exact S.cx.lendLe (by assumption) | exact S.cx.lendEq (by assumption) | exact S.cx.lendLe0 | exact S.cx.lendEq0 | exact S.cx.partLe (by assumption) | exact S.cx.partEq (by assumption) | exact S.cx.enc _ [] | exact .inl rfl | refine ⟨?_, ?_⟩)), (by repeat' (first | exact trivial | exact rfl | exact Nat.le_refl _ | exact S.cx.giveEq | exact S.cx.lendLe (by assumption) | exact S.cx.lendEq (by assumption) | exact S.cx.lendLe0 | exact S.cx.lendEq0 | exact S.cx.partLe (by assumption) | exact S.cx.partEq (by assumption) | exact S.cx.enc _ [] | exact .inl rfl | refine ⟨?_, ?_⟩))⟩ rfl (fun h => ?_) (fun h => ?_) <;> cbv
  · exact Done.yes (by omega)
  · exact Done.no (by omega)

theorem indexFuncInt64_c (S : Se P A) (F : FuncId) (q : Int → Prop) (hF : ∀ x : Int, Tests P F [.int .i64 x] (q x)) (l : List Int) : Nums P 234 [.ro (A.enc cInt64 l), .fn F [] []] (fun r => 0 ≤ r ∧ (∃ x, l[r.toNat]? = some x ∧ q x) ∧ Upto (fun _ x => ¬ q x) l r ∨ r = -1 ∧ ∀ x ∈ l, ¬ q x) := by
  refine S.cx.by (S.prog ▸ Tryz.func234) rfl rfl rfl rfl (fun hv ho => ?_)
  cbv
  refine LenR.nat S.cx (fun N hN hm => ?_); cbv
  refine ALoop.goD (ι := Int) (fun i => [(8, .int .i64 i)]) [] (fun i => []) (fun i => 0 ≤ i ∧ Upto (fun _ x => ¬ q x) l i) (fun i => (l.length - i).toNat) (0) S.cx.tab S.cx.mix S.eq ?_ ?_ ?_
  · exact ⟨Int.le_refl _, .zero⟩
  · (cbv; refine Less.to [] rfl rfl ?_ ?_ <;> repeat' (first | exact trivial | exact ⟨rfl, rfl⟩ | exact ⟨_, rfl, Nat.zero_le _, rfl⟩ | apply And.intro | exact rfl))
  · rintro i ⟨h0, hu⟩
    cbv
    refine Test.lss (fun h => ?_) (fun h => ?_) <;> cbv
    · refine ElemRo.enc S.cx (fun _ => rfl) (by lia) (by lia) (fun x hx => ?_); cbv
      refine ACall.testD (dp := false) (hF x) ⟨rfl, (by repeat' (first | exact trivial | exact rfl | exact Nat.le_refl _ | exact S.cx.giveEq | exact S.cx.lendLe (by assumption) | exact S.cx.lendEq (by assumption) | exact S.cx.lendLe0 | exact S.cx.lendEq0 | exact S.cx.partLe (by assumption) | exact S.cx.partEq (by assumption) | exact S.cx.enc _ [] | exact .inl rfl | refine ⟨?_, ?_⟩)), (by repeat' (first | exact trivial | exact rfl | exact Nat.le_refl _ | exact S.cx.giveEq | exact S.cx.lendLe (by assumption) | exact S.cx.lendEq (by assumption) | exact S.cx.lendLe0 | exact S.cx.lendEq0 | exact S.cx.partLe (by assumption) | exact S.cx.partEq (by assumption) | exact S.cx.enc _ [] | exact .inl rfl | refine ⟨?_, ?_⟩))⟩ rfl (fun h2 => ?_) (fun h2 => ?_) <;> cbv
      · exact Done.num (.inl ⟨h0, ⟨x, hx, h2⟩, hu⟩)
      · refine Arith.go (by lia) (fun i' hi' => ?_); cbv
        refine Again.on i' (by lia) ⟨by lia, hu.next h0 hx h2 hi'⟩ ?_
        (cbv; refine Less.to [] rfl rfl ?_ ?_ <;> repeat' (first | exact trivial | exact ⟨rfl, rfl⟩ | exact ⟨_, rfl, Nat.zero_le _, rfl⟩ | apply And.intro | exact rfl))
    · exact Done.num (.inr ⟨rfl, hu.mem (by lia)⟩)

theorem containsFuncInt64_c (S : Se P A) (F : FuncId) (q : Int → Prop) (hF : ∀ x : Int, Tests P F [.int .i64 x] (q x)) (l : List Int) : Tests P 136 [.ro (A.enc cInt64 l), .fn F [] []] (∃ x ∈ l, q x) := by
  refine S.cx.by (S.prog ▸ Tryz.func136) rfl rfl rfl rfl (fun hv ho => ?_)
  cbv
  refine ACall.num (dp := false) (indexFuncInt64_c S F q hF l) ⟨rfl, (by repeat' (first | exact trivial | exact rfl | exact Nat.le_refl _ | exact S.cx.giveEq | exact S.cx.lendLe (by assumption) | exact S.cx.lendEq (by assumption) | exact S.cx.lendLe0 | exact S.cx.lendEq0 | exact S.cx.partLe (by assumption) | exact S.cx.partEq (by assumption) | exact S.cx.enc _ [] | exact .inl rfl | refine ⟨?_, ?_⟩)), (by repeat' (first | exact trivial | exact rfl | exact Nat.le_refl _ | exact S.cx.giveEq | exact S.cx.lendLe (by assumption) | exact S.cx.lendEq (by assumption) | exact S.cx.lendLe0 | exact S.cx.lendEq0 | exact S.cx.partLe (by assumption) | exact S.cx.partEq (by assumption) | exact S.cx.enc _ [] | exact .inl rfl | refine ⟨?_, ?_⟩))⟩ (fun r hr => ?_); cbv
  refine Test.geq (fun h => ?_) (fun h => ?_) <;> cbv
  · refine Done.yes ?_
    rcases hr with ⟨_, ⟨x, hx, hq⟩, _⟩ | ⟨rfl, _⟩
    · exact ⟨x, mem_at hx, hq⟩
    · exact absurd h (by decide)
  · refine Done.no fun ⟨x, hx, hq⟩ => ?_
    rcases hr with ⟨h0, _⟩ | ⟨_, hr⟩
    · lia
    · exact hr x hx hq

def SlotsOk (s : Slots) : Prop := (1 ≤ s.ages.length ∧ s.ages.length ≤ 64) ∧ s.used.length = s.ages.length ∧ ∀ a ∈ s.ages, 0 ≤ a ∧ a ≤ 1000000
instance (s : Slots) : Decidable (SlotsOk s) := by unfold SlotsOk; infer_instance
def slots0 : Slots := ⟨[], []⟩
def handle0 : Handle := ⟨0, 0⟩

theorem slotsOk1_c (S : Se P A) (x : Int) : Tests P 175 [.int .i64 x] (¬ (0 ≤ x ∧ x ≤ 1000000)) := by
  refine S.cx.by (S.prog ▸ Tryz.func175) rfl rfl rfl rfl (fun hv ho => ?_)
  cbv
  refine ACall.testD (dp := false) (within_c S x _ _) ⟨rfl, (by repeat' (first | exact trivial | exact rfl | exact Nat.le_refl _ | exact S.cx.giveEq | exact S.cx.lendLe (by assumption) | exact S.cx.lendEq (by assumption) | exact S.cx.lendLe0 | exact S.cx.lendEq0 | exact S.cx.partLe (by assumption) | exact S.cx.partEq (by assumption) | exact S.cx.enc _ [] | exact .inl rfl | refine ⟨?_, ?_⟩)), (by repeat' (first | exact trivial | exact rfl | exact Nat.le_refl _ | exact S.cx.giveEq | exact S.cx.lendLe (by assumption) | exact S.cx.lendEq (by assumption) | exact S.cx.lendLe0 | exact S.cx.lendEq0 | exact S.cx.partLe (by assumption) | exact S.cx.partEq (by assumption) | exact S.cx.enc _ [] | exact .inl rfl | refine ⟨?_, ?_⟩))⟩ rfl (fun h => ?_) (fun h => ?_) <;> cbv
  · exact Done.no (fun e => e h)
  · exact Done.yes h

theorem implSlotsOk_c (S : Se P A) (ages : List Int) (used : List Bool) : Tests P 59 [.agg (roSlots A ⟨ages, used⟩)] (SlotsOk ⟨ages, used⟩) := by
  refine S.cx.by (S.prog ▸ Tryz.func59) rfl rfl rfl rfl (fun hv ho => ?_)
  cbv
  refine ACall.num (dp := false) (sizeInt64_c S ages) ⟨rfl, (by repeat' (first | exact trivial | exact rfl | exact Nat.le_refl _ | exact S.cx.giveEq | exact S.cx.lendLe (by assumption) | exact S.cx.lendEq (by assumption) | exact S.cx.lendLe0 | exact S.cx.lendEq0 | exact S.cx.partLe (by assumption) | exact S.cx.partEq (by assumption) | exact S.cx.enc _ [] | exact .inl rfl | refine ⟨?_, ?_⟩)), (by repeat' (first | exact trivial | exact rfl | exact Nat.le_refl _ | exact S.cx.giveEq | exact S.cx.lendLe (by assumption) | exact S.cx.lendEq (by assumption) | exact S.cx.lendLe0 | exact S.cx.lendEq0 | exact S.cx.partLe (by assumption) | exact S.cx.partEq (by assumption) | exact S.cx.enc _ [] | exact .inl rfl | refine ⟨?_, ?_⟩))⟩ (fun N hN => ?_); cbv
  refine ACall.testD (dp := false) (within_c S N 1 64) ⟨rfl, (by repeat' (first | exact trivial | exact rfl | exact Nat.le_refl _ | exact S.cx.giveEq | exact S.cx.lendLe (by assumption) | exact S.cx.lendEq (by assumption) | exact S.cx.lendLe0 | exact S.cx.lendEq0 | exact S.cx.partLe (by assumption) | exact S.cx.partEq (by assumption) | exact S.cx.enc _ [] | exact .inl rfl | refine ⟨?_, ?_⟩)), (by repeat' (first | exact trivial | exact rfl | exact Nat.le_refl _ | exact S.cx.giveEq | exact S.cx.lendLe (by assumption) | exact S.cx.lendEq (by assumption) | exact S.cx.lendLe0 | exact S.cx.lendEq0 | exact S.cx.partLe (by assumption) | exact S.cx.partEq (by assumption) | exact S.cx.enc _ [] | exact .inl rfl | refine ⟨?_, ?_⟩))⟩ rfl (fun h => ?_) (fun h => ?_) <;> cbv
  rotate_left
  · exact Done.no (fun e => h (by have := e.1; dsimp only at this; omega))
  refine LenR.nat S.cx (fun M hM hm => ?_); cbv
  refine LenR.nat S.cx (fun N2 hN2 hm2 => ?_); cbv
  refine Test.eql (fun h2 => ?_) (fun h2 => ?_) <;> cbv
  rotate_left
  · exact Done.no (fun e => h2 (by have := e.2.1; dsimp only at this; omega))
  refine ACall.testD (dp := false) (containsFuncInt64_c S _ _ (slotsOk1_c S) ages) ⟨rfl, (by repeat' (first | exact trivial | exact rfl | exact Nat.le_refl _ | exact S.cx.giveEq | exact S.cx.lendLe (by assumption) | exact S.cx.lendEq (by assumption) | exact S.cx.lendLe0 | exact S.cx.lendEq0 | exact S.cx.partLe (by assumption) | exact S.cx.partEq (by assumption) | exact S.cx.enc _ [] | exact .inl rfl | refine ⟨?_, ?_⟩)), (by repeat' (first | exact trivial | exact rfl | exact Nat.le_refl _ | exact S.cx.giveEq | exact S.cx.lendLe (by assumption) | exact S.cx.lendEq (by assumption) | exact S.cx.lendLe0 | exact S.cx.lendEq0 | exact S.cx.partLe (by assumption) | exact S.cx.partEq (by assumption) | exact S.cx.enc _ [] | exact .inl rfl | refine ⟨?_, ?_⟩))⟩ rfl (fun h3 => ?_) (fun h3 => ?_) <;> cbv
  · exact Done.no (fun e => by obtain ⟨x, hx, hn⟩ := h3; exact hn (e.2.2 x hx))
  · exact Done.yes ⟨by dsimp only; omega, by dsimp only; omega, fun x hx => Classical.byContradiction fun hn => h3 ⟨x, hx, hn⟩⟩

theorem specSlotsOk_c (S : Se P A) (ages : List Int) (used : List Bool) : Tests P 267 [.agg (roSlots A ⟨ages, used⟩)] (SlotsOk ⟨ages, used⟩) := by
  refine S.cx.by (S.prog ▸ Tryz.func267) rfl rfl rfl rfl (fun hv ho => ?_)
  cbv
  refine LenR.nat S.cx (fun N hN hm => ?_); cbv
  refine ACall.testD (dp := false) (l1In_c S N 1 64) ⟨rfl, (by repeat' (first | exact trivial | exact rfl | exact Nat.le_refl _ | exact S.cx.giveEq | exact S.cx.lendLe (by assumption) | exact S.cx.lendEq (by assumption) | exact S.cx.lendLe0 | exact S.cx.lendEq0 | exact S.cx.partLe (by assumption) | exact S.cx.partEq (by assumption) | exact S.cx.enc _ [] | exact .inl rfl | refine ⟨?_, ?_⟩)), (by repeat' (first | exact trivial | exact rfl | exact Nat.le_refl _ | exact S.cx.giveEq | exact S.cx.lendLe (by assumption) | exact S.cx.lendEq (by assumption) | exact S.cx.lendLe0 | exact S.cx.lendEq0 | exact S.cx.partLe (by assumption) | exact S.cx.partEq (by assumption) | exact S.cx.enc _ [] | exact .inl rfl | refine ⟨?_, ?_⟩))⟩ rfl (fun h => ?_) (fun h => ?_) <;> cbv
  rotate_left
  · exact Done.no (fun e => h (by have := e.1; dsimp only at this; omega))
  refine LenR.nat S.cx (fun M hM hm => ?_); cbv
  refine LenR.nat S.cx (fun N2 hN2 hm2 => ?_); cbv
  refine Test.neq (fun h2 => ?_) (fun h2 => ?_) <;> cbv
  · exact Done.no (fun e => h2 (by have := e.2.1; dsimp only at this; omega))
  refine ALoop.goD (ι := Int) (fun i => [(3, .int .i64 i)]) [] (fun i => []) (fun i => 0 ≤ i ∧ Upto (fun _ x => 0 ≤ x ∧ x ≤ 1000000) ages i) (fun i => (ages.length - i).toNat) (0) S.cx.tab S.cx.mix S.eq ?_ ?_ ?_
  · exact ⟨Int.le_refl _, .zero⟩
  · (cbv; refine Less.to [] rfl rfl ?_ ?_ <;> repeat' (first | exact trivial | exact ⟨rfl, rfl⟩ | exact ⟨_, rfl, Nat.zero_le _, rfl⟩ | apply And.intro | exact rfl))
  rintro i ⟨h0, hu⟩
  cbv
  refine LenR.nat S.cx (fun L hL hm3 => ?_); cbv
  refine Test.lss (fun h3 => ?_) (fun h3 => ?_) <;> cbv
  · refine ElemRo.enc S.cx (fun _ => rfl) (by lia) (by lia) (fun x hx => ?_); cbv
    refine ACall.testD (dp := false) (l1In_c S x _ _) ⟨rfl, (by repeat' (first | exact trivial | exact rfl | exact Nat.le_refl _ | exact S.cx.giveEq | exact S.cx.lendLe (by assumption) | exact S.cx.lendEq (by assumption) | exact S.cx.lendLe0 | exact S.cx.lendEq0 | exact S.cx.partLe (by assumption) | exact S.cx.partEq (by assumption) | exact S.cx.enc _ [] | exact .inl rfl | refine ⟨?_, ?_⟩)), (by repeat' (first | exact trivial | exact rfl | exact Nat.le_refl _ | exact S.cx.giveEq | exact S.cx.lendLe (by assumption) | exact S.cx.lendEq (by assumption) | exact S.cx.lendLe0 | exact S.cx.lendEq0 | exact S.cx.partLe (by assumption) | exact S.cx.partEq (by assumption) | exact S.cx.enc _ [] | exact .inl rfl | refine ⟨?_, ?_⟩))⟩ rfl (fun h4 => ?_) (fun h4 => ?_) <;> cbv
    · refine Arith.go (by lia) (fun i' hi' => ?_); cbv
      refine Again.on i' (by lia) ⟨by lia, hu.next h0 hx h4 hi'⟩ ?_
      (cbv; refine Less.to [] rfl rfl ?_ ?_ <;> repeat' (first | exact trivial | exact ⟨rfl, rfl⟩ | exact ⟨_, rfl, Nat.zero_le _, rfl⟩ | apply And.intro | exact rfl))
    · exact Done.no (fun e => h4 (e.2.2 x (mem_at hx)))
  · exact Done.yes ⟨by dsimp only; omega, by dsimp only; omega, hu.mem (by lia)⟩

def rS (A : Sy) (s : Slots) : AV := .agg (ownSlots A s)

end Go.Proofs.YtgooambndfkgkaaGreat.AM
