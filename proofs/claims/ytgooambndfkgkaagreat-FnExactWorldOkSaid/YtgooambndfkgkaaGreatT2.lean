/- Contracts: valid spreads. (printed by gt2.py) -/
import Derived.Test.YtgooambndfkgkaaGreatT1
namespace Go.Proofs.YtgooambndfkgkaaGreat.AM
open Go Go.Proofs

set_option maxRecDepth 100000
set_option maxHeartbeats 4000000
set_option linter.unusedVariables false
set_option linter.unusedSimpArgs false

variable {P : Program} {A : Sy}

def SpreadIs (t : List Node) (s : Spread) : Prop := s.told.length = t.length ∧ s.work.length ≤ 240 ∧ ∀ n ∈ s.work, 0 ≤ n ∧ n.toNat < t.length
instance (t : List Node) (s : Spread) : Decidable (SpreadIs t s) := by unfold SpreadIs; infer_instance
def SpreadOk (t : List Node) (s : Spread) : Prop := TreeOk t ∧ SpreadIs t s
instance (t : List Node) (s : Spread) : Decidable (SpreadOk t s) := by unfold SpreadOk; infer_instance
def spread0 : Spread := ⟨[], []⟩

theorem isSpread1_c (S : Se P A) (t : List Node) (x : Int) : Tests P 137 [.int .i64 x, .rptr [.ro (A.enc cNode t)]] (¬ (0 ≤ x ∧ x.toNat < t.length)) := by
  refine S.cx.by (S.prog ▸ Tryz.func137) rfl rfl rfl rfl (fun hv ho => ?_)
  cbv
  refine ACall.testD (dp := false) (isInNode_c S x t) ⟨rfl, (by repeat' (first | exact trivial | exact rfl | exact Nat.le_refl _ | exact S.cx.giveEq | exact S.cx.lendLe (by assumption) | exact S.cx.lendEq (by assumption) | exact S.cx.lendLe0 | exact S.cx.lendEq0 | exact S.cx.partLe (by assumption) | exact S.cx.partEq (by assumption) | exact S.cx.enc _ [] | exact .inl rfl | refine ⟨?_, ?_⟩)), (by repeat' (first | exact trivial | exact rfl | exact Nat.le_refl _ | exact S.cx.giveEq | exact S.cx.lendLe (by assumption) | exact S.cx.lendEq (by assumption) | exact S.cx.lendLe0 | exact S.cx.lendEq0 | exact S.cx.partLe (by assumption) | exact S.cx.partEq (by assumption) | exact S.cx.enc _ [] | exact .inl rfl | refine ⟨?_, ?_⟩))⟩ rfl (fun h => ?_) (fun h => ?_) <;> cbv
  · exact Done.no (fun e => e h)
  · exact Done.yes h

theorem isSpread_c (S : Se P A) (t : List Node) (told : List Bool) (work : List Int) : Tests P 37 [.agg (roSpread A ⟨told, work⟩), .ro (A.enc cNode t)] (SpreadIs t ⟨told, work⟩) := by
  refine S.cx.by (S.prog ▸ Tryz.func37) rfl rfl rfl rfl (fun hv ho => ?_)
  cbv
  refine LenR.nat S.cx (fun N hN hm => ?_); cbv
  refine LenR.nat S.cx (fun M hM hm2 => ?_); cbv
  refine Test.eql (fun h => ?_) (fun h => ?_) <;> cbv
  rotate_left
  · exact Done.no (fun e => h (by have := e.1; dsimp only at this; omega))
  refine LenR.nat S.cx (fun K hK hm3 => ?_); cbv
  refine Test.leq (fun h2 => ?_) (fun h2 => ?_) <;> cbv
  rotate_left
  · exact Done.no (fun e => by have := e.2.1; dsimp only at this; omega)
  refine ACall.testX (dp := false) (containsFuncInt641_c S _ _ _ (isSpread1_c S t) work) ⟨rfl, (by repeat' (first | exact trivial | exact rfl | exact Nat.le_refl _ | exact S.cx.giveEq | exact S.cx.lendLe (by assumption) | exact S.cx.lendEq (by assumption) | exact S.cx.lendLe0 | exact S.cx.lendEq0 | exact S.cx.partLe (by assumption) | exact S.cx.partEq (by assumption) | exact S.cx.enc _ [] | exact .inl rfl | refine ⟨?_, ?_⟩)), (by repeat' (first | exact trivial | exact rfl | exact Nat.le_refl _ | exact S.cx.giveEq | exact S.cx.lendLe (by assumption) | exact S.cx.lendEq (by assumption) | exact S.cx.lendLe0 | exact S.cx.lendEq0 | exact S.cx.partLe (by assumption) | exact S.cx.partEq (by assumption) | exact S.cx.enc _ [] | exact .inl rfl | refine ⟨?_, ?_⟩))⟩ rfl (fun h3 => ?_) (fun h3 => ?_) <;> cbv
  · exact Done.no (fun e => by obtain ⟨x, hx, hn⟩ := h3; exact hn (e.2.2 x hx))
  · exact Done.yes ⟨by dsimp only; omega, by dsimp only; omega, fun x hx => Classical.byContradiction fun hn => h3 ⟨x, hx, hn⟩⟩

theorem specSpreadOk_c (S : Se P A) (t : List Node) (told : List Bool) (work : List Int) : Tests P 103 [.ro (A.enc cNode t), .agg (roSpread A ⟨told, work⟩)] (SpreadOk t ⟨told, work⟩) := by
  refine S.cx.by (S.prog ▸ Tryz.func103) rfl rfl rfl rfl (fun hv ho => ?_)
  cbv
  refine ACall.testD (dp := false) (specTreeOk_c S t) ⟨rfl, (by repeat' (first | exact trivial | exact rfl | exact Nat.le_refl _ | exact S.cx.giveEq | exact S.cx.lendLe (by assumption) | exact S.cx.lendEq (by assumption) | exact S.cx.lendLe0 | exact S.cx.lendEq0 | exact S.cx.partLe (by assumption) | exact S.cx.partEq (by assumption) | exact S.cx.enc _ [] | exact .inl rfl | refine ⟨?_, ?_⟩)), (by repeat' (first | exact trivial | exact rfl | exact Nat.le_refl _ | exact S.cx.giveEq | exact S.cx.lendLe (by assumption) | exact S.cx.lendEq (by assumption) | exact S.cx.lendLe0 | exact S.cx.lendEq0 | exact S.cx.partLe (by assumption) | exact S.cx.partEq (by assumption) | exact S.cx.enc _ [] | exact .inl rfl | refine ⟨?_, ?_⟩))⟩ rfl (fun h => ?_) (fun h => ?_) <;> cbv
  rotate_left
  · exact Done.no (fun e => h e.1)
  refine LenR.nat S.cx (fun N hN hm => ?_); cbv
  refine LenR.nat S.cx (fun M hM hm2 => ?_); cbv
  refine Test.neq (fun h1 => ?_) (fun h1 => ?_) <;> cbv
  · exact Done.no (fun e => h1 (by have := e.2.1; dsimp only at this; omega))
  refine LenR.nat S.cx (fun K hK hm3 => ?_); cbv
  refine Test.gtr (fun h2 => ?_) (fun h2 => ?_) <;> cbv
  · exact Done.no (fun e => by have := e.2.2.1; dsimp only at this; omega)
  refine ALoop.goD (ι := Int) (fun i => [(5, .int .i64 i)]) [] (fun i => []) (fun i => 0 ≤ i ∧ Upto (fun _ n => 0 ≤ n ∧ n.toNat < t.length) work i) (fun i => (work.length - i).toNat) (0) S.cx.tab S.cx.mix S.eq ?_ ?_ ?_
  · exact ⟨Int.le_refl _, .zero⟩
  · (cbv; refine Less.to [] rfl rfl ?_ ?_ <;> repeat' (first | exact trivial | exact ⟨rfl, rfl⟩ | exact ⟨_, rfl, Nat.zero_le _, rfl⟩ | apply And.intro | exact rfl))
  rintro i ⟨h0, hu⟩
  cbv
  refine LenR.nat S.cx (fun K2 hK2 hm4 => ?_); cbv
  refine Test.lss (fun h3 => ?_) (fun h3 => ?_) <;> cbv
  · refine ElemRo.enc S.cx (fun _ => rfl) (by lia) (by lia) (fun x hx => ?_); cbv
    refine LenR.nat S.cx (fun T hT hm5 => ?_); cbv
    refine Arith.go (by lia) (fun z hz => ?_); replace hz : z = T - 1 := hz; cbv
    refine ACall.testD (dp := false) (l1In_c S x 0 z) ⟨rfl, (by repeat' (first | exact trivial | exact rfl | exact Nat.le_refl _ | exact S.cx.giveEq | exact S.cx.lendLe (by assumption) | exact S.cx.lendEq (by assumption) | exact S.cx.lendLe0 | exact S.cx.lendEq0 | exact S.cx.partLe (by assumption) | exact S.cx.partEq (by assumption) | exact S.cx.enc _ [] | exact .inl rfl | refine ⟨?_, ?_⟩)), (by repeat' (first | exact trivial | exact rfl | exact Nat.le_refl _ | exact S.cx.giveEq | exact S.cx.lendLe (by assumption) | exact S.cx.lendEq (by assumption) | exact S.cx.lendLe0 | exact S.cx.lendEq0 | exact S.cx.partLe (by assumption) | exact S.cx.partEq (by assumption) | exact S.cx.enc _ [] | exact .inl rfl | refine ⟨?_, ?_⟩))⟩ rfl (fun h4 => ?_) (fun h4 => ?_) <;> cbv
    · refine Arith.go (by lia) (fun i' hi' => ?_); cbv
      refine Again.on i' (by lia) ⟨by lia, hu.next h0 hx (by omega) hi'⟩ ?_
      (cbv; refine Less.to [] rfl rfl ?_ ?_ <;> repeat' (first | exact trivial | exact ⟨rfl, rfl⟩ | exact ⟨_, rfl, Nat.zero_le _, rfl⟩ | apply And.intro | exact rfl))
    · exact Done.no (fun e => h4 (by have := e.2.2.2 x (mem_at hx); omega))
  · exact Done.yes ⟨h, by dsimp only; omega, by dsimp only; omega, hu.mem (by omega)⟩

end Go.Proofs.YtgooambndfkgkaaGreat.AM
