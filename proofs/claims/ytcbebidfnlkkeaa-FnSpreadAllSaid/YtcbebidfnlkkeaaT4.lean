/- Contracts: spreads begun, one step. (printed by gt5.py) -/
import Derived.Test.YtcbebidfnlkkeaaT3
namespace Go.Proofs.Ytcbebidfnlkkeaa.AM
open Go Go.Proofs

set_option maxRecDepth 100000
set_option maxHeartbeats 4000000
set_option linter.unusedVariables false
set_option linter.unusedSimpArgs false

variable {P : Program} {A : Sy}

def rSp (A : Sy) (x : Spread) : AV := .agg (ownSpread A x)
def rSpB (A : Sy) (x : Spread × Bool) : AV := .tup [.agg (ownSpread A x.1), .bool x.2]
def rSpI (A : Sy) (x : Spread × Int) : AV := .tup [.agg (ownSpread A x.1), .int .i64 x.2]

theorem clonedSpread_c (S : Se P A) (told : List Bool) (work : List Int) (h1 : told.length ≤ 4294967296) (h2 : work.length ≤ 4294967296) : Is1 P 108 [.agg (roSpread A ⟨told, work⟩)] (rSp A ⟨told, work⟩) := by
  refine S.cx.by (S.prog ▸ Try.func108) rfl rfl rfl rfl (fun hv ho => ?_)
  cbv
  try (refine Drawn.mk ⟨by kernel_rfl, fun _ => ?_⟩)
  refine ACall.valN (r := rBool A) (os := fun _ => []) (dp := false) S.cx (cloneBool_c S told h1) ⟨rfl, (by repeat' (first | exact trivial | exact rfl | exact Nat.le_refl _ | exact S.cx.giveEq | exact S.cx.lendLe (by assumption) | exact S.cx.lendEq (by assumption) | exact S.cx.lendLe0 | exact S.cx.lendEq0 | exact S.cx.partLe (by assumption) | exact S.cx.partEq (by assumption) | exact .inl rfl | refine ⟨?_, ?_⟩)), (by repeat' (first | exact trivial | exact rfl | exact Nat.le_refl _ | exact S.cx.giveEq | exact S.cx.lendLe (by assumption) | exact S.cx.lendEq (by assumption) | exact S.cx.lendLe0 | exact S.cx.lendEq0 | exact S.cx.partLe (by assumption) | exact S.cx.partEq (by assumption) | exact .inl rfl | refine ⟨?_, ?_⟩))⟩ rfl (fun ln hln a hx => ⟨rfl, ?_⟩)
  cases hx
  cbv
  have hN := hln cBool told
  generalize ln (A.enc cBool told) = N at hN ⊢
  refine ACall.valN (r := rInt64 A) (os := fun _ => []) (dp := false) S.cx (cloneInt64_c S work h2) ⟨rfl, (by repeat' (first | exact trivial | exact rfl | exact Nat.le_refl _ | exact S.cx.giveEq | exact S.cx.lendLe (by assumption) | exact S.cx.lendEq (by assumption) | exact S.cx.lendLe0 | exact S.cx.lendEq0 | exact S.cx.partLe (by assumption) | exact S.cx.partEq (by assumption) | exact .inl rfl | refine ⟨?_, ?_⟩)), (by repeat' (first | exact trivial | exact rfl | exact Nat.le_refl _ | exact S.cx.giveEq | exact S.cx.lendLe (by assumption) | exact S.cx.lendEq (by assumption) | exact S.cx.lendLe0 | exact S.cx.lendEq0 | exact S.cx.partLe (by assumption) | exact S.cx.partEq (by assumption) | exact .inl rfl | refine ⟨?_, ?_⟩))⟩ rfl (fun ln hln b hx => ⟨rfl, ?_⟩)
  cases hx
  cbv
  have hM := hln cInt64 work
  generalize ln (A.enc cInt64 work) = M at hM ⊢
  exact Done.is (r := rSp A) (x := ⟨told, work⟩) (by repeat' (first | exact trivial | exact rfl | exact resOwn S.cx rfl (by assumption) | exact resOwn S.cx rfl (S.cx.lenE _ _) | exact resOwn1 S.cx rfl (by assumption) | exact resOwnT S.cx rfl (by assumption) | exact S.cx.enc _ [] | refine ⟨?_, ?_⟩)) rfl (rfl)

theorem l7Copy_c (S : Se P A) (told : List Bool) (work : List Int) (h1 : told.length ≤ 4294967296) (h2 : work.length ≤ 4294967296) : Is1 P 112 [.agg (roSpread A ⟨told, work⟩)] (rSp A ⟨told, work⟩) := by
  refine S.cx.by (S.prog ▸ Try.func112) rfl rfl rfl rfl (fun hv ho => ?_)
  cbv
  try (refine Drawn.mk ⟨by kernel_rfl, fun _ => ?_⟩)
  refine AppNew.enc S.cx plainBool (.inr (.inr trivial)) (fun _ => rfl) (by simp only [maxBytes]; omega) (fun n hn => ?_); cbv
  refine AppNew.enc S.cx plainInt64 (.inr (.inr trivial)) (fun _ => rfl) (by simp only [maxBytes]; omega) (fun m hm => ?_); cbv
  exact Done.is (r := rSp A) (x := ⟨told, work⟩) (by repeat' (first | exact trivial | exact rfl | exact resOwn S.cx rfl (by assumption) | exact resOwn S.cx rfl (S.cx.lenE _ _) | exact resOwn1 S.cx rfl (by assumption) | exact resOwnT S.cx rfl (by assumption) | exact S.cx.enc _ [] | refine ⟨?_, ?_⟩)) rfl (rfl)

def Begin (s : Spread) (n : Int) : Spread × Bool :=
  if (0 ≤ n ∧ n.toNat < s.told.length) ∧ s.work.length ≠ 240 then ({ s with work := s.work ++ [n] }, true) else (s, false)
def Begun (t : List Node) (s : Spread) (n : Int) : Spread × Bool := if SpreadOk t s then Begin s n else (spread0, false)
def rB2 (x : Spread × Bool) : AV := .bool x.2
def oSp (A : Sy) (x : Spread × Bool) : List (Option Obj) := [some (.box (ownSpread A x.1))]

theorem begin_c (S : Se P A) (told : List Bool) (work : List Int) (hw : work.length ≤ 4294967200) (n : Int) : SoundM P 109 false [.ptr 1000 0 0, .int .i64 n] [.box (ownSpread A ⟨told, work⟩)]
    (fun v os => v = rB2 (Begin ⟨told, work⟩ n) ∧ os = oSp A (Begin ⟨told, work⟩ n)) := by
  refine S.cx.byN (S.prog ▸ Try.func109) rfl rfl rfl rfl (fun ln hln hv ho => ?_)
  cbv
  have hN := hln cBool told
  generalize ln (A.enc cBool told) = N at hN ⊢
  have hM := hln cInt64 work
  generalize ln (A.enc cInt64 work) = M at hM ⊢
  refine ACall.testD (dp := false) (isInBool_c S n told) ⟨rfl, (by repeat' (first | exact trivial | exact rfl | exact Nat.le_refl _ | exact S.cx.giveEq | exact S.cx.lendLe (by assumption) | exact S.cx.lendEq (by assumption) | exact S.cx.lendLe0 | exact S.cx.lendEq0 | exact S.cx.partLe (by assumption) | exact S.cx.partEq (by assumption) | exact .inl rfl | refine ⟨?_, ?_⟩)), (by repeat' (first | exact trivial | exact rfl | exact Nat.le_refl _ | exact S.cx.giveEq | exact S.cx.lendLe (by assumption) | exact S.cx.lendEq (by assumption) | exact S.cx.lendLe0 | exact S.cx.lendEq0 | exact S.cx.partLe (by assumption) | exact S.cx.partEq (by assumption) | exact .inl rfl | refine ⟨?_, ?_⟩))⟩ rfl (fun h => ?_) (fun h => ?_) <;> cbv
  rotate_left
  · rw [Begin, if_neg (fun e => h e.1)]
    exact Done.to (rB2 (⟨told, work⟩, false)) (oSp A (⟨told, work⟩, false)) rfl (by repeat' (first | exact trivial | exact rfl | exact resOwn S.cx rfl (by assumption) | exact resOwn S.cx rfl (S.cx.lenE _ _) | exact resOwn1 S.cx rfl (by assumption) | exact resOwnT S.cx rfl (by assumption) | exact S.cx.enc _ [] | refine ⟨?_, ?_⟩)) (by repeat' (first | exact trivial | exact rfl | exact resOwn S.cx rfl (by assumption) | exact resOwn S.cx rfl (S.cx.lenE _ _) | exact resOwn1 S.cx rfl (by assumption) | exact resOwnT S.cx rfl (by assumption) | exact S.cx.enc _ [] | refine ⟨?_, ?_⟩)) ⟨rfl, rfl⟩
  refine Len.nat (fun K hK hm => ?_); cbv
  refine Test.eql (fun h2 => ?_) (fun h2 => ?_) <;> cbv
  · rw [Begin, if_neg (fun e => e.2 (by dsimp only; omega))]
    exact Done.to (rB2 (⟨told, work⟩, false)) (oSp A (⟨told, work⟩, false)) rfl (by repeat' (first | exact trivial | exact rfl | exact resOwn S.cx rfl (by assumption) | exact resOwn S.cx rfl (S.cx.lenE _ _) | exact resOwn1 S.cx rfl (by assumption) | exact resOwnT S.cx rfl (by assumption) | exact S.cx.enc _ [] | refine ⟨?_, ?_⟩)) (by repeat' (first | exact trivial | exact rfl | exact resOwn S.cx rfl (by assumption) | exact resOwn S.cx rfl (S.cx.lenE _ _) | exact resOwn1 S.cx rfl (by assumption) | exact resOwnT S.cx rfl (by assumption) | exact S.cx.enc _ [] | refine ⟨?_, ?_⟩)) ⟨rfl, rfl⟩
  refine Part.one ?_; cbv
  refine AppRef.push S.cx n (by assumption) rfl rfl plainInt64 (fun _ => rfl) (by simp only [maxBytes]; omega) (fun m w hww hml => ?_); cbv
  rw [Begin, if_pos ⟨h, by dsimp only; omega⟩]
  exact Done.to (rB2 (⟨told, w⟩, true)) (oSp A (⟨told, w⟩, true)) rfl (by repeat' (first | exact trivial | exact rfl | exact resOwn S.cx rfl (by assumption) | exact resOwn S.cx rfl (S.cx.lenE _ _) | exact resOwn1 S.cx rfl (by assumption) | exact resOwnT S.cx rfl (by assumption) | exact S.cx.enc _ [] | refine ⟨?_, ?_⟩)) (by repeat' (first | exact trivial | exact rfl | exact resOwn S.cx rfl (by assumption) | exact resOwn S.cx rfl (S.cx.lenE _ _) | exact resOwn1 S.cx rfl (by assumption) | exact resOwnT S.cx rfl (by assumption) | exact S.cx.enc _ [] | refine ⟨?_, ?_⟩)) ⟨rfl, by rw [hww]⟩

theorem implBegun_c (S : Se P A) (t : List Node) (told : List Bool) (work : List Int) (n : Int) : Is1 P 58 [.ro (A.enc cNode t), .agg (roSpread A ⟨told, work⟩), .int .i64 n] (rSpB A (Begun t ⟨told, work⟩ n)) := by
  refine S.cx.by (S.prog ▸ Try.func58) rfl rfl rfl rfl (fun hv ho => ?_)
  cbv
  refine ACall.testD (dp := false) (implSpreadOk_c S t told work) ⟨rfl, (by repeat' (first | exact trivial | exact rfl | exact Nat.le_refl _ | exact S.cx.giveEq | exact S.cx.lendLe (by assumption) | exact S.cx.lendEq (by assumption) | exact S.cx.lendLe0 | exact S.cx.lendEq0 | exact S.cx.partLe (by assumption) | exact S.cx.partEq (by assumption) | exact .inl rfl | refine ⟨?_, ?_⟩)), (by repeat' (first | exact trivial | exact rfl | exact Nat.le_refl _ | exact S.cx.giveEq | exact S.cx.lendLe (by assumption) | exact S.cx.lendEq (by assumption) | exact S.cx.lendLe0 | exact S.cx.lendEq0 | exact S.cx.partLe (by assumption) | exact S.cx.partEq (by assumption) | exact .inl rfl | refine ⟨?_, ?_⟩))⟩ rfl (fun hok => ?_) (fun hok => ?_) <;> cbv
  rotate_left
  · exact Done.is (r := rSpB A) (x := (spread0, false)) (by repeat' (first | exact trivial | exact rfl | exact resOwn S.cx rfl (by assumption) | exact resOwn S.cx rfl (S.cx.lenE _ _) | exact resOwn1 S.cx rfl (by assumption) | exact resOwnT S.cx rfl (by assumption) | exact S.cx.enc _ [] | refine ⟨?_, ?_⟩)) rfl (if_neg hok)
  have b0 := hok.1.1
  have b1 : told.length ≤ 4294967296 := by have := hok.2.1; dsimp only at this; omega
  have b2 : work.length ≤ 4294967200 := by have := hok.2.2.1; dsimp only at this; omega
  refine ACall.valN (r := rSp A) (os := fun _ => []) (dp := false) S.cx (clonedSpread_c S told work b1 (Nat.le_trans b2 (by decide))) ⟨rfl, (by repeat' (first | exact trivial | exact rfl | exact Nat.le_refl _ | exact S.cx.giveEq | exact S.cx.lendLe (by assumption) | exact S.cx.lendEq (by assumption) | exact S.cx.lendLe0 | exact S.cx.lendEq0 | exact S.cx.partLe (by assumption) | exact S.cx.partEq (by assumption) | exact .inl rfl | refine ⟨?_, ?_⟩)), (by repeat' (first | exact trivial | exact rfl | exact Nat.le_refl _ | exact S.cx.giveEq | exact S.cx.lendLe (by assumption) | exact S.cx.lendEq (by assumption) | exact S.cx.lendLe0 | exact S.cx.lendEq0 | exact S.cx.partLe (by assumption) | exact S.cx.partEq (by assumption) | exact .inl rfl | refine ⟨?_, ?_⟩))⟩ rfl (fun ln hln x hx => ⟨rfl, ?_⟩)
  obtain ⟨told', work'⟩ := x
  cases hx
  cbv
  have hN := hln cBool told
  generalize ln (A.enc cBool told) = N at hN ⊢
  have hM := hln cInt64 work
  generalize ln (A.enc cInt64 work) = M at hM ⊢
  refine ACall.valN (r := rB2) (os := oSp A) (dp := false) S.cx (begin_c S told work b2 n) ⟨rfl, (by repeat' (first | exact trivial | exact rfl | exact Nat.le_refl _ | exact S.cx.giveEq | exact S.cx.lendLe (by assumption) | exact S.cx.lendEq (by assumption) | exact S.cx.lendLe0 | exact S.cx.lendEq0 | exact S.cx.partLe (by assumption) | exact S.cx.partEq (by assumption) | exact .inl rfl | refine ⟨?_, ?_⟩)), (by repeat' (first | exact trivial | exact rfl | exact Nat.le_refl _ | exact S.cx.giveEq | exact S.cx.lendLe (by assumption) | exact S.cx.lendEq (by assumption) | exact S.cx.lendLe0 | exact S.cx.lendEq0 | exact S.cx.partLe (by assumption) | exact S.cx.partEq (by assumption) | exact .inl rfl | refine ⟨?_, ?_⟩))⟩ rfl (fun ln hln x hx => ⟨rfl, ?_⟩)
  obtain ⟨⟨told', work'⟩, b⟩ := x
  cbv
  have hN2 := hln cBool told'
  generalize ln (A.enc cBool told') = N2 at hN2 ⊢
  have hM2 := hln cInt64 work'
  generalize ln (A.enc cInt64 work') = M2 at hM2 ⊢
  exact Done.is (r := rSpB A) (x := (⟨told', work'⟩, b)) (by repeat' (first | exact trivial | exact rfl | exact resOwn S.cx rfl (by assumption) | exact resOwn S.cx rfl (S.cx.lenE _ _) | exact resOwn1 S.cx rfl (by assumption) | exact resOwnT S.cx rfl (by assumption) | exact S.cx.enc _ [] | refine ⟨?_, ?_⟩)) rfl ((if_pos hok).trans hx.symm)

theorem specBegun_c (S : Se P A) (t : List Node) (told : List Bool) (work : List Int) (n : Int) : Is1 P 62 [.ro (A.enc cNode t), .agg (roSpread A ⟨told, work⟩), .int .i64 n] (rSpB A (Begun t ⟨told, work⟩ n)) := by
  refine S.cx.by (S.prog ▸ Try.func62) rfl rfl rfl rfl (fun hv ho => ?_)
  cbv
  refine ACall.testD (dp := false) (specSpreadOk_c S t told work) ⟨rfl, (by repeat' (first | exact trivial | exact rfl | exact Nat.le_refl _ | exact S.cx.giveEq | exact S.cx.lendLe (by assumption) | exact S.cx.lendEq (by assumption) | exact S.cx.lendLe0 | exact S.cx.lendEq0 | exact S.cx.partLe (by assumption) | exact S.cx.partEq (by assumption) | exact .inl rfl | refine ⟨?_, ?_⟩)), (by repeat' (first | exact trivial | exact rfl | exact Nat.le_refl _ | exact S.cx.giveEq | exact S.cx.lendLe (by assumption) | exact S.cx.lendEq (by assumption) | exact S.cx.lendLe0 | exact S.cx.lendEq0 | exact S.cx.partLe (by assumption) | exact S.cx.partEq (by assumption) | exact .inl rfl | refine ⟨?_, ?_⟩))⟩ rfl (fun hok => ?_) (fun hok => ?_) <;> cbv
  rotate_left
  · exact Done.is (r := rSpB A) (x := (spread0, false)) (by repeat' (first | exact trivial | exact rfl | exact resOwn S.cx rfl (by assumption) | exact resOwn S.cx rfl (S.cx.lenE _ _) | exact resOwn1 S.cx rfl (by assumption) | exact resOwnT S.cx rfl (by assumption) | exact S.cx.enc _ [] | refine ⟨?_, ?_⟩)) rfl (if_neg hok)
  have b0 := hok.1.1
  have htl : told.length = t.length := hok.2.1
  have hwl : work.length ≤ 240 := hok.2.2.1
  have b1 : told.length ≤ 4294967296 := by omega
  have b2 : work.length ≤ 4294967296 := by omega
  refine ACall.valN (r := rSp A) (os := fun _ => []) (dp := false) S.cx (l7Copy_c S told work b1 b2) ⟨rfl, (by repeat' (first | exact trivial | exact rfl | exact Nat.le_refl _ | exact S.cx.giveEq | exact S.cx.lendLe (by assumption) | exact S.cx.lendEq (by assumption) | exact S.cx.lendLe0 | exact S.cx.lendEq0 | exact S.cx.partLe (by assumption) | exact S.cx.partEq (by assumption) | exact .inl rfl | refine ⟨?_, ?_⟩)), (by repeat' (first | exact trivial | exact rfl | exact Nat.le_refl _ | exact S.cx.giveEq | exact S.cx.lendLe (by assumption) | exact S.cx.lendEq (by assumption) | exact S.cx.lendLe0 | exact S.cx.lendEq0 | exact S.cx.partLe (by assumption) | exact S.cx.partEq (by assumption) | exact .inl rfl | refine ⟨?_, ?_⟩))⟩ rfl (fun ln hln x hx => ⟨rfl, ?_⟩)
  obtain ⟨told', work'⟩ := x
  cases hx
  cbv
  have hN := hln cBool told
  generalize ln (A.enc cBool told) = N at hN ⊢
  have hM := hln cInt64 work
  generalize ln (A.enc cInt64 work) = M at hM ⊢
  refine LenR.nat S.cx (fun T hT hm => ?_); cbv
  refine Arith.go (by lia) (fun z hz => ?_); replace hz : z = T - 1 := hz; cbv
  refine ACall.testD (dp := false) (l1In_c S n 0 z) ⟨rfl, (by repeat' (first | exact trivial | exact rfl | exact Nat.le_refl _ | exact S.cx.giveEq | exact S.cx.lendLe (by assumption) | exact S.cx.lendEq (by assumption) | exact S.cx.lendLe0 | exact S.cx.lendEq0 | exact S.cx.partLe (by assumption) | exact S.cx.partEq (by assumption) | exact .inl rfl | refine ⟨?_, ?_⟩)), (by repeat' (first | exact trivial | exact rfl | exact Nat.le_refl _ | exact S.cx.giveEq | exact S.cx.lendLe (by assumption) | exact S.cx.lendEq (by assumption) | exact S.cx.lendLe0 | exact S.cx.lendEq0 | exact S.cx.partLe (by assumption) | exact S.cx.partEq (by assumption) | exact .inl rfl | refine ⟨?_, ?_⟩))⟩ rfl (fun h => ?_) (fun h => ?_) <;> cbv
  rotate_left
  · exact Done.is (r := rSpB A) (x := (⟨told, work⟩, false)) (by repeat' (first | exact trivial | exact rfl | exact resOwn S.cx rfl (by assumption) | exact resOwn S.cx rfl (S.cx.lenE _ _) | exact resOwn1 S.cx rfl (by assumption) | exact resOwnT S.cx rfl (by assumption) | exact S.cx.enc _ [] | refine ⟨?_, ?_⟩)) rfl ((if_pos hok).trans (if_neg (fun e => h (by have := e.1; dsimp only at this; omega))))
  refine LenR.nat S.cx (fun K hK hm2 => ?_); cbv
  refine Test.eql (fun h2 => ?_) (fun h2 => ?_) <;> cbv
  · exact Done.is (r := rSpB A) (x := (⟨told, work⟩, false)) (by repeat' (first | exact trivial | exact rfl | exact resOwn S.cx rfl (by assumption) | exact resOwn S.cx rfl (S.cx.lenE _ _) | exact resOwn1 S.cx rfl (by assumption) | exact resOwnT S.cx rfl (by assumption) | exact S.cx.enc _ [] | refine ⟨?_, ?_⟩)) rfl ((if_pos hok).trans (if_neg (fun e => e.2 (by dsimp only; omega))))
  refine Part.one ?_; cbv
  refine AppRef.push S.cx n (by assumption) rfl rfl plainInt64 (fun _ => rfl) (by simp only [maxBytes]; omega) (fun m w hww hml => ?_); cbv
  exact Done.is (r := rSpB A) (x := (⟨told, w⟩, true)) (by repeat' (first | exact trivial | exact rfl | exact resOwn S.cx rfl (by assumption) | exact resOwn S.cx rfl (S.cx.lenE _ _) | exact resOwn1 S.cx rfl (by assumption) | exact resOwnT S.cx rfl (by assumption) | exact S.cx.enc _ [] | refine ⟨?_, ?_⟩)) rfl ((if_pos hok).trans ((if_pos ⟨by dsimp only; omega, by dsimp only; omega⟩).trans (by rw [hww])))

def Step (t : List Node) (s : Spread) : Spread × Int × Bool :=
  match s.work with
  | [] => (s, -1, false)
  | n :: w => if s.told[n.toNat]? = some true then (⟨s.told, w⟩, -1, true) else if w.length + (Below t n).length > 240 then (s, -1, false) else (⟨s.told.set n.toNat true, w ++ Below t n⟩, n, true)
def SpreadStep (t : List Node) (s : Spread) : Spread × Int := if SpreadOk t s then ((Step t s).1, (Step t s).2.1) else (spread0, -1)
def rIB (x : Spread × Int × Bool) : AV := .tup [.int .i64 x.2.1, .bool x.2.2]
def oSpI (A : Sy) (x : Spread × Int × Bool) : List (Option Obj) := [some (.box (ownSpread A x.1))]

theorem step1_c (S : Se P A) (t : List Node) (i : Int) (h0 : 0 ≤ i) (hi : i.toNat < t.length) : Tests P 138 [.int .i64 i, .rptr [.ro (A.enc cNode t)]] ((!notCut t i) = true) := by
  refine S.cx.by (S.prog ▸ Try.func138) rfl rfl rfl rfl (fun hv ho => ?_)
  cbv
  obtain ⟨x, hx⟩ := get_of_lt hi
  refine ElemRo.at S.cx (x := x) rfl h0 hx ?_; cbv
  refine Test.eql (fun h => ?_) (fun h => ?_) <;> cbv
  · exact Done.yes (by simp [notCut, hx, h])
  · exact Done.no (by simp [notCut, hx, h])

theorem kids_in {t : List Node} {n i : Int} (h : i ∈ Kids t n) : 0 ≤ i ∧ i.toNat < t.length := by
  obtain ⟨h0, x, hx, _⟩ := idxs_mem.1 h
  exact ⟨h0, lt_of_get hx⟩

theorem below_len (t : List Node) (n : Int) : (Below t n).length ≤ t.length := Nat.le_trans (List.length_filter_le _ _) (idxs_len _ _)

theorem step_c (S : Se P A) (t : List Node) (told : List Bool) (work : List Int) (hok : SpreadOk t ⟨told, work⟩) : SoundM P 110 false [.ptr 1000 0 0, .ro (A.enc cNode t)] [.box (ownSpread A ⟨told, work⟩)]
    (fun v os => v = rIB (Step t ⟨told, work⟩) ∧ os = oSpI A (Step t ⟨told, work⟩)) := by
  have b0 := hok.1.1
  have htl : told.length = t.length := hok.2.1
  have hwl : work.length ≤ 240 := hok.2.2.1
  have hbt : t.length ≤ 4294967296 := by omega
  refine S.cx.byN (S.prog ▸ Try.func110) rfl rfl rfl rfl (fun ln hln hv ho => ?_)
  cbv
  have hN := hln cBool told
  generalize ln (A.enc cBool told) = N at hN ⊢
  have hM := hln cInt64 work
  generalize ln (A.enc cInt64 work) = M at hM ⊢
  refine Len.nat (fun K hK hm => ?_); cbv
  refine Test.eql (fun h => ?_) (fun h => ?_) <;> cbv
  · have e : work = [] := List.length_eq_zero_iff.1 (by omega)
    subst e
    exact Done.to (rIB (⟨told, []⟩, -1, false)) (oSpI A (⟨told, []⟩, -1, false)) rfl (by repeat' (first | exact trivial | exact rfl | exact resOwn S.cx rfl (by assumption) | exact resOwn S.cx rfl (S.cx.lenE _ _) | exact resOwn1 S.cx rfl (by assumption) | exact resOwnT S.cx rfl (by assumption) | exact S.cx.enc _ [] | refine ⟨?_, ?_⟩)) (by repeat' (first | exact trivial | exact rfl | exact resOwn S.cx rfl (by assumption) | exact resOwn S.cx rfl (S.cx.lenE _ _) | exact resOwn1 S.cx rfl (by assumption) | exact resOwnT S.cx rfl (by assumption) | exact S.cx.enc _ [] | refine ⟨?_, ?_⟩)) ⟨rfl, rfl⟩
  obtain ⟨n, ws, hw⟩ : ∃ n ws, work = n :: ws := by
    cases work with
    | nil => exfalso; simp at hM; omega
    | cons n ws => exact ⟨n, ws, rfl⟩
  have hwsl : ws.length + 1 = work.length := by rw [hw]; simp
  obtain ⟨hn0, hnt⟩ : 0 ≤ n ∧ n.toNat < t.length := hok.2.2.2 n (by rw [hw]; simp)
  have hStep : Step t ⟨told, work⟩ = if told[n.toNat]? = some true then (⟨told, ws⟩, -1, true) else if ws.length + (Below t n).length > 240 then (⟨told, work⟩, -1, false) else (⟨told.set n.toNat true, ws ++ Below t n⟩, n, true) := by rw [Step, hw]
  refine ElemRef.go rfl (by decide) (by lia) (by rw [S.cx.lenE']; lia) (fun row hrow => ?_); cbv
  refine Row.enc S.cx (by lia) (fun n' hn' => ?_)
  obtain rfl : n' = n := by rw [show row = 0 by omega, hw] at hn'; exact (Option.some.inj hn').symm
  cbv
  refine ElemRef.go rfl hn0 (by lia) (by rw [S.cx.lenE']; lia) (fun row2 hrow2 => ?_); cbv
  refine Row.enc S.cx (by lia) (fun b hb => ?_); cbv
  have hb' : told[n'.toNat]? = some b := by rw [← hb, hrow2]; congr 1; omega
  cases b <;> cbv
  rotate_left
  · refine CutRef.go rfl (by decide) (by lia) (by lia) (by rw [S.cx.lenE']; omega) (fun p' off' len' hoff hlen => ?_); cbv
    have hp2 : ws = (work.drop off').take len' := by
      rw [show off' = 1 by lia, show len' = ws.length by lia, hw]; simp
    have hp1 : off' + len' ≤ work.length := by lia
    rw [hStep, if_pos hb']
    exact Done.to (rIB (⟨told, ws⟩, -1, true)) (oSpI A (⟨told, ws⟩, -1, true)) rfl (by repeat' (first | exact trivial | exact rfl | exact resOwn S.cx rfl (by assumption) | exact resOwn S.cx rfl (S.cx.lenE _ _) | exact resOwn1 S.cx rfl (by assumption) | exact resOwnT S.cx rfl (by assumption) | exact S.cx.enc _ [] | refine ⟨?_, ?_⟩)) (by repeat' (first | exact trivial | exact rfl | exact Nat.le_refl _ | exact S.cx.giveEq | exact S.cx.lendLe (by assumption) | exact S.cx.lendEq (by assumption) | exact S.cx.lendLe0 | exact S.cx.lendEq0 | exact S.cx.partLe (by assumption) | exact S.cx.partEq (by assumption) | exact .inl rfl | refine ⟨?_, ?_⟩)) ⟨rfl, rfl⟩
  refine ACall.valN (r := rInt64 A) (os := fun _ => []) (dp := false) S.cx (children_c S t hbt n') ⟨rfl, (by repeat' (first | exact trivial | exact rfl | exact Nat.le_refl _ | exact S.cx.giveEq | exact S.cx.lendLe (by assumption) | exact S.cx.lendEq (by assumption) | exact S.cx.lendLe0 | exact S.cx.lendEq0 | exact S.cx.partLe (by assumption) | exact S.cx.partEq (by assumption) | exact .inl rfl | refine ⟨?_, ?_⟩)), (by repeat' (first | exact trivial | exact rfl | exact Nat.le_refl _ | exact S.cx.giveEq | exact S.cx.lendLe (by assumption) | exact S.cx.lendEq (by assumption) | exact S.cx.lendLe0 | exact S.cx.lendEq0 | exact S.cx.partLe (by assumption) | exact S.cx.partEq (by assumption) | exact .inl rfl | refine ⟨?_, ?_⟩))⟩ rfl (fun ln hln kids hx => ⟨rfl, ?_⟩)
  cbv
  have hZ := hln cInt64 kids
  generalize ln (A.enc cInt64 kids) = Z at hZ ⊢
  have hkids : ∀ x ∈ kids, Tests P 138 [.int .i64 x, .rptr [.ro (A.enc cNode t)]] ((!notCut t x) = true) := fun x hxk => by
    rw [hx] at hxk
    exact step1_c S t x (kids_in hxk).1 (kids_in hxk).2
  have hkl : kids = Kids t n' := hx
  refine ACall.valN (r := rInt64 A) (os := fun _ => [none]) (dp := false) S.cx (deleteFuncInt641_c S _ _ (fun i => !notCut t i) kids hkids Z hZ) ⟨rfl, (by repeat' (first | exact trivial | exact rfl | exact Nat.le_refl _ | exact S.cx.giveEq | exact S.cx.lendLe (by assumption) | exact S.cx.lendEq (by assumption) | exact S.cx.lendLe0 | exact S.cx.lendEq0 | exact S.cx.partLe (by assumption) | exact S.cx.partEq (by assumption) | exact .inl rfl | refine ⟨?_, ?_⟩)), (by repeat' (first | exact trivial | exact rfl | exact Nat.le_refl _ | exact S.cx.giveEq | exact S.cx.lendLe (by assumption) | exact S.cx.lendEq (by assumption) | exact S.cx.lendLe0 | exact S.cx.lendEq0 | exact S.cx.partLe (by assumption) | exact S.cx.partEq (by assumption) | exact .inl rfl | refine ⟨?_, ?_⟩))⟩ rfl (fun ln hln more hx => ⟨rfl, ?_⟩)
  cbv
  have hY := hln cInt64 more
  generalize ln (A.enc cInt64 more) = Y at hY ⊢
  have hmore : more = Below t n' := by rw [hx, hkl]; simp [Below]
  have hml := below_len t n'
  rw [← hmore] at hml
  rw [← hmore] at hStep
  refine Len.nat (fun K2 hK2 hm2 => ?_); cbv
  refine Arith.go (by lia) (fun z hz => ?_); replace hz : z = K2 - 1 := hz; cbv
  refine Len.nat (fun K3 hK3 hm3 => ?_); cbv
  refine Arith.go (by lia) (fun y hy => ?_); replace hy : y = z + K3 := hy; cbv
  refine Test.gtr (fun h5 => ?_) (fun h5 => ?_) <;> cbv
  · rw [hStep, if_neg (by rw [hb']; simp), if_pos (by lia)]
    exact Done.to (rIB (⟨told, work⟩, -1, false)) (oSpI A (⟨told, work⟩, -1, false)) rfl (by repeat' (first | exact trivial | exact rfl | exact resOwn S.cx rfl (by assumption) | exact resOwn S.cx rfl (S.cx.lenE _ _) | exact resOwn1 S.cx rfl (by assumption) | exact resOwnT S.cx rfl (by assumption) | exact S.cx.enc _ [] | refine ⟨?_, ?_⟩)) (by repeat' (first | exact trivial | exact rfl | exact resOwn S.cx rfl (by assumption) | exact resOwn S.cx rfl (S.cx.lenE _ _) | exact resOwn1 S.cx rfl (by assumption) | exact resOwnT S.cx rfl (by assumption) | exact S.cx.enc _ [] | refine ⟨?_, ?_⟩)) ⟨rfl, rfl⟩
  refine ElemRef.go rfl hn0 (by lia) (by rw [S.cx.lenE']; lia) (fun row3 hrow3 => ?_); cbv
  have hr3 : row3 = n'.toNat := by omega
  refine RowSet.enc S.cx false true (by rw [hr3]; exact hb') rfl (Nat.le_refl _) rfl (fun told' htold => ?_); cbv
  have hN' : N = told'.length := by rw [htold]; simp [hN]
  refine CutRef.go rfl (by decide) (by lia) (by lia) (by rw [S.cx.lenE']; omega) (fun p' off' len' hoff hlen => ?_); cbv
  have hp2 : ws = (work.drop off').take len' := by
    rw [show off' = 1 by lia, show len' = ws.length by lia, hw]; simp
  have hp1 : off' + len' ≤ work.length := by lia
  have hlw : len' = ws.length := by lia
  refine Part.all S.cx hY ?_; cbv
  refine AppRef.enc S.cx rfl plainInt64 (fun _ => rfl) ?_ ?_ (fun u w' hu hw' => ?_)
  · exact hp1
  · simp only [maxBytes]; omega
  cbv
  have hww : w' = ws ++ more := by rw [hw', ← hp2]
  have hul : u = w'.length := by rw [hu, hww]; simp [hlw]
  rw [hStep, if_neg (by rw [hb']; simp), if_neg (by lia)]
  exact Done.to (rIB (⟨told', w'⟩, n', true)) (oSpI A (⟨told', w'⟩, n', true)) rfl (by repeat' (first | exact trivial | exact rfl | exact resOwn S.cx rfl (by assumption) | exact resOwn S.cx rfl (S.cx.lenE _ _) | exact resOwn1 S.cx rfl (by assumption) | exact resOwnT S.cx rfl (by assumption) | exact S.cx.enc _ [] | refine ⟨?_, ?_⟩)) (by repeat' (first | exact trivial | exact rfl | exact resOwn S.cx rfl (by assumption) | exact resOwn S.cx rfl (S.cx.lenE _ _) | exact resOwn1 S.cx rfl (by assumption) | exact resOwnT S.cx rfl (by assumption) | exact S.cx.enc _ [] | refine ⟨?_, ?_⟩)) ⟨rfl, by rw [htold, hr3, hww]⟩

theorem implSpreadStep_c (S : Se P A) (t : List Node) (told : List Bool) (work : List Int) : Is1 P 71 [.ro (A.enc cNode t), .agg (roSpread A ⟨told, work⟩)] (rSpI A (SpreadStep t ⟨told, work⟩)) := by
  refine S.cx.by (S.prog ▸ Try.func71) rfl rfl rfl rfl (fun hv ho => ?_)
  cbv
  refine ACall.testD (dp := false) (implSpreadOk_c S t told work) ⟨rfl, (by repeat' (first | exact trivial | exact rfl | exact Nat.le_refl _ | exact S.cx.giveEq | exact S.cx.lendLe (by assumption) | exact S.cx.lendEq (by assumption) | exact S.cx.lendLe0 | exact S.cx.lendEq0 | exact S.cx.partLe (by assumption) | exact S.cx.partEq (by assumption) | exact .inl rfl | refine ⟨?_, ?_⟩)), (by repeat' (first | exact trivial | exact rfl | exact Nat.le_refl _ | exact S.cx.giveEq | exact S.cx.lendLe (by assumption) | exact S.cx.lendEq (by assumption) | exact S.cx.lendLe0 | exact S.cx.lendEq0 | exact S.cx.partLe (by assumption) | exact S.cx.partEq (by assumption) | exact .inl rfl | refine ⟨?_, ?_⟩))⟩ rfl (fun hok => ?_) (fun hok => ?_) <;> cbv
  rotate_left
  · exact Done.is (r := rSpI A) (x := (spread0, -1)) (by repeat' (first | exact trivial | exact rfl | exact resOwn S.cx rfl (by assumption) | exact resOwn S.cx rfl (S.cx.lenE _ _) | exact resOwn1 S.cx rfl (by assumption) | exact resOwnT S.cx rfl (by assumption) | exact S.cx.enc _ [] | refine ⟨?_, ?_⟩)) rfl (if_neg hok)
  have b0 := hok.1.1
  have b1 : told.length ≤ 4294967296 := by have := hok.2.1; dsimp only at this; omega
  have b2 : work.length ≤ 4294967296 := by have := hok.2.2.1; dsimp only at this; omega
  refine ACall.valN (r := rSp A) (os := fun _ => []) (dp := false) S.cx (clonedSpread_c S told work b1 b2) ⟨rfl, (by repeat' (first | exact trivial | exact rfl | exact Nat.le_refl _ | exact S.cx.giveEq | exact S.cx.lendLe (by assumption) | exact S.cx.lendEq (by assumption) | exact S.cx.lendLe0 | exact S.cx.lendEq0 | exact S.cx.partLe (by assumption) | exact S.cx.partEq (by assumption) | exact .inl rfl | refine ⟨?_, ?_⟩)), (by repeat' (first | exact trivial | exact rfl | exact Nat.le_refl _ | exact S.cx.giveEq | exact S.cx.lendLe (by assumption) | exact S.cx.lendEq (by assumption) | exact S.cx.lendLe0 | exact S.cx.lendEq0 | exact S.cx.partLe (by assumption) | exact S.cx.partEq (by assumption) | exact .inl rfl | refine ⟨?_, ?_⟩))⟩ rfl (fun ln hln x hx => ⟨rfl, ?_⟩)
  obtain ⟨told', work'⟩ := x
  cases hx
  cbv
  have hN := hln cBool told
  generalize ln (A.enc cBool told) = N at hN ⊢
  have hM := hln cInt64 work
  generalize ln (A.enc cInt64 work) = M at hM ⊢
  refine ACall.valN (r := rIB) (os := oSpI A) (dp := false) S.cx (step_c S t told work hok) ⟨rfl, (by repeat' (first | exact trivial | exact rfl | exact Nat.le_refl _ | exact S.cx.giveEq | exact S.cx.lendLe (by assumption) | exact S.cx.lendEq (by assumption) | exact S.cx.lendLe0 | exact S.cx.lendEq0 | exact S.cx.partLe (by assumption) | exact S.cx.partEq (by assumption) | exact .inl rfl | refine ⟨?_, ?_⟩)), (by repeat' (first | exact trivial | exact rfl | exact Nat.le_refl _ | exact S.cx.giveEq | exact S.cx.lendLe (by assumption) | exact S.cx.lendEq (by assumption) | exact S.cx.lendLe0 | exact S.cx.lendEq0 | exact S.cx.partLe (by assumption) | exact S.cx.partEq (by assumption) | exact .inl rfl | refine ⟨?_, ?_⟩))⟩ rfl (fun ln hln x hx => ⟨rfl, ?_⟩)
  obtain ⟨⟨told', work'⟩, n, b⟩ := x
  cbv
  have hN2 := hln cBool told'
  generalize ln (A.enc cBool told') = N2 at hN2 ⊢
  have hM2 := hln cInt64 work'
  generalize ln (A.enc cInt64 work') = M2 at hM2 ⊢
  exact Done.is (r := rSpI A) (x := (⟨told', work'⟩, n)) (by repeat' (first | exact trivial | exact rfl | exact resOwn S.cx rfl (by assumption) | exact resOwn S.cx rfl (S.cx.lenE _ _) | exact resOwn1 S.cx rfl (by assumption) | exact resOwnT S.cx rfl (by assumption) | exact S.cx.enc _ [] | refine ⟨?_, ?_⟩)) rfl ((if_pos hok).trans (by rw [← hx]))

theorem l7Below_c (S : Se P A) (t : List Node) (n : Int) (hok : TreeOk t ∧ 0 ≤ n ∧ n.toNat < t.length) : Is1 P 118 [.ro (A.enc cNode t), .int .i64 n] (rInt64 A (Below t n)) := by
  have b0 := hok.1.1
  refine S.cx.by (S.prog ▸ Try.func118) rfl rfl rfl rfl (fun hv ho => ?_)
  cbv
  refine ACall.valN (r := rInt64 A) (os := fun _ => []) (dp := false) S.cx (childrenOf_c S t n hok) ⟨rfl, (by repeat' (first | exact trivial | exact rfl | exact Nat.le_refl _ | exact S.cx.giveEq | exact S.cx.lendLe (by assumption) | exact S.cx.lendEq (by assumption) | exact S.cx.lendLe0 | exact S.cx.lendEq0 | exact S.cx.partLe (by assumption) | exact S.cx.partEq (by assumption) | exact .inl rfl | refine ⟨?_, ?_⟩)), (by repeat' (first | exact trivial | exact rfl | exact Nat.le_refl _ | exact S.cx.giveEq | exact S.cx.lendLe (by assumption) | exact S.cx.lendEq (by assumption) | exact S.cx.lendLe0 | exact S.cx.lendEq0 | exact S.cx.partLe (by assumption) | exact S.cx.partEq (by assumption) | exact .inl rfl | refine ⟨?_, ?_⟩))⟩ rfl (fun ln hln kids hx => ⟨rfl, ?_⟩)
  cbv
  have hZ := hln cInt64 kids
  generalize ln (A.enc cInt64 kids) = Z at hZ ⊢
  have hkl : kids.length ≤ 60 := by rw [hx]; exact Nat.le_trans (idxs_len _ _) b0
  refine ALoop.pre (Less.initE S.cx cInt64 999000000 1 true (t := 5) rfl (by first | exact .inr rfl | exact .inl rfl) rfl) ?_
  refine ALoop.goD (ι := Int × Nat × List Int) (fun i => [(7, .int .i64 i.1), (5, .ref false 999000000 0 i.2.1)]) [999000000] (fun i => [(999000000, .arr 1 true (A.enc cInt64 i.2.2))]) (fun i => 0 ≤ i.1 ∧ i.2.1 = i.2.2.length ∧ i.2.2 = (kids.take i.1.toNat).filter (notCut t)) (fun i => (kids.length - i.1).toNat) (0, 0, []) S.cx.tab S.cx.mix S.eq ?_ ?_ ?_
  · exact ⟨Int.le_refl _, rfl, by simp⟩
  · (cbv; refine Less.to [] rfl rfl ?_ ?_ <;> repeat' (first | exact trivial | exact ⟨rfl, rfl⟩ | exact ⟨_, rfl, Nat.zero_le _, rfl⟩ | apply And.intro | exact rfl))
  rintro ⟨i, c, out⟩ ⟨h0, hc, ho⟩
  dsimp only at h0 hc ho
  have hlen : out.length ≤ kids.length := by rw [ho]; exact Nat.le_trans (List.length_filter_le _ _) (by simp; omega)
  cbv
  refine Len.nat (fun N hN hm => ?_); cbv
  refine Test.lss (fun h => ?_) (fun h => ?_) <;> cbv
  · refine ElemRef.go rfl h0 (by lia) (by rw [S.cx.lenE']; lia) (fun row hrow => ?_); cbv
    refine Row.enc S.cx (by lia) (fun k hk => ?_); cbv
    have hki : kids[i.toNat]? = some k := by rw [← hk, hrow]; congr 1; omega
    obtain ⟨hk0, hkt⟩ := kids_in (by rw [← hx]; exact mem_at hki : k ∈ Kids t n)
    obtain ⟨x, hxx⟩ := get_of_lt hkt
    have step : ∀ i', i' = i + 1 → (kids.take i'.toNat).filter (notCut t) = out ++ (if notCut t k then [k] else []) := fun i' hi' => by
      rw [show i'.toNat = i.toNat + 1 by omega, take_next hki, List.filter_append, ho]
      by_cases hq : notCut t k = true <;> simp [hq]
    refine ElemRo.at S.cx (x := x) rfl hk0 hxx ?_; cbv
    refine Test.neq (fun h2 => ?_) (fun h2 => ?_) <;> cbv
    · have hnc : notCut t k = true := by simp [notCut, hxx, h2]
      refine ElemRef.go rfl h0 (by lia) (by rw [S.cx.lenE']; lia) (fun row2 hrow2 => ?_); cbv
      refine Row.enc S.cx (by lia) (fun k2 hk2 => ?_)
      obtain rfl : k = k2 := by rw [show row2 = row by omega, hk] at hk2; exact Option.some.inj hk2
      cbv
      refine Part.one ?_; cbv
      refine AppRef.push S.cx k (by assumption) rfl rfl plainInt64 (fun _ => rfl) (by simp only [maxBytes]; omega) (fun m w hw hml => ?_); cbv
      refine Arith.go (by lia) (fun i' hi' => ?_); cbv
      refine Again.on (i', m, w) (by dsimp only; lia) ⟨by dsimp only; lia, hml, by dsimp only; rw [step i' hi', hw, if_pos hnc]⟩ ?_
      (cbv; refine Less.to [(999000000, (8060000, 0))] rfl rfl ?_ ?_ <;> repeat' (first | exact trivial | exact ⟨rfl, rfl⟩ | exact ⟨_, rfl, Nat.zero_le _, rfl⟩ | apply And.intro | exact rfl))
    · have hnc : notCut t k = false := by simp [notCut, hxx, h2]
      refine Arith.go (by lia) (fun i' hi' => ?_); cbv
      refine Again.on (i', c, out) (by dsimp only; lia) ⟨by dsimp only; lia, hc, by dsimp only; rw [step i' hi', hnc]; simp⟩ ?_
      (cbv; refine Less.to [] rfl rfl ?_ ?_ <;> repeat' (first | exact trivial | exact ⟨rfl, rfl⟩ | exact ⟨_, rfl, Nat.zero_le _, rfl⟩ | apply And.intro | exact rfl))
  · have hall : out = Below t n := by rw [ho, take_all (by lia), hx]; rfl
    exact Done.is (r := rInt64 A) (x := out) (by repeat' (first | exact trivial | exact rfl | exact resOwn S.cx rfl (by assumption) | exact resOwn S.cx rfl (S.cx.lenE _ _) | exact resOwn1 S.cx rfl (by assumption) | exact resOwnT S.cx rfl (by assumption) | exact S.cx.enc _ [] | refine ⟨?_, ?_⟩)) rfl (hall.symm)

theorem specSpreadStep_c (S : Se P A) (t : List Node) (told : List Bool) (work : List Int) : Is1 P 72 [.ro (A.enc cNode t), .agg (roSpread A ⟨told, work⟩)] (rSpI A (SpreadStep t ⟨told, work⟩)) := by
  refine S.cx.by (S.prog ▸ Try.func72) rfl rfl rfl rfl (fun hv ho => ?_)
  cbv
  refine ACall.testD (dp := false) (specSpreadOk_c S t told work) ⟨rfl, (by repeat' (first | exact trivial | exact rfl | exact Nat.le_refl _ | exact S.cx.giveEq | exact S.cx.lendLe (by assumption) | exact S.cx.lendEq (by assumption) | exact S.cx.lendLe0 | exact S.cx.lendEq0 | exact S.cx.partLe (by assumption) | exact S.cx.partEq (by assumption) | exact .inl rfl | refine ⟨?_, ?_⟩)), (by repeat' (first | exact trivial | exact rfl | exact Nat.le_refl _ | exact S.cx.giveEq | exact S.cx.lendLe (by assumption) | exact S.cx.lendEq (by assumption) | exact S.cx.lendLe0 | exact S.cx.lendEq0 | exact S.cx.partLe (by assumption) | exact S.cx.partEq (by assumption) | exact .inl rfl | refine ⟨?_, ?_⟩))⟩ rfl (fun hok => ?_) (fun hok => ?_) <;> cbv
  rotate_left
  · exact Done.is (r := rSpI A) (x := (spread0, -1)) (by repeat' (first | exact trivial | exact rfl | exact resOwn S.cx rfl (by assumption) | exact resOwn S.cx rfl (S.cx.lenE _ _) | exact resOwn1 S.cx rfl (by assumption) | exact resOwnT S.cx rfl (by assumption) | exact S.cx.enc _ [] | refine ⟨?_, ?_⟩)) rfl (if_neg hok)
  have b0 := hok.1.1
  have htl : told.length = t.length := hok.2.1
  have hwl : work.length ≤ 240 := hok.2.2.1
  have b1 : told.length ≤ 4294967296 := by omega
  have b2 : work.length ≤ 4294967296 := by omega
  refine ACall.valN (r := rSp A) (os := fun _ => []) (dp := false) S.cx (l7Copy_c S told work b1 b2) ⟨rfl, (by repeat' (first | exact trivial | exact rfl | exact Nat.le_refl _ | exact S.cx.giveEq | exact S.cx.lendLe (by assumption) | exact S.cx.lendEq (by assumption) | exact S.cx.lendLe0 | exact S.cx.lendEq0 | exact S.cx.partLe (by assumption) | exact S.cx.partEq (by assumption) | exact .inl rfl | refine ⟨?_, ?_⟩)), (by repeat' (first | exact trivial | exact rfl | exact Nat.le_refl _ | exact S.cx.giveEq | exact S.cx.lendLe (by assumption) | exact S.cx.lendEq (by assumption) | exact S.cx.lendLe0 | exact S.cx.lendEq0 | exact S.cx.partLe (by assumption) | exact S.cx.partEq (by assumption) | exact .inl rfl | refine ⟨?_, ?_⟩))⟩ rfl (fun ln hln x hx => ⟨rfl, ?_⟩)
  obtain ⟨told', work'⟩ := x
  cases hx
  cbv
  have hN := hln cBool told
  generalize ln (A.enc cBool told) = N at hN ⊢
  have hM := hln cInt64 work
  generalize ln (A.enc cInt64 work) = M at hM ⊢
  refine LenR.nat S.cx (fun K hK hm => ?_); cbv
  refine Test.eql (fun h => ?_) (fun h => ?_) <;> cbv
  · have e : work = [] := List.length_eq_zero_iff.1 (by omega)
    exact Done.is (r := rSpI A) (x := (⟨told, work⟩, -1)) (by repeat' (first | exact trivial | exact rfl | exact resOwn S.cx rfl (by assumption) | exact resOwn S.cx rfl (S.cx.lenE _ _) | exact resOwn1 S.cx rfl (by assumption) | exact resOwnT S.cx rfl (by assumption) | exact S.cx.enc _ [] | refine ⟨?_, ?_⟩)) rfl ((if_pos hok).trans (by rw [e]; rfl))
  obtain ⟨n, ws, hw⟩ : ∃ n ws, work = n :: ws := by
    cases work with
    | nil => exfalso; simp at hM; simp at hK; omega
    | cons n ws => exact ⟨n, ws, rfl⟩
  have hwsl : ws.length + 1 = work.length := by rw [hw]; simp
  obtain ⟨hn0, hnt⟩ : 0 ≤ n ∧ n.toNat < t.length := hok.2.2.2 n (by rw [hw]; simp)
  have hStep : Step t ⟨told, work⟩ = if told[n.toNat]? = some true then (⟨told, ws⟩, -1, true) else if ws.length + (Below t n).length > 240 then (⟨told, work⟩, -1, false) else (⟨told.set n.toNat true, ws ++ Below t n⟩, n, true) := by rw [Step, hw]
  have hfin : SpreadStep t ⟨told, work⟩ = ((Step t ⟨told, work⟩).1, (Step t ⟨told, work⟩).2.1) := if_pos hok
  refine ElemRo.at S.cx (x := n) rfl (by decide) (by rw [hw]; rfl) ?_; cbv
  refine CutRoE.enc S.cx (fun _ => rfl) (by decide) (by lia) (fun l' hl' => ?_)
  obtain rfl : l' = ws := by rw [hl', hw]; rfl
  cbv
  refine AppNew.enc S.cx plainInt64 (.inr (.inr trivial)) (fun _ => rfl) (by simp only [maxBytes]; omega) (fun m hm2 => ?_); cbv
  refine ElemRo.enc S.cx (fun _ => rfl) hn0 (by lia) (fun b hb' => ?_); cbv
  cases b <;> cbv
  rotate_left
  · exact Done.is (r := rSpI A) (x := (⟨told, l'⟩, -1)) (by repeat' (first | exact trivial | exact rfl | exact resOwn S.cx rfl (by assumption) | exact resOwn S.cx rfl (S.cx.lenE _ _) | exact resOwn1 S.cx rfl (by assumption) | exact resOwnT S.cx rfl (by assumption) | exact S.cx.enc _ [] | refine ⟨?_, ?_⟩)) rfl (by rw [hfin, hStep, if_pos hb'])
  refine ElemRef.go rfl hn0 (by lia) (by rw [S.cx.lenE']; lia) (fun row3 hrow3 => ?_); cbv
  have hr3 : row3 = n.toNat := by omega
  refine RowSet.enc S.cx false true (by rw [hr3]; exact hb') rfl (Nat.le_refl _) rfl (fun told' htold => ?_); cbv
  have hN' : N = told'.length := by rw [htold]; simp [hN]
  try (refine Drawn.mk ⟨by kernel_rfl, fun _ => ?_⟩)
  refine ACall.valN (r := rInt64 A) (os := fun _ => []) (dp := false) S.cx (l7Below_c S t n ⟨hok.1, hn0, hnt⟩) ⟨rfl, (by repeat' (first | exact trivial | exact rfl | exact Nat.le_refl _ | exact S.cx.giveEq | exact S.cx.lendLe (by assumption) | exact S.cx.lendEq (by assumption) | exact S.cx.lendLe0 | exact S.cx.lendEq0 | exact S.cx.partLe (by assumption) | exact S.cx.partEq (by assumption) | exact .inl rfl | refine ⟨?_, ?_⟩)), (by repeat' (first | exact trivial | exact rfl | exact Nat.le_refl _ | exact S.cx.giveEq | exact S.cx.lendLe (by assumption) | exact S.cx.lendEq (by assumption) | exact S.cx.lendLe0 | exact S.cx.lendEq0 | exact S.cx.partLe (by assumption) | exact S.cx.partEq (by assumption) | exact .inl rfl | refine ⟨?_, ?_⟩))⟩ rfl (fun ln hln more hx => ⟨rfl, ?_⟩)
  cbv
  have hY := hln cInt64 more
  generalize ln (A.enc cInt64 more) = Y at hY ⊢
  have hbl := below_len t n
  rw [← hx] at hbl hStep
  refine Part.all S.cx hY ?_; cbv
  refine AppRef.pushAll S.cx hm2 rfl plainInt64 (fun _ => rfl) (by simp only [maxBytes]; omega) (fun u w' hw' hul => ?_); cbv
  have hwl2 : w'.length = l'.length + more.length := by rw [hw']; simp
  refine Len.nat (fun K2 hK2 hm3 => ?_); cbv
  refine Test.gtr (fun h5 => ?_) (fun h5 => ?_) <;> cbv
  · refine ACall.valN (r := rSp A) (os := fun _ => []) (dp := false) S.cx (l7Copy_c S told work b1 b2) ⟨rfl, (by repeat' (first | exact trivial | exact rfl | exact Nat.le_refl _ | exact S.cx.giveEq | exact S.cx.lendLe (by assumption) | exact S.cx.lendEq (by assumption) | exact S.cx.lendLe0 | exact S.cx.lendEq0 | exact S.cx.partLe (by assumption) | exact S.cx.partEq (by assumption) | exact .inl rfl | refine ⟨?_, ?_⟩)), (by repeat' (first | exact trivial | exact rfl | exact Nat.le_refl _ | exact S.cx.giveEq | exact S.cx.lendLe (by assumption) | exact S.cx.lendEq (by assumption) | exact S.cx.lendLe0 | exact S.cx.lendEq0 | exact S.cx.partLe (by assumption) | exact S.cx.partEq (by assumption) | exact .inl rfl | refine ⟨?_, ?_⟩))⟩ rfl (fun ln hln x hx => ⟨rfl, ?_⟩)
    obtain ⟨told9, work9⟩ := x
    cases hx
    cbv
    have hN9 := hln cBool told
    generalize ln (A.enc cBool told) = N9 at hN9 ⊢
    have hM9 := hln cInt64 work
    generalize ln (A.enc cInt64 work) = M9 at hM9 ⊢
    exact Done.is (r := rSpI A) (x := (⟨told, work⟩, -1)) (by repeat' (first | exact trivial | exact rfl | exact resOwn S.cx rfl (by assumption) | exact resOwn S.cx rfl (S.cx.lenE _ _) | exact resOwn1 S.cx rfl (by assumption) | exact resOwnT S.cx rfl (by assumption) | exact S.cx.enc _ [] | refine ⟨?_, ?_⟩)) rfl (by rw [hfin, hStep, if_neg (by rw [hb']; simp), if_pos (by lia)])
  · exact Done.is (r := rSpI A) (x := (⟨told', w'⟩, n)) (by repeat' (first | exact trivial | exact rfl | exact resOwn S.cx rfl (by assumption) | exact resOwn S.cx rfl (S.cx.lenE _ _) | exact resOwn1 S.cx rfl (by assumption) | exact resOwnT S.cx rfl (by assumption) | exact S.cx.enc _ [] | refine ⟨?_, ?_⟩)) rfl (by rw [hfin, hStep, if_neg (by rw [hb']; simp), if_neg (by lia), htold, hr3, hw'])

end Go.Proofs.Ytcbebidfnlkkeaa.AM
