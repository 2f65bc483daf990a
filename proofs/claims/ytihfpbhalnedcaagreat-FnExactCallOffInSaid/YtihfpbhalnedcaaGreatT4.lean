/- Contracts: spreads begun, one step. (printed by gt5.py) -/
import Derived.Test.YtihfpbhalnedcaaGreatTA
set_option linter.unusedVariables false
set_option linter.unusedSimpArgs false
namespace Go.Proofs.YtihfpbhalnedcaaGreat.AM
open Go Go.Proofs

set_option maxRecDepth 100000
set_option maxHeartbeats 4000000

variable {P : Program} {A : Sy}

def rSp (A : Sy) (x : Spread) : AV := .agg (ownSpread A x)
def rSpB (A : Sy) (x : Spread × Bool) : AV := .tup [.agg (ownSpread A x.1), .bool x.2]
def rSpI (A : Sy) (x : Spread × Int) : AV := .tup [.agg (ownSpread A x.1), .int .i64 x.2]

theorem clonedSpread_c (S : Se P A) (told : List Bool) (work : List Int) (h1 : told.length <= 4294967296) (h2 : work.length <= 4294967296) : Is1 P 249 [.agg (roSpread A ⟨told, work⟩)] (rSp A ⟨told, work⟩) := by
  refine S.cx.by (S.prog ▸ Tryz.func249) rfl rfl rfl rfl (fun hv ho => ?_)
  cbv
  try (refine Drawn.mk ⟨by kernel_rfl, fun _ => ?_⟩)
  refine ACall.valN (r := rBool A) (os := fun _ => []) (dp := false) S.cx (cloneBool_c S told h1) .go rfl (fun ln hln a hx => ⟨rfl, ?_⟩)
  cases hx
  cbv
  have hN := hln cBool told
  generalize ln (A.enc cBool told) = N at hN ⊢
  refine ACall.valN (r := rInt64 A) (os := fun _ => []) (dp := false) S.cx (cloneInt64_c S work h2) .go rfl (fun ln hln b hx => ⟨rfl, ?_⟩)
  cases hx
  cbv
  have hM := hln cInt64 work
  generalize ln (A.enc cInt64 work) = M at hM ⊢
  exact Done.isA (r := rSp A) (x := ⟨told, work⟩) (rfl)

theorem l7Copy_c (S : Se P A) (told : List Bool) (work : List Int) (h1 : told.length <= 4294967296) (h2 : work.length <= 4294967296) : Is1 P 142 [.agg (roSpread A ⟨told, work⟩)] (rSp A ⟨told, work⟩) := by
  refine S.cx.by (S.prog ▸ Tryz.func142) rfl rfl rfl rfl (fun hv ho => ?_)
  cbv
  try (refine Drawn.mk ⟨by kernel_rfl, fun _ => ?_⟩)
  refine AppNew.enc S.cx plainBool (.inr (.inr trivial)) (fun _ => rfl) (by simp only [maxBytes]; omega) (fun n hn => ?_); cbv
  refine AppNew.enc S.cx plainInt64 (.inr (.inr trivial)) (fun _ => rfl) (by simp only [maxBytes]; omega) (fun m hm => ?_); cbv
  exact Done.isA (r := rSp A) (x := ⟨told, work⟩) (rfl)

def Begin (s : Spread) (n : Int) : Spread × Bool :=
  if (0 <= n /\ n.toNat < s.told.length) /\ s.work.length ≠ 240 then ({ s with work := s.work ++ [n] }, true) else (s, false)
def Begun (t : List Node) (s : Spread) (n : Int) : Spread × Bool := if SpreadOk t s then Begin s n else (spread0, false)
def rB2 (x : Spread × Bool) : AV := .bool x.2
def oSp (A : Sy) (x : Spread × Bool) : List (Option Obj) := [some (.box (ownSpread A x.1))]

theorem begin_c (S : Se P A) (told : List Bool) (work : List Int) (hw : work.length <= 4294967200) (n : Int) : SoundM P 191 false [.ptr 1000 0 0, .int .i64 n] [.box (ownSpread A ⟨told, work⟩)]
    (fun v os => v = rB2 (Begin ⟨told, work⟩ n) /\ os = oSp A (Begin ⟨told, work⟩ n)) := by
  refine S.cx.byN (S.prog ▸ Tryz.func191) rfl rfl rfl rfl (fun ln hln hv ho => ?_)
  cbv
  have hN := hln cBool told
  generalize ln (A.enc cBool told) = N at hN ⊢
  have hM := hln cInt64 work
  generalize ln (A.enc cInt64 work) = M at hM ⊢
  refine ACall.testD (dp := false) (isInBool_c S n told) .go rfl (fun h => ?_) (fun h => ?_) <;> cbv
  rotate_left
  · rw [Begin, if_neg (fun e => h e.1)]
    exact Done.toA (rB2 (⟨told, work⟩, false)) (oSp A (⟨told, work⟩, false)) ⟨rfl, rfl⟩
  refine Len.nat (fun K hK hm => ?_); cbv
  refine Test.eql (fun h2 => ?_) (fun h2 => ?_) <;> cbv
  · rw [Begin, if_neg (fun e => e.2 (by dsimp only; omega))]
    exact Done.toA (rB2 (⟨told, work⟩, false)) (oSp A (⟨told, work⟩, false)) ⟨rfl, rfl⟩
  refine Part.one ?_; cbv
  refine AppRef.push S.cx n (by assumption) rfl rfl plainInt64 (fun _ => rfl) (by simp only [maxBytes]; omega) (fun m w hww hml => ?_); cbv
  rw [Begin, if_pos ⟨h, by dsimp only; omega⟩]
  exact Done.toA (rB2 (⟨told, w⟩, true)) (oSp A (⟨told, w⟩, true)) ⟨rfl, by rw [hww]⟩

theorem specBegun_c (S : Se P A) (t : List Node) (told : List Bool) (work : List Int) (n : Int) : Is1 P 189 [.ro (A.enc cNode t), .agg (roSpread A ⟨told, work⟩), .int .i64 n] (rSpB A (Begun t ⟨told, work⟩ n)) := by
  refine S.cx.by (S.prog ▸ Tryz.func189) rfl rfl rfl rfl (fun hv ho => ?_)
  cbv
  refine ACall.testD (dp := false) (specSpreadOk_c S t told work) .go rfl (fun hok => ?_) (fun hok => ?_) <;> cbv
  rotate_left
  · exact Done.isA (r := rSpB A) (x := (spread0, false)) (if_neg hok)
  have b0 := hok.1.1
  have htl : told.length = t.length := hok.2.1
  have hwl : work.length <= 240 := hok.2.2.1
  have b1 : told.length <= 4294967296 := by omega
  have b2 : work.length <= 4294967296 := by omega
  refine ACall.valN (r := rSp A) (os := fun _ => []) (dp := false) S.cx (l7Copy_c S told work b1 b2) .go rfl (fun ln hln x hx => ⟨rfl, ?_⟩)
  obtain ⟨told', work'⟩ := x
  cases hx
  cbv
  have hN := hln cBool told
  generalize ln (A.enc cBool told) = N at hN ⊢
  have hM := hln cInt64 work
  generalize ln (A.enc cInt64 work) = M at hM ⊢
  refine LenR.nat S.cx (fun T hT hm => ?_); cbv
  refine Arith.go (by lia) (fun z hz => ?_); replace hz : z = T - 1 := hz; cbv
  refine ACall.testD (dp := false) (l1In_c S n 0 z) .go rfl (fun h => ?_) (fun h => ?_) <;> cbv
  rotate_left
  · exact Done.isA (r := rSpB A) (x := (⟨told, work⟩, false)) ((if_pos hok).trans (if_neg (fun e => h (by have := e.1; dsimp only at this; omega))))
  refine LenR.nat S.cx (fun K hK hm2 => ?_); cbv
  refine Test.eql (fun h2 => ?_) (fun h2 => ?_) <;> cbv
  · exact Done.isA (r := rSpB A) (x := (⟨told, work⟩, false)) ((if_pos hok).trans (if_neg (fun e => e.2 (by dsimp only; omega))))
  refine Part.one ?_; cbv
  refine AppRef.push S.cx n (by assumption) rfl rfl plainInt64 (fun _ => rfl) (by simp only [maxBytes]; omega) (fun m w hww hml => ?_); cbv
  exact Done.isA (r := rSpB A) (x := (⟨told, w⟩, true)) ((if_pos hok).trans ((if_pos ⟨by dsimp only; omega, by dsimp only; omega⟩).trans (by rw [hww])))

end Go.Proofs.YtihfpbhalnedcaaGreat.AM
