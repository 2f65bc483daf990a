/- Contracts: whether a group has room. -/
import Derived.Test.YtmpbmfhlkhonkaaF5
namespace Go.Proofs.Ytmpbmfhlkhonkaa.AM
open Go Go.Proofs

set_option maxRecDepth 100000
set_option linter.unusedVariables false
set_option linter.unusedSimpArgs false

def Grp.room (g : Grp) : Prop := (g.limit = 0 ∨ g.active < g.limit) ∧ g.active < 60

theorem hasRoom_sound {P : Program} (hP : P = Try.prog) (g : Grp) (b : Bool) (hb : b = true ↔ g.room) : Sound P 70 false [.agg [.int .i64 g.node, .int .i64 g.limit, .int .i64 g.active, .ro (ints g.waits), .int .i64 g.first]] (· = .bool b) := by
  obtain ⟨node, limit, active, waits, first⟩ := g
  dsimp only [Grp.room] at hb ⊢
  generalize ints waits = rows
  have htab : TabOk P tab := hP ▸ tab_ok
  have hm : P.follows .mixedOrders = true := hP ▸ mixed_ok
  refine sound_by hm htab (hP ▸ Try.func70) rfl rfl rfl rfl (fun hv sBin sTst sNeg sConv sBeq sLen sOff sSpan sOfNat sCut sGet sLt sNat sRep sPart sAdd sApp sSet S => ?_)
  cbv
  split <;> rename_i h <;> rw [h] <;> cbv <;> simp [S.tst, syTst] at h
  · refine Done.bool ?_
    simp only [S.tst, syTst]
    rw [Bool.eq_iff_iff.2 (show decide (active < 60) = true ↔ b = true by rw [hb]; simp [h])]
  · split <;> rename_i h2 <;> rw [h2] <;> cbv <;> simp [S.tst, syTst] at h2 <;> refine Done.bool ?_
    · simp only [S.tst, syTst]
      rw [Bool.eq_iff_iff.2 (show decide (active < 60) = true ↔ b = true by rw [hb]; simp [h2])]
    · rw [Bool.eq_iff_iff.2 (show false = true ↔ b = true by rw [hb]; simp [h]; omega)]

theorem specRoomIn_sound {P : Program} (hP : P = Try.prog) (g : Grp) (b : Bool) (hb : b = true ↔ g.ok ∧ g.room) : Sound P 29 false [.agg [.int .i64 g.node, .int .i64 g.limit, .int .i64 g.active, .ro (ints g.waits), .int .i64 g.first]] (· = .bool b) := by
  obtain ⟨b', hb', hok⟩ := specGroupOk_sound hP g
  obtain ⟨node, limit, active, waits, first⟩ := g
  dsimp only [Grp.room] at hb hok ⊢
  generalize ints waits = rows at hok ⊢
  have htab : TabOk P tab := hP ▸ tab_ok
  have hm : P.follows .mixedOrders = true := hP ▸ mixed_ok
  refine sound_by hm htab (hP ▸ Try.func29) rfl rfl rfl rfl (fun hv sBin sTst sNeg sConv sBeq sLen sOff sSpan sOfNat sCut sGet sLt sNat sRep sPart sAdd sApp sSet S => ?_)
  cbv
  refine ACall.of hok ⟨⟨rfl, rfl, rfl, rfl, rfl, trivial⟩, trivial⟩ rfl ?_
  cases b' with
  | false =>
    have hno : ¬ Grp.ok ⟨node, limit, active, waits, first⟩ := fun h => by simpa using hb'.2 h
    cbv
    refine Done.bool ?_
    rw [Bool.eq_iff_iff.2 (show false = true ↔ b = true by rw [hb]; simp [hno])]
  | true =>
    have hyes := hb'.1 rfl
    cbv
    split <;> rename_i h <;> rw [h] <;> cbv <;> simp [S.tst, syTst] at h
    · refine Done.bool ?_
      simp only [S.tst, syTst]
      rw [Bool.eq_iff_iff.2 (show decide (active < 60) = true ↔ b = true by rw [hb, decide_eq_true_eq]; exact ⟨fun h3 => ⟨hyes, .inl h, h3⟩, fun h3 => h3.2.2⟩)]
    · split <;> rename_i h2 <;> rw [h2] <;> cbv <;> simp [S.tst, syTst] at h2 <;> refine Done.bool ?_
      · simp only [S.tst, syTst]
        rw [Bool.eq_iff_iff.2 (show decide (active < 60) = true ↔ b = true by rw [hb]; simp [h2, hyes])]
      · rw [Bool.eq_iff_iff.2 (show false = true ↔ b = true by rw [hb]; simp [h]; omega)]

theorem implRoomIn_sound {P : Program} (hP : P = Try.prog) (g : Grp) (b : Bool) (hb : b = true ↔ g.ok ∧ g.room) : Sound P 30 false [.agg [.int .i64 g.node, .int .i64 g.limit, .int .i64 g.active, .ro (ints g.waits), .int .i64 g.first]] (· = .bool b) := by
  obtain ⟨b', hb', hok⟩ := implGroupOk_sound hP g
  obtain ⟨b2, hb2⟩ : ∃ b2 : Bool, b2 = true ↔ g.room := ⟨@decide g.room (Classical.propDecidable _), by simp⟩
  have hroom := hasRoom_sound hP g b2 hb2
  obtain ⟨node, limit, active, waits, first⟩ := g
  dsimp only at hok hroom ⊢
  generalize ints waits = rows at hok hroom ⊢
  have htab : TabOk P tab := hP ▸ tab_ok
  have hm : P.follows .mixedOrders = true := hP ▸ mixed_ok
  refine sound_by hm htab (hP ▸ Try.func30) rfl rfl rfl rfl (fun hv sBin sTst sNeg sConv sBeq sLen sOff sSpan sOfNat sCut sGet sLt sNat sRep sPart sAdd sApp sSet S => ?_)
  cbv
  refine ACall.of hok ⟨⟨rfl, rfl, rfl, rfl, rfl, trivial⟩, trivial⟩ rfl ?_
  cases b' with
  | false =>
    cbv
    refine Done.bool ?_
    rw [Bool.eq_iff_iff.2 (show false = true ↔ b = true by rw [hb, ← hb']; simp)]
  | true =>
    cbv
    refine ACall.of hroom ⟨⟨rfl, rfl, rfl, rfl, rfl, trivial⟩, trivial⟩ rfl ?_
    cbv
    refine Done.bool ?_
    rw [Bool.eq_iff_iff.2 (show b2 = true ↔ b = true by rw [hb, hb2, ← hb']; simp)]

end Go.Proofs.Ytmpbmfhlkhonkaa.AM
