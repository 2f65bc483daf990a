/- Contracts: equal groups; the law GroupOk. -/
import Derived.Test.YtmpbmfhlkhonkaaF4
namespace Go.Proofs.Ytmpbmfhlkhonkaa.AM
open Go Go.Proofs

set_option maxRecDepth 100000
set_option linter.unusedVariables false
set_option linter.unusedSimpArgs false

theorem eqGroup_self {P : Program} (hP : P = Try.prog) (g : Grp) : Sound P 28 false [.agg [.int .i64 g.node, .int .i64 g.limit, .int .i64 g.active, .ro (ints g.waits), .int .i64 g.first], .agg [.int .i64 g.node, .int .i64 g.limit, .int .i64 g.active, .ro (ints g.waits), .int .i64 g.first]] (· = .bool true) := by
  obtain ⟨node, limit, active, waits, first⟩ := g
  dsimp only
  have hcall := eqInt64S_sound hP waits waits
  rw [decide_eq_true rfl] at hcall
  generalize ints waits = rows at hcall ⊢
  have htab : TabOk P tab := hP ▸ tab_ok
  have hm : P.follows .mixedOrders = true := hP ▸ mixed_ok
  refine sound_by hm htab (hP ▸ Try.func28) rfl rfl rfl rfl (fun hv sBin sTst sNeg sConv sBeq sLen sOff sSpan sOfNat sCut sGet sLt sNat sRep sPart sAdd sApp sSet S => ?_)
  have ne : ∀ x : Int, sTst .neq x x = false := fun x => by simp [S.tst, syTst]
  cbv
  rw [ne]
  cbv
  rw [ne]
  cbv
  rw [ne]
  cbv
  refine ACall.of hcall ⟨rfl, rfl, trivial⟩ rfl ?_
  cbv
  rw [ne]
  cbv
  exact Done.bool rfl

theorem sz_ok {w : List Int} {q : Int} (h : q = (if (1048576 : Int) < (w.length : Int) then (-1 : Int) else 1048576 - (w.length : Int))) (h2 : 0 ≤ q) : w.length ≤ 1048576 := by
  rw [h] at h2
  split at h2
  · omega
  · omega

theorem FnExactGroupOk_sound {P : Program} (hP : P = Try.prog) (g : Grp) : Sound P 4 false [g.av] (· = .bool true) := by
  obtain ⟨b, hb, hspec⟩ := specGroupOk_sound hP g
  obtain ⟨b', hb', himpl⟩ := implGroupOk_sound hP g
  have hbb : b' = b := by rw [Bool.eq_iff_iff, hb, hb']
  subst hbb
  have heq := eqGroup_self hP g
  have hsz := szGroup_sound hP g 1048576 (by decide)
  have hto := toGroup_sound hP g
  obtain ⟨node, limit, active, waits, first⟩ := g
  dsimp only at hspec himpl heq hsz hto
  unfold Grp.out at hto
  unfold Grp.av at hsz hto ⊢
  dsimp only at hsz hto ⊢
  obtain ⟨q, hq⟩ : ∃ q : Int, q = (if (1048576 : Int) < (waits.length : Int) then (-1 : Int) else 1048576 - (waits.length : Int)) := ⟨_, rfl⟩
  rw [← hq] at hsz
  obtain ⟨rows, hrows⟩ : ∃ rows, rows = ints waits := ⟨_, rfl⟩
  obtain ⟨N, hN⟩ : ∃ N, rows.length = N := ⟨_, rfl⟩
  rw [← hrows] at hspec himpl heq hsz hto ⊢
  have htab : TabOk P tab := hP ▸ tab_ok
  have hm : P.follows .mixedOrders = true := hP ▸ mixed_ok
  refine sound_by hm htab (hP ▸ Try.func4) rfl rfl rfl rfl (fun hv sBin sTst sNeg sConv sBeq sLen sOff sSpan sOfNat sCut sGet sLt sNat sRep sPart sAdd sApp sSet S => ?_)
  cbv
  refine ACall.of hsz ⟨⟨rfl, rfl, rfl, rfl, rfl, trivial⟩, rfl, trivial⟩ rfl ?_
  cbv
  split <;> rename_i h <;> rw [h] <;> cbv
  · exact Done.bool rfl
  simp [S.tst, syTst] at h
  have hto := hto (sz_ok hq h)
  have hpl : ∀ r ∈ rows, ∀ v ∈ r, v.plain := by rw [hrows]; exact ints_plain waits
  have lend : ∀ (st : St) (id : Nat), lk st.sto id = some (.arr 1 true rows) → lends st [.agg [.int .i64 node, .int .i64 limit, .int .i64 active, .ref false id 0 N, .int .i64 first]] [.agg [.int .i64 node, .int .i64 limit, .int .i64 active, .ro rows, .int .i64 first]] := fun st id h =>
    ⟨⟨rfl, rfl, rfl, ⟨1, true, rows, h, by rw [hN, Nat.zero_add]; exact Nat.le_refl _, by rw [← hN, List.drop_zero, List.take_length]; rfl⟩, rfl, trivial⟩, trivial⟩
  refine ACall.as (v := .agg [.int .i64 node, .int .i64 limit, .int .i64 active, .ref false _ 0 N, .int .i64 first]) (os := [(_, .arr 1 true rows)]) hto ⟨⟨rfl, rfl, rfl, rfl, rfl, trivial⟩, trivial⟩ rfl (by rw [← hN]; rfl) rfl ?_
  cbv
  refine ACall.of hspec (lend _ _ rfl) rfl ?_
  cbv
  refine ACall.as (v := .agg [.int .i64 node, .int .i64 limit, .int .i64 active, .ref false _ 0 N, .int .i64 first]) (os := [(_, .arr 1 true rows)]) hto ⟨⟨rfl, rfl, rfl, rfl, rfl, trivial⟩, trivial⟩ rfl (by rw [← hN]; rfl) rfl ?_
  cbv
  refine ACall.of himpl (lend _ _ rfl) rfl ?_
  cbv
  have hbe : sBeq b' b' = true := by simp [S.beq]
  rw [hbe]
  cbv
  refine ⟨⟨by kernel_rfl⟩, ?_⟩
  refine ACall.as (v := .agg [.int .i64 node, .int .i64 limit, .int .i64 active, .ref false _ 0 N, .int .i64 first]) (os := [(_, .arr 1 true rows)]) hto ⟨⟨rfl, rfl, rfl, rfl, rfl, trivial⟩, trivial⟩ rfl (by rw [← hN]; rfl) rfl ?_
  cbv
  refine ACall.of heq ⟨⟨rfl, rfl, rfl, ⟨1, true, rows, rfl, by rw [hN, Nat.zero_add]; exact Nat.le_refl _, by rw [← hN, List.drop_zero, List.take_length]; rfl⟩, rfl, trivial⟩, lend _ _ rfl⟩ rfl ?_
  cbv
  exact Done.bool rfl

end Go.Proofs.Ytmpbmfhlkhonkaa.AM
