/- The law RoomIn: its code, its row. -/
import Derived.Test.YtmpbmfhlkhonkaaF7
import Derived.Test.YtmpbmfhlkhonkaaF6
namespace Go.Proofs.Ytmpbmfhlkhonkaa.AM
open Go Go.Proofs

set_option maxRecDepth 100000
set_option linter.unusedVariables false
set_option linter.unusedSimpArgs false

theorem FnExactRoomIn_sound {P : Program} (hP : P = Try.prog) (g : Grp) : Sound P 5 false [g.av] (· = .bool true) := by
  obtain ⟨b', hb'⟩ : ∃ b : Bool, b = true ↔ g.ok ∧ g.room := ⟨@decide (g.ok ∧ g.room) (Classical.propDecidable _), by simp⟩
  have hspec := specRoomIn_sound hP g b' hb'
  have himpl := implRoomIn_sound hP g b' hb'
  have heq := eqGroup_self hP g
  have hsz := szGroup_sound hP g 1048576 (by decide)
  have hto := toGroup_sound hP g
  obtain ⟨node, limit, active, waits, first⟩ := g
  dsimp only at hspec himpl heq hsz hto
  unfold Grp.out at hto
  unfold Grp.av at hsz hto ⊢
  dsimp only at hsz hto ⊢
  obtain ⟨q, hq⟩ : ∃ q : Int, q = (if (1048576 : Int) < (waits.length : Int) then (-1 : Int) else 1048576 - (waits.length : Int)) := ⟨_, rfl⟩
  rw [← hq] at hsz
  obtain ⟨rows, hrows⟩ : ∃ rows, rows = ints waits := ⟨_, rfl⟩
  obtain ⟨N, hN⟩ : ∃ N, rows.length = N := ⟨_, rfl⟩
  rw [← hrows] at hspec himpl heq hsz hto ⊢
  have htab : TabOk P tab := hP ▸ tab_ok
  have hm : P.follows .mixedOrders = true := hP ▸ mixed_ok
  refine sound_by hm htab (hP ▸ Try.func5) rfl rfl rfl rfl (fun hv sBin sTst sNeg sConv sBeq sLen sOff sSpan sOfNat sCut sGet sLt sNat sRep sPart sAdd sApp sSet S => ?_)
  cbv
  refine ACall.of hsz ⟨⟨rfl, rfl, rfl, rfl, rfl, trivial⟩, rfl, trivial⟩ rfl ?_
  cbv
  split <;> rename_i h <;> rw [h] <;> cbv
  · exact Done.bool rfl
  simp [S.tst, syTst] at h
  have hto := hto (sz_ok hq h)
  have hpl : ∀ r ∈ rows, ∀ v ∈ r, v.plain := by rw [hrows]; exact ints_plain waits
  have lend : ∀ (st : St) (id : Nat), lk st.sto id = some (.arr 1 true rows) → lends st [.agg [.int .i64 node, .int .i64 limit, .int .i64 active, .ref false id 0 N, .int .i64 first]] [.agg [.int .i64 node, .int .i64 limit, .int .i64 active, .ro rows, .int .i64 first]] := fun st id h =>
    ⟨⟨rfl, rfl, rfl, ⟨1, true, rows, h, by rw [hN, Nat.zero_add]; exact Nat.le_refl _, by rw [← hN, List.drop_zero, List.take_length]; rfl⟩, rfl, trivial⟩, trivial⟩
  refine ACall.as (v := .agg [.int .i64 node, .int .i64 limit, .int .i64 active, .ref false _ 0 N, .int .i64 first]) (os := [(_, .arr 1 true rows)]) hto ⟨⟨rfl, rfl, rfl, rfl, rfl, trivial⟩, trivial⟩ rfl (by rw [← hN]; rfl) rfl ?_
  cbv
  refine ACall.of hspec (lend _ _ rfl) rfl ?_
  cbv
  refine ACall.as (v := .agg [.int .i64 node, .int .i64 limit, .int .i64 active, .ref false _ 0 N, .int .i64 first]) (os := [(_, .arr 1 true rows)]) hto ⟨⟨rfl, rfl, rfl, rfl, rfl, trivial⟩, trivial⟩ rfl (by rw [← hN]; rfl) rfl ?_
  cbv
  refine ACall.of himpl (lend _ _ rfl) rfl ?_
  cbv
  have hbe : sBeq b' b' = true := by simp [S.beq]
  rw [hbe]
  cbv
  refine ⟨⟨by kernel_rfl⟩, ?_⟩
  refine ACall.as (v := .agg [.int .i64 node, .int .i64 limit, .int .i64 active, .ref false _ 0 N, .int .i64 first]) (os := [(_, .arr 1 true rows)]) hto ⟨⟨rfl, rfl, rfl, rfl, rfl, trivial⟩, trivial⟩ rfl (by rw [← hN]; rfl) rfl ?_
  cbv
  refine ACall.of heq ⟨⟨rfl, rfl, rfl, ⟨1, true, rows, rfl, by rw [hN, Nat.zero_add]; exact Nat.le_refl _, by rw [← hN, List.drop_zero, List.take_length]; rfl⟩, rfl, trivial⟩, lend _ _ rfl⟩ rfl ?_
  cbv
  exact Done.bool rfl

end Go.Proofs.Ytmpbmfhlkhonkaa.AM
namespace Go.Proofs.Ytmpbmfhlkhonkaa
open Go Go.ChangeShapes Go.WideShapes Go.ChangeAt Go.RowKit Go.Proofs.Ytmpbmfhlkhonkaa.AM

set_option maxRecDepth 100000

theorem FnExactRoomIn_lifted (os : Os) (started : os.Started) (H : Type) (enc : TypeId × Value → H) :
    ReturnsInHanded {} Try.checked os 5 .any (Rows.fnExactRoomInSpec.pre6 enc Try.prog Try.f5 Rows.fnExactRoomInRow.domain false) (Rows.fnExactRoomInSpec.post enc Try.prog Try.f5 false true false false) := by
  refine returnsInHanded_of_change (C := Try.checked) Am.own started (by kernel_rfl) Try.func5
    (ChangeSpec.witness6 (enc := enc) (C := Try.checked) false ⟨#[], #[.agg #[.int .i64 0, .int .i64 0, .int .i64 0, .slice none 0 0, .int .i64 0]], []⟩ 8 (by kernel_rfl) (by kernel_rfl) (by kernel_rfl) (by kernel_rfl)) ?_
  intro W base args ds gs before hval hW hcnd _
  obtain ⟨p, q, hA, hV, hbef, hfz, hnd⟩ := id hW
  have hA : DataW.TrodAll enc Try.prog W 0 (fun _ => true) true [44] args.toList ds p := hA
  obtain ⟨v, d, rfl, rfl, hd⟩ := trodAll_one hA
  have hv : Value.okWide Try.prog W .any base 44 v := hval 0 44 v rfl rfl
  refine (law_calls tab_ok Am.kg_ok (i := _) rfl rfl (.inl rfl) (fun avs hs => ?_) hv hd).mono fun e W' ⟨he, hb⟩ => ?_
  · obtain ⟨g, hg⟩ := Am.grp_of hs
    rw [hg]
    exact FnExactRoomIn_sound rfl g
  · exact ⟨_, he, law_post (t := 44) (tb := 4) rfl rfl (by kernel_rfl) rfl (fun d => rfl) Am.laidOut (by kernel_rfl) (of_decide_eq_true (by kernel_rfl)) hW hb⟩

theorem FnExactRoomIn_holds : Rows.FnExactRoomInSaid :=
  OpenClaim.holds_of_wide 5 Try.f5 rfl rfl rfl rfl rfl rfl rfl ⟨rfl, rfl, rfl, rfl, rfl⟩ rfl rfl rfl rfl rfl (by kernel_rfl) Try.func5 (by kernel_rfl)
    (of_decide_eq_true (by kernel_rfl)) (by unfold Func.isWrapper; rw [if_neg (by decide +kernel)]; exact ⟨rfl, rfl⟩)
    (fun os started H enc _ => FnExactRoomIn_lifted os started H enc)

end Go.Proofs.Ytmpbmfhlkhonkaa
