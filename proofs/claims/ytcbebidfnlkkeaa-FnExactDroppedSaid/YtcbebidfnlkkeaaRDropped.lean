/- The law FnExactDropped: its row. (printed by genrows.py) -/
import Derived.Test.YtcbebidfnlkkeaaR2
import Derived.Test.YtcbebidfnlkkeaaKDropped
namespace Go.Proofs.Ytcbebidfnlkkeaa
open Go Go.ChangeShapes Go.WideShapes Go.ChangeAt Go.RowKit Go.Proofs.Ytcbebidfnlkkeaa.AM

set_option maxRecDepth 100000
set_option linter.unusedVariables false

theorem FnExactDropped_lifted (os : Os) (started : os.Started) (H : Type) (enc : TypeId × Value → H) :
    ReturnsInHanded {} Try.checked os 5 .any (Rows.fnExactDroppedSpec.pre6 enc Try.prog Try.f5 Rows.fnExactDroppedRow.domain false) (Rows.fnExactDroppedSpec.post enc Try.prog Try.f5 false true false false) := by
  refine returnsInHanded_of_change (C := Try.checked) Am.own started (by kernel_rfl) Try.func5
    (ChangeSpec.witness6 (enc := enc) (C := Try.checked) false ⟨#[], #[.agg #[.slice none 0 0, .slice none 0 0], .agg #[.int .i64 0, .int .i64 0]], []⟩ 8 (by kernel_rfl) (by kernel_rfl) (by kernel_rfl) (by kernel_rfl)) ?_
  intro W base args ds gs before hval hW hcnd _
  obtain ⟨p, q, hA, hV, hbef, hfz, hnd⟩ := id hW
  have hA : DataW.TrodAll enc Try.prog W 0 (fun _ => true) true [25, 50] args.toList ds p := hA
  refine (law_calls tab_ok Am.kt_ok (ts := [25, 50]) (by simp [Am.kt]) (fun j t v ht hv => hval j t v (by simpa using ht) hv) hA (fun avs hs => ?_)).mono fun e W' ⟨he, hb⟩ => ?_
  · match avs, hs with
    | [v0, v1], ⟨h0, h1, _⟩ =>
      obtain ⟨x0, rfl⟩ := Am.Slots_of h0
      obtain ⟨x1, rfl⟩ := Am.Handle_of h1
      exact lawDropped_c ⟨rfl, rfl⟩ x0.ages x0.used x1.slot x1.age
  · exact ⟨_, he, law_post (ts := [25, 50]) (tb := 4) rfl rfl (by kernel_rfl) rfl (fun ds h => by
      match ds, h with
      | [_, _], _ => rfl) Am.laidOut (by decide +kernel) hW hb⟩

theorem FnExactDropped_holds : Rows.FnExactDroppedSaid :=
  OpenClaim.holds_of_wide 5 Try.f5 rfl rfl rfl rfl rfl rfl rfl ⟨rfl, rfl, rfl, rfl, rfl⟩ rfl rfl rfl rfl rfl (by kernel_rfl) Try.func5 (by kernel_rfl)
    (of_decide_eq_true (by kernel_rfl)) (by unfold Func.isWrapper; rw [if_neg (by decide +kernel)]; exact ⟨rfl, rfl⟩)
    (fun os started H enc _ => FnExactDropped_lifted os started H enc)

end Go.Proofs.Ytcbebidfnlkkeaa
