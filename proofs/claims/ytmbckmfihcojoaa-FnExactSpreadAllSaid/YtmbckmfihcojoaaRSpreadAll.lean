/- The law FnExactSpreadAll: its row. (printed by genrows.py) -/
import Derived.Test.YtmbckmfihcojoaaR3
import Derived.Test.YtmbckmfihcojoaaKSpreadAll
namespace Go.Proofs.Ytmbckmfihcojoaa
open Go Go.ChangeShapes Go.WideShapes Go.ChangeAt Go.RowKit Go.Proofs.Ytmbckmfihcojoaa.AM

set_option maxRecDepth 100000
set_option linter.unusedVariables false

theorem FnExactSpreadAll_lifted (os : Os) (started : os.Started) (H : Type) (enc : TypeId × Value → H) :
    ReturnsInHanded {} Try.checked os 3 .any (Rows.fnExactSpreadAllSpec.pre6 enc Try.prog Try.f3 Rows.fnExactSpreadAllRow.domain false) (Rows.fnExactSpreadAllSpec.post enc Try.prog Try.f3 false true false false) := by
  refine returnsInHanded_of_change (C := Try.checked) Am.own started (by kernel_rfl) Try.func3
    (ChangeSpec.witness6 (enc := enc) (C := Try.checked) false ⟨#[], #[.slice none 0 0, .agg #[.slice none 0 0, .slice none 0 0]], []⟩ 8 (by kernel_rfl) (by kernel_rfl) (by kernel_rfl) (by kernel_rfl)) ?_
  intro W base args ds gs before hval hW hcnd _
  obtain ⟨p, q, hA, hV, hbef, hfz, hnd⟩ := id hW
  have hA : DataW.TrodAll enc Try.prog W 0 (fun _ => true) true [22, 26] args.toList ds p := hA
  refine (law_calls tab_ok Am.kt_ok (ts := [22, 26]) (by simp [Am.kt]) (fun j t v ht hv => hval j t v (by simpa using ht) hv) hA (fun avs hs => ?_)).mono fun e W' ⟨he, hb⟩ => ?_
  · match avs, hs with
    | [v0, v1], ⟨h0, h1, _⟩ =>
      obtain ⟨x0, e0⟩ := Am.S_Node_of h0
      obtain rfl := List.head_eq_of_cons_eq e0
      obtain ⟨x1, rfl⟩ := Am.Spread_of h1
      exact lawSpreadAll_c ⟨rfl, rfl⟩ x0 x1.told x1.work
  · exact ⟨_, he, law_post (ts := [22, 26]) (tb := 4) rfl rfl (by kernel_rfl) rfl (fun ds h => by
      match ds, h with
      | [_, _], _ => rfl) Am.laidOut (by decide +kernel) hW hb⟩

theorem FnExactSpreadAll_holds : Rows.FnExactSpreadAllSaid :=
  OpenClaim.holds_of_wide 3 Try.f3 rfl rfl rfl rfl rfl rfl rfl ⟨rfl, rfl, rfl, rfl, rfl⟩ rfl rfl rfl rfl rfl (by kernel_rfl) Try.func3 (by kernel_rfl)
    (of_decide_eq_true (by kernel_rfl)) (by unfold Func.isWrapper; rw [if_neg (by decide +kernel)]; exact ⟨rfl, rfl⟩)
    (fun os started H enc _ => FnExactSpreadAll_lifted os started H enc)

end Go.Proofs.Ytmbckmfihcojoaa
