/- The law FnSpreadAll: its row. (printed by genrows.py) -/
import Derived.Test.YtcbebidfnlkkeaaRC
import Derived.Test.YtcbebidfnlkkeaaDT
namespace Go.Proofs.Ytcbebidfnlkkeaa
open Go Go.ChangeShapes Go.WideShapes Go.ChangeAt Go.RowKit Go.Proofs.Ytcbebidfnlkkeaa.AM

set_option maxRecDepth 100000
set_option linter.unusedVariables false

theorem FnSpreadAll_lifted (os : Os) (started : os.Started) (H : Type) (enc : TypeId × Value → H) :
    ReturnsInHanded {} Try.checked os 10 .any (Rows.fnSpreadAllSpec.pre6 enc Try.prog Try.f10 Rows.fnSpreadAllRow.domain false) (Rows.fnSpreadAllSpec.post enc Try.prog Try.f10 false true false false) := by
  refine returnsInHanded_of_change (C := Try.checked) Am.own started (by kernel_rfl) Try.func10
    (ChangeSpec.witness6 (enc := enc) (C := Try.checked) false ⟨#[], #[.slice none 0 0], []⟩ 8 (by kernel_rfl) (by kernel_rfl) (by kernel_rfl) (by kernel_rfl)) ?_
  intro W base args ds gs before hval hW hcnd _
  obtain ⟨p, q, hA, hV, hbef, hfz, hnd⟩ := id hW
  have hA : DataW.TrodAll enc Try.prog W 0 (fun _ => true) true [67] args.toList ds p := hA
  refine (law_calls tab_ok Am.kt_ok (ts := [67]) (by simp [Am.kt]) (fun j t v ht hv => hval j t v (by simpa using ht) hv) hA (fun avs hs => ?_)).mono fun e W' ⟨he, hb⟩ => ?_
  · match avs, hs with
    | [v0], ⟨h0, _⟩ =>
      obtain ⟨x0, e0⟩ := Am.S_Byte_of h0
      obtain rfl := List.head_eq_of_cons_eq e0
      exact allLaw_c ⟨rfl, rfl⟩ x0
  · exact ⟨_, he, law_post (ts := [67]) (tb := 4) rfl rfl (by kernel_rfl) rfl (fun ds h => by
      match ds, h with
      | [_], _ => rfl) Am.laidOut (by decide +kernel) hW hb⟩

theorem FnSpreadAll_holds : Rows.FnSpreadAllSaid :=
  OpenClaim.holds_of_wide 10 Try.f10 rfl rfl rfl rfl rfl rfl rfl ⟨rfl, rfl, rfl, rfl, rfl⟩ rfl rfl rfl rfl rfl (by kernel_rfl) Try.func10 (by kernel_rfl)
    (of_decide_eq_true (by kernel_rfl)) (by unfold Func.isWrapper; rw [if_neg (by decide +kernel)]; exact ⟨rfl, rfl⟩)
    (fun os started H enc _ => FnSpreadAll_lifted os started H enc)

end Go.Proofs.Ytcbebidfnlkkeaa
