/- The law FnExactNewWorld: its row. (printed by genrows.py) -/
import Derived.Test.YtgooambndfkgkaaGreatR5
import Derived.Test.YtgooambndfkgkaaGreatW21
namespace Go.Proofs.YtgooambndfkgkaaGreat
open Go Go.ChangeShapes Go.WideShapes Go.ChangeAt Go.RowKit Go.Proofs.YtgooambndfkgkaaGreat.AM

set_option maxRecDepth 100000
set_option maxHeartbeats 4000000
set_option linter.unusedVariables false

theorem FnExactNewWorld_lifted (os : Os) (started : os.Started) (H : Type) (enc : TypeId × Value → H) :
    ReturnsInHanded {} Tryz.checked os 4 .any (Rows.fnExactNewWorldSpec.pre6 enc Tryz.prog Tryz.f4 Rows.fnExactNewWorldRow.domain false) (Rows.fnExactNewWorldSpec.post enc Tryz.prog Tryz.f4 false true false false) := by
  refine returnsInHanded_of_change (C := Tryz.checked) Am.own started (by kernel_rfl) Tryz.func4
    (ChangeSpec.witness6 (enc := enc) (C := Tryz.checked) false ⟨#[], #[.slice none 0 0, .int .i64 0], []⟩ 8 (by kernel_rfl) (by kernel_rfl) (by kernel_rfl) (by kernel_rfl)) ?_
  intro W base args ds gs before hval hW hcnd _
  obtain ⟨p, q, hA, hV, hbef, hfz, hnd⟩ := id hW
  have hA : DataW.TrodAll enc Tryz.prog W 0 (fun _ => true) true [51, 2] args.toList ds p := hA
  refine (law_calls tab_ok Am.kt_ok (ts := [51, 2]) (by simp [Am.kt]) (fun j t v ht hv => hval j t v (by simpa using ht) hv) hA (fun avs hs => ?_)).mono fun e W' ⟨he, hb⟩ => ?_
  · match avs, hs with
    | [v0, v1], ⟨h0, h1, _⟩ =>
      obtain ⟨x0, e0⟩ := Am.S_S_Ins_of h0
      obtain rfl := List.head_eq_of_cons_eq e0
      obtain ⟨x1, e1⟩ := Am.int_of h1
      obtain rfl := List.head_eq_of_cons_eq e1
      exact lawNewWorld_c ⟨rfl, rfl⟩ x0 x1
  · exact ⟨_, he, law_post (ts := [51, 2]) (tb := 4) rfl rfl (by kernel_rfl) rfl (fun ds h => by
      match ds, h with
      | [_, _], _ => rfl) Am.laidOut (by decide +kernel) hW hb⟩

theorem FnExactNewWorld_named : Tryz.checked.prog.funcNamed Rows.fnExactNewWorldRow.func = some 4 := by kernel_rfl

theorem FnExactNewWorld_closed : joinedFacts Tryz.checked.prog 4 Tryz.f4 Rows.fnExactNewWorldSpec Rows.fnExactNewWorldRow = true := by
  unfold joinedFacts
  refine band (band (band (band (band (band (band (band (band (band (band (band (band (band (band (band (band (band (band (band (band (band (band (?_) ?_) ?_) ?_) ?_) ?_) ?_) ?_) ?_) ?_) ?_) ?_) ?_) ?_) ?_) ?_) ?_) ?_) ?_) ?_) ?_) ?_) ?_) ?_
  all_goals as_aux_lemma => kernel_rfl

theorem FnExactNewWorld_inst : Tryz.f4.isInstance Tryz.checked.prog Rows.fnExactNewWorldRow.origin Rows.fnExactNewWorldRow.targs := of_decide_eq_true (by kernel_rfl)

theorem FnExactNewWorld_wrap : Tryz.f4.isWrapper Tryz.checked.prog Rows.fnExactNewWorldRow.wrapper Rows.fnExactNewWorldRow.mainSum := by
  unfold Func.isWrapper
  rw [if_neg (by decide +kernel)]
  exact ⟨rfl, rfl⟩

theorem FnExactNewWorld_holds : Rows.FnExactNewWorldSaid :=
  OpenClaim.holds_of_wide 4 Tryz.f4 rfl rfl rfl rfl rfl rfl rfl ⟨rfl, rfl, rfl, rfl, rfl⟩ rfl rfl rfl rfl rfl FnExactNewWorld_named Tryz.func4 FnExactNewWorld_closed FnExactNewWorld_inst FnExactNewWorld_wrap
    (fun os started H enc _ => FnExactNewWorld_lifted os started H enc)

end Go.Proofs.YtgooambndfkgkaaGreat
