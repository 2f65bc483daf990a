/- The law FnNewWorld: its row. (printed by genrows.py) -/
import Derived.Test.YtgooambndfkgkaaGreatRC
import Derived.Test.YtgooambndfkgkaaGreatW23
namespace Go.Proofs.YtgooambndfkgkaaGreat
open Go Go.ChangeShapes Go.WideShapes Go.ChangeAt Go.RowKit Go.Proofs.YtgooambndfkgkaaGreat.AM

set_option maxRecDepth 100000
set_option maxHeartbeats 4000000
set_option linter.unusedVariables false

theorem FnNewWorld_lifted (os : Os) (started : os.Started) (H : Type) (enc : TypeId × Value → H) :
    ReturnsInHanded {} Tryz.checked os 3 .any (Rows.fnNewWorldSpec.pre6 enc Tryz.prog Tryz.f3 Rows.fnNewWorldRow.domain false) (Rows.fnNewWorldSpec.post enc Tryz.prog Tryz.f3 false true false false) := by
  refine returnsInHanded_of_change (C := Tryz.checked) Am.own started (by kernel_rfl) Tryz.func3
    (ChangeSpec.witness6 (enc := enc) (C := Tryz.checked) false ⟨#[], #[.slice none 0 0], []⟩ 8 (by kernel_rfl) (by kernel_rfl) (by kernel_rfl) (by kernel_rfl)) ?_
  intro W base args ds gs before hval hW hcnd _
  obtain ⟨p, q, hA, hV, hbef, hfz, hnd⟩ := id hW
  have hA : DataW.TrodAll enc Tryz.prog W 0 (fun _ => true) true [22] args.toList ds p := hA
  refine (law_calls tab_ok Am.kt_ok (ts := [22]) (by simp [Am.kt]) (fun j t v ht hv => hval j t v (by simpa using ht) hv) hA (fun avs hs => ?_)).mono fun e W' ⟨he, hb⟩ => ?_
  · match avs, hs with
    | [v0], ⟨h0, _⟩ =>
      obtain ⟨x0, e0⟩ := Am.S_Byte_of h0
      obtain rfl := List.head_eq_of_cons_eq e0
      exact newWorldLaw_c ⟨rfl, rfl⟩ x0
  · exact ⟨_, he, law_post (ts := [22]) (tb := 4) rfl rfl (by kernel_rfl) rfl (fun ds h => by
      match ds, h with
      | [_], _ => rfl) Am.laidOut (by decide +kernel) hW hb⟩

theorem FnNewWorld_named : Tryz.checked.prog.funcNamed Rows.fnNewWorldRow.func = some 3 := by kernel_rfl

theorem FnNewWorld_closed : joinedFacts Tryz.checked.prog 3 Tryz.f3 Rows.fnNewWorldSpec Rows.fnNewWorldRow = true := by
  unfold joinedFacts
  refine band (band (band (band (band (band (band (band (band (band (band (band (band (band (band (band (band (band (band (band (band (band (band (?_) ?_) ?_) ?_) ?_) ?_) ?_) ?_) ?_) ?_) ?_) ?_) ?_) ?_) ?_) ?_) ?_) ?_) ?_) ?_) ?_) ?_) ?_) ?_
  all_goals as_aux_lemma => kernel_rfl

theorem FnNewWorld_inst : Tryz.f3.isInstance Tryz.checked.prog Rows.fnNewWorldRow.origin Rows.fnNewWorldRow.targs := of_decide_eq_true (by kernel_rfl)

theorem FnNewWorld_wrap : Tryz.f3.isWrapper Tryz.checked.prog Rows.fnNewWorldRow.wrapper Rows.fnNewWorldRow.mainSum := by
  unfold Func.isWrapper
  rw [if_neg (by decide +kernel)]
  exact ⟨rfl, rfl⟩

theorem FnNewWorld_holds : Rows.FnNewWorldSaid :=
  OpenClaim.holds_of_wide 3 Tryz.f3 rfl rfl rfl rfl rfl rfl rfl ⟨rfl, rfl, rfl, rfl, rfl⟩ rfl rfl rfl rfl rfl FnNewWorld_named Tryz.func3 FnNewWorld_closed FnNewWorld_inst FnNewWorld_wrap
    (fun os started H enc _ => FnNewWorld_lifted os started H enc)

end Go.Proofs.YtgooambndfkgkaaGreat
