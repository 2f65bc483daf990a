/- The law FnExactAfterIn: its row. (printed by genrows.py) -/
import Derived.Test.YtihfpbhalnedcaaGreatR5
import Derived.Test.YtihfpbhalnedcaaGreatLAfterIn
set_option linter.unusedVariables false
set_option linter.unusedSimpArgs false
namespace Go.Proofs.YtihfpbhalnedcaaGreat
open Go Go.ChangeShapes Go.WideShapes Go.ChangeAt Go.RowKit Go.Proofs.YtihfpbhalnedcaaGreat.AM

set_option maxRecDepth 100000
set_option maxHeartbeats 4000000

theorem FnExactAfterIn_lifted (os : Os) (started : os.Started) (H : Type) (enc : TypeId × Value -> H) :
    ReturnsInHanded {} Tryz.checked os 8 .any (Rows.fnExactAfterInSpec.pre6 enc Tryz.prog Tryz.f8 Rows.fnExactAfterInRow.domain false) (Rows.fnExactAfterInSpec.post enc Tryz.prog Tryz.f8 false true false false) := by
  refine returnsInHanded_of_change (C := Tryz.checked) Am.own started (by kernel_rfl) Tryz.func8
    (ChangeSpec.witness6 (enc := enc) (C := Tryz.checked) false ⟨#[], #[.agg #[.int .i64 0, .slice none 0 0, .slice none 0 0, .slice none 0 0, .slice none 0 0, .slice none 0 0, .slice none 0 0, .slice none 0 0, .int .i64 0, .slice none 0 0, .slice none 0 0, .slice none 0 0, .slice none 0 0, .slice none 0 0, .slice none 0 0, .slice none 0 0, .slice none 0 0], .int .i64 0, .int .i64 0], []⟩ 8 (by kernel_rfl) (by kernel_rfl) (by kernel_rfl) (by kernel_rfl)) ?_
  intro W base args ds gs before hval hW hcnd _
  obtain ⟨p, q, hA, hV, hbef, hfz, hnd⟩ := id hW
  have hA : DataW.TrodAll enc Tryz.prog W 0 (fun _ => true) true [42, 2, 2] args.toList ds p := hA
  refine (law_calls tab_ok Am.kt_ok (ts := [42, 2, 2]) (by simp [Am.kt]) (fun j t v ht hv => hval j t v (by simpa using ht) hv) hA (fun avs hs => ?_)).mono fun e W' ⟨he, hb⟩ => ?_
  · match avs, hs with
    | [v0, v1, v2], ⟨h0, h1, h2, _⟩ =>
      obtain ⟨x0, rfl⟩ := Am.World_of h0
      obtain ⟨x1, e1⟩ := Am.int_of h1
      obtain rfl := List.head_eq_of_cons_eq e1
      obtain ⟨x2, e2⟩ := Am.int_of h2
      obtain rfl := List.head_eq_of_cons_eq e2
      exact lawAfterIn_c ⟨rfl, rfl⟩ x0.now x0.progs x0.tree x0.events x0.spread.told x0.spread.work x0.timers.heap x0.timers.list x0.timers.next x0.afters.slots.ages x0.afters.slots.used x0.afters.list x0.tasks x0.groups x0.sights x0.began x0.rang x1 x2
  · exact ⟨_, he, law_post (ts := [42, 2, 2]) (tb := 4) rfl rfl (by kernel_rfl) rfl (fun ds h => by
      match ds, h with
      | [_, _, _], _ => rfl) Am.laidOut (by decide +kernel) hW hb⟩

theorem FnExactAfterIn_named : Tryz.checked.prog.funcNamed Rows.fnExactAfterInRow.func = some 8 := by kernel_rfl

theorem FnExactAfterIn_closed : joinedFacts Tryz.checked.prog 8 Tryz.f8 Rows.fnExactAfterInSpec Rows.fnExactAfterInRow = true := by
  unfold joinedFacts
  refine band (band (band (band (band (band (band (band (band (band (band (band (band (band (band (band (band (band (band (band (band (band (band (?_) ?_) ?_) ?_) ?_) ?_) ?_) ?_) ?_) ?_) ?_) ?_) ?_) ?_) ?_) ?_) ?_) ?_) ?_) ?_) ?_) ?_) ?_) ?_
  all_goals as_aux_lemma => kernel_rfl

theorem FnExactAfterIn_inst : Tryz.f8.isInstance Tryz.checked.prog Rows.fnExactAfterInRow.origin Rows.fnExactAfterInRow.targs := of_decide_eq_true (by kernel_rfl)

theorem FnExactAfterIn_wrap : Tryz.f8.isWrapper Tryz.checked.prog Rows.fnExactAfterInRow.wrapper Rows.fnExactAfterInRow.mainSum := by
  unfold Func.isWrapper
  rw [if_neg (by decide +kernel)]
  exact ⟨rfl, rfl⟩

theorem FnExactAfterIn_holds : Rows.FnExactAfterInSaid :=
  OpenClaim.holds_of_wide 8 Tryz.f8 rfl rfl rfl rfl rfl rfl rfl ⟨rfl, rfl, rfl, rfl, rfl⟩ rfl rfl rfl rfl rfl FnExactAfterIn_named Tryz.func8 FnExactAfterIn_closed FnExactAfterIn_inst FnExactAfterIn_wrap
    (fun os started H enc _ => FnExactAfterIn_lifted os started H enc)

end Go.Proofs.YtihfpbhalnedcaaGreat
