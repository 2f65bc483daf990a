/- The law FnExactCallOffIn: its row. (printed by genrows.py) -/
import Derived.Test.YtihfpbhalnedcaaGreatR5
import Derived.Test.YtihfpbhalnedcaaGreatLCallOffIn
set_option linter.unusedVariables false
set_option linter.unusedSimpArgs false
namespace Go.Proofs.YtihfpbhalnedcaaGreat
open Go Go.ChangeShapes Go.WideShapes Go.ChangeAt Go.RowKit Go.Proofs.YtihfpbhalnedcaaGreat.AM

set_option maxRecDepth 100000
set_option maxHeartbeats 4000000

theorem FnExactCallOffIn_lifted (os : Os) (started : os.Started) (H : Type) (enc : TypeId × Value -> H) :
    ReturnsInHanded {} Tryz.checked os 7 .any (Rows.fnExactCallOffInSpec.pre6 enc Tryz.prog Tryz.f7 Rows.fnExactCallOffInRow.domain false) (Rows.fnExactCallOffInSpec.post enc Tryz.prog Tryz.f7 false true false false) := by
  refine returnsInHanded_of_change (C := Tryz.checked) Am.own started (by kernel_rfl) Tryz.func7
    (ChangeSpec.witness6 (enc := enc) (C := Tryz.checked) false ⟨#[], #[.agg #[.int .i64 0, .slice none 0 0, .slice none 0 0, .slice none 0 0, .slice none 0 0, .slice none 0 0, .slice none 0 0, .slice none 0 0, .int .i64 0, .slice none 0 0, .slice none 0 0, .slice none 0 0, .slice none 0 0, .slice none 0 0, .slice none 0 0, .slice none 0 0, .slice none 0 0], .agg #[.int .i64 0, .int .i64 0]], []⟩ 8 (by kernel_rfl) (by kernel_rfl) (by kernel_rfl) (by kernel_rfl)) ?_
  intro W base args ds gs before hval hW hcnd _
  obtain ⟨p, q, hA, hV, hbef, hfz, hnd⟩ := id hW
  have hA : DataW.TrodAll enc Tryz.prog W 0 (fun _ => true) true [42, 73] args.toList ds p := hA
  refine (law_calls tab_ok Am.kt_ok (ts := [42, 73]) (by simp [Am.kt]) (fun j t v ht hv => hval j t v (by simpa using ht) hv) hA (fun avs hs => ?_)).mono fun e W' ⟨he, hb⟩ => ?_
  · match avs, hs with
    | [v0, v1], ⟨h0, h1, _⟩ =>
      obtain ⟨x0, rfl⟩ := Am.World_of h0
      obtain ⟨x1, rfl⟩ := Am.Handle_of h1
      exact lawCallOffIn_c ⟨rfl, rfl⟩ x0.now x0.progs x0.tree x0.events x0.spread.told x0.spread.work x0.timers.heap x0.timers.list x0.timers.next x0.afters.slots.ages x0.afters.slots.used x0.afters.list x0.tasks x0.groups x0.sights x0.began x0.rang x1.slot x1.age
  · exact ⟨_, he, law_post (ts := [42, 73]) (tb := 4) rfl rfl (by kernel_rfl) rfl (fun ds h => by
      match ds, h with
      | [_, _], _ => rfl) Am.laidOut (by decide +kernel) hW hb⟩

theorem FnExactCallOffIn_named : Tryz.checked.prog.funcNamed Rows.fnExactCallOffInRow.func = some 7 := by kernel_rfl

theorem FnExactCallOffIn_closed : joinedFacts Tryz.checked.prog 7 Tryz.f7 Rows.fnExactCallOffInSpec Rows.fnExactCallOffInRow = true := by
  unfold joinedFacts
  refine band (band (band (band (band (band (band (band (band (band (band (band (band (band (band (band (band (band (band (band (band (band (band (?_) ?_) ?_) ?_) ?_) ?_) ?_) ?_) ?_) ?_) ?_) ?_) ?_) ?_) ?_) ?_) ?_) ?_) ?_) ?_) ?_) ?_) ?_) ?_
  all_goals as_aux_lemma => kernel_rfl

theorem FnExactCallOffIn_inst : Tryz.f7.isInstance Tryz.checked.prog Rows.fnExactCallOffInRow.origin Rows.fnExactCallOffInRow.targs := of_decide_eq_true (by kernel_rfl)

theorem FnExactCallOffIn_wrap : Tryz.f7.isWrapper Tryz.checked.prog Rows.fnExactCallOffInRow.wrapper Rows.fnExactCallOffInRow.mainSum := by
  unfold Func.isWrapper
  rw [if_neg (by decide +kernel)]
  exact ⟨rfl, rfl⟩

theorem FnExactCallOffIn_holds : Rows.FnExactCallOffInSaid :=
  OpenClaim.holds_of_wide 7 Tryz.f7 rfl rfl rfl rfl rfl rfl rfl ⟨rfl, rfl, rfl, rfl, rfl⟩ rfl rfl rfl rfl rfl FnExactCallOffIn_named Tryz.func7 FnExactCallOffIn_closed FnExactCallOffIn_inst FnExactCallOffIn_wrap
    (fun os started H enc _ => FnExactCallOffIn_lifted os started H enc)

end Go.Proofs.YtihfpbhalnedcaaGreat
