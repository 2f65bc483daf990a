/- The laws Parked, Readied, Ended: their rows. -/
import Derived.Test.YtmpbmfhlkhonkaaH3
import Derived.Test.YtmpbmfhlkhonkaaB26
import Derived.Test.YtmpbmfhlkhonkaaRows
namespace Go.Proofs.Ytmpbmfhlkhonkaa
open Go Go.ChangeShapes Go.WideShapes Go.ChangeAt Go.RowKit Go.Proofs.Ytmpbmfhlkhonkaa.AM

set_option maxRecDepth 100000
set_option linter.unusedVariables false

theorem Am.own : ownKnob Try.prog.godebug = none := by kernel_rfl
theorem Am.laidOut : laidOutB Try.prog = true := by kernel_rfl

def Am.kt (t : Nat) : Prop := t = 52 ∨ t = 2

theorem Am.kt_ok : ClosedT tab Am.kt := by
  rintro t (rfl | rfl)
  · exact ⟨_, rfl, ⟨rfl, .inr rfl, _, rfl, rfl, .inr rfl, _, rfl, rfl, .inr rfl, _, rfl, rfl, .inr rfl, _, rfl, rfl, .inr rfl, _, rfl, rfl, .inr rfl, _, rfl, rfl, .inr rfl, _, rfl, rfl, .inr rfl, _, rfl, rfl, .inr rfl, _, rfl, rfl⟩⟩
  · exact ⟨_, rfl, rfl⟩

theorem Am.task_of {v : AV} (h : ArgOk tab 52 v) : ∃ x : Task, v = .agg (cTask x) := by
  obtain ⟨i, avs, hi, h, hv⟩ := h
  obtain rfl := Option.some.inj hi
  dsimp only at hv
  subst hv
  have k0 := h.isStruct rfl rfl
  obtain ⟨a1, b1, e1, h1, k1⟩ := k0.un
  obtain ⟨a2, b2, e2, h2, k2⟩ := k1.un
  obtain ⟨a3, b3, e3, h3, k3⟩ := k2.un
  obtain ⟨a4, b4, e4, h4, k4⟩ := k3.un
  obtain ⟨a5, b5, e5, h5, k5⟩ := k4.un
  obtain ⟨a6, b6, e6, h6, k6⟩ := k5.un
  obtain ⟨a7, b7, e7, h7, k7⟩ := k6.un
  obtain ⟨a8, b8, e8, h8, k8⟩ := k7.un
  obtain ⟨a9, b9, e9, h9, k9⟩ := k8.un
  obtain ⟨n1, f1⟩ := h1.isInt rfl rfl
  obtain ⟨n2, f2⟩ := h2.isInt rfl rfl
  obtain ⟨n3, f3⟩ := h3.isInt rfl rfl
  obtain ⟨n4, f4⟩ := h4.isInt rfl rfl
  obtain ⟨n5, f5⟩ := h5.isInt rfl rfl
  obtain ⟨n6, f6⟩ := h6.isInt rfl rfl
  obtain ⟨n7, f7⟩ := h7.isInt rfl rfl
  obtain ⟨n8, f8⟩ := h8.isInt rfl rfl
  obtain ⟨n9, f9⟩ := h9.isInt rfl rfl
  have e10 := k9.done
  rw [e1, e2, e3, e4, e5, e6, e7, e8, e9, f1, f2, f3, f4, f5, f6, f7, f8, f9, e10]
  exact ⟨⟨n1, n2, n3, n4, n5, n6, n7, n8, n9⟩, rfl⟩

theorem Am.int_of {v : AV} (h : ArgOk tab 2 v) : ∃ n : Int, v = .int .i64 n := by
  obtain ⟨i, avs, hi, h, hv⟩ := h
  obtain rfl := Option.some.inj hi
  dsimp only at hv
  subst hv
  obtain ⟨n, e⟩ := h.isInt rfl rfl
  simp at e
  exact ⟨n, e⟩

theorem FnExactParked_lifted (os : Os) (started : os.Started) (H : Type) (enc : TypeId × Value → H) :
    ReturnsInHanded {} Try.checked os 6 .any (Rows.fnExactParkedSpec.pre6 enc Try.prog Try.f6 Rows.fnExactParkedRow.domain false) (Rows.fnExactParkedSpec.post enc Try.prog Try.f6 false true false false) := by
  refine returnsInHanded_of_change (C := Try.checked) Am.own started (by kernel_rfl) Try.func6
    (ChangeSpec.witness6 (enc := enc) (C := Try.checked) false ⟨#[], #[.agg #[.int .i64 0, .int .i64 0, .int .i64 0, .int .i64 0, .int .i64 0, .int .i64 0, .int .i64 0, .int .i64 0, .int .i64 0], .int .i64 0, .int .i64 0, .int .i64 0], []⟩ 8 (by kernel_rfl) (by kernel_rfl) (by kernel_rfl) (by kernel_rfl)) ?_
  intro W base args ds gs before hval hW hcnd _
  obtain ⟨p, q, hA, hV, hbef, hfz, hnd⟩ := id hW
  have hA : DataW.TrodAll enc Try.prog W 0 (fun _ => true) true [52, 2, 2, 2] args.toList ds p := hA
  refine (law_calls tab_ok Am.kt_ok (ts := [52, 2, 2, 2]) (by simp [Am.kt]) (fun j t v ht hv => hval j t v (by simpa using ht) hv) hA (fun avs hs => ?_)).mono fun e W' ⟨he, hb⟩ => ?_
  · match avs, hs with
    | [a, b, c, d], ⟨h1, h2, h3, h4, _⟩ =>
      obtain ⟨x, rfl⟩ := Am.task_of h1
      obtain ⟨n, rfl⟩ := Am.int_of h2
      obtain ⟨m, rfl⟩ := Am.int_of h3
      obtain ⟨k, rfl⟩ := Am.int_of h4
      obtain ⟨prog, pc, state, why, what, timer, reg, group, err⟩ := x
      exact lawParked_c ⟨rfl, rfl⟩ prog pc state why what timer reg group err n m k
  · exact ⟨_, he, law_post (ts := [52, 2, 2, 2]) (tb := 4) rfl rfl (by kernel_rfl) rfl (fun ds h => by
      match ds, h with
      | [_, _, _, _], _ => rfl) Am.laidOut (by decide +kernel) hW hb⟩

theorem FnExactParked_holds : Rows.FnExactParkedSaid :=
  OpenClaim.holds_of_wide 6 Try.f6 rfl rfl rfl rfl rfl rfl rfl ⟨rfl, rfl, rfl, rfl, rfl⟩ rfl rfl rfl rfl rfl (by kernel_rfl) Try.func6 (by kernel_rfl)
    (of_decide_eq_true (by kernel_rfl)) (by unfold Func.isWrapper; rw [if_neg (by decide +kernel)]; exact ⟨rfl, rfl⟩)
    (fun os started H enc _ => FnExactParked_lifted os started H enc)

end Go.Proofs.Ytmpbmfhlkhonkaa
