/- The law GroupOk: its row. -/
import Derived.Test.YtmpbmfhlkhonkaaF5
import Derived.Test.YtmpbmfhlkhonkaaAM18
import Derived.Test.YtmpbmfhlkhonkaaRows
namespace Go.Proofs.Ytmpbmfhlkhonkaa
open Go Go.ChangeShapes Go.WideShapes Go.ChangeAt Go.RowKit Go.Proofs.Ytmpbmfhlkhonkaa.AM

set_option maxRecDepth 100000
set_option linter.unusedVariables false

theorem Am.own : ownKnob Try.prog.godebug = none := by kernel_rfl
theorem Am.laidOut : laidOutB Try.prog = true := by kernel_rfl

def Am.kg (t : Nat) : Prop := t = 44 ∨ t = 2 ∨ t = 28

theorem Am.kg_ok : ClosedT tab Am.kg := by
  rintro t (rfl | rfl | rfl)
  · exact ⟨_, rfl, ⟨rfl, .inr (.inl rfl), _, rfl, rfl, .inr (.inl rfl), _, rfl, rfl, .inr (.inl rfl), _, rfl, rfl, .inr (.inr rfl), _, rfl, rfl, .inr (.inl rfl), _, rfl, rfl⟩⟩
  · exact ⟨_, rfl, rfl⟩
  · exact ⟨_, rfl, ⟨rfl, .inr (.inl rfl), _, rfl, by decide⟩⟩

theorem Am.ints_of {rows : List (List AV)} (h : ∀ r ∈ rows, Shape tab 2 r) : ∃ l, rows = ints l := by
  induction rows with
  | nil => exact ⟨[], rfl⟩
  | cons r rest ih =>
    obtain ⟨l, rfl⟩ := ih fun r hr => h r (List.mem_cons_of_mem _ hr)
    obtain ⟨n, rfl⟩ := (h r (List.mem_cons_self ..)).isInt rfl rfl
    exact ⟨n :: l, rfl⟩

theorem Am.grp_of {avs : List AV} (h : Shape tab 44 avs) : ∃ g : Grp, .agg avs = g.av := by
  have k0 := h.isStruct rfl rfl
  obtain ⟨a1, b1, e1, h1, k1⟩ := k0.un
  obtain ⟨a2, b2, e2, h2, k2⟩ := k1.un
  obtain ⟨a3, b3, e3, h3, k3⟩ := k2.un
  obtain ⟨a4, b4, e4, h4, k4⟩ := k3.un
  obtain ⟨a5, b5, e5, h5, k5⟩ := k4.un
  obtain ⟨n1, e1'⟩ := h1.isInt rfl rfl
  obtain ⟨n2, e2'⟩ := h2.isInt rfl rfl
  obtain ⟨n3, e3'⟩ := h3.isInt rfl rfl
  obtain ⟨rows, e4', hr⟩ := h4.isSlice rfl rfl
  obtain ⟨n5, e5'⟩ := h5.isInt rfl rfl
  have e6 := k5.done
  obtain ⟨l, hl⟩ := Am.ints_of hr
  rw [e1, e2, e3, e4, e5, e1', e2', e3', e4', e5', e6, hl]
  exact ⟨⟨n1, n2, n3, l, n5⟩, rfl⟩

theorem FnExactGroupOk_lifted (os : Os) (started : os.Started) (H : Type) (enc : TypeId × Value → H) :
    ReturnsInHanded {} Try.checked os 4 .any (Rows.fnExactGroupOkSpec.pre6 enc Try.prog Try.f4 Rows.fnExactGroupOkRow.domain false) (Rows.fnExactGroupOkSpec.post enc Try.prog Try.f4 false true false false) := by
  refine returnsInHanded_of_change (C := Try.checked) Am.own started (by kernel_rfl) Try.func4
    (ChangeSpec.witness6 (enc := enc) (C := Try.checked) false ⟨#[], #[.agg #[.int .i64 0, .int .i64 0, .int .i64 0, .slice none 0 0, .int .i64 0]], []⟩ 8 (by kernel_rfl) (by kernel_rfl) (by kernel_rfl) (by kernel_rfl)) ?_
  intro W base args ds gs before hval hW hcnd _
  obtain ⟨p, q, hA, hV, hbef, hfz, hnd⟩ := id hW
  have hA : DataW.TrodAll enc Try.prog W 0 (fun _ => true) true [44] args.toList ds p := hA
  obtain ⟨v, d, rfl, rfl, hd⟩ := trodAll_one hA
  have hv : Value.okWide Try.prog W .any base 44 v := hval 0 44 v rfl rfl
  refine (law_calls tab_ok Am.kg_ok (i := _) rfl rfl (.inl rfl) (fun avs hs => ?_) hv hd).mono fun e W' ⟨he, hb⟩ => ?_
  · obtain ⟨g, hg⟩ := Am.grp_of hs
    rw [hg]
    exact FnExactGroupOk_sound rfl g
  · exact ⟨_, he, law_post (t := 44) (tb := 4) rfl rfl (by kernel_rfl) rfl (fun d => rfl) Am.laidOut (by kernel_rfl) (of_decide_eq_true (by kernel_rfl)) hW hb⟩

theorem FnExactGroupOk_holds : Rows.FnExactGroupOkSaid :=
  OpenClaim.holds_of_wide 4 Try.f4 rfl rfl rfl rfl rfl rfl rfl ⟨rfl, rfl, rfl, rfl, rfl⟩ rfl rfl rfl rfl rfl (by kernel_rfl) Try.func4 (by kernel_rfl)
    (of_decide_eq_true (by kernel_rfl)) (by unfold Func.isWrapper; rw [if_neg (by decide +kernel)]; exact ⟨rfl, rfl⟩)
    (fun os started H enc _ => FnExactGroupOk_lifted os started H enc)

end Go.Proofs.Ytmpbmfhlkhonkaa
