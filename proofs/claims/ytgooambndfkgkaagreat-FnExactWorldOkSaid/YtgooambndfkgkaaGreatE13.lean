/- Contracts: valid timers of the spec. (printed by ge13.py) -/
import Derived.Test.YtgooambndfkgkaaGreatE12
namespace Go.Proofs.YtgooambndfkgkaaGreat.AM
open Go Go.Proofs

set_option maxRecDepth 100000
set_option maxHeartbeats 4000000
set_option linter.unusedVariables false
set_option linter.unusedSimpArgs false

variable {P : Program} {A : Sy}

theorem l4Timer_c (S : Se P A) (q d w h : Int) (b : Bool) (next : Int) (hn : 0 ≤ next ∧ next ≤ 1000000) : Tests P 265 [.agg (cTimer ⟨q, d, w, h, b⟩), .int .i64 next] (Timer.ok ⟨q, d, w, h, b⟩ next) := by
  refine S.cx.by (S.prog ▸ Tryz.func265) rfl rfl rfl rfl (fun hv ho => ?_)
  cbv
  refine Arith.go (by lia) (fun m hm => ?_); replace hm : m = next - 1 := hm; cbv
  refine ACall.testD (dp := false) (l1In_c S q 0 m) ⟨rfl, (by repeat' (first | exact trivial | exact rfl | exact Nat.le_refl _ | exact S.cx.giveEq | exact S.cx.lendLe (by assumption) | exact S.cx.lendEq (by assumption) | exact S.cx.lendLe0 | exact S.cx.lendEq0 | exact S.cx.partLe (by assumption) | exact S.cx.partEq (by assumption) | exact S.cx.enc _ [] | exact .inl rfl | refine ⟨?_, ?_⟩)), (by repeat' (first | exact trivial | exact rfl | exact Nat.le_refl _ | exact S.cx.giveEq | exact S.cx.lendLe (by assumption) | exact S.cx.lendEq (by assumption) | exact S.cx.lendLe0 | exact S.cx.lendEq0 | exact S.cx.partLe (by assumption) | exact S.cx.partEq (by assumption) | exact S.cx.enc _ [] | exact .inl rfl | refine ⟨?_, ?_⟩))⟩ rfl (fun h1 => ?_) (fun h1 => ?_) <;> cbv
  rotate_left
  · exact Done.no fun e => h1 ⟨e.1.1, by have := e.1.2; dsimp only at this; omega⟩
  refine ACall.testD (dp := false) (l1In_c S w 0 2) ⟨rfl, (by repeat' (first | exact trivial | exact rfl | exact Nat.le_refl _ | exact S.cx.giveEq | exact S.cx.lendLe (by assumption) | exact S.cx.lendEq (by assumption) | exact S.cx.lendLe0 | exact S.cx.lendEq0 | exact S.cx.partLe (by assumption) | exact S.cx.partEq (by assumption) | exact S.cx.enc _ [] | exact .inl rfl | refine ⟨?_, ?_⟩)), (by repeat' (first | exact trivial | exact rfl | exact Nat.le_refl _ | exact S.cx.giveEq | exact S.cx.lendLe (by assumption) | exact S.cx.lendEq (by assumption) | exact S.cx.lendLe0 | exact S.cx.lendEq0 | exact S.cx.partLe (by assumption) | exact S.cx.partEq (by assumption) | exact S.cx.enc _ [] | exact .inl rfl | refine ⟨?_, ?_⟩))⟩ rfl (fun h2 => ?_) (fun h2 => ?_) <;> cbv
  rotate_left
  · exact Done.no fun e => h2 e.2.1
  refine ACall.testD (dp := false) (l1In_c S h 0 99) ⟨rfl, (by repeat' (first | exact trivial | exact rfl | exact Nat.le_refl _ | exact S.cx.giveEq | exact S.cx.lendLe (by assumption) | exact S.cx.lendEq (by assumption) | exact S.cx.lendLe0 | exact S.cx.lendEq0 | exact S.cx.partLe (by assumption) | exact S.cx.partEq (by assumption) | exact S.cx.enc _ [] | exact .inl rfl | refine ⟨?_, ?_⟩)), (by repeat' (first | exact trivial | exact rfl | exact Nat.le_refl _ | exact S.cx.giveEq | exact S.cx.lendLe (by assumption) | exact S.cx.lendEq (by assumption) | exact S.cx.lendLe0 | exact S.cx.lendEq0 | exact S.cx.partLe (by assumption) | exact S.cx.partEq (by assumption) | exact S.cx.enc _ [] | exact .inl rfl | refine ⟨?_, ?_⟩))⟩ rfl (fun h3 => ?_) (fun h3 => ?_) <;> cbv
  rotate_left
  · exact Done.no fun e => h3 e.2.2
  exact Done.yes ⟨⟨h1.1, by dsimp only; omega⟩, h2, h3⟩

theorem timIdx_known {list : List Timer} {q n : Int} (h : 0 ≤ n ∧ (∃ x, list[n.toNat]? = some x ∧ x.seq = q) ∧ Upto (fun _ x => ¬ x.seq = q) list n ∨ n = -1 ∧ ∀ x ∈ list, ¬ x.seq = q) : n = timIdx list q := by
  rcases h with ⟨h0, ⟨x, hx, hq⟩, hu⟩ | ⟨rfl, h⟩
  · have : list.findIdx? (fun x => decide (x.seq = q)) = some n.toNat := by
      obtain ⟨hl, hg⟩ := List.getElem?_eq_some_iff.1 hx
      refine List.findIdx?_eq_some_iff_getElem.2 ⟨hl, by simp [hg, hq], fun j hj => ?_⟩
      have := hu j list[j] (by omega) (List.getElem?_eq_getElem (by omega))
      simpa using this
    unfold timIdx; rw [this]; dsimp only; omega
  · have : list.findIdx? (fun x => decide (x.seq = q)) = none := List.findIdx?_eq_none_iff.2 fun x hx => decide_eq_false (h x hx)
    unfold timIdx; rw [this]

theorem l4At_c (S : Se P A) (heap : List Twig) (list : List Timer) (next q : Int) : Is1 P 266 [.agg (roTimers A ⟨heap, list, next⟩), .int .i64 q] (.int .i64 (timIdx list q)) := by
  refine SoundM.knownH (p := fun r => 0 ≤ r ∧ (∃ x, list[r.toNat]? = some x ∧ x.seq = q) ∧ Upto (fun _ x => ¬ x.seq = q) list r ∨ r = -1 ∧ ∀ x ∈ list, ¬ x.seq = q) ?_ (fun n h => timIdx_known h)
  refine S.cx.by (S.prog ▸ Tryz.func266) rfl rfl rfl rfl (fun hv ho => ?_)
  cbv
  refine ALoop.goS (ι := Int) (fun i => [(5, .int .i64 i)]) [] (fun i => []) (fun i => 0 ≤ i ∧ Upto (fun _ x => ¬ x.seq = q) list i) (fun i => (list.length - i).toNat) (0) S.cx.tab S.cx.mix S.eq ?_ ?_ ?_
  · exact ⟨Int.le_refl _, .zero⟩
  · (cbv; refine Less.to [] rfl rfl ?_ ?_ <;> repeat' (first | exact trivial | exact ⟨rfl, rfl⟩ | exact ⟨_, rfl, Nat.zero_le _, rfl⟩ | apply And.intro | exact rfl))
  intro i hk
  obtain ⟨h0, hu⟩ := hk
  refine Rnd.mk ?_; cbv
  refine LenR.nat S.cx (fun N hN hm => ?_); cbv
  refine Test.lss (fun h => ?_) (fun h => ?_) <;> cbv
  rotate_left
  · exact Done.num (.inr ⟨rfl, hu.mem (by lia)⟩)
  refine ElemRo.enc S.cx (fun _ => rfl) (by lia) (by lia) (fun x hx => ?_); cbv
  refine Test.eql (fun h2 => ?_) (fun h2 => ?_) <;> cbv
  · exact Done.num (.inl ⟨h0, ⟨x, hx, h2⟩, hu⟩)
  · refine Arith.go (by lia) (fun i' hi' => ?_); cbv
    refine Again.on i' (by lia) ⟨by lia, hu.next h0 hx h2 hi'⟩ ?_
    (cbv; refine Less.to [] rfl rfl ?_ ?_ <;> repeat' (first | exact trivial | exact ⟨rfl, rfl⟩ | exact ⟨_, rfl, Nat.zero_le _, rfl⟩ | apply And.intro | exact rfl))

end Go.Proofs.YtgooambndfkgkaaGreat.AM
