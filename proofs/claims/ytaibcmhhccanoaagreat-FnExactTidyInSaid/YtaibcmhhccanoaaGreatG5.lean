/- Contracts: the laws' own helpers: records of slices. (printed by gen2.py) -/
import Derived.Test.YtaibcmhhccanoaaGreatDA
import Derived.Test.YtaibcmhhccanoaaGreatG2
import Derived.Test.YtaibcmhhccanoaaGreatG3
import Derived.Test.YtaibcmhhccanoaaGreatG4
import Derived.Test.YtaibcmhhccanoaaGreatGE
set_option linter.unusedVariables false
set_option linter.unusedSimpArgs false
namespace Go.Proofs.YtaibcmhhccanoaaGreat.AM
open Go Go.Proofs

set_option maxRecDepth 100000
set_option linter.unusedVariables false
set_option linter.unusedSimpArgs false

variable {P : Program} {A : Sy}

theorem marks_of {α : Type} {m : Int → α} {w k : Int} {l : List α} (h : l = marks m w k l.length) : ∀ (j : Nat) (x : α), l[j]? = some x → x = m (k + w * j) := fun j x hx => by
  have hj := (List.getElem?_eq_some_iff.1 hx).1
  rw [h, marks_get _ _ _ hj] at hx
  exact (Option.some.inj hx).symm

theorem toSlots_c (S : Se P A) (x : Slots) (hb : x.few 4294967296) : Is1 P 72 [.agg (roSlots A x)] (.agg (ownSlots A x)) := by
  obtain ⟨ages, used⟩ := x
  obtain ⟨b_ages, b_used⟩ := hb
  dsimp only at b_ages b_used
  refine S.cx.by (S.prog ▸ Tryz.func72) rfl rfl rfl rfl (fun hv ho => ?_)
  cbv
  refine ACall.own (dp := false) S.cx (toInt64S_c S ages b_ages) ⟨rfl, ?_, trivial⟩ rfl rfl (fun ages0 n_ages e_ages l_ages => ?_)
  · repeat' (first | exact trivial | exact rfl | refine ⟨?_, ?_⟩)
  subst e_ages
  cbv
  refine ACall.own (dp := false) S.cx (toBoolS_c S used b_used) ⟨rfl, ?_, trivial⟩ rfl rfl (fun used0 n_used e_used l_used => ?_)
  · repeat' (first | exact trivial | exact rfl | refine ⟨?_, ?_⟩)
  subst e_used
  cbv
  exact Done.to (.agg (ownSlots A ⟨ages0, used0⟩)) [] rfl ⟨resOwn S.cx rfl l_ages, resOwn S.cx rfl l_used, trivial⟩ trivial ⟨rfl, rfl⟩

theorem szSlots_c (S : Se P A) (x : Slots) (left : Int) (h0 : 0 ≤ left) : Nums P 49 [.agg (roSlots A x), .int .i64 left] (fun n => n = -1 ∨ 0 ≤ n ∧ n = left - x.total) := by
  obtain ⟨ages, used⟩ := x
  refine S.cx.by (S.prog ▸ Tryz.func49) rfl rfl rfl rfl (fun hv ho => ?_)
  cbv
  refine ACall.int (dp := false) (szInt64S_c S ages left (by lia)) ⟨rfl, ?_, trivial⟩ rfl (fun q_ages h_ages => ?_)
  · repeat' (first | exact trivial | exact rfl | refine ⟨?_, ?_⟩)
  cbv
  refine Test.lss (fun h => ?_) (fun h => ?_) <;> cbv
  · exact Done.num (.inl rfl)
  have h_ages : q_ages = left - ages.length := by split at h_ages <;> lia
  refine ACall.int (dp := false) (szBoolS_c S used q_ages (by lia)) ⟨rfl, ?_, trivial⟩ rfl (fun q_used h_used => ?_)
  · repeat' (first | exact trivial | exact rfl | refine ⟨?_, ?_⟩)
  cbv
  refine Test.lss (fun h => ?_) (fun h => ?_) <;> cbv
  · exact Done.num (.inl rfl)
  have h_used : q_used = q_ages - used.length := by split at h_used <;> lia
  exact Done.num (.inr ⟨by lia, by simp only [Slots.total]; lia⟩)

theorem eqSlots_c (S : Se P A) (x y : Slots) : Tests P 111 [.agg (roSlots A x), .agg (roSlots A y)] (x = y) := by
  obtain ⟨ages, used⟩ := x
  obtain ⟨ages', used'⟩ := y
  refine S.cx.by (S.prog ▸ Tryz.func111) rfl rfl rfl rfl (fun hv ho => ?_)
  cbv
  refine ACall.testD (dp := false) (eqInt64S_c S ages ages') ⟨rfl, ?_, trivial⟩ rfl (fun h => ?_) (fun h => ?_)
  · repeat' (first | exact trivial | exact rfl | refine ⟨?_, ?_⟩)
  rotate_left
  · cbv
    exact Done.no fun e => h (by cases e; rfl)
  cases h
  cbv
  refine ACall.testD (dp := false) (eqBoolS_c S used used') ⟨rfl, ?_, trivial⟩ rfl (fun h => ?_) (fun h => ?_)
  · repeat' (first | exact trivial | exact rfl | refine ⟨?_, ?_⟩)
  rotate_left
  · cbv
    exact Done.no fun e => h (by cases e; rfl)
  cases h
  cbv
  exact Done.yes rfl

theorem toTimers_c (S : Se P A) (x : Timers) (hb : x.few 4294967296) : Is1 P 27 [.agg (roTimers A x)] (.agg (ownTimers A x)) := by
  obtain ⟨heap, list, next⟩ := x
  obtain ⟨b_heap, b_list⟩ := hb
  dsimp only at b_heap b_list
  refine S.cx.by (S.prog ▸ Tryz.func27) rfl rfl rfl rfl (fun hv ho => ?_)
  cbv
  refine ACall.own (dp := false) S.cx (toTwigS_c S heap b_heap) ⟨rfl, ?_, trivial⟩ rfl rfl (fun heap0 n_heap e_heap l_heap => ?_)
  · repeat' (first | exact trivial | exact rfl | refine ⟨?_, ?_⟩)
  subst e_heap
  cbv
  refine ACall.own (dp := false) S.cx (toTimerS_c S list b_list) ⟨rfl, ?_, trivial⟩ rfl rfl (fun list0 n_list e_list l_list => ?_)
  · repeat' (first | exact trivial | exact rfl | refine ⟨?_, ?_⟩)
  subst e_list
  cbv
  exact Done.to (.agg (ownTimers A ⟨heap0, list0, next⟩)) [] rfl ⟨resOwn S.cx rfl l_heap, resOwn S.cx rfl l_list, rfl, trivial⟩ trivial ⟨rfl, rfl⟩

theorem szTimers_c (S : Se P A) (x : Timers) (left : Int) (h0 : 0 ≤ left) : Nums P 13 [.agg (roTimers A x), .int .i64 left] (fun n => n = -1 ∨ 0 ≤ n ∧ n = left - x.total) := by
  obtain ⟨heap, list, next⟩ := x
  refine S.cx.by (S.prog ▸ Tryz.func13) rfl rfl rfl rfl (fun hv ho => ?_)
  cbv
  refine ACall.int (dp := false) (szTwigS_c S heap left (by lia)) ⟨rfl, ?_, trivial⟩ rfl (fun q_heap h_heap => ?_)
  · repeat' (first | exact trivial | exact rfl | refine ⟨?_, ?_⟩)
  cbv
  refine Test.lss (fun h => ?_) (fun h => ?_) <;> cbv
  · exact Done.num (.inl rfl)
  have h_heap : q_heap = left - heap.length := by split at h_heap <;> lia
  refine ACall.int (dp := false) (szTimerS_c S list q_heap (by lia)) ⟨rfl, ?_, trivial⟩ rfl (fun q_list h_list => ?_)
  · repeat' (first | exact trivial | exact rfl | refine ⟨?_, ?_⟩)
  cbv
  refine Test.lss (fun h => ?_) (fun h => ?_) <;> cbv
  · exact Done.num (.inl rfl)
  have h_list : q_list = q_heap - list.length := by split at h_list <;> lia
  exact Done.num (.inr ⟨by lia, by simp only [Timers.total]; lia⟩)

theorem eqTimers_c (S : Se P A) (x y : Timers) : Tests P 39 [.agg (roTimers A x), .agg (roTimers A y)] (x = y) := by
  obtain ⟨heap, list, next⟩ := x
  obtain ⟨heap', list', next'⟩ := y
  refine S.cx.by (S.prog ▸ Tryz.func39) rfl rfl rfl rfl (fun hv ho => ?_)
  cbv
  refine ACall.testD (dp := false) (eqTwigS_c S heap heap') ⟨rfl, ?_, trivial⟩ rfl (fun h => ?_) (fun h => ?_)
  · repeat' (first | exact trivial | exact rfl | refine ⟨?_, ?_⟩)
  rotate_left
  · cbv
    exact Done.no fun e => h (by cases e; rfl)
  cases h
  cbv
  refine ACall.testD (dp := false) (eqTimerS_c S list list') ⟨rfl, ?_, trivial⟩ rfl (fun h => ?_) (fun h => ?_)
  · repeat' (first | exact trivial | exact rfl | refine ⟨?_, ?_⟩)
  rotate_left
  · cbv
    exact Done.no fun e => h (by cases e; rfl)
  cases h
  cbv
  refine Test.neq (fun h => ?_) (fun h => ?_) <;> cbv
  · exact Done.no fun e => h (by cases e; rfl)
  subst h
  exact Done.yes rfl

theorem toSpread_c (S : Se P A) (x : Spread) (hb : x.few 4294967296) : Is1 P 26 [.agg (roSpread A x)] (.agg (ownSpread A x)) := by
  obtain ⟨told, work⟩ := x
  obtain ⟨b_told, b_work⟩ := hb
  dsimp only at b_told b_work
  refine S.cx.by (S.prog ▸ Tryz.func26) rfl rfl rfl rfl (fun hv ho => ?_)
  cbv
  refine ACall.own (dp := false) S.cx (toBoolS_c S told b_told) ⟨rfl, ?_, trivial⟩ rfl rfl (fun told0 n_told e_told l_told => ?_)
  · repeat' (first | exact trivial | exact rfl | refine ⟨?_, ?_⟩)
  subst e_told
  cbv
  refine ACall.own (dp := false) S.cx (toInt64S_c S work b_work) ⟨rfl, ?_, trivial⟩ rfl rfl (fun work0 n_work e_work l_work => ?_)
  · repeat' (first | exact trivial | exact rfl | refine ⟨?_, ?_⟩)
  subst e_work
  cbv
  exact Done.to (.agg (ownSpread A ⟨told0, work0⟩)) [] rfl ⟨resOwn S.cx rfl l_told, resOwn S.cx rfl l_work, trivial⟩ trivial ⟨rfl, rfl⟩

theorem szSpread_c (S : Se P A) (x : Spread) (left : Int) (h0 : 0 ≤ left) : Nums P 12 [.agg (roSpread A x), .int .i64 left] (fun n => n = -1 ∨ 0 ≤ n ∧ n = left - x.total) := by
  obtain ⟨told, work⟩ := x
  refine S.cx.by (S.prog ▸ Tryz.func12) rfl rfl rfl rfl (fun hv ho => ?_)
  cbv
  refine ACall.int (dp := false) (szBoolS_c S told left (by lia)) ⟨rfl, ?_, trivial⟩ rfl (fun q_told h_told => ?_)
  · repeat' (first | exact trivial | exact rfl | refine ⟨?_, ?_⟩)
  cbv
  refine Test.lss (fun h => ?_) (fun h => ?_) <;> cbv
  · exact Done.num (.inl rfl)
  have h_told : q_told = left - told.length := by split at h_told <;> lia
  refine ACall.int (dp := false) (szInt64S_c S work q_told (by lia)) ⟨rfl, ?_, trivial⟩ rfl (fun q_work h_work => ?_)
  · repeat' (first | exact trivial | exact rfl | refine ⟨?_, ?_⟩)
  cbv
  refine Test.lss (fun h => ?_) (fun h => ?_) <;> cbv
  · exact Done.num (.inl rfl)
  have h_work : q_work = q_told - work.length := by split at h_work <;> lia
  exact Done.num (.inr ⟨by lia, by simp only [Spread.total]; lia⟩)

theorem eqSpread_c (S : Se P A) (x y : Spread) : Tests P 38 [.agg (roSpread A x), .agg (roSpread A y)] (x = y) := by
  obtain ⟨told, work⟩ := x
  obtain ⟨told', work'⟩ := y
  refine S.cx.by (S.prog ▸ Tryz.func38) rfl rfl rfl rfl (fun hv ho => ?_)
  cbv
  refine ACall.testD (dp := false) (eqBoolS_c S told told') ⟨rfl, ?_, trivial⟩ rfl (fun h => ?_) (fun h => ?_)
  · repeat' (first | exact trivial | exact rfl | refine ⟨?_, ?_⟩)
  rotate_left
  · cbv
    exact Done.no fun e => h (by cases e; rfl)
  cases h
  cbv
  refine ACall.testD (dp := false) (eqInt64S_c S work work') ⟨rfl, ?_, trivial⟩ rfl (fun h => ?_) (fun h => ?_)
  · repeat' (first | exact trivial | exact rfl | refine ⟨?_, ?_⟩)
  rotate_left
  · cbv
    exact Done.no fun e => h (by cases e; rfl)
  cases h
  cbv
  exact Done.yes rfl

theorem toAfters_c (S : Se P A) (x : Afters) (hb : x.few 4294967296) : Is1 P 28 [.agg (roAfters A x)] (.agg (ownAfters A x)) := by
  obtain ⟨⟨ages, used⟩, list⟩ := x
  obtain ⟨b_ages, b_used, b_list⟩ := hb
  dsimp only at b_ages b_used b_list
  refine S.cx.by (S.prog ▸ Tryz.func28) rfl rfl rfl rfl (fun hv ho => ?_)
  cbv
  refine ACall.val (r := fun x : Slots => .agg (ownSlots A x)) (os := fun _ => []) (e := ⟨ages, used⟩) (dp := false) (toSlots_c S ⟨ages, used⟩ ⟨b_ages, b_used⟩) ⟨rfl, ?_, trivial⟩ rfl (fun x hx => ⟨rfl, ?_⟩)
  · repeat' (first | exact trivial | exact rfl | refine ⟨?_, ?_⟩)
  obtain ⟨ages0, used0⟩ := x
  injection hx with e_ages e_used
  subst e_ages
  subst e_used
  cbv
  refine ACall.own (dp := false) S.cx (toAfterS_c S list b_list) ⟨rfl, ?_, trivial⟩ rfl rfl (fun list0 n_list e_list l_list => ?_)
  · repeat' (first | exact trivial | exact rfl | refine ⟨?_, ?_⟩)
  subst e_list
  cbv
  exact Done.to (.agg (ownAfters A ⟨⟨ages0, used0⟩, list0⟩)) [] rfl ⟨resOwn S.cx rfl (S.cx.lenE _ _), resOwn S.cx rfl (S.cx.lenE _ _), resOwn S.cx rfl l_list, trivial⟩ trivial ⟨rfl, rfl⟩

theorem szAfters_c (S : Se P A) (x : Afters) (left : Int) (h0 : 0 ≤ left) : Nums P 14 [.agg (roAfters A x), .int .i64 left] (fun n => n = -1 ∨ 0 ≤ n ∧ n = left - x.total) := by
  obtain ⟨⟨ages, used⟩, list⟩ := x
  refine S.cx.by (S.prog ▸ Tryz.func14) rfl rfl rfl rfl (fun hv ho => ?_)
  cbv
  refine ACall.num (dp := false) (szSlots_c S ⟨ages, used⟩ left (by lia)) ⟨rfl, ?_, trivial⟩ (fun q_slots h_slots => ?_)
  · repeat' (first | exact trivial | exact rfl | refine ⟨?_, ?_⟩)
  cbv
  refine Test.lss (fun h => ?_) (fun h => ?_) <;> cbv
  · exact Done.num (.inl rfl)
  have h_slots : q_slots = left - Slots.total ⟨ages, used⟩ := by lia
  simp only [Slots.total] at h_slots
  refine ACall.int (dp := false) (szAfterS_c S list q_slots (by lia)) ⟨rfl, ?_, trivial⟩ rfl (fun q_list h_list => ?_)
  · repeat' (first | exact trivial | exact rfl | refine ⟨?_, ?_⟩)
  cbv
  refine Test.lss (fun h => ?_) (fun h => ?_) <;> cbv
  · exact Done.num (.inl rfl)
  have h_list : q_list = q_slots - list.length := by split at h_list <;> lia
  exact Done.num (.inr ⟨by lia, by simp only [Afters.total]; lia⟩)

theorem eqAfters_c (S : Se P A) (x y : Afters) : Tests P 40 [.agg (roAfters A x), .agg (roAfters A y)] (x = y) := by
  obtain ⟨⟨ages, used⟩, list⟩ := x
  obtain ⟨⟨ages', used'⟩, list'⟩ := y
  refine S.cx.by (S.prog ▸ Tryz.func40) rfl rfl rfl rfl (fun hv ho => ?_)
  cbv
  refine ACall.testD (dp := false) (eqSlots_c S ⟨ages, used⟩ ⟨ages', used'⟩) ⟨rfl, ?_, trivial⟩ rfl (fun h => ?_) (fun h => ?_)
  · repeat' (first | exact trivial | exact rfl | refine ⟨?_, ?_⟩)
  rotate_left
  · cbv
    exact Done.no fun e => h (by cases e; rfl)
  cases h
  cbv
  refine ACall.testD (dp := false) (eqAfterS_c S list list') ⟨rfl, ?_, trivial⟩ rfl (fun h => ?_) (fun h => ?_)
  · repeat' (first | exact trivial | exact rfl | refine ⟨?_, ?_⟩)
  rotate_left
  · cbv
    exact Done.no fun e => h (by cases e; rfl)
  cases h
  cbv
  exact Done.yes rfl

theorem toGroup_c (S : Se P A) (x : Group) (hb : x.few 4294967296) : Is1 P 75 [.agg (roGroup A x)] (.agg (ownGroup A x)) := by
  obtain ⟨node, limit, active, waits, first⟩ := x
  have b_waits : waits.length ≤ 4294967296 := hb
  refine S.cx.by (S.prog ▸ Tryz.func75) rfl rfl rfl rfl (fun hv ho => ?_)
  cbv
  refine ACall.own (dp := false) S.cx (toInt64S_c S waits b_waits) ⟨rfl, ?_, trivial⟩ rfl rfl (fun waits0 n_waits e_waits l_waits => ?_)
  · repeat' (first | exact trivial | exact rfl | refine ⟨?_, ?_⟩)
  subst e_waits
  cbv
  exact Done.to (.agg (ownGroup A ⟨node, limit, active, waits0, first⟩)) [] rfl ⟨rfl, rfl, rfl, resOwn S.cx rfl l_waits, rfl, trivial⟩ trivial ⟨rfl, rfl⟩

theorem szGroup_c (S : Se P A) (x : Group) (left : Int) (h0 : 0 ≤ left) : Nums P 51 [.agg (roGroup A x), .int .i64 left] (fun n => n = -1 ∨ 0 ≤ n ∧ n = left - x.total) := by
  obtain ⟨node, limit, active, waits, first⟩ := x
  refine S.cx.by (S.prog ▸ Tryz.func51) rfl rfl rfl rfl (fun hv ho => ?_)
  cbv
  refine ACall.int (dp := false) (szInt64S_c S waits left (by lia)) ⟨rfl, ?_, trivial⟩ rfl (fun q_waits h_waits => ?_)
  · repeat' (first | exact trivial | exact rfl | refine ⟨?_, ?_⟩)
  cbv
  refine Test.lss (fun h => ?_) (fun h => ?_) <;> cbv
  · exact Done.num (.inl rfl)
  have h_waits : q_waits = left - waits.length := by split at h_waits <;> lia
  exact Done.num (.inr ⟨by lia, by simp only [Group.total]; lia⟩)

theorem eqGroup_c (S : Se P A) (x y : Group) : Tests P 114 [.agg (roGroup A x), .agg (roGroup A y)] (x = y) := by
  obtain ⟨node, limit, active, waits, first⟩ := x
  obtain ⟨node', limit', active', waits', first'⟩ := y
  refine S.cx.by (S.prog ▸ Tryz.func114) rfl rfl rfl rfl (fun hv ho => ?_)
  cbv
  refine Test.neq (fun h => ?_) (fun h => ?_) <;> cbv
  · exact Done.no fun e => h (by cases e; rfl)
  subst h
  refine Test.neq (fun h => ?_) (fun h => ?_) <;> cbv
  · exact Done.no fun e => h (by cases e; rfl)
  subst h
  refine Test.neq (fun h => ?_) (fun h => ?_) <;> cbv
  · exact Done.no fun e => h (by cases e; rfl)
  subst h
  refine ACall.testD (dp := false) (eqInt64S_c S waits waits') ⟨rfl, ?_, trivial⟩ rfl (fun h => ?_) (fun h => ?_)
  · repeat' (first | exact trivial | exact rfl | refine ⟨?_, ?_⟩)
  rotate_left
  · cbv
    exact Done.no fun e => h (by cases e; rfl)
  cases h
  cbv
  refine Test.neq (fun h => ?_) (fun h => ?_) <;> cbv
  · exact Done.no fun e => h (by cases e; rfl)
  subst h
  exact Done.yes rfl

end Go.Proofs.YtaibcmhhccanoaaGreat.AM
