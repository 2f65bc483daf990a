/- Contracts: the laws' own helpers: records of slices. (printed by gen2.py) -/
import Derived.Test.YtihfpbhalnedcaaGreatDA
import Derived.Test.YtihfpbhalnedcaaGreatG2
import Derived.Test.YtihfpbhalnedcaaGreatG3
import Derived.Test.YtihfpbhalnedcaaGreatG4
import Derived.Test.YtihfpbhalnedcaaGreatGE
set_option linter.unusedVariables false
set_option linter.unusedSimpArgs false
namespace Go.Proofs.YtihfpbhalnedcaaGreat.AM
open Go Go.Proofs

set_option maxRecDepth 100000

variable {P : Program} {A : Sy}

theorem marks_of {α : Type} {m : Int -> α} {w k : Int} {l : List α} (h : l = marks m w k l.length) : ∀ (j : Nat) (x : α), l[j]? = some x -> x = m (k + w * j) := fun j x hx => by
  have hj := (List.getElem?_eq_some_iff.1 hx).1
  rw [h, marks_get _ _ _ hj] at hx
  exact (Option.some.inj hx).symm

theorem toSlots_c (S : Se P A) (x : Slots) (hb : x.few 4294967296) : Is1 P 154 [.agg (roSlots A x)] (.agg (ownSlots A x)) := by
  obtain ⟨ages, used⟩ := x
  obtain ⟨b_ages, b_used⟩ := hb
  dsimp only at b_ages b_used
  refine S.cx.by (S.prog ▸ Tryz.func154) rfl rfl rfl rfl (fun hv ho => ?_)
  cbv
  refine ACall.own (dp := false) S.cx (toInt64S_c S ages b_ages) ⟨rfl, ?_, trivial⟩ rfl rfl (fun ages0 n_ages e_ages l_ages => ?_)
  · repeat' (first | exact trivial | exact rfl | refine ⟨?_, ?_⟩)
  subst e_ages
  cbv
  refine ACall.own (dp := false) S.cx (toBoolS_c S used b_used) ⟨rfl, ?_, trivial⟩ rfl rfl (fun used0 n_used e_used l_used => ?_)
  · repeat' (first | exact trivial | exact rfl | refine ⟨?_, ?_⟩)
  subst e_used
  cbv
  exact Done.to (.agg (ownSlots A ⟨ages0, used0⟩)) [] rfl ⟨resOwn S.cx rfl l_ages, resOwn S.cx rfl l_used, trivial⟩ trivial ⟨rfl, rfl⟩

theorem szSlots_c (S : Se P A) (x : Slots) (left : Int) (h0 : 0 <= left) : Nums P 127 [.agg (roSlots A x), .int .i64 left] (fun n => n = -1 ∨ 0 <= n /\ n = left - x.total) := by
  obtain ⟨ages, used⟩ := x
  refine S.cx.by (S.prog ▸ Tryz.func127) rfl rfl rfl rfl (fun hv ho => ?_)
  cbv
  refine ACall.int (dp := false) (szInt64S_c S ages left (by lia)) ⟨rfl, ?_, trivial⟩ rfl (fun q_ages h_ages => ?_)
  · repeat' (first | exact trivial | exact rfl | refine ⟨?_, ?_⟩)
  cbv
  refine Test.lss (fun h => ?_) (fun h => ?_) <;> cbv
  · exact Done.num (.inl rfl)
  have h_ages : q_ages = left - ages.length := by split at h_ages <;> lia
  refine ACall.int (dp := false) (szBoolS_c S used q_ages (by lia)) ⟨rfl, ?_, trivial⟩ rfl (fun q_used h_used => ?_)
  · repeat' (first | exact trivial | exact rfl | refine ⟨?_, ?_⟩)
  cbv
  refine Test.lss (fun h => ?_) (fun h => ?_) <;> cbv
  · exact Done.num (.inl rfl)
  have h_used : q_used = q_ages - used.length := by split at h_used <;> lia
  exact Done.num (.inr ⟨by lia, by simp only [Slots.total]; lia⟩)

theorem eqSlots_c (S : Se P A) (x y : Slots) : Tests P 169 [.agg (roSlots A x), .agg (roSlots A y)] (x = y) := by
  obtain ⟨ages, used⟩ := x
  obtain ⟨ages', used'⟩ := y
  refine S.cx.by (S.prog ▸ Tryz.func169) rfl rfl rfl rfl (fun hv ho => ?_)
  cbv
  refine ACall.testD (dp := false) (eqInt64S_c S ages ages') ⟨rfl, ?_, trivial⟩ rfl (fun h => ?_) (fun h => ?_)
  · repeat' (first | exact trivial | exact rfl | refine ⟨?_, ?_⟩)
  rotate_left
  · cbv
    exact Done.no fun e => h (by cases e; rfl)
  cases h
  cbv
  refine ACall.testD (dp := false) (eqBoolS_c S used used') ⟨rfl, ?_, trivial⟩ rfl (fun h => ?_) (fun h => ?_)
  · repeat' (first | exact trivial | exact rfl | refine ⟨?_, ?_⟩)
  rotate_left
  · cbv
    exact Done.no fun e => h (by cases e; rfl)
  cases h
  cbv
  exact Done.yes rfl

theorem markSlots_c (S : Se P A) (ages : List Int) (used : List Bool) (n_ages : Nat) (hn_ages : n_ages = ages.length) (n_used : Nat) (hn_used : n_used = used.length) (k : Int) (h0 : 0 <= k) (hk : k + 1 * (n_ages : Int) + 1 * (n_used : Int) <= 4611686018427387904) : SoundM P 178 false [.agg [.ref false 1000 0 n_ages, .ref false 2000 0 n_used], .int .i64 k] [.arr 1 true (A.enc cInt64 ages), .arr 1 true (A.enc cBool used)]
    (fun v os => v = .int .i64 (k + 1 * (n_ages : Int) + 1 * (n_used : Int)) /\ os = [some (.arr 1 true (A.enc cInt64 (marks mInt64 1 (k) n_ages))), some (.arr 1 true (A.enc cBool (marks mBool 1 (k + 1 * (n_ages : Int)) n_used)))]) := by
  refine S.cx.by (S.prog ▸ Tryz.func178) rfl rfl rfl rfl (fun hv ho => ?_)
  cbv
  refine ACall.mut1 (dp := false) (markInt64S_c S ages n_ages hn_ages k (by lia) (by lia)) ⟨rfl, ?_, ?_⟩ rfl (fun q_ages m_ages h_ages e_ages => ⟨rfl, ?_⟩)
  · repeat' (first | exact trivial | exact rfl | refine ⟨?_, ?_⟩)
  · repeat' (first | exact trivial | exact rfl | exact Nat.le_refl _ | exact S.cx.giveEq | refine ⟨?_, ?_⟩)
  cbv
  refine ACall.mut1 (dp := false) (markBoolS_c S used n_used hn_used q_ages (by lia) (by lia)) ⟨rfl, ?_, ?_⟩ rfl (fun q_used m_used h_used e_used => ⟨rfl, ?_⟩)
  · repeat' (first | exact trivial | exact rfl | refine ⟨?_, ?_⟩)
  · repeat' (first | exact trivial | exact rfl | exact Nat.le_refl _ | exact S.cx.giveEq | refine ⟨?_, ?_⟩)
  cbv
  refine Done.to (.int .i64 q_used) [some (.arr 1 true (A.enc cInt64 m_ages)), some (.arr 1 true (A.enc cBool m_used))] rfl rfl ?_ ⟨by first | (congr 1; done) | (congr 1; lia), ?_⟩
  · repeat' (first | exact trivial | exact rfl | refine ⟨?_, ?_⟩)
  · rw [e_ages, e_used]
    try simp only [h_ages]

theorem heldSlots_c (S : Se P A) (x : Slots) (k : Int) (h0 : 0 <= k) (hk : k + 1 * (x.ages.length : Int) + 1 * (x.used.length : Int) <= 4611686018427387904) (h_ages : x.ages = marks mInt64 1 (k) x.ages.length) (h_used : x.used = marks mBool 1 (k + 1 * (x.ages.length : Int)) x.used.length) : Is1 P 184 [.agg (roSlots A x), .int .i64 k] (.int .i64 (k + 1 * (x.ages.length : Int) + 1 * (x.used.length : Int))) := by
  obtain ⟨ages, used⟩ := x
  dsimp only at *
  refine S.cx.by (S.prog ▸ Tryz.func184) rfl rfl rfl rfl (fun hv ho => ?_)
  cbv
  refine ACall.int (dp := false) (heldInt64S_c S ages k (by lia) (by lia) (marks_of (by rw [show k = k by lia]; exact h_ages))) ⟨rfl, ?_, trivial⟩ rfl (fun q_ages hq_ages => ?_)
  · repeat' (first | exact trivial | exact rfl | refine ⟨?_, ?_⟩)
  cbv
  refine Test.lss (fun h => ?_) (fun h => ?_) <;> cbv
  · lia
  refine ACall.int (dp := false) (heldBoolS_c S used q_ages (by lia) (by lia) (marks_of (by rw [show q_ages = k + 1 * (ages.length : Int) by lia]; exact h_used))) ⟨rfl, ?_, trivial⟩ rfl (fun q_used hq_used => ?_)
  · repeat' (first | exact trivial | exact rfl | refine ⟨?_, ?_⟩)
  cbv
  refine Test.lss (fun h => ?_) (fun h => ?_) <;> cbv
  · lia
  exact Done.to (.int .i64 q_used) [] rfl rfl trivial ⟨by first | (congr 1; done) | (congr 1; lia), rfl⟩

theorem toTimers_c (S : Se P A) (x : Timers) (hb : x.few 4294967296) : Is1 P 52 [.agg (roTimers A x)] (.agg (ownTimers A x)) := by
  obtain ⟨heap, list, next⟩ := x
  obtain ⟨b_heap, b_list⟩ := hb
  dsimp only at b_heap b_list
  refine S.cx.by (S.prog ▸ Tryz.func52) rfl rfl rfl rfl (fun hv ho => ?_)
  cbv
  refine ACall.own (dp := false) S.cx (toTwigS_c S heap b_heap) ⟨rfl, ?_, trivial⟩ rfl rfl (fun heap0 n_heap e_heap l_heap => ?_)
  · repeat' (first | exact trivial | exact rfl | refine ⟨?_, ?_⟩)
  subst e_heap
  cbv
  refine ACall.own (dp := false) S.cx (toTimerS_c S list b_list) ⟨rfl, ?_, trivial⟩ rfl rfl (fun list0 n_list e_list l_list => ?_)
  · repeat' (first | exact trivial | exact rfl | refine ⟨?_, ?_⟩)
  subst e_list
  cbv
  exact Done.to (.agg (ownTimers A ⟨heap0, list0, next⟩)) [] rfl ⟨resOwn S.cx rfl l_heap, resOwn S.cx rfl l_list, rfl, trivial⟩ trivial ⟨rfl, rfl⟩

theorem szTimers_c (S : Se P A) (x : Timers) (left : Int) (h0 : 0 <= left) : Nums P 38 [.agg (roTimers A x), .int .i64 left] (fun n => n = -1 ∨ 0 <= n /\ n = left - x.total) := by
  obtain ⟨heap, list, next⟩ := x
  refine S.cx.by (S.prog ▸ Tryz.func38) rfl rfl rfl rfl (fun hv ho => ?_)
  cbv
  refine ACall.int (dp := false) (szTwigS_c S heap left (by lia)) ⟨rfl, ?_, trivial⟩ rfl (fun q_heap h_heap => ?_)
  · repeat' (first | exact trivial | exact rfl | refine ⟨?_, ?_⟩)
  cbv
  refine Test.lss (fun h => ?_) (fun h => ?_) <;> cbv
  · exact Done.num (.inl rfl)
  have h_heap : q_heap = left - heap.length := by split at h_heap <;> lia
  refine ACall.int (dp := false) (szTimerS_c S list q_heap (by lia)) ⟨rfl, ?_, trivial⟩ rfl (fun q_list h_list => ?_)
  · repeat' (first | exact trivial | exact rfl | refine ⟨?_, ?_⟩)
  cbv
  refine Test.lss (fun h => ?_) (fun h => ?_) <;> cbv
  · exact Done.num (.inl rfl)
  have h_list : q_list = q_heap - list.length := by split at h_list <;> lia
  exact Done.num (.inr ⟨by lia, by simp only [Timers.total]; lia⟩)

theorem eqTimers_c (S : Se P A) (x y : Timers) : Tests P 65 [.agg (roTimers A x), .agg (roTimers A y)] (x = y) := by
  obtain ⟨heap, list, next⟩ := x
  obtain ⟨heap', list', next'⟩ := y
  refine S.cx.by (S.prog ▸ Tryz.func65) rfl rfl rfl rfl (fun hv ho => ?_)
  cbv
  refine ACall.testD (dp := false) (eqTwigS_c S heap heap') ⟨rfl, ?_, trivial⟩ rfl (fun h => ?_) (fun h => ?_)
  · repeat' (first | exact trivial | exact rfl | refine ⟨?_, ?_⟩)
  rotate_left
  · cbv
    exact Done.no fun e => h (by cases e; rfl)
  cases h
  cbv
  refine ACall.testD (dp := false) (eqTimerS_c S list list') ⟨rfl, ?_, trivial⟩ rfl (fun h => ?_) (fun h => ?_)
  · repeat' (first | exact trivial | exact rfl | refine ⟨?_, ?_⟩)
  rotate_left
  · cbv
    exact Done.no fun e => h (by cases e; rfl)
  cases h
  cbv
  refine Test.neq (fun h => ?_) (fun h => ?_) <;> cbv
  · exact Done.no fun e => h (by cases e; rfl)
  subst h
  exact Done.yes rfl

theorem markTimers_c (S : Se P A) (heap : List Twig) (list : List Timer) (next : Int) (n_heap : Nat) (hn_heap : n_heap = heap.length) (n_list : Nat) (hn_list : n_list = list.length) (k : Int) (h0 : 0 <= k) (hk : k + 3 * (n_heap : Int) + 5 * (n_list : Int) <= 4611686018427387904) : SoundM P 75 false [.agg [.ref false 1000 0 n_heap, .ref false 2000 0 n_list, .int .i64 next], .int .i64 k] [.arr 3 true (A.enc cTwig heap), .arr 5 true (A.enc cTimer list)]
    (fun v os => v = .int .i64 (k + 3 * (n_heap : Int) + 5 * (n_list : Int)) /\ os = [some (.arr 3 true (A.enc cTwig (marks mTwig 3 (k) n_heap))), some (.arr 5 true (A.enc cTimer (marks mTimer 5 (k + 3 * (n_heap : Int)) n_list)))]) := by
  refine S.cx.by (S.prog ▸ Tryz.func75) rfl rfl rfl rfl (fun hv ho => ?_)
  cbv
  refine ACall.mut1 (dp := false) (markTwigS_c S heap n_heap hn_heap k (by lia) (by lia)) ⟨rfl, ?_, ?_⟩ rfl (fun q_heap m_heap h_heap e_heap => ⟨rfl, ?_⟩)
  · repeat' (first | exact trivial | exact rfl | refine ⟨?_, ?_⟩)
  · repeat' (first | exact trivial | exact rfl | exact Nat.le_refl _ | exact S.cx.giveEq | refine ⟨?_, ?_⟩)
  cbv
  refine ACall.mut1 (dp := false) (markTimerS_c S list n_list hn_list q_heap (by lia) (by lia)) ⟨rfl, ?_, ?_⟩ rfl (fun q_list m_list h_list e_list => ⟨rfl, ?_⟩)
  · repeat' (first | exact trivial | exact rfl | refine ⟨?_, ?_⟩)
  · repeat' (first | exact trivial | exact rfl | exact Nat.le_refl _ | exact S.cx.giveEq | refine ⟨?_, ?_⟩)
  cbv
  refine Done.to (.int .i64 q_list) [some (.arr 3 true (A.enc cTwig m_heap)), some (.arr 5 true (A.enc cTimer m_list))] rfl rfl ?_ ⟨by first | (congr 1; done) | (congr 1; lia), ?_⟩
  · repeat' (first | exact trivial | exact rfl | refine ⟨?_, ?_⟩)
  · rw [e_heap, e_list]
    try simp only [h_heap]

theorem heldTimers_c (S : Se P A) (x : Timers) (k : Int) (h0 : 0 <= k) (hk : k + 3 * (x.heap.length : Int) + 5 * (x.list.length : Int) <= 4611686018427387904) (h_heap : x.heap = marks mTwig 3 (k) x.heap.length) (h_list : x.list = marks mTimer 5 (k + 3 * (x.heap.length : Int)) x.list.length) : Is1 P 85 [.agg (roTimers A x), .int .i64 k] (.int .i64 (k + 3 * (x.heap.length : Int) + 5 * (x.list.length : Int))) := by
  obtain ⟨heap, list, next⟩ := x
  dsimp only at *
  refine S.cx.by (S.prog ▸ Tryz.func85) rfl rfl rfl rfl (fun hv ho => ?_)
  cbv
  refine ACall.int (dp := false) (heldTwigS_c S heap k (by lia) (by lia) (marks_of (by rw [show k = k by lia]; exact h_heap))) ⟨rfl, ?_, trivial⟩ rfl (fun q_heap hq_heap => ?_)
  · repeat' (first | exact trivial | exact rfl | refine ⟨?_, ?_⟩)
  cbv
  refine Test.lss (fun h => ?_) (fun h => ?_) <;> cbv
  · lia
  refine ACall.int (dp := false) (heldTimerS_c S list q_heap (by lia) (by lia) (marks_of (by rw [show q_heap = k + 3 * (heap.length : Int) by lia]; exact h_list))) ⟨rfl, ?_, trivial⟩ rfl (fun q_list hq_list => ?_)
  · repeat' (first | exact trivial | exact rfl | refine ⟨?_, ?_⟩)
  cbv
  refine Test.lss (fun h => ?_) (fun h => ?_) <;> cbv
  · lia
  exact Done.to (.int .i64 q_list) [] rfl rfl trivial ⟨by first | (congr 1; done) | (congr 1; lia), rfl⟩

theorem toSpread_c (S : Se P A) (x : Spread) (hb : x.few 4294967296) : Is1 P 51 [.agg (roSpread A x)] (.agg (ownSpread A x)) := by
  obtain ⟨told, work⟩ := x
  obtain ⟨b_told, b_work⟩ := hb
  dsimp only at b_told b_work
  refine S.cx.by (S.prog ▸ Tryz.func51) rfl rfl rfl rfl (fun hv ho => ?_)
  cbv
  refine ACall.own (dp := false) S.cx (toBoolS_c S told b_told) ⟨rfl, ?_, trivial⟩ rfl rfl (fun told0 n_told e_told l_told => ?_)
  · repeat' (first | exact trivial | exact rfl | refine ⟨?_, ?_⟩)
  subst e_told
  cbv
  refine ACall.own (dp := false) S.cx (toInt64S_c S work b_work) ⟨rfl, ?_, trivial⟩ rfl rfl (fun work0 n_work e_work l_work => ?_)
  · repeat' (first | exact trivial | exact rfl | refine ⟨?_, ?_⟩)
  subst e_work
  cbv
  exact Done.to (.agg (ownSpread A ⟨told0, work0⟩)) [] rfl ⟨resOwn S.cx rfl l_told, resOwn S.cx rfl l_work, trivial⟩ trivial ⟨rfl, rfl⟩

theorem szSpread_c (S : Se P A) (x : Spread) (left : Int) (h0 : 0 <= left) : Nums P 37 [.agg (roSpread A x), .int .i64 left] (fun n => n = -1 ∨ 0 <= n /\ n = left - x.total) := by
  obtain ⟨told, work⟩ := x
  refine S.cx.by (S.prog ▸ Tryz.func37) rfl rfl rfl rfl (fun hv ho => ?_)
  cbv
  refine ACall.int (dp := false) (szBoolS_c S told left (by lia)) ⟨rfl, ?_, trivial⟩ rfl (fun q_told h_told => ?_)
  · repeat' (first | exact trivial | exact rfl | refine ⟨?_, ?_⟩)
  cbv
  refine Test.lss (fun h => ?_) (fun h => ?_) <;> cbv
  · exact Done.num (.inl rfl)
  have h_told : q_told = left - told.length := by split at h_told <;> lia
  refine ACall.int (dp := false) (szInt64S_c S work q_told (by lia)) ⟨rfl, ?_, trivial⟩ rfl (fun q_work h_work => ?_)
  · repeat' (first | exact trivial | exact rfl | refine ⟨?_, ?_⟩)
  cbv
  refine Test.lss (fun h => ?_) (fun h => ?_) <;> cbv
  · exact Done.num (.inl rfl)
  have h_work : q_work = q_told - work.length := by split at h_work <;> lia
  exact Done.num (.inr ⟨by lia, by simp only [Spread.total]; lia⟩)

theorem eqSpread_c (S : Se P A) (x y : Spread) : Tests P 64 [.agg (roSpread A x), .agg (roSpread A y)] (x = y) := by
  obtain ⟨told, work⟩ := x
  obtain ⟨told', work'⟩ := y
  refine S.cx.by (S.prog ▸ Tryz.func64) rfl rfl rfl rfl (fun hv ho => ?_)
  cbv
  refine ACall.testD (dp := false) (eqBoolS_c S told told') ⟨rfl, ?_, trivial⟩ rfl (fun h => ?_) (fun h => ?_)
  · repeat' (first | exact trivial | exact rfl | refine ⟨?_, ?_⟩)
  rotate_left
  · cbv
    exact Done.no fun e => h (by cases e; rfl)
  cases h
  cbv
  refine ACall.testD (dp := false) (eqInt64S_c S work work') ⟨rfl, ?_, trivial⟩ rfl (fun h => ?_) (fun h => ?_)
  · repeat' (first | exact trivial | exact rfl | refine ⟨?_, ?_⟩)
  rotate_left
  · cbv
    exact Done.no fun e => h (by cases e; rfl)
  cases h
  cbv
  exact Done.yes rfl

theorem markSpread_c (S : Se P A) (told : List Bool) (work : List Int) (n_told : Nat) (hn_told : n_told = told.length) (n_work : Nat) (hn_work : n_work = work.length) (k : Int) (h0 : 0 <= k) (hk : k + 1 * (n_told : Int) + 1 * (n_work : Int) <= 4611686018427387904) : SoundM P 74 false [.agg [.ref false 1000 0 n_told, .ref false 2000 0 n_work], .int .i64 k] [.arr 1 true (A.enc cBool told), .arr 1 true (A.enc cInt64 work)]
    (fun v os => v = .int .i64 (k + 1 * (n_told : Int) + 1 * (n_work : Int)) /\ os = [some (.arr 1 true (A.enc cBool (marks mBool 1 (k) n_told))), some (.arr 1 true (A.enc cInt64 (marks mInt64 1 (k + 1 * (n_told : Int)) n_work)))]) := by
  refine S.cx.by (S.prog ▸ Tryz.func74) rfl rfl rfl rfl (fun hv ho => ?_)
  cbv
  refine ACall.mut1 (dp := false) (markBoolS_c S told n_told hn_told k (by lia) (by lia)) ⟨rfl, ?_, ?_⟩ rfl (fun q_told m_told h_told e_told => ⟨rfl, ?_⟩)
  · repeat' (first | exact trivial | exact rfl | refine ⟨?_, ?_⟩)
  · repeat' (first | exact trivial | exact rfl | exact Nat.le_refl _ | exact S.cx.giveEq | refine ⟨?_, ?_⟩)
  cbv
  refine ACall.mut1 (dp := false) (markInt64S_c S work n_work hn_work q_told (by lia) (by lia)) ⟨rfl, ?_, ?_⟩ rfl (fun q_work m_work h_work e_work => ⟨rfl, ?_⟩)
  · repeat' (first | exact trivial | exact rfl | refine ⟨?_, ?_⟩)
  · repeat' (first | exact trivial | exact rfl | exact Nat.le_refl _ | exact S.cx.giveEq | refine ⟨?_, ?_⟩)
  cbv
  refine Done.to (.int .i64 q_work) [some (.arr 1 true (A.enc cBool m_told)), some (.arr 1 true (A.enc cInt64 m_work))] rfl rfl ?_ ⟨by first | (congr 1; done) | (congr 1; lia), ?_⟩
  · repeat' (first | exact trivial | exact rfl | refine ⟨?_, ?_⟩)
  · rw [e_told, e_work]
    try simp only [h_told]

theorem heldSpread_c (S : Se P A) (x : Spread) (k : Int) (h0 : 0 <= k) (hk : k + 1 * (x.told.length : Int) + 1 * (x.work.length : Int) <= 4611686018427387904) (h_told : x.told = marks mBool 1 (k) x.told.length) (h_work : x.work = marks mInt64 1 (k + 1 * (x.told.length : Int)) x.work.length) : Is1 P 84 [.agg (roSpread A x), .int .i64 k] (.int .i64 (k + 1 * (x.told.length : Int) + 1 * (x.work.length : Int))) := by
  obtain ⟨told, work⟩ := x
  dsimp only at *
  refine S.cx.by (S.prog ▸ Tryz.func84) rfl rfl rfl rfl (fun hv ho => ?_)
  cbv
  refine ACall.int (dp := false) (heldBoolS_c S told k (by lia) (by lia) (marks_of (by rw [show k = k by lia]; exact h_told))) ⟨rfl, ?_, trivial⟩ rfl (fun q_told hq_told => ?_)
  · repeat' (first | exact trivial | exact rfl | refine ⟨?_, ?_⟩)
  cbv
  refine Test.lss (fun h => ?_) (fun h => ?_) <;> cbv
  · lia
  refine ACall.int (dp := false) (heldInt64S_c S work q_told (by lia) (by lia) (marks_of (by rw [show q_told = k + 1 * (told.length : Int) by lia]; exact h_work))) ⟨rfl, ?_, trivial⟩ rfl (fun q_work hq_work => ?_)
  · repeat' (first | exact trivial | exact rfl | refine ⟨?_, ?_⟩)
  cbv
  refine Test.lss (fun h => ?_) (fun h => ?_) <;> cbv
  · lia
  exact Done.to (.int .i64 q_work) [] rfl rfl trivial ⟨by first | (congr 1; done) | (congr 1; lia), rfl⟩

theorem toAfters_c (S : Se P A) (x : Afters) (hb : x.few 4294967296) : Is1 P 53 [.agg (roAfters A x)] (.agg (ownAfters A x)) := by
  obtain ⟨⟨ages, used⟩, list⟩ := x
  obtain ⟨b_ages, b_used, b_list⟩ := hb
  dsimp only at b_ages b_used b_list
  refine S.cx.by (S.prog ▸ Tryz.func53) rfl rfl rfl rfl (fun hv ho => ?_)
  cbv
  refine ACall.val (r := fun x : Slots => .agg (ownSlots A x)) (os := fun _ => []) (e := ⟨ages, used⟩) (dp := false) (toSlots_c S ⟨ages, used⟩ ⟨b_ages, b_used⟩) ⟨rfl, ?_, trivial⟩ rfl (fun x hx => ⟨rfl, ?_⟩)
  · repeat' (first | exact trivial | exact rfl | refine ⟨?_, ?_⟩)
  obtain ⟨ages0, used0⟩ := x
  injection hx with e_ages e_used
  subst e_ages
  subst e_used
  cbv
  refine ACall.own (dp := false) S.cx (toAfterS_c S list b_list) ⟨rfl, ?_, trivial⟩ rfl rfl (fun list0 n_list e_list l_list => ?_)
  · repeat' (first | exact trivial | exact rfl | refine ⟨?_, ?_⟩)
  subst e_list
  cbv
  exact Done.to (.agg (ownAfters A ⟨⟨ages0, used0⟩, list0⟩)) [] rfl ⟨resOwn S.cx rfl (S.cx.lenE _ _), resOwn S.cx rfl (S.cx.lenE _ _), resOwn S.cx rfl l_list, trivial⟩ trivial ⟨rfl, rfl⟩

theorem szAfters_c (S : Se P A) (x : Afters) (left : Int) (h0 : 0 <= left) : Nums P 39 [.agg (roAfters A x), .int .i64 left] (fun n => n = -1 ∨ 0 <= n /\ n = left - x.total) := by
  obtain ⟨⟨ages, used⟩, list⟩ := x
  refine S.cx.by (S.prog ▸ Tryz.func39) rfl rfl rfl rfl (fun hv ho => ?_)
  cbv
  refine ACall.num (dp := false) (szSlots_c S ⟨ages, used⟩ left (by lia)) ⟨rfl, ?_, trivial⟩ (fun q_slots h_slots => ?_)
  · repeat' (first | exact trivial | exact rfl | refine ⟨?_, ?_⟩)
  cbv
  refine Test.lss (fun h => ?_) (fun h => ?_) <;> cbv
  · exact Done.num (.inl rfl)
  have h_slots : q_slots = left - Slots.total ⟨ages, used⟩ := by lia
  simp only [Slots.total] at h_slots
  refine ACall.int (dp := false) (szAfterS_c S list q_slots (by lia)) ⟨rfl, ?_, trivial⟩ rfl (fun q_list h_list => ?_)
  · repeat' (first | exact trivial | exact rfl | refine ⟨?_, ?_⟩)
  cbv
  refine Test.lss (fun h => ?_) (fun h => ?_) <;> cbv
  · exact Done.num (.inl rfl)
  have h_list : q_list = q_slots - list.length := by split at h_list <;> lia
  exact Done.num (.inr ⟨by lia, by simp only [Afters.total]; lia⟩)

theorem eqAfters_c (S : Se P A) (x y : Afters) : Tests P 66 [.agg (roAfters A x), .agg (roAfters A y)] (x = y) := by
  obtain ⟨⟨ages, used⟩, list⟩ := x
  obtain ⟨⟨ages', used'⟩, list'⟩ := y
  refine S.cx.by (S.prog ▸ Tryz.func66) rfl rfl rfl rfl (fun hv ho => ?_)
  cbv
  refine ACall.testD (dp := false) (eqSlots_c S ⟨ages, used⟩ ⟨ages', used'⟩) ⟨rfl, ?_, trivial⟩ rfl (fun h => ?_) (fun h => ?_)
  · repeat' (first | exact trivial | exact rfl | refine ⟨?_, ?_⟩)
  rotate_left
  · cbv
    exact Done.no fun e => h (by cases e; rfl)
  cases h
  cbv
  refine ACall.testD (dp := false) (eqAfterS_c S list list') ⟨rfl, ?_, trivial⟩ rfl (fun h => ?_) (fun h => ?_)
  · repeat' (first | exact trivial | exact rfl | refine ⟨?_, ?_⟩)
  rotate_left
  · cbv
    exact Done.no fun e => h (by cases e; rfl)
  cases h
  cbv
  exact Done.yes rfl

theorem markAfters_c (S : Se P A) (ages : List Int) (used : List Bool) (list : List After) (n_ages : Nat) (hn_ages : n_ages = ages.length) (n_used : Nat) (hn_used : n_used = used.length) (n_list : Nat) (hn_list : n_list = list.length) (k : Int) (h0 : 0 <= k) (hk : k + 1 * (n_ages : Int) + 1 * (n_used : Int) + 5 * (n_list : Int) <= 4611686018427387904) : SoundM P 76 false [.agg [.ref false 1000 0 n_ages, .ref false 2000 0 n_used, .ref false 3000 0 n_list], .int .i64 k] [.arr 1 true (A.enc cInt64 ages), .arr 1 true (A.enc cBool used), .arr 5 true (A.enc cAfter list)]
    (fun v os => v = .int .i64 (k + 1 * (n_ages : Int) + 1 * (n_used : Int) + 5 * (n_list : Int)) /\ os = [some (.arr 1 true (A.enc cInt64 (marks mInt64 1 (k) n_ages))), some (.arr 1 true (A.enc cBool (marks mBool 1 (k + 1 * (n_ages : Int)) n_used))), some (.arr 5 true (A.enc cAfter (marks mAfter 5 (k + 1 * (n_ages : Int) + 1 * (n_used : Int)) n_list)))]) := by
  refine S.cx.by (S.prog ▸ Tryz.func76) rfl rfl rfl rfl (fun hv ho => ?_)
  cbv
  refine ACall.mut2 (dp := false) (markSlots_c S ages used n_ages hn_ages n_used hn_used k (by lia) (by lia)) ⟨rfl, ?_, ?_⟩ rfl (fun q_slots m_ages m_used h_slots e_ages e_used => ⟨rfl, ?_⟩)
  · repeat' (first | exact trivial | exact rfl | refine ⟨?_, ?_⟩)
  · repeat' (first | exact trivial | exact rfl | exact Nat.le_refl _ | exact S.cx.giveEq | refine ⟨?_, ?_⟩)
  cbv
  refine ACall.mut1 (dp := false) (markAfterS_c S list n_list hn_list q_slots (by lia) (by lia)) ⟨rfl, ?_, ?_⟩ rfl (fun q_list m_list h_list e_list => ⟨rfl, ?_⟩)
  · repeat' (first | exact trivial | exact rfl | refine ⟨?_, ?_⟩)
  · repeat' (first | exact trivial | exact rfl | exact Nat.le_refl _ | exact S.cx.giveEq | refine ⟨?_, ?_⟩)
  cbv
  refine Done.to (.int .i64 q_list) [some (.arr 1 true (A.enc cInt64 m_ages)), some (.arr 1 true (A.enc cBool m_used)), some (.arr 5 true (A.enc cAfter m_list))] rfl rfl ?_ ⟨by first | (congr 1; done) | (congr 1; lia), ?_⟩
  · repeat' (first | exact trivial | exact rfl | refine ⟨?_, ?_⟩)
  · rw [e_ages, e_used, e_list]
    try simp only [h_slots]

theorem heldAfters_c (S : Se P A) (x : Afters) (k : Int) (h0 : 0 <= k) (hk : k + 1 * (x.slots.ages.length : Int) + 1 * (x.slots.used.length : Int) + 5 * (x.list.length : Int) <= 4611686018427387904) (h_ages : x.slots.ages = marks mInt64 1 (k) x.slots.ages.length) (h_used : x.slots.used = marks mBool 1 (k + 1 * (x.slots.ages.length : Int)) x.slots.used.length) (h_list : x.list = marks mAfter 5 (k + 1 * (x.slots.ages.length : Int) + 1 * (x.slots.used.length : Int)) x.list.length) : Is1 P 86 [.agg (roAfters A x), .int .i64 k] (.int .i64 (k + 1 * (x.slots.ages.length : Int) + 1 * (x.slots.used.length : Int) + 5 * (x.list.length : Int))) := by
  obtain ⟨⟨ages, used⟩, list⟩ := x
  dsimp only at *
  refine S.cx.by (S.prog ▸ Tryz.func86) rfl rfl rfl rfl (fun hv ho => ?_)
  cbv
  refine ACall.int (dp := false) (heldSlots_c S ⟨ages, used⟩ k (by lia) (by dsimp only; lia) h_ages h_used) ⟨rfl, ?_, trivial⟩ rfl (fun q_slots hq_slots => ?_)
  · repeat' (first | exact trivial | exact rfl | refine ⟨?_, ?_⟩)
  cbv
  replace hq_slots : q_slots = k + 1 * (ages.length : Int) + 1 * (used.length : Int) := by lia
  refine Test.lss (fun h => ?_) (fun h => ?_) <;> cbv
  · lia
  refine ACall.int (dp := false) (heldAfterS_c S list q_slots (by lia) (by lia) (marks_of (by rw [show q_slots = k + 1 * (ages.length : Int) + 1 * (used.length : Int) by lia]; exact h_list))) ⟨rfl, ?_, trivial⟩ rfl (fun q_list hq_list => ?_)
  · repeat' (first | exact trivial | exact rfl | refine ⟨?_, ?_⟩)
  cbv
  refine Test.lss (fun h => ?_) (fun h => ?_) <;> cbv
  · lia
  exact Done.to (.int .i64 q_list) [] rfl rfl trivial ⟨by first | (congr 1; done) | (congr 1; lia), rfl⟩

theorem toGroup_c (S : Se P A) (x : Group) (hb : x.few 4294967296) : Is1 P 157 [.agg (roGroup A x)] (.agg (ownGroup A x)) := by
  obtain ⟨node, limit, active, waits, first⟩ := x
  have b_waits : waits.length <= 4294967296 := hb
  refine S.cx.by (S.prog ▸ Tryz.func157) rfl rfl rfl rfl (fun hv ho => ?_)
  cbv
  refine ACall.own (dp := false) S.cx (toInt64S_c S waits b_waits) ⟨rfl, ?_, trivial⟩ rfl rfl (fun waits0 n_waits e_waits l_waits => ?_)
  · repeat' (first | exact trivial | exact rfl | refine ⟨?_, ?_⟩)
  subst e_waits
  cbv
  exact Done.to (.agg (ownGroup A ⟨node, limit, active, waits0, first⟩)) [] rfl ⟨rfl, rfl, rfl, resOwn S.cx rfl l_waits, rfl, trivial⟩ trivial ⟨rfl, rfl⟩

theorem szGroup_c (S : Se P A) (x : Group) (left : Int) (h0 : 0 <= left) : Nums P 129 [.agg (roGroup A x), .int .i64 left] (fun n => n = -1 ∨ 0 <= n /\ n = left - x.total) := by
  obtain ⟨node, limit, active, waits, first⟩ := x
  refine S.cx.by (S.prog ▸ Tryz.func129) rfl rfl rfl rfl (fun hv ho => ?_)
  cbv
  refine ACall.int (dp := false) (szInt64S_c S waits left (by lia)) ⟨rfl, ?_, trivial⟩ rfl (fun q_waits h_waits => ?_)
  · repeat' (first | exact trivial | exact rfl | refine ⟨?_, ?_⟩)
  cbv
  refine Test.lss (fun h => ?_) (fun h => ?_) <;> cbv
  · exact Done.num (.inl rfl)
  have h_waits : q_waits = left - waits.length := by split at h_waits <;> lia
  exact Done.num (.inr ⟨by lia, by simp only [Group.total]; lia⟩)

theorem eqGroup_c (S : Se P A) (x y : Group) : Tests P 172 [.agg (roGroup A x), .agg (roGroup A y)] (x = y) := by
  obtain ⟨node, limit, active, waits, first⟩ := x
  obtain ⟨node', limit', active', waits', first'⟩ := y
  refine S.cx.by (S.prog ▸ Tryz.func172) rfl rfl rfl rfl (fun hv ho => ?_)
  cbv
  refine Test.neq (fun h => ?_) (fun h => ?_) <;> cbv
  · exact Done.no fun e => h (by cases e; rfl)
  subst h
  refine Test.neq (fun h => ?_) (fun h => ?_) <;> cbv
  · exact Done.no fun e => h (by cases e; rfl)
  subst h
  refine Test.neq (fun h => ?_) (fun h => ?_) <;> cbv
  · exact Done.no fun e => h (by cases e; rfl)
  subst h
  refine ACall.testD (dp := false) (eqInt64S_c S waits waits') ⟨rfl, ?_, trivial⟩ rfl (fun h => ?_) (fun h => ?_)
  · repeat' (first | exact trivial | exact rfl | refine ⟨?_, ?_⟩)
  rotate_left
  · cbv
    exact Done.no fun e => h (by cases e; rfl)
  cases h
  cbv
  refine Test.neq (fun h => ?_) (fun h => ?_) <;> cbv
  · exact Done.no fun e => h (by cases e; rfl)
  subst h
  exact Done.yes rfl

end Go.Proofs.YtihfpbhalnedcaaGreat.AM
