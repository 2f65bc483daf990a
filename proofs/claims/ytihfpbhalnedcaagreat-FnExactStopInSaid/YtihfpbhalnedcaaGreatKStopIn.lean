/- Contracts: StopIn. (printed by gw41.py) -/
import Derived.Test.YtihfpbhalnedcaaGreatW41
import Derived.Test.YtihfpbhalnedcaaGreatVTim
import Derived.Test.YtihfpbhalnedcaaGreatE20
set_option linter.unusedVariables false
set_option linter.unusedSimpArgs false
namespace Go.Proofs.YtihfpbhalnedcaaGreat.AM
open Go Go.Proofs

set_option maxRecDepth 100000
set_option maxHeartbeats 4000000

variable {P : Program} {A : Sy}

theorem isPlain_c (S : Se P A) (now : Int) (progs : List (List Ins)) (tree : List Node) (events : List Event) (told : List Bool) (work : List Int) (heap : List Twig) (list : List Timer) (next : Int) (ages : List Int) (used : List Bool) (alist : List After) (tasks : List Task) (groups : List Group) (sights : List Sight) (began rang : List Int) (q : Int) : Tests P 116 [.agg (roWorld A ⟨now, progs, tree, events, ⟨told, work⟩, ⟨heap, list, next⟩, ⟨⟨ages, used⟩, alist⟩, tasks, groups, sights, began, rang⟩), .int .i64 q] (PlainT ⟨heap, list, next⟩ q) := by
  refine S.cx.byS [99999] (S.prog ▸ Tryz.func116) rfl rfl rfl rfl (fun ln hln hv ho => ?_)
  (cbv; repeat (refine Later.mk ?_; cbv))
  clear hv ho
  refine ACall.int (dp := false) (timAt_c S heap list next q) .go rfl (fun r hr => ?_); (cbv; repeat (refine Later.mk ?_; cbv))
  refine Test.geq (fun h => ?_) (fun h => ?_) <;> (cbv; repeat (refine Later.mk ?_; cbv))
  rotate_left
  · exact Done.no (fun e => by have h9 := e.1; dsimp only at h9; omega)
  have hso := @timIdx_some list q
  rw [<- hr] at hso
  obtain ⟨⟨ys, yd, yw, yh, ya⟩, hy, he⟩ := hso (by omega)
  (try (refine Drawn.mk ⟨by kernel_rfl, fun _ => ?_⟩)); (repeat (refine Later.mk ?_; cbv))
  refine ElemRo.at S.cx (x := (⟨ys, yd, yw, yh, ya⟩ : Timer)) rfl h hy ?_; (cbv; repeat (refine Later.mk ?_; cbv))
  refine Test.eql (fun h2 => ?_) (fun h2 => ?_) <;> (cbv; repeat (refine Later.mk ?_; cbv))
  · exact Done.yes ⟨by dsimp only; rw [<- hr]; exact h, ⟨_, by dsimp only; rw [<- hr]; exact hy, h2⟩⟩
  · exact Done.no (fun e => by
      obtain ⟨x, hx, hw⟩ := e.2
      dsimp only at hx
      rw [<- hr] at hx
      have e3 := hy.symm.trans hx
      injection e3 with e3
      exact h2 (by rw [<- e3] at hw; exact hw))

theorem l14Plain_c (S : Se P A) (now : Int) (progs : List (List Ins)) (tree : List Node) (events : List Event) (told : List Bool) (work : List Int) (heap : List Twig) (list : List Timer) (next : Int) (ages : List Int) (used : List Bool) (alist : List After) (tasks : List Task) (groups : List Group) (sights : List Sight) (began rang : List Int) (q : Int) : Tests P 113 [.agg (roWorld A ⟨now, progs, tree, events, ⟨told, work⟩, ⟨heap, list, next⟩, ⟨⟨ages, used⟩, alist⟩, tasks, groups, sights, began, rang⟩), .int .i64 q] (PlainT ⟨heap, list, next⟩ q) := by
  refine S.cx.byS [99999] (S.prog ▸ Tryz.func113) rfl rfl rfl rfl (fun ln hln hv ho => ?_)
  (cbv; repeat (refine Later.mk ?_; cbv))
  clear hv ho
  refine ACall.int (dp := false) (l4At_c S heap list next q) .go rfl (fun r hr => ?_); (cbv; repeat (refine Later.mk ?_; cbv))
  refine Test.geq (fun h => ?_) (fun h => ?_) <;> (cbv; repeat (refine Later.mk ?_; cbv))
  rotate_left
  · exact Done.no (fun e => by have h9 := e.1; dsimp only at h9; omega)
  have hso := @timIdx_some list q
  rw [<- hr] at hso
  obtain ⟨⟨ys, yd, yw, yh, ya⟩, hy, he⟩ := hso (by omega)
  (try (refine Drawn.mk ⟨by kernel_rfl, fun _ => ?_⟩)); (repeat (refine Later.mk ?_; cbv))
  refine ElemRo.at S.cx (x := (⟨ys, yd, yw, yh, ya⟩ : Timer)) rfl h hy ?_; (cbv; repeat (refine Later.mk ?_; cbv))
  refine Test.eql (fun h2 => ?_) (fun h2 => ?_) <;> (cbv; repeat (refine Later.mk ?_; cbv))
  · exact Done.yes ⟨by dsimp only; rw [<- hr]; exact h, ⟨_, by dsimp only; rw [<- hr]; exact hy, h2⟩⟩
  · exact Done.no (fun e => by
      obtain ⟨x, hx, hw⟩ := e.2
      dsimp only at hx
      rw [<- hr] at hx
      have e3 := hy.symm.trans hx
      injection e3 with e3
      exact h2 (by rw [<- e3] at hw; exact hw))

theorem stopIn1_c (S : Se P A) (now : Int) (progs : List (List Ins)) (tree : List Node) (events : List Event) (told : List Bool) (work : List Int) (heap : List Twig) (list : List Timer) (next : Int) (ages : List Int) (used : List Bool) (alist : List After) (tasks : List Task) (groups : List Group) (sights : List Sight) (began rang : List Int) (q : Int) (hok : WorldOk ⟨now, progs, tree, events, ⟨told, work⟩, ⟨heap, list, next⟩, ⟨⟨ages, used⟩, alist⟩, tasks, groups, sights, began, rang⟩) : SoundM P 115 false [.ptr 1000 0 0, .rptr [.int .i64 q]] [.box (ownWorld A ⟨now, progs, tree, events, ⟨told, work⟩, ⟨heap, list, next⟩, ⟨⟨ages, used⟩, alist⟩, tasks, groups, sights, began, rang⟩)]
    (fun v os => v = .bool (StopD q ⟨now, progs, tree, events, ⟨told, work⟩, ⟨heap, list, next⟩, ⟨⟨ages, used⟩, alist⟩, tasks, groups, sights, began, rang⟩).2 /\ os = [some (.box (ownWorld A (StopD q ⟨now, progs, tree, events, ⟨told, work⟩, ⟨heap, list, next⟩, ⟨⟨ages, used⟩, alist⟩, tasks, groups, sights, began, rang⟩).1))]) := by
  have hto : TimersOk ⟨heap, list, next⟩ := hok.2.2.2.2.2.1.1
  refine S.cx.byS [99999] (S.prog ▸ Tryz.func115) rfl rfl rfl rfl (fun ln hln hv ho => ?_)
  (cbv; repeat (refine Later.mk ?_; cbv))
  have hn_progs := hln (ownProg A) progs
  generalize ln (A.enc (ownProg A) progs) = n_progs at hn_progs ⊢
  have hn_tree := hln cNode tree
  generalize ln (A.enc cNode tree) = n_tree at hn_tree ⊢
  have hn_events := hln cEvent events
  generalize ln (A.enc cEvent events) = n_events at hn_events ⊢
  have hn_told := hln cBool told
  generalize ln (A.enc cBool told) = n_told at hn_told ⊢
  have hn_work := hln cInt64 work
  generalize ln (A.enc cInt64 work) = n_work at hn_work ⊢
  have hn_heap := hln cTwig heap
  generalize ln (A.enc cTwig heap) = n_heap at hn_heap ⊢
  have hn_list := hln cTimer list
  generalize ln (A.enc cTimer list) = n_list at hn_list ⊢
  have hn_ages := hln cInt64 ages
  generalize ln (A.enc cInt64 ages) = n_ages at hn_ages ⊢
  have hn_used := hln cBool used
  generalize ln (A.enc cBool used) = n_used at hn_used ⊢
  have hn_alist := hln cAfter alist
  generalize ln (A.enc cAfter alist) = n_alist at hn_alist ⊢
  have hn_tasks := hln cTask tasks
  generalize ln (A.enc cTask tasks) = n_tasks at hn_tasks ⊢
  have hn_groups := hln (ownGroup A) groups
  generalize ln (A.enc (ownGroup A) groups) = n_groups at hn_groups ⊢
  have hn_sights := hln cSight sights
  generalize ln (A.enc cSight sights) = n_sights at hn_sights ⊢
  have hn_began := hln cInt64 began
  generalize ln (A.enc cInt64 began) = n_began at hn_began ⊢
  have hn_rang := hln cInt64 rang
  generalize ln (A.enc cInt64 rang) = n_rang at hn_rang ⊢
  clear hv ho
  (try (refine Drawn.mk ⟨by kernel_rfl, fun _ => ?_⟩)); (repeat (refine Later.mk ?_; cbv))
  refine ACall.testD (dp := false) (isPlain_c S now progs tree events told work heap list next ages used alist tasks groups sights began rang q) .go rfl (fun h => ?_) (fun h => ?_) <;> (cbv; repeat (refine Later.mk ?_; cbv))
  rotate_left
  · have hD : StopD q ⟨now, progs, tree, events, ⟨told, work⟩, ⟨heap, list, next⟩, ⟨⟨ages, used⟩, alist⟩, tasks, groups, sights, began, rang⟩ = (⟨now, progs, tree, events, ⟨told, work⟩, ⟨heap, list, next⟩, ⟨⟨ages, used⟩, alist⟩, tasks, groups, sights, began, rang⟩, false) := if_neg h
    rw [hD]
    exact Done.toA (.bool false) [some (.box (ownWorld A ⟨now, progs, tree, events, ⟨told, work⟩, ⟨heap, list, next⟩, ⟨⟨ages, used⟩, alist⟩, tasks, groups, sights, began, rang⟩))] ⟨rfl, rfl⟩

  (try (refine Drawn.mk ⟨by kernel_rfl, fun _ => ?_⟩)); (repeat (refine Later.mk ?_; cbv))
  refine ACall.valN (r := rTB1) (os := oTB A) (dp := false) S.cx (stop_c S heap list next q hto) .go rfl (fun ln hln x hx => ⟨rfl, ?_⟩)
  obtain ⟨⟨heap2, list2, next2⟩, b⟩ := x
  (cbv; repeat (refine Later.mk ?_; cbv))
  have hn_heap2 := hln cTwig heap2
  generalize ln (A.enc cTwig heap2) = n_heap2 at hn_heap2 ⊢
  have hn_list2 := hln cTimer list2
  generalize ln (A.enc cTimer list2) = n_list2 at hn_list2 ⊢
  have hR : stopT ⟨heap, list, next⟩ q = (⟨heap2, list2, next2⟩, b) := hx.symm
  have hD : StopD q ⟨now, progs, tree, events, ⟨told, work⟩, ⟨heap, list, next⟩, ⟨⟨ages, used⟩, alist⟩, tasks, groups, sights, began, rang⟩ = (⟨now, progs, tree, events, ⟨told, work⟩, ⟨heap2, list2, next2⟩, ⟨⟨ages, used⟩, alist⟩, tasks, groups, sights, began, rang⟩, b) := by rw [StopD, if_pos h]; dsimp only; rw [hR]
  rw [hD]
  (try (refine Drawn.mk ⟨by kernel_rfl, fun _ => ?_⟩)); (repeat (refine Later.mk ?_; cbv))
  cases b <;> ((cbv; repeat (refine Later.mk ?_; cbv)); repeat (refine Later.mk ?_; (cbv; repeat (refine Later.mk ?_; cbv))))
  · exact Done.toA (.bool false) [some (.box (ownWorld A ⟨now, progs, tree, events, ⟨told, work⟩, ⟨heap2, list2, next2⟩, ⟨⟨ages, used⟩, alist⟩, tasks, groups, sights, began, rang⟩))] ⟨rfl, rfl⟩
  · exact Done.toA (.bool true) [some (.box (ownWorld A ⟨now, progs, tree, events, ⟨told, work⟩, ⟨heap2, list2, next2⟩, ⟨⟨ages, used⟩, alist⟩, tasks, groups, sights, began, rang⟩))] ⟨rfl, rfl⟩

theorem implStopIn_c (S : Se P A) (now : Int) (progs : List (List Ins)) (tree : List Node) (events : List Event) (told : List Bool) (work : List Int) (heap : List Twig) (list : List Timer) (next : Int) (ages : List Int) (used : List Bool) (alist : List After) (tasks : List Task) (groups : List Group) (sights : List Sight) (began rang : List Int) (q : Int) (hfew : (⟨now, progs, tree, events, ⟨told, work⟩, ⟨heap, list, next⟩, ⟨⟨ages, used⟩, alist⟩, tasks, groups, sights, began, rang⟩ : World).few 1048576) : Is1 P 31 [.agg (roWorld A ⟨now, progs, tree, events, ⟨told, work⟩, ⟨heap, list, next⟩, ⟨⟨ages, used⟩, alist⟩, tasks, groups, sights, began, rang⟩), .int .i64 q] (rWB A (StopIn ⟨now, progs, tree, events, ⟨told, work⟩, ⟨heap, list, next⟩, ⟨⟨ages, used⟩, alist⟩, tasks, groups, sights, began, rang⟩ q)) := by
  refine S.cx.byS [99999] (S.prog ▸ Tryz.func31) rfl rfl rfl rfl (fun ln hln hv ho => ?_)
  (cbv; repeat (refine Later.mk ?_; cbv))
  clear hv ho
  refine ACall.valN (r := rWB A) (os := fun _ => []) (dp := false) S.cx (asked1_c S now progs tree events told work heap list next ages used alist tasks groups sights began rang hfew _ [.int .i64 q] (StopD q) (fun h => stopIn1_c S now progs tree events told work heap list next ages used alist tasks groups sights began rang q h)) .go rfl (fun ln hln x hx => ⟨rfl, ?_⟩)
  obtain ⟨⟨nowx, progsx, treex, eventsx, ⟨toldx, workx⟩, ⟨heapx, listx, nextx⟩, ⟨⟨agesx, usedx⟩, alistx⟩, tasksx, groupsx, sightsx, beganx, rangx⟩, b⟩ := x
  (cbv; repeat (refine Later.mk ?_; cbv))
  have hN_progs := hln (ownProg A) progsx
  generalize ln (A.enc (ownProg A) progsx) = N_progs at hN_progs ⊢
  have hN_tree := hln cNode treex
  generalize ln (A.enc cNode treex) = N_tree at hN_tree ⊢
  have hN_events := hln cEvent eventsx
  generalize ln (A.enc cEvent eventsx) = N_events at hN_events ⊢
  have hN_told := hln cBool toldx
  generalize ln (A.enc cBool toldx) = N_told at hN_told ⊢
  have hN_work := hln cInt64 workx
  generalize ln (A.enc cInt64 workx) = N_work at hN_work ⊢
  have hN_heap := hln cTwig heapx
  generalize ln (A.enc cTwig heapx) = N_heap at hN_heap ⊢
  have hN_list := hln cTimer listx
  generalize ln (A.enc cTimer listx) = N_list at hN_list ⊢
  have hN_ages := hln cInt64 agesx
  generalize ln (A.enc cInt64 agesx) = N_ages at hN_ages ⊢
  have hN_used := hln cBool usedx
  generalize ln (A.enc cBool usedx) = N_used at hN_used ⊢
  have hN_alist := hln cAfter alistx
  generalize ln (A.enc cAfter alistx) = N_alist at hN_alist ⊢
  have hN_tasks := hln cTask tasksx
  generalize ln (A.enc cTask tasksx) = N_tasks at hN_tasks ⊢
  have hN_groups := hln (ownGroup A) groupsx
  generalize ln (A.enc (ownGroup A) groupsx) = N_groups at hN_groups ⊢
  have hN_sights := hln cSight sightsx
  generalize ln (A.enc cSight sightsx) = N_sights at hN_sights ⊢
  have hN_began := hln cInt64 beganx
  generalize ln (A.enc cInt64 beganx) = N_began at hN_began ⊢
  have hN_rang := hln cInt64 rangx
  generalize ln (A.enc cInt64 rangx) = N_rang at hN_rang ⊢
  exact Done.toA (rWB A (⟨nowx, progsx, treex, eventsx, ⟨toldx, workx⟩, ⟨heapx, listx, nextx⟩, ⟨⟨agesx, usedx⟩, alistx⟩, tasksx, groupsx, sightsx, beganx, rangx⟩, b)) [] ⟨by rw [stopIn_asked, <- hx], rfl⟩

theorem specStopIn_c (S : Se P A) (now : Int) (progs : List (List Ins)) (tree : List Node) (events : List Event) (told : List Bool) (work : List Int) (heap : List Twig) (list : List Timer) (next : Int) (ages : List Int) (used : List Bool) (alist : List After) (tasks : List Task) (groups : List Group) (sights : List Sight) (began rang : List Int) (q : Int) (hfew : (⟨now, progs, tree, events, ⟨told, work⟩, ⟨heap, list, next⟩, ⟨⟨ages, used⟩, alist⟩, tasks, groups, sights, began, rang⟩ : World).few 1048576) : Is1 P 30 [.agg (roWorld A ⟨now, progs, tree, events, ⟨told, work⟩, ⟨heap, list, next⟩, ⟨⟨ages, used⟩, alist⟩, tasks, groups, sights, began, rang⟩), .int .i64 q] (rWB A (StopIn ⟨now, progs, tree, events, ⟨told, work⟩, ⟨heap, list, next⟩, ⟨⟨ages, used⟩, alist⟩, tasks, groups, sights, began, rang⟩ q)) := by
  refine S.cx.byS [99999] (S.prog ▸ Tryz.func30) rfl rfl rfl rfl (fun ln hln hv ho => ?_)
  (cbv; repeat (refine Later.mk ?_; cbv))
  clear hv ho
  refine ACall.testD (dp := false) (specWorldOk_c S now progs tree events told work heap list next ages used alist tasks groups sights began rang) .go rfl (fun h => ?_) (fun h => ?_) <;> (cbv; repeat (refine Later.mk ?_; cbv))
  rotate_left
  · exact Done.isA (r := rWB A) (x := (world0, false)) (if_neg h)
  (try (refine Drawn.mk ⟨by kernel_rfl, fun _ => ?_⟩)); (repeat (refine Later.mk ?_; cbv))
  refine ACall.valN (r := (fun x : World => .agg (ownWorld A x))) (os := fun _ => []) (dp := false) S.cx (l13Copy_c S now progs tree events told work heap list next ages used alist tasks groups sights began rang hfew) .go rfl (fun ln hln x hx => ⟨rfl, ?_⟩)
  obtain ⟨nowc, progsc, treec, eventsc, ⟨toldc, workc⟩, ⟨heapc, listc, nextc⟩, ⟨⟨agesc, usedc⟩, alistc⟩, tasksc, groupsc, sightsc, beganc, rangc⟩ := x
  cases hx
  (cbv; repeat (refine Later.mk ?_; cbv))
  have hn_progs := hln (ownProg A) progs
  generalize ln (A.enc (ownProg A) progs) = n_progs at hn_progs ⊢
  have hn_tree := hln cNode tree
  generalize ln (A.enc cNode tree) = n_tree at hn_tree ⊢
  have hn_events := hln cEvent events
  generalize ln (A.enc cEvent events) = n_events at hn_events ⊢
  have hn_told := hln cBool told
  generalize ln (A.enc cBool told) = n_told at hn_told ⊢
  have hn_work := hln cInt64 work
  generalize ln (A.enc cInt64 work) = n_work at hn_work ⊢
  have hn_heap := hln cTwig heap
  generalize ln (A.enc cTwig heap) = n_heap at hn_heap ⊢
  have hn_list := hln cTimer list
  generalize ln (A.enc cTimer list) = n_list at hn_list ⊢
  have hn_ages := hln cInt64 ages
  generalize ln (A.enc cInt64 ages) = n_ages at hn_ages ⊢
  have hn_used := hln cBool used
  generalize ln (A.enc cBool used) = n_used at hn_used ⊢
  have hn_alist := hln cAfter alist
  generalize ln (A.enc cAfter alist) = n_alist at hn_alist ⊢
  have hn_tasks := hln cTask tasks
  generalize ln (A.enc cTask tasks) = n_tasks at hn_tasks ⊢
  have hn_groups := hln (ownGroup A) groups
  generalize ln (A.enc (ownGroup A) groups) = n_groups at hn_groups ⊢
  have hn_sights := hln cSight sights
  generalize ln (A.enc cSight sights) = n_sights at hn_sights ⊢
  have hn_began := hln cInt64 began
  generalize ln (A.enc cInt64 began) = n_began at hn_began ⊢
  have hn_rang := hln cInt64 rang
  generalize ln (A.enc cInt64 rang) = n_rang at hn_rang ⊢
  (try (refine Drawn.mk ⟨by kernel_rfl, fun _ => ?_⟩)); (repeat (refine Later.mk ?_; cbv))
  refine ACall.testD (dp := false) (l14Plain_c S now progs tree events told work heap list next ages used alist tasks groups sights began rang q) .go rfl (fun hp => ?_) (fun hp => ?_) <;> (cbv; repeat (refine Later.mk ?_; cbv))
  rotate_left
  · (try (refine Drawn.mk ⟨by kernel_rfl, fun _ => ?_⟩)); (repeat (refine Later.mk ?_; cbv))
    exact Done.isA (r := rWB A) (x := (⟨now, progs, tree, events, ⟨told, work⟩, ⟨heap, list, next⟩, ⟨⟨ages, used⟩, alist⟩, tasks, groups, sights, began, rang⟩, false)) (by rw [StopIn, if_pos h, StopD, if_neg hp])
  (try (refine Drawn.mk ⟨by kernel_rfl, fun _ => ?_⟩)); (repeat (refine Later.mk ?_; cbv))
  refine ACall.valN (r := rTB A) (os := fun _ => []) (dp := false) S.cx (specStopped_c S heap list next q (Nat.le_trans hfew.timers.1 (by decide)) (Nat.le_trans hfew.timers.2 (by decide))) .go rfl (fun ln hln x hx => ⟨rfl, ?_⟩)
  obtain ⟨⟨heap2, list2, next2⟩, b⟩ := x
  (cbv; repeat (refine Later.mk ?_; cbv))
  have hn_heap2 := hln cTwig heap2
  generalize ln (A.enc cTwig heap2) = n_heap2 at hn_heap2 ⊢
  have hn_list2 := hln cTimer list2
  generalize ln (A.enc cTimer list2) = n_list2 at hn_list2 ⊢
  have hR : stopT ⟨heap, list, next⟩ q = (⟨heap2, list2, next2⟩, b) := by rw [<- (if_pos h.2.2.2.2.2.1.1 : Stopped ⟨heap, list, next⟩ q = _)]; exact hx.symm
  (try (refine Drawn.mk ⟨by kernel_rfl, fun _ => ?_⟩)); (repeat (refine Later.mk ?_; cbv))
  exact Done.isA (r := rWB A) (x := (⟨now, progs, tree, events, ⟨told, work⟩, ⟨heap2, list2, next2⟩, ⟨⟨ages, used⟩, alist⟩, tasks, groups, sights, began, rang⟩, b)) (by rw [StopIn, if_pos h, StopD, if_pos hp]; dsimp only; rw [hR])

end Go.Proofs.YtihfpbhalnedcaaGreat.AM
