/- Contracts: asked, at one shape of captures. (printed by gw31.py) -/
import Derived.Test.YtihfpbhalnedcaaGreatW31
set_option linter.unusedVariables false
set_option linter.unusedSimpArgs false
namespace Go.Proofs.YtihfpbhalnedcaaGreat.AM
open Go Go.Proofs

set_option maxRecDepth 100000
set_option maxHeartbeats 4000000

variable {P : Program} {A : Sy}

theorem asked1_c (S : Se P A) (now : Int) (progs : List (List Ins)) (tree : List Node) (events : List Event) (told : List Bool) (work : List Int) (heap : List Twig) (list : List Timer) (next : Int) (ages : List Int) (used : List Bool) (alist : List After) (tasks : List Task) (groups : List Group) (sights : List Sight) (began rang : List Int) (hfew : (⟨now, progs, tree, events, ⟨told, work⟩, ⟨heap, list, next⟩, ⟨⟨ages, used⟩, alist⟩, tasks, groups, sights, began, rang⟩ : World).few 1048576) (F : FuncId) (c1 : List AV) (D : World -> World × Bool) (hF : WorldOk ⟨now, progs, tree, events, ⟨told, work⟩, ⟨heap, list, next⟩, ⟨⟨ages, used⟩, alist⟩, tasks, groups, sights, began, rang⟩ -> SoundM P F false [.ptr 1000 0 0, .rptr c1] [.box (ownWorld A ⟨now, progs, tree, events, ⟨told, work⟩, ⟨heap, list, next⟩, ⟨⟨ages, used⟩, alist⟩, tasks, groups, sights, began, rang⟩)] (fun v os => v = .bool (D ⟨now, progs, tree, events, ⟨told, work⟩, ⟨heap, list, next⟩, ⟨⟨ages, used⟩, alist⟩, tasks, groups, sights, began, rang⟩).2 /\ os = [some (.box (ownWorld A (D ⟨now, progs, tree, events, ⟨told, work⟩, ⟨heap, list, next⟩, ⟨⟨ages, used⟩, alist⟩, tasks, groups, sights, began, rang⟩).1))])) :
    SoundM P 58 false [.agg (roWorld A ⟨now, progs, tree, events, ⟨told, work⟩, ⟨heap, list, next⟩, ⟨⟨ages, used⟩, alist⟩, tasks, groups, sights, began, rang⟩), .fn F [] [.rptr c1]] [] (fun v os => v = rWB A (Asked ⟨now, progs, tree, events, ⟨told, work⟩, ⟨heap, list, next⟩, ⟨⟨ages, used⟩, alist⟩, tasks, groups, sights, began, rang⟩ D) /\ os = []) := by
  refine S.cx.byS [99999] (S.prog ▸ Tryz.func58) rfl rfl rfl rfl (fun ln hln hv ho => ?_)
  (cbv; repeat (refine Later.mk ?_; cbv))
  clear hv ho
  refine ACall.testD (dp := false) (implWorldOk_c S now progs tree events told work heap list next ages used alist tasks groups sights began rang) .go rfl (fun h => ?_) (fun h => ?_) <;> (cbv; repeat (refine Later.mk ?_; cbv))
  rotate_left
  · have hA : Asked ⟨now, progs, tree, events, ⟨told, work⟩, ⟨heap, list, next⟩, ⟨⟨ages, used⟩, alist⟩, tasks, groups, sights, began, rang⟩ D = (world0, false) := asked_bad h
    rw [hA]
    exact Done.toA (rWB A (world0, false)) [] ⟨rfl, rfl⟩
  refine ACall.valN (r := (fun x : World => .agg (ownWorld A x))) (os := fun _ => []) (dp := false) S.cx (implCloned_c S now progs tree events told work heap list next ages used alist tasks groups sights began rang hfew) .go rfl (fun ln hln x hx => ⟨rfl, ?_⟩)
  obtain ⟨nowx, progsx, treex, eventsx, ⟨toldx, workx⟩, ⟨heapx, listx, nextx⟩, ⟨⟨agesx, usedx⟩, alistx⟩, tasksx, groupsx, sightsx, beganx, rangx⟩ := x
  cases hx
  (cbv; repeat (refine Later.mk ?_; cbv))
  have hn_progsa := hln (ownProg A) progs
  generalize ln (A.enc (ownProg A) progs) = n_progsa at hn_progsa ⊢
  have hn_treea := hln cNode tree
  generalize ln (A.enc cNode tree) = n_treea at hn_treea ⊢
  have hn_eventsa := hln cEvent events
  generalize ln (A.enc cEvent events) = n_eventsa at hn_eventsa ⊢
  have hn_tolda := hln cBool told
  generalize ln (A.enc cBool told) = n_tolda at hn_tolda ⊢
  have hn_worka := hln cInt64 work
  generalize ln (A.enc cInt64 work) = n_worka at hn_worka ⊢
  have hn_heapa := hln cTwig heap
  generalize ln (A.enc cTwig heap) = n_heapa at hn_heapa ⊢
  have hn_lista := hln cTimer list
  generalize ln (A.enc cTimer list) = n_lista at hn_lista ⊢
  have hn_agesa := hln cInt64 ages
  generalize ln (A.enc cInt64 ages) = n_agesa at hn_agesa ⊢
  have hn_useda := hln cBool used
  generalize ln (A.enc cBool used) = n_useda at hn_useda ⊢
  have hn_alista := hln cAfter alist
  generalize ln (A.enc cAfter alist) = n_alista at hn_alista ⊢
  have hn_tasksa := hln cTask tasks
  generalize ln (A.enc cTask tasks) = n_tasksa at hn_tasksa ⊢
  have hn_groupsa := hln (ownGroup A) groups
  generalize ln (A.enc (ownGroup A) groups) = n_groupsa at hn_groupsa ⊢
  have hn_sightsa := hln cSight sights
  generalize ln (A.enc cSight sights) = n_sightsa at hn_sightsa ⊢
  have hn_begana := hln cInt64 began
  generalize ln (A.enc cInt64 began) = n_begana at hn_begana ⊢
  have hn_ranga := hln cInt64 rang
  generalize ln (A.enc cInt64 rang) = n_ranga at hn_ranga ⊢
  refine ACall.valN (r := fun x : World × Bool => .bool x.2) (os := fun x => [some (.box (ownWorld A x.1))]) (e := (D ⟨now, progs, tree, events, ⟨told, work⟩, ⟨heap, list, next⟩, ⟨⟨ages, used⟩, alist⟩, tasks, groups, sights, began, rang⟩)) (dp := false) S.cx (hF h) .go rfl (fun ln hln x hx => ⟨rfl, ?_⟩)
  obtain ⟨⟨nowy, progsy, treey, eventsy, ⟨toldy, worky⟩, ⟨heapy, listy, nexty⟩, ⟨⟨agesy, usedy⟩, alisty⟩, tasksy, groupsy, sightsy, begany, rangy⟩, b⟩ := x
  (cbv; repeat (refine Later.mk ?_; cbv))
  have hN_progs := hln (ownProg A) progsy
  generalize ln (A.enc (ownProg A) progsy) = N_progs at hN_progs ⊢
  have hN_tree := hln cNode treey
  generalize ln (A.enc cNode treey) = N_tree at hN_tree ⊢
  have hN_events := hln cEvent eventsy
  generalize ln (A.enc cEvent eventsy) = N_events at hN_events ⊢
  have hN_told := hln cBool toldy
  generalize ln (A.enc cBool toldy) = N_told at hN_told ⊢
  have hN_work := hln cInt64 worky
  generalize ln (A.enc cInt64 worky) = N_work at hN_work ⊢
  have hN_heap := hln cTwig heapy
  generalize ln (A.enc cTwig heapy) = N_heap at hN_heap ⊢
  have hN_list := hln cTimer listy
  generalize ln (A.enc cTimer listy) = N_list at hN_list ⊢
  have hN_ages := hln cInt64 agesy
  generalize ln (A.enc cInt64 agesy) = N_ages at hN_ages ⊢
  have hN_used := hln cBool usedy
  generalize ln (A.enc cBool usedy) = N_used at hN_used ⊢
  have hN_alist := hln cAfter alisty
  generalize ln (A.enc cAfter alisty) = N_alist at hN_alist ⊢
  have hN_tasks := hln cTask tasksy
  generalize ln (A.enc cTask tasksy) = N_tasks at hN_tasks ⊢
  have hN_groups := hln (ownGroup A) groupsy
  generalize ln (A.enc (ownGroup A) groupsy) = N_groups at hN_groups ⊢
  have hN_sights := hln cSight sightsy
  generalize ln (A.enc cSight sightsy) = N_sights at hN_sights ⊢
  have hN_began := hln cInt64 begany
  generalize ln (A.enc cInt64 begany) = N_began at hN_began ⊢
  have hN_rang := hln cInt64 rangy
  generalize ln (A.enc cInt64 rangy) = N_rang at hN_rang ⊢
  have hD : D ⟨now, progs, tree, events, ⟨told, work⟩, ⟨heap, list, next⟩, ⟨⟨ages, used⟩, alist⟩, tasks, groups, sights, began, rang⟩ = (⟨nowy, progsy, treey, eventsy, ⟨toldy, worky⟩, ⟨heapy, listy, nexty⟩, ⟨⟨agesy, usedy⟩, alisty⟩, tasksy, groupsy, sightsy, begany, rangy⟩, b) := hx.symm
  clear hx
  repeat (refine Later.mk ?_; (cbv; repeat (refine Later.mk ?_; cbv)))
  cases b <;> ((cbv; repeat (refine Later.mk ?_; cbv)); repeat (refine Later.mk ?_; (cbv; repeat (refine Later.mk ?_; cbv))))
  · skip
    refine ACall.valN (r := (fun x : World => .agg (ownWorld A x))) (os := fun _ => []) (dp := false) S.cx (implCloned_c S now progs tree events told work heap list next ages used alist tasks groups sights began rang hfew) .go rfl (fun ln hln x hx => ⟨rfl, ?_⟩)
    obtain ⟨nowz, progsz, treez, eventsz, ⟨toldz, workz⟩, ⟨heapz, listz, nextz⟩, ⟨⟨agesz, usedz⟩, alistz⟩, tasksz, groupsz, sightsz, beganz, rangz⟩ := x
    cases hx
    (cbv; repeat (refine Later.mk ?_; cbv))
    have hm_progsc := hln (ownProg A) progs
    generalize ln (A.enc (ownProg A) progs) = m_progsc at hm_progsc ⊢
    have hm_treec := hln cNode tree
    generalize ln (A.enc cNode tree) = m_treec at hm_treec ⊢
    have hm_eventsc := hln cEvent events
    generalize ln (A.enc cEvent events) = m_eventsc at hm_eventsc ⊢
    have hm_toldc := hln cBool told
    generalize ln (A.enc cBool told) = m_toldc at hm_toldc ⊢
    have hm_workc := hln cInt64 work
    generalize ln (A.enc cInt64 work) = m_workc at hm_workc ⊢
    have hm_heapc := hln cTwig heap
    generalize ln (A.enc cTwig heap) = m_heapc at hm_heapc ⊢
    have hm_listc := hln cTimer list
    generalize ln (A.enc cTimer list) = m_listc at hm_listc ⊢
    have hm_agesc := hln cInt64 ages
    generalize ln (A.enc cInt64 ages) = m_agesc at hm_agesc ⊢
    have hm_usedc := hln cBool used
    generalize ln (A.enc cBool used) = m_usedc at hm_usedc ⊢
    have hm_alistc := hln cAfter alist
    generalize ln (A.enc cAfter alist) = m_alistc at hm_alistc ⊢
    have hm_tasksc := hln cTask tasks
    generalize ln (A.enc cTask tasks) = m_tasksc at hm_tasksc ⊢
    have hm_groupsc := hln (ownGroup A) groups
    generalize ln (A.enc (ownGroup A) groups) = m_groupsc at hm_groupsc ⊢
    have hm_sightsc := hln cSight sights
    generalize ln (A.enc cSight sights) = m_sightsc at hm_sightsc ⊢
    have hm_beganc := hln cInt64 began
    generalize ln (A.enc cInt64 began) = m_beganc at hm_beganc ⊢
    have hm_rangc := hln cInt64 rang
    generalize ln (A.enc cInt64 rang) = m_rangc at hm_rangc ⊢
    have hA : Asked ⟨now, progs, tree, events, ⟨told, work⟩, ⟨heap, list, next⟩, ⟨⟨ages, used⟩, alist⟩, tasks, groups, sights, began, rang⟩ D = (⟨now, progs, tree, events, ⟨told, work⟩, ⟨heap, list, next⟩, ⟨⟨ages, used⟩, alist⟩, tasks, groups, sights, began, rang⟩, false) := asked_not h (by rw [hD])
    rw [hA]
    exact Done.toA (rWB A (⟨now, progs, tree, events, ⟨told, work⟩, ⟨heap, list, next⟩, ⟨⟨ages, used⟩, alist⟩, tasks, groups, sights, began, rang⟩, false)) [] ⟨rfl, rfl⟩
  refine ACall.testD (dp := false) (implWorldOk_c S nowy progsy treey eventsy toldy worky heapy listy nexty agesy usedy alisty tasksy groupsy sightsy begany rangy) .go rfl (fun h2 => ?_) (fun h2 => ?_) <;> (cbv; repeat (refine Later.mk ?_; cbv))
  · have hA : Asked ⟨now, progs, tree, events, ⟨told, work⟩, ⟨heap, list, next⟩, ⟨⟨ages, used⟩, alist⟩, tasks, groups, sights, began, rang⟩ D = (⟨nowy, progsy, treey, eventsy, ⟨toldy, worky⟩, ⟨heapy, listy, nexty⟩, ⟨⟨agesy, usedy⟩, alisty⟩, tasksy, groupsy, sightsy, begany, rangy⟩, true) := by rw [Asked, if_pos h, hD, if_pos ⟨rfl, h2⟩]
    rw [hA]
    exact Done.toA (rWB A (⟨nowy, progsy, treey, eventsy, ⟨toldy, worky⟩, ⟨heapy, listy, nexty⟩, ⟨⟨agesy, usedy⟩, alisty⟩, tasksy, groupsy, sightsy, begany, rangy⟩, true)) [] ⟨rfl, rfl⟩
  · skip
    refine ACall.valN (r := (fun x : World => .agg (ownWorld A x))) (os := fun _ => []) (dp := false) S.cx (implCloned_c S now progs tree events told work heap list next ages used alist tasks groups sights began rang hfew) .go rfl (fun ln hln x hx => ⟨rfl, ?_⟩)
    obtain ⟨nowz, progsz, treez, eventsz, ⟨toldz, workz⟩, ⟨heapz, listz, nextz⟩, ⟨⟨agesz, usedz⟩, alistz⟩, tasksz, groupsz, sightsz, beganz, rangz⟩ := x
    cases hx
    (cbv; repeat (refine Later.mk ?_; cbv))
    have hm_progsc := hln (ownProg A) progs
    generalize ln (A.enc (ownProg A) progs) = m_progsc at hm_progsc ⊢
    have hm_treec := hln cNode tree
    generalize ln (A.enc cNode tree) = m_treec at hm_treec ⊢
    have hm_eventsc := hln cEvent events
    generalize ln (A.enc cEvent events) = m_eventsc at hm_eventsc ⊢
    have hm_toldc := hln cBool told
    generalize ln (A.enc cBool told) = m_toldc at hm_toldc ⊢
    have hm_workc := hln cInt64 work
    generalize ln (A.enc cInt64 work) = m_workc at hm_workc ⊢
    have hm_heapc := hln cTwig heap
    generalize ln (A.enc cTwig heap) = m_heapc at hm_heapc ⊢
    have hm_listc := hln cTimer list
    generalize ln (A.enc cTimer list) = m_listc at hm_listc ⊢
    have hm_agesc := hln cInt64 ages
    generalize ln (A.enc cInt64 ages) = m_agesc at hm_agesc ⊢
    have hm_usedc := hln cBool used
    generalize ln (A.enc cBool used) = m_usedc at hm_usedc ⊢
    have hm_alistc := hln cAfter alist
    generalize ln (A.enc cAfter alist) = m_alistc at hm_alistc ⊢
    have hm_tasksc := hln cTask tasks
    generalize ln (A.enc cTask tasks) = m_tasksc at hm_tasksc ⊢
    have hm_groupsc := hln (ownGroup A) groups
    generalize ln (A.enc (ownGroup A) groups) = m_groupsc at hm_groupsc ⊢
    have hm_sightsc := hln cSight sights
    generalize ln (A.enc cSight sights) = m_sightsc at hm_sightsc ⊢
    have hm_beganc := hln cInt64 began
    generalize ln (A.enc cInt64 began) = m_beganc at hm_beganc ⊢
    have hm_rangc := hln cInt64 rang
    generalize ln (A.enc cInt64 rang) = m_rangc at hm_rangc ⊢
    have hA : Asked ⟨now, progs, tree, events, ⟨told, work⟩, ⟨heap, list, next⟩, ⟨⟨ages, used⟩, alist⟩, tasks, groups, sights, began, rang⟩ D = (⟨now, progs, tree, events, ⟨told, work⟩, ⟨heap, list, next⟩, ⟨⟨ages, used⟩, alist⟩, tasks, groups, sights, began, rang⟩, false) := by rw [Asked, if_pos h, hD, if_neg (fun e => h2 e.2)]
    rw [hA]
    exact Done.toA (rWB A (⟨now, progs, tree, events, ⟨told, work⟩, ⟨heap, list, next⟩, ⟨⟨ages, used⟩, alist⟩, tasks, groups, sights, began, rang⟩, false)) [] ⟨rfl, rfl⟩

end Go.Proofs.YtihfpbhalnedcaaGreat.AM
