/- The law CallOffIn. (printed by gw40.py) -/
import Derived.Test.YtihfpbhalnedcaaGreatKCallOffIn
import Derived.Test.YtihfpbhalnedcaaGreatW13
set_option linter.unusedVariables false
set_option linter.unusedSimpArgs false
namespace Go.Proofs.YtihfpbhalnedcaaGreat.AM
open Go Go.Proofs

set_option maxRecDepth 100000
set_option maxHeartbeats 4000000

variable {P : Program} {A : Sy}

theorem lawCallOffIn_c (S : Se P A) (now : Int) (progs : List (List Ins)) (tree : List Node) (events : List Event) (told : List Bool) (work : List Int) (heap : List Twig) (list : List Timer) (next : Int) (ages : List Int) (used : List Bool) (alist : List After) (tasks : List Task) (groups : List Group) (sights : List Sight) (began rang : List Int) (h_s h_a : Int) : Is1 P 7 [.agg (roWorld A ⟨now, progs, tree, events, ⟨told, work⟩, ⟨heap, list, next⟩, ⟨⟨ages, used⟩, alist⟩, tasks, groups, sights, began, rang⟩), .agg (cHandle ⟨h_s, h_a⟩)] (.bool true) := by
  refine S.cx.byS [99999] (S.prog ▸ Tryz.func7) rfl rfl rfl rfl (fun ln hln hv ho => ?_)
  (cbv; repeat (refine Later.mk ?_; cbv))
  clear hv ho
  (try (refine Drawn.mk ⟨by kernel_rfl, fun _ => ?_⟩)); (repeat (refine Later.mk ?_; cbv))
  refine ACall.num (dp := false) (szWorld_c S now progs tree events told work heap list next ages used alist tasks groups sights began rang 1048576 (by lia)) .go (fun q hq => ?_); (cbv; repeat (refine Later.mk ?_; cbv))
  refine Test.lss (fun h => ?_) (fun h => ?_) <;> (cbv; repeat (refine Later.mk ?_; cbv))
  · exact Done.to (.bool true) [] rfl rfl trivial ⟨rfl, rfl⟩
  replace hq := hq.resolve_left (by lia)
  have htot : (⟨now, progs, tree, events, ⟨told, work⟩, ⟨heap, list, next⟩, ⟨⟨ages, used⟩, alist⟩, tasks, groups, sights, began, rang⟩ : World).total <= 1048576 := by lia
  have hfew1 : (⟨now, progs, tree, events, ⟨told, work⟩, ⟨heap, list, next⟩, ⟨⟨ages, used⟩, alist⟩, tasks, groups, sights, began, rang⟩ : World).few 1048576 := World.few_of (by lia)
  have hfew : (⟨now, progs, tree, events, ⟨told, work⟩, ⟨heap, list, next⟩, ⟨⟨ages, used⟩, alist⟩, tasks, groups, sights, began, rang⟩ : World).few 4294967296 := hfew1.mono (by decide)
  (try (refine Drawn.mk ⟨by kernel_rfl, fun _ => ?_⟩)); (repeat (refine Later.mk ?_; cbv))
  refine ACall.valN (r := (fun x : World => .agg (ownWorld A x))) (os := fun _ => []) (dp := false) S.cx (toWorld_c S now progs tree events told work heap list next ages used alist tasks groups sights began rang hfew) .go rfl (fun ln hln x hx => ⟨rfl, ?_⟩)
  obtain ⟨nowx, progsx, treex, eventsx, ⟨toldx, workx⟩, ⟨heapx, listx, nextx⟩, ⟨⟨agesx, usedx⟩, alistx⟩, tasksx, groupsx, sightsx, beganx, rangx⟩ := x
  cases hx
  (cbv; repeat (refine Later.mk ?_; cbv))
  have hn_progsa := hln (ownProg A) progs
  generalize ln (A.enc (ownProg A) progs) = n_progsa at hn_progsa ⊢
  have hn_treea := hln cNode tree
  generalize ln (A.enc cNode tree) = n_treea at hn_treea ⊢
  have hn_eventsa := hln cEvent events
  generalize ln (A.enc cEvent events) = n_eventsa at hn_eventsa ⊢
  have hn_tolda := hln cBool told
  generalize ln (A.enc cBool told) = n_tolda at hn_tolda ⊢
  have hn_worka := hln cInt64 work
  generalize ln (A.enc cInt64 work) = n_worka at hn_worka ⊢
  have hn_heapa := hln cTwig heap
  generalize ln (A.enc cTwig heap) = n_heapa at hn_heapa ⊢
  have hn_lista := hln cTimer list
  generalize ln (A.enc cTimer list) = n_lista at hn_lista ⊢
  have hn_agesa := hln cInt64 ages
  generalize ln (A.enc cInt64 ages) = n_agesa at hn_agesa ⊢
  have hn_useda := hln cBool used
  generalize ln (A.enc cBool used) = n_useda at hn_useda ⊢
  have hn_alista := hln cAfter alist
  generalize ln (A.enc cAfter alist) = n_alista at hn_alista ⊢
  have hn_tasksa := hln cTask tasks
  generalize ln (A.enc cTask tasks) = n_tasksa at hn_tasksa ⊢
  have hn_groupsa := hln (ownGroup A) groups
  generalize ln (A.enc (ownGroup A) groups) = n_groupsa at hn_groupsa ⊢
  have hn_sightsa := hln cSight sights
  generalize ln (A.enc cSight sights) = n_sightsa at hn_sightsa ⊢
  have hn_begana := hln cInt64 began
  generalize ln (A.enc cInt64 began) = n_begana at hn_begana ⊢
  have hn_ranga := hln cInt64 rang
  generalize ln (A.enc cInt64 rang) = n_ranga at hn_ranga ⊢
  (try (refine Drawn.mk ⟨by kernel_rfl, fun _ => ?_⟩)); (repeat (refine Later.mk ?_; cbv))
  refine ACall.valN (r := (fun x : Handle => .agg (cHandle x))) (os := fun _ => []) (dp := false) S.cx (toHandle_c S ⟨h_s, h_a⟩) .go rfl (fun ln hln x hx => ⟨rfl, ?_⟩)
  obtain ⟨sx, ax⟩ := x
  cases hx
  (cbv; repeat (refine Later.mk ?_; cbv))
  (try (refine Drawn.mk ⟨by kernel_rfl, fun _ => ?_⟩)); (repeat (refine Later.mk ?_; cbv))
  refine ACall.valN (r := rWB A) (os := fun _ => []) (dp := false) S.cx (specCallOffIn_c S now progs tree events told work heap list next ages used alist tasks groups sights began rang h_s h_a hfew1) .go rfl (fun ln hln x hx => ⟨rfl, ?_⟩)
  obtain ⟨⟨noww, progsw, treew, eventsw, ⟨toldw, workw⟩, ⟨heapw, listw, nextw⟩, ⟨⟨agesw, usedw⟩, alistw⟩, tasksw, groupsw, sightsw, beganw, rangw⟩, b0w⟩ := x
  (cbv; repeat (refine Later.mk ?_; cbv))
  have hN_progsw := hln (ownProg A) progsw
  generalize ln (A.enc (ownProg A) progsw) = N_progsw at hN_progsw ⊢
  have hN_treew := hln cNode treew
  generalize ln (A.enc cNode treew) = N_treew at hN_treew ⊢
  have hN_eventsw := hln cEvent eventsw
  generalize ln (A.enc cEvent eventsw) = N_eventsw at hN_eventsw ⊢
  have hN_toldw := hln cBool toldw
  generalize ln (A.enc cBool toldw) = N_toldw at hN_toldw ⊢
  have hN_workw := hln cInt64 workw
  generalize ln (A.enc cInt64 workw) = N_workw at hN_workw ⊢
  have hN_heapw := hln cTwig heapw
  generalize ln (A.enc cTwig heapw) = N_heapw at hN_heapw ⊢
  have hN_listw := hln cTimer listw
  generalize ln (A.enc cTimer listw) = N_listw at hN_listw ⊢
  have hN_agesw := hln cInt64 agesw
  generalize ln (A.enc cInt64 agesw) = N_agesw at hN_agesw ⊢
  have hN_usedw := hln cBool usedw
  generalize ln (A.enc cBool usedw) = N_usedw at hN_usedw ⊢
  have hN_alistw := hln cAfter alistw
  generalize ln (A.enc cAfter alistw) = N_alistw at hN_alistw ⊢
  have hN_tasksw := hln cTask tasksw
  generalize ln (A.enc cTask tasksw) = N_tasksw at hN_tasksw ⊢
  have hN_groupsw := hln (ownGroup A) groupsw
  generalize ln (A.enc (ownGroup A) groupsw) = N_groupsw at hN_groupsw ⊢
  have hN_sightsw := hln cSight sightsw
  generalize ln (A.enc cSight sightsw) = N_sightsw at hN_sightsw ⊢
  have hN_beganw := hln cInt64 beganw
  generalize ln (A.enc cInt64 beganw) = N_beganw at hN_beganw ⊢
  have hN_rangw := hln cInt64 rangw
  generalize ln (A.enc cInt64 rangw) = N_rangw at hN_rangw ⊢
  have hw := hx
  clear hx
  have htw : (⟨noww, progsw, treew, eventsw, ⟨toldw, workw⟩, ⟨heapw, listw, nextw⟩, ⟨⟨agesw, usedw⟩, alistw⟩, tasksw, groupsw, sightsw, beganw, rangw⟩ : World).total <= 2097152 := few_asked htot (World.total_ge _) (fun _ => callOffD_total _ _) ((congrArg Prod.fst hw).trans (by rw [callOffIn_asked]))
  have hew : (⟨noww, progsw, treew, eventsw, ⟨toldw, workw⟩, ⟨heapw, listw, nextw⟩, ⟨⟨agesw, usedw⟩, alistw⟩, tasksw, groupsw, sightsw, beganw, rangw⟩ : World).k15 1 <= 4611686018427387904 := Int.le_trans (World.end_le (World.total_ge _)) (by omega)
  cases b0w
  all_goals
    try ((cbv; repeat (refine Later.mk ?_; cbv)); repeat (refine Later.mk ?_; (cbv; repeat (refine Later.mk ?_; cbv))))
    (try (refine Drawn.mk ⟨by kernel_rfl, fun _ => ?_⟩)); (repeat (refine Later.mk ?_; cbv))
    refine ACall.valN (r := (fun x : World => .agg (ownWorld A x))) (os := fun _ => []) (dp := false) S.cx (toWorld_c S now progs tree events told work heap list next ages used alist tasks groups sights began rang hfew) .go rfl (fun ln hln x hx => ⟨rfl, ?_⟩)
    obtain ⟨nowx, progsx, treex, eventsx, ⟨toldx, workx⟩, ⟨heapx, listx, nextx⟩, ⟨⟨agesx, usedx⟩, alistx⟩, tasksx, groupsx, sightsx, beganx, rangx⟩ := x
    cases hx
    (cbv; repeat (refine Later.mk ?_; cbv))
    have hn_progsb := hln (ownProg A) progs
    generalize ln (A.enc (ownProg A) progs) = n_progsb at hn_progsb ⊢
    have hn_treeb := hln cNode tree
    generalize ln (A.enc cNode tree) = n_treeb at hn_treeb ⊢
    have hn_eventsb := hln cEvent events
    generalize ln (A.enc cEvent events) = n_eventsb at hn_eventsb ⊢
    have hn_toldb := hln cBool told
    generalize ln (A.enc cBool told) = n_toldb at hn_toldb ⊢
    have hn_workb := hln cInt64 work
    generalize ln (A.enc cInt64 work) = n_workb at hn_workb ⊢
    have hn_heapb := hln cTwig heap
    generalize ln (A.enc cTwig heap) = n_heapb at hn_heapb ⊢
    have hn_listb := hln cTimer list
    generalize ln (A.enc cTimer list) = n_listb at hn_listb ⊢
    have hn_agesb := hln cInt64 ages
    generalize ln (A.enc cInt64 ages) = n_agesb at hn_agesb ⊢
    have hn_usedb := hln cBool used
    generalize ln (A.enc cBool used) = n_usedb at hn_usedb ⊢
    have hn_alistb := hln cAfter alist
    generalize ln (A.enc cAfter alist) = n_alistb at hn_alistb ⊢
    have hn_tasksb := hln cTask tasks
    generalize ln (A.enc cTask tasks) = n_tasksb at hn_tasksb ⊢
    have hn_groupsb := hln (ownGroup A) groups
    generalize ln (A.enc (ownGroup A) groups) = n_groupsb at hn_groupsb ⊢
    have hn_sightsb := hln cSight sights
    generalize ln (A.enc cSight sights) = n_sightsb at hn_sightsb ⊢
    have hn_beganb := hln cInt64 began
    generalize ln (A.enc cInt64 began) = n_beganb at hn_beganb ⊢
    have hn_rangb := hln cInt64 rang
    generalize ln (A.enc cInt64 rang) = n_rangb at hn_rangb ⊢
    (try (refine Drawn.mk ⟨by kernel_rfl, fun _ => ?_⟩)); (repeat (refine Later.mk ?_; cbv))
    refine ACall.valN (r := (fun x : Handle => .agg (cHandle x))) (os := fun _ => []) (dp := false) S.cx (toHandle_c S ⟨h_s, h_a⟩) .go rfl (fun ln hln x hx => ⟨rfl, ?_⟩)
    obtain ⟨sx, ax⟩ := x
    cases hx
    (cbv; repeat (refine Later.mk ?_; cbv))
    (try (refine Drawn.mk ⟨by kernel_rfl, fun _ => ?_⟩)); (repeat (refine Later.mk ?_; cbv))
    refine ACall.valN (r := rWB A) (os := fun _ => []) (dp := false) S.cx (implCallOffIn_c S now progs tree events told work heap list next ages used alist tasks groups sights began rang h_s h_a hfew1) .go rfl (fun ln hln x hx => ⟨rfl, ?_⟩)
    obtain ⟨⟨nowg, progsg, treeg, eventsg, ⟨toldg, workg⟩, ⟨heapg, listg, nextg⟩, ⟨⟨agesg, usedg⟩, alistg⟩, tasksg, groupsg, sightsg, begang, rangg⟩, b0g⟩ := x
    (cbv; repeat (refine Later.mk ?_; cbv))
    have hN_progsg := hln (ownProg A) progsg
    generalize ln (A.enc (ownProg A) progsg) = N_progsg at hN_progsg ⊢
    have hN_treeg := hln cNode treeg
    generalize ln (A.enc cNode treeg) = N_treeg at hN_treeg ⊢
    have hN_eventsg := hln cEvent eventsg
    generalize ln (A.enc cEvent eventsg) = N_eventsg at hN_eventsg ⊢
    have hN_toldg := hln cBool toldg
    generalize ln (A.enc cBool toldg) = N_toldg at hN_toldg ⊢
    have hN_workg := hln cInt64 workg
    generalize ln (A.enc cInt64 workg) = N_workg at hN_workg ⊢
    have hN_heapg := hln cTwig heapg
    generalize ln (A.enc cTwig heapg) = N_heapg at hN_heapg ⊢
    have hN_listg := hln cTimer listg
    generalize ln (A.enc cTimer listg) = N_listg at hN_listg ⊢
    have hN_agesg := hln cInt64 agesg
    generalize ln (A.enc cInt64 agesg) = N_agesg at hN_agesg ⊢
    have hN_usedg := hln cBool usedg
    generalize ln (A.enc cBool usedg) = N_usedg at hN_usedg ⊢
    have hN_alistg := hln cAfter alistg
    generalize ln (A.enc cAfter alistg) = N_alistg at hN_alistg ⊢
    have hN_tasksg := hln cTask tasksg
    generalize ln (A.enc cTask tasksg) = N_tasksg at hN_tasksg ⊢
    have hN_groupsg := hln (ownGroup A) groupsg
    generalize ln (A.enc (ownGroup A) groupsg) = N_groupsg at hN_groupsg ⊢
    have hN_sightsg := hln cSight sightsg
    generalize ln (A.enc cSight sightsg) = N_sightsg at hN_sightsg ⊢
    have hN_begang := hln cInt64 begang
    generalize ln (A.enc cInt64 begang) = N_begang at hN_begang ⊢
    have hN_rangg := hln cInt64 rangg
    generalize ln (A.enc cInt64 rangg) = N_rangg at hN_rangg ⊢
    cases hx.trans hw.symm
    (try (refine Drawn.mk ⟨by kernel_rfl, fun _ => ?_⟩)); (repeat (refine Later.mk ?_; cbv))
    refine ACall.testD (dp := false) (eqWorld_c S noww progsw treew eventsw toldw workw heapw listw nextw agesw usedw alistw tasksw groupsw sightsw beganw rangw noww progsw treew eventsw toldw workw heapw listw nextw agesw usedw alistw tasksw groupsw sightsw beganw rangw) .go rfl (fun h => ?_) (fun h => ?_) <;> (cbv; repeat (refine Later.mk ?_; cbv))
    rotate_left
    · exact absurd rfl h
    (try (refine Drawn.mk ⟨by kernel_rfl, fun _ => ?_⟩)); (repeat (refine Later.mk ?_; cbv))
    refine ACall.valN (r := (fun x : World => .agg (ownWorld A x))) (os := fun _ => []) (dp := false) S.cx (toWorld_c S now progs tree events told work heap list next ages used alist tasks groups sights began rang hfew) .go rfl (fun ln hln x hx => ⟨rfl, ?_⟩)
    obtain ⟨nowx, progsx, treex, eventsx, ⟨toldx, workx⟩, ⟨heapx, listx, nextx⟩, ⟨⟨agesx, usedx⟩, alistx⟩, tasksx, groupsx, sightsx, beganx, rangx⟩ := x
    cases hx
    (cbv; repeat (refine Later.mk ?_; cbv))
    have hn_progsc := hln (ownProg A) progs
    generalize ln (A.enc (ownProg A) progs) = n_progsc at hn_progsc ⊢
    have hn_treec := hln cNode tree
    generalize ln (A.enc cNode tree) = n_treec at hn_treec ⊢
    have hn_eventsc := hln cEvent events
    generalize ln (A.enc cEvent events) = n_eventsc at hn_eventsc ⊢
    have hn_toldc := hln cBool told
    generalize ln (A.enc cBool told) = n_toldc at hn_toldc ⊢
    have hn_workc := hln cInt64 work
    generalize ln (A.enc cInt64 work) = n_workc at hn_workc ⊢
    have hn_heapc := hln cTwig heap
    generalize ln (A.enc cTwig heap) = n_heapc at hn_heapc ⊢
    have hn_listc := hln cTimer list
    generalize ln (A.enc cTimer list) = n_listc at hn_listc ⊢
    have hn_agesc := hln cInt64 ages
    generalize ln (A.enc cInt64 ages) = n_agesc at hn_agesc ⊢
    have hn_usedc := hln cBool used
    generalize ln (A.enc cBool used) = n_usedc at hn_usedc ⊢
    have hn_alistc := hln cAfter alist
    generalize ln (A.enc cAfter alist) = n_alistc at hn_alistc ⊢
    have hn_tasksc := hln cTask tasks
    generalize ln (A.enc cTask tasks) = n_tasksc at hn_tasksc ⊢
    have hn_groupsc := hln (ownGroup A) groups
    generalize ln (A.enc (ownGroup A) groups) = n_groupsc at hn_groupsc ⊢
    have hn_sightsc := hln cSight sights
    generalize ln (A.enc cSight sights) = n_sightsc at hn_sightsc ⊢
    have hn_beganc := hln cInt64 began
    generalize ln (A.enc cInt64 began) = n_beganc at hn_beganc ⊢
    have hn_rangc := hln cInt64 rang
    generalize ln (A.enc cInt64 rang) = n_rangc at hn_rangc ⊢
    (try (refine Drawn.mk ⟨by kernel_rfl, fun _ => ?_⟩)); (repeat (refine Later.mk ?_; cbv))
    refine ACall.testD (dp := false) (eqWorld_c S now progs tree events told work heap list next ages used alist tasks groups sights began rang now progs tree events told work heap list next ages used alist tasks groups sights began rang) .go rfl (fun h => ?_) (fun h => ?_) <;> (cbv; repeat (refine Later.mk ?_; cbv))
    rotate_left
    · exact absurd rfl h
    have hea : (⟨now, progs, tree, events, ⟨told, work⟩, ⟨heap, list, next⟩, ⟨⟨ages, used⟩, alist⟩, tasks, groups, sights, began, rang⟩ : World).k15 1 <= 4611686018427387904 := Int.le_trans (World.end_le (World.total_ge _)) (by omega)
    (try (refine Drawn.mk ⟨by kernel_rfl, fun _ => ?_⟩)); (repeat (refine Later.mk ?_; cbv))
    refine ACall.val (ι := Int × World) (r := fun x => .int .i64 x.1) (os := fun x => objsW A x.2) (e := ((⟨now, progs, tree, events, ⟨told, work⟩, ⟨heap, list, next⟩, ⟨⟨ages, used⟩, alist⟩, tasks, groups, sights, began, rang⟩ : World).k15 1, (⟨now, progs, tree, events, ⟨told, work⟩, ⟨heap, list, next⟩, ⟨⟨ages, used⟩, alist⟩, tasks, groups, sights, began, rang⟩ : World).marked 1)) (dp := false) (markWorld_c S now progs tree events told work heap list next ages used alist tasks groups sights began rang n_progsb hn_progsb n_treeb hn_treeb n_eventsb hn_eventsb n_toldb hn_toldb n_workb hn_workb n_heapb hn_heapb n_listb hn_listb n_agesb hn_agesb n_usedb hn_usedb n_alistb hn_alistb n_tasksb hn_tasksb n_groupsb hn_groupsb n_sightsb hn_sightsb n_beganb hn_beganb n_rangb hn_rangb 1 (by decide) hea) .go rfl (fun x hx => ⟨rfl, ?_⟩)
    obtain ⟨ek, ⟨nowmk, progsmk, treemk, eventsmk, ⟨toldmk, workmk⟩, ⟨heapmk, listmk, nextmk⟩, ⟨⟨agesmk, usedmk⟩, alistmk⟩, tasksmk, groupsmk, sightsmk, beganmk, rangmk⟩⟩ := x
    have hmk1 := congrArg Prod.fst hx
    have hmk2 := congrArg Prod.snd hx
    clear hx
    dsimp only at hmk1 hmk2
    (cbv; repeat (refine Later.mk ?_; cbv))
    have hkk : 0 <= ek := by rw [hmk1]; exact World.end_ge _ (by decide)
    refine Test.lss (fun h => ?_) (fun h => ?_) <;> (cbv; repeat (refine Later.mk ?_; cbv))
    · exfalso; lia
    (try (refine Drawn.mk ⟨by kernel_rfl, fun _ => ?_⟩)); (repeat (refine Later.mk ?_; cbv))
    refine ACall.testD (dp := false) (eqWorld_c S noww progsw treew eventsw toldw workw heapw listw nextw agesw usedw alistw tasksw groupsw sightsw beganw rangw noww progsw treew eventsw toldw workw heapw listw nextw agesw usedw alistw tasksw groupsw sightsw beganw rangw) .go rfl (fun h => ?_) (fun h => ?_) <;> (cbv; repeat (refine Later.mk ?_; cbv))
    rotate_left
    · exact absurd rfl h
    (try (refine Drawn.mk ⟨by kernel_rfl, fun _ => ?_⟩)); (repeat (refine Later.mk ?_; cbv))
    refine ACall.val (ι := Int × World) (r := fun x => .int .i64 x.1) (os := fun x => objsW A x.2) (e := ((⟨noww, progsw, treew, eventsw, ⟨toldw, workw⟩, ⟨heapw, listw, nextw⟩, ⟨⟨agesw, usedw⟩, alistw⟩, tasksw, groupsw, sightsw, beganw, rangw⟩ : World).k15 1, (⟨noww, progsw, treew, eventsw, ⟨toldw, workw⟩, ⟨heapw, listw, nextw⟩, ⟨⟨agesw, usedw⟩, alistw⟩, tasksw, groupsw, sightsw, beganw, rangw⟩ : World).marked 1)) (dp := false) (markWorld_c S noww progsw treew eventsw toldw workw heapw listw nextw agesw usedw alistw tasksw groupsw sightsw beganw rangw N_progsg hN_progsg N_treeg hN_treeg N_eventsg hN_eventsg N_toldg hN_toldg N_workg hN_workg N_heapg hN_heapg N_listg hN_listg N_agesg hN_agesg N_usedg hN_usedg N_alistg hN_alistg N_tasksg hN_tasksg N_groupsg hN_groupsg N_sightsg hN_sightsg N_begang hN_begang N_rangg hN_rangg 1 (by decide) hew) .go rfl (fun x hx => ⟨rfl, ?_⟩)
    obtain ⟨eg, ⟨nowmg, progsmg, treemg, eventsmg, ⟨toldmg, workmg⟩, ⟨heapmg, listmg, nextmg⟩, ⟨⟨agesmg, usedmg⟩, alistmg⟩, tasksmg, groupsmg, sightsmg, beganmg, rangmg⟩⟩ := x
    have hmg1 := congrArg Prod.fst hx
    have hmg2 := congrArg Prod.snd hx
    clear hx
    dsimp only at hmg1 hmg2
    (cbv; repeat (refine Later.mk ?_; cbv))
    have e_now : noww = nowmg := (congrArg World.now hmg2).symm
    have e_next : nextw = nextmg := (congrArg (fun x : World => x.timers.next) hmg2).symm
    subst e_now
    subst e_next
    have l_progs : N_progsg = progsmg.length := World.l_progs hmg2 hN_progsg
    have l_tree : N_treeg = treemg.length := World.l_tree hmg2 hN_treeg
    have l_events : N_eventsg = eventsmg.length := World.l_events hmg2 hN_eventsg
    have l_told : N_toldg = toldmg.length := World.l_told hmg2 hN_toldg
    have l_work : N_workg = workmg.length := World.l_work hmg2 hN_workg
    have l_heap : N_heapg = heapmg.length := World.l_heap hmg2 hN_heapg
    have l_list : N_listg = listmg.length := World.l_list hmg2 hN_listg
    have l_ages : N_agesg = agesmg.length := World.l_ages hmg2 hN_agesg
    have l_used : N_usedg = usedmg.length := World.l_used hmg2 hN_usedg
    have l_alist : N_alistg = alistmg.length := World.l_alist hmg2 hN_alistg
    have l_tasks : N_tasksg = tasksmg.length := World.l_tasks hmg2 hN_tasksg
    have l_groups : N_groupsg = groupsmg.length := World.l_groups hmg2 hN_groupsg
    have l_sights : N_sightsg = sightsmg.length := World.l_sights hmg2 hN_sightsg
    have l_began : N_begang = beganmg.length := World.l_began hmg2 hN_begang
    have l_rang : N_rangg = rangmg.length := World.l_rang hmg2 hN_rangg
    have hae : (⟨noww, progsmg, treemg, eventsmg, ⟨toldmg, workmg⟩, ⟨heapmg, listmg, nextw⟩, ⟨⟨agesmg, usedmg⟩, alistmg⟩, tasksmg, groupsmg, sightsmg, beganmg, rangmg⟩ : World).k15 1 <= 4611686018427387904 := by rw [hmg2, World.marked_end]; exact hew
    have ham : (⟨noww, progsmg, treemg, eventsmg, ⟨toldmg, workmg⟩, ⟨heapmg, listmg, nextw⟩, ⟨⟨agesmg, usedmg⟩, alistmg⟩, tasksmg, groupsmg, sightsmg, beganmg, rangmg⟩ : World) = (⟨noww, progsmg, treemg, eventsmg, ⟨toldmg, workmg⟩, ⟨heapmg, listmg, nextw⟩, ⟨⟨agesmg, usedmg⟩, alistmg⟩, tasksmg, groupsmg, sightsmg, beganmg, rangmg⟩ : World).marked 1 := by rw [hmg2]; exact World.marked_again _ _
    have hke : (⟨noww, progsmg, treemg, eventsmg, ⟨toldmg, workmg⟩, ⟨heapmg, listmg, nextw⟩, ⟨⟨agesmg, usedmg⟩, alistmg⟩, tasksmg, groupsmg, sightsmg, beganmg, rangmg⟩ : World).k15 1 = eg := by rw [hmg2, World.marked_end]; exact hmg1.symm
    have hge : 0 <= eg := by rw [hmg1]; exact World.end_ge _ (by decide)
    (try (refine Drawn.mk ⟨by kernel_rfl, fun _ => ?_⟩)); (repeat (refine Later.mk ?_; cbv))
    refine ACall.int (dp := false) (heldWorld_c S noww progsmg treemg eventsmg toldmg workmg heapmg listmg nextw agesmg usedmg alistmg tasksmg groupsmg sightsmg beganmg rangmg 1 (by decide) hae ham) .go rfl (fun qq hqq => ?_); (cbv; repeat (refine Later.mk ?_; cbv))
    replace hqq : qq = eg := hqq.trans hke
    refine Test.lss (fun h => ?_) (fun h => ?_) <;> (cbv; repeat (refine Later.mk ?_; cbv))
    · exfalso; omega
    refine Test.neq (fun h => ?_) (fun h => ?_) <;> (cbv; repeat (refine Later.mk ?_; cbv))
    · exfalso; omega
    (try (refine Drawn.mk ⟨by kernel_rfl, fun _ => ?_⟩)); (repeat (refine Later.mk ?_; cbv))
    refine ACall.valN (r := (fun x : World => .agg (ownWorld A x))) (os := fun _ => []) (dp := false) S.cx (toWorld_c S now progs tree events told work heap list next ages used alist tasks groups sights began rang hfew) .go rfl (fun ln hln x hx => ⟨rfl, ?_⟩)
    obtain ⟨nowx, progsx, treex, eventsx, ⟨toldx, workx⟩, ⟨heapx, listx, nextx⟩, ⟨⟨agesx, usedx⟩, alistx⟩, tasksx, groupsx, sightsx, beganx, rangx⟩ := x
    cases hx
    (cbv; repeat (refine Later.mk ?_; cbv))
    have hn_progsd := hln (ownProg A) progs
    generalize ln (A.enc (ownProg A) progs) = n_progsd at hn_progsd ⊢
    have hn_treed := hln cNode tree
    generalize ln (A.enc cNode tree) = n_treed at hn_treed ⊢
    have hn_eventsd := hln cEvent events
    generalize ln (A.enc cEvent events) = n_eventsd at hn_eventsd ⊢
    have hn_toldd := hln cBool told
    generalize ln (A.enc cBool told) = n_toldd at hn_toldd ⊢
    have hn_workd := hln cInt64 work
    generalize ln (A.enc cInt64 work) = n_workd at hn_workd ⊢
    have hn_heapd := hln cTwig heap
    generalize ln (A.enc cTwig heap) = n_heapd at hn_heapd ⊢
    have hn_listd := hln cTimer list
    generalize ln (A.enc cTimer list) = n_listd at hn_listd ⊢
    have hn_agesd := hln cInt64 ages
    generalize ln (A.enc cInt64 ages) = n_agesd at hn_agesd ⊢
    have hn_usedd := hln cBool used
    generalize ln (A.enc cBool used) = n_usedd at hn_usedd ⊢
    have hn_alistd := hln cAfter alist
    generalize ln (A.enc cAfter alist) = n_alistd at hn_alistd ⊢
    have hn_tasksd := hln cTask tasks
    generalize ln (A.enc cTask tasks) = n_tasksd at hn_tasksd ⊢
    have hn_groupsd := hln (ownGroup A) groups
    generalize ln (A.enc (ownGroup A) groups) = n_groupsd at hn_groupsd ⊢
    have hn_sightsd := hln cSight sights
    generalize ln (A.enc cSight sights) = n_sightsd at hn_sightsd ⊢
    have hn_begand := hln cInt64 began
    generalize ln (A.enc cInt64 began) = n_begand at hn_begand ⊢
    have hn_rangd := hln cInt64 rang
    generalize ln (A.enc cInt64 rang) = n_rangd at hn_rangd ⊢
    (try (refine Drawn.mk ⟨by kernel_rfl, fun _ => ?_⟩)); (repeat (refine Later.mk ?_; cbv))
    refine ACall.valN (r := (fun x : Handle => .agg (cHandle x))) (os := fun _ => []) (dp := false) S.cx (toHandle_c S ⟨h_s, h_a⟩) .go rfl (fun ln hln x hx => ⟨rfl, ?_⟩)
    obtain ⟨sx, ax⟩ := x
    cases hx
    (cbv; repeat (refine Later.mk ?_; cbv))
    (try (refine Drawn.mk ⟨by kernel_rfl, fun _ => ?_⟩)); (repeat (refine Later.mk ?_; cbv))
    refine ACall.valN (r := rWB A) (os := fun _ => []) (dp := false) S.cx (implCallOffIn_c S now progs tree events told work heap list next ages used alist tasks groups sights began rang h_s h_a hfew1) .go rfl (fun ln hln x hx => ⟨rfl, ?_⟩)
    obtain ⟨⟨nowh, progsh, treeh, eventsh, ⟨toldh, workh⟩, ⟨heaph, listh, nexth⟩, ⟨⟨agesh, usedh⟩, alisth⟩, tasksh, groupsh, sightsh, beganh, rangh⟩, b0h⟩ := x
    (cbv; repeat (refine Later.mk ?_; cbv))
    have hN_progsh := hln (ownProg A) progsh
    generalize ln (A.enc (ownProg A) progsh) = N_progsh at hN_progsh ⊢
    have hN_treeh := hln cNode treeh
    generalize ln (A.enc cNode treeh) = N_treeh at hN_treeh ⊢
    have hN_eventsh := hln cEvent eventsh
    generalize ln (A.enc cEvent eventsh) = N_eventsh at hN_eventsh ⊢
    have hN_toldh := hln cBool toldh
    generalize ln (A.enc cBool toldh) = N_toldh at hN_toldh ⊢
    have hN_workh := hln cInt64 workh
    generalize ln (A.enc cInt64 workh) = N_workh at hN_workh ⊢
    have hN_heaph := hln cTwig heaph
    generalize ln (A.enc cTwig heaph) = N_heaph at hN_heaph ⊢
    have hN_listh := hln cTimer listh
    generalize ln (A.enc cTimer listh) = N_listh at hN_listh ⊢
    have hN_agesh := hln cInt64 agesh
    generalize ln (A.enc cInt64 agesh) = N_agesh at hN_agesh ⊢
    have hN_usedh := hln cBool usedh
    generalize ln (A.enc cBool usedh) = N_usedh at hN_usedh ⊢
    have hN_alisth := hln cAfter alisth
    generalize ln (A.enc cAfter alisth) = N_alisth at hN_alisth ⊢
    have hN_tasksh := hln cTask tasksh
    generalize ln (A.enc cTask tasksh) = N_tasksh at hN_tasksh ⊢
    have hN_groupsh := hln (ownGroup A) groupsh
    generalize ln (A.enc (ownGroup A) groupsh) = N_groupsh at hN_groupsh ⊢
    have hN_sightsh := hln cSight sightsh
    generalize ln (A.enc cSight sightsh) = N_sightsh at hN_sightsh ⊢
    have hN_beganh := hln cInt64 beganh
    generalize ln (A.enc cInt64 beganh) = N_beganh at hN_beganh ⊢
    have hN_rangh := hln cInt64 rangh
    generalize ln (A.enc cInt64 rangh) = N_rangh at hN_rangh ⊢
    cases hx.trans hw.symm
    (try (refine Drawn.mk ⟨by kernel_rfl, fun _ => ?_⟩)); (repeat (refine Later.mk ?_; cbv))
    refine ACall.testD (dp := false) (eqWorld_c S noww progsw treew eventsw toldw workw heapw listw nextw agesw usedw alistw tasksw groupsw sightsw beganw rangw noww progsw treew eventsw toldw workw heapw listw nextw agesw usedw alistw tasksw groupsw sightsw beganw rangw) .go rfl (fun h => ?_) (fun h => ?_) <;> (cbv; repeat (refine Later.mk ?_; cbv))
    rotate_left
    · exact absurd rfl h
    (try (refine Drawn.mk ⟨by kernel_rfl, fun _ => ?_⟩)); (repeat (refine Later.mk ?_; cbv))
    refine ACall.int (dp := false) (heldWorld_c S noww progsmg treemg eventsmg toldmg workmg heapmg listmg nextw agesmg usedmg alistmg tasksmg groupsmg sightsmg beganmg rangmg 1 (by decide) hae ham) .go rfl (fun qr hqr => ?_); (cbv; repeat (refine Later.mk ?_; cbv))
    replace hqr : qr = eg := hqr.trans hke
    refine Test.lss (fun h => ?_) (fun h => ?_) <;> (cbv; repeat (refine Later.mk ?_; cbv))
    · exfalso; omega
    refine Test.neq (fun h => ?_) (fun h => ?_) <;> (cbv; repeat (refine Later.mk ?_; cbv))
    · exfalso; omega
    exact Done.to (.bool true) [] rfl rfl trivial ⟨rfl, rfl⟩

end Go.Proofs.YtihfpbhalnedcaaGreat.AM
