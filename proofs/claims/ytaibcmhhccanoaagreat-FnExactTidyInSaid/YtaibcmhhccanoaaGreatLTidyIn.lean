/- The law TidyIn. (printed by gw50.py) -/
import Derived.Test.YtaibcmhhccanoaaGreatZ3
import Derived.Test.YtaibcmhhccanoaaGreatZ4
import Derived.Test.YtaibcmhhccanoaaGreatW10
set_option linter.unusedVariables false
set_option linter.unusedSimpArgs false
namespace Go.Proofs.YtaibcmhhccanoaaGreat.AM
open Go Go.Proofs

set_option maxRecDepth 100000
set_option maxHeartbeats 4000000
set_option linter.unusedVariables false
set_option linter.unusedSimpArgs false

variable {P : Program} {A : Sy}


theorem lawTidyIn_c (S : Se P A) (now : Int) (progs : List (List Ins)) (tree : List Node) (events : List Event) (told : List Bool) (work : List Int) (heap : List Twig) (list : List Timer) (next : Int) (ages : List Int) (used : List Bool) (alist : List After) (tasks : List Task) (groups : List Group) (sights : List Sight) (began rang : List Int) : Is1 P 3 [.agg (roWorld A ⟨now, progs, tree, events, ⟨told, work⟩, ⟨heap, list, next⟩, ⟨⟨ages, used⟩, alist⟩, tasks, groups, sights, began, rang⟩)] (.bool true) := by
  refine S.cx.byS [99999] (S.prog ▸ Tryz.func3) rfl rfl rfl rfl (fun ln hln hv ho => ?_)
  (cbv; repeat (refine Later.mk ?_; cbv))
  clear hv ho
  refine ACall.num (dp := false) (szWorld_c S now progs tree events told work heap list next ages used alist tasks groups sights began rang 1048576 (by lia)) (.of rfl (by repeat' (first | exact trivial | exact rfl | exact Nat.le_refl _ | exact S.ga | exact S.gb ‹_› | exact S.gc ‹_› | exact S.gd | exact S.ge | exact S.gf ‹_› | exact S.gg ‹_› | exact S.gh | exact .inl rfl | exact S.gi ‹_› | exact S.gj ‹_› | exact S.gk | exact S.gl | refine ⟨?_, ?_⟩))) (fun q hq => ?_); (cbv; repeat (refine Later.mk ?_; cbv))
  refine Test.lss (fun h => ?_) (fun h => ?_) <;> (cbv; repeat (refine Later.mk ?_; cbv))
  · exact Done.to (.bool true) [] rfl rfl trivial ⟨rfl, rfl⟩
  replace hq := hq.resolve_left (by lia)
  have hfew1 : (⟨now, progs, tree, events, ⟨told, work⟩, ⟨heap, list, next⟩, ⟨⟨ages, used⟩, alist⟩, tasks, groups, sights, began, rang⟩ : World).few 1048576 := World.few_of (by lia)
  have hfew : (⟨now, progs, tree, events, ⟨told, work⟩, ⟨heap, list, next⟩, ⟨⟨ages, used⟩, alist⟩, tasks, groups, sights, began, rang⟩ : World).few 4294967296 := hfew1.mono (by decide)
  (try (refine Drawn.mk ⟨by kernel_rfl, fun _ => ?_⟩)); (repeat (refine Later.mk ?_; cbv))
  refine ACall.valN (r := (fun x : World => .agg (ownWorld A x))) (os := fun _ => []) (dp := false) S.cx (toWorld_c S now progs tree events told work heap list next ages used alist tasks groups sights began rang hfew) (.of rfl (by repeat' (first | exact trivial | exact rfl | exact Nat.le_refl _ | exact S.ga | exact S.gb ‹_› | exact S.gc ‹_› | exact S.gd | exact S.ge | exact S.gf ‹_› | exact S.gg ‹_› | exact S.gh | exact .inl rfl | exact S.gi ‹_› | exact S.gj ‹_› | exact S.gk | exact S.gl | refine ⟨?_, ?_⟩))) rfl (fun ln hln x hx => ⟨rfl, ?_⟩)
  obtain ⟨nowx, progsx, treex, eventsx, ⟨toldx, workx⟩, ⟨heapx, listx, nextx⟩, ⟨⟨agesx, usedx⟩, alistx⟩, tasksx, groupsx, sightsx, beganx, rangx⟩ := x
  cases hx
  (cbv; repeat (refine Later.mk ?_; cbv))
  have hn_progsa := hln (ownProg A) progs
  generalize ln (A.enc (ownProg A) progs) = n_progsa at hn_progsa ⊢
  have hn_treea := hln cNode tree
  generalize ln (A.enc cNode tree) = n_treea at hn_treea ⊢
  have hn_eventsa := hln cEvent events
  generalize ln (A.enc cEvent events) = n_eventsa at hn_eventsa ⊢
  have hn_tolda := hln cBool told
  generalize ln (A.enc cBool told) = n_tolda at hn_tolda ⊢
  have hn_worka := hln cInt64 work
  generalize ln (A.enc cInt64 work) = n_worka at hn_worka ⊢
  have hn_heapa := hln cTwig heap
  generalize ln (A.enc cTwig heap) = n_heapa at hn_heapa ⊢
  have hn_lista := hln cTimer list
  generalize ln (A.enc cTimer list) = n_lista at hn_lista ⊢
  have hn_agesa := hln cInt64 ages
  generalize ln (A.enc cInt64 ages) = n_agesa at hn_agesa ⊢
  have hn_useda := hln cBool used
  generalize ln (A.enc cBool used) = n_useda at hn_useda ⊢
  have hn_alista := hln cAfter alist
  generalize ln (A.enc cAfter alist) = n_alista at hn_alista ⊢
  have hn_tasksa := hln cTask tasks
  generalize ln (A.enc cTask tasks) = n_tasksa at hn_tasksa ⊢
  have hn_groupsa := hln (ownGroup A) groups
  generalize ln (A.enc (ownGroup A) groups) = n_groupsa at hn_groupsa ⊢
  have hn_sightsa := hln cSight sights
  generalize ln (A.enc cSight sights) = n_sightsa at hn_sightsa ⊢
  have hn_begana := hln cInt64 began
  generalize ln (A.enc cInt64 began) = n_begana at hn_begana ⊢
  have hn_ranga := hln cInt64 rang
  generalize ln (A.enc cInt64 rang) = n_ranga at hn_ranga ⊢
  (try (refine Drawn.mk ⟨by kernel_rfl, fun _ => ?_⟩)); (repeat (refine Later.mk ?_; cbv))
  refine ACall.testD (dp := false) (specTidyIn_c S now progs tree events told work heap list next ages used alist tasks groups sights began rang) (.of rfl (by repeat' (first | exact trivial | exact rfl | exact Nat.le_refl _ | exact S.ga | exact S.gb ‹_› | exact S.gc ‹_› | exact S.gd | exact S.ge | exact S.gf ‹_› | exact S.gg ‹_› | exact S.gh | exact .inl rfl | exact S.gi ‹_› | exact S.gj ‹_› | exact S.gk | exact S.gl | refine ⟨?_, ?_⟩))) rfl (fun h1 => ?_) (fun h1 => ?_) <;> (cbv; repeat (refine Later.mk ?_; cbv))
  all_goals
    (try (refine Drawn.mk ⟨by kernel_rfl, fun _ => ?_⟩)); (repeat (refine Later.mk ?_; cbv))
    refine ACall.valN (r := (fun x : World => .agg (ownWorld A x))) (os := fun _ => []) (dp := false) S.cx (toWorld_c S now progs tree events told work heap list next ages used alist tasks groups sights began rang hfew) (.of rfl (by repeat' (first | exact trivial | exact rfl | exact Nat.le_refl _ | exact S.ga | exact S.gb ‹_› | exact S.gc ‹_› | exact S.gd | exact S.ge | exact S.gf ‹_› | exact S.gg ‹_› | exact S.gh | exact .inl rfl | exact S.gi ‹_› | exact S.gj ‹_› | exact S.gk | exact S.gl | refine ⟨?_, ?_⟩))) rfl (fun ln hln x hx => ⟨rfl, ?_⟩)
    obtain ⟨nowx, progsx, treex, eventsx, ⟨toldx, workx⟩, ⟨heapx, listx, nextx⟩, ⟨⟨agesx, usedx⟩, alistx⟩, tasksx, groupsx, sightsx, beganx, rangx⟩ := x
    cases hx
    (cbv; repeat (refine Later.mk ?_; cbv))
    have hn_progsb := hln (ownProg A) progs
    generalize ln (A.enc (ownProg A) progs) = n_progsb at hn_progsb ⊢
    have hn_treeb := hln cNode tree
    generalize ln (A.enc cNode tree) = n_treeb at hn_treeb ⊢
    have hn_eventsb := hln cEvent events
    generalize ln (A.enc cEvent events) = n_eventsb at hn_eventsb ⊢
    have hn_toldb := hln cBool told
    generalize ln (A.enc cBool told) = n_toldb at hn_toldb ⊢
    have hn_workb := hln cInt64 work
    generalize ln (A.enc cInt64 work) = n_workb at hn_workb ⊢
    have hn_heapb := hln cTwig heap
    generalize ln (A.enc cTwig heap) = n_heapb at hn_heapb ⊢
    have hn_listb := hln cTimer list
    generalize ln (A.enc cTimer list) = n_listb at hn_listb ⊢
    have hn_agesb := hln cInt64 ages
    generalize ln (A.enc cInt64 ages) = n_agesb at hn_agesb ⊢
    have hn_usedb := hln cBool used
    generalize ln (A.enc cBool used) = n_usedb at hn_usedb ⊢
    have hn_alistb := hln cAfter alist
    generalize ln (A.enc cAfter alist) = n_alistb at hn_alistb ⊢
    have hn_tasksb := hln cTask tasks
    generalize ln (A.enc cTask tasks) = n_tasksb at hn_tasksb ⊢
    have hn_groupsb := hln (ownGroup A) groups
    generalize ln (A.enc (ownGroup A) groups) = n_groupsb at hn_groupsb ⊢
    have hn_sightsb := hln cSight sights
    generalize ln (A.enc cSight sights) = n_sightsb at hn_sightsb ⊢
    have hn_beganb := hln cInt64 began
    generalize ln (A.enc cInt64 began) = n_beganb at hn_beganb ⊢
    have hn_rangb := hln cInt64 rang
    generalize ln (A.enc cInt64 rang) = n_rangb at hn_rangb ⊢
    refine ACall.testD (dp := false) (implTidyIn_c S now progs tree events told work heap list next ages used alist tasks groups sights began rang) (.of rfl (by repeat' (first | exact trivial | exact rfl | exact Nat.le_refl _ | exact S.ga | exact S.gb ‹_› | exact S.gc ‹_› | exact S.gd | exact S.ge | exact S.gf ‹_› | exact S.gg ‹_› | exact S.gh | exact .inl rfl | exact S.gi ‹_› | exact S.gj ‹_› | exact S.gk | exact S.gl | refine ⟨?_, ?_⟩))) rfl (fun h2 => ?_) (fun h2 => ?_) <;> (cbv; repeat (refine Later.mk ?_; cbv))
    all_goals (first | exact absurd h2 h1 | exact absurd h1 h2 | skip)
    (try (refine Drawn.mk ⟨by kernel_rfl, fun _ => ?_⟩)); (repeat (refine Later.mk ?_; cbv))
    refine ACall.valN (r := (fun x : World => .agg (ownWorld A x))) (os := fun _ => []) (dp := false) S.cx (toWorld_c S now progs tree events told work heap list next ages used alist tasks groups sights began rang hfew) (.of rfl (by repeat' (first | exact trivial | exact rfl | exact Nat.le_refl _ | exact S.ga | exact S.gb ‹_› | exact S.gc ‹_› | exact S.gd | exact S.ge | exact S.gf ‹_› | exact S.gg ‹_› | exact S.gh | exact .inl rfl | exact S.gi ‹_› | exact S.gj ‹_› | exact S.gk | exact S.gl | refine ⟨?_, ?_⟩))) rfl (fun ln hln x hx => ⟨rfl, ?_⟩)
    obtain ⟨nowx, progsx, treex, eventsx, ⟨toldx, workx⟩, ⟨heapx, listx, nextx⟩, ⟨⟨agesx, usedx⟩, alistx⟩, tasksx, groupsx, sightsx, beganx, rangx⟩ := x
    cases hx
    (cbv; repeat (refine Later.mk ?_; cbv))
    have hn_progsc := hln (ownProg A) progs
    generalize ln (A.enc (ownProg A) progs) = n_progsc at hn_progsc ⊢
    have hn_treec := hln cNode tree
    generalize ln (A.enc cNode tree) = n_treec at hn_treec ⊢
    have hn_eventsc := hln cEvent events
    generalize ln (A.enc cEvent events) = n_eventsc at hn_eventsc ⊢
    have hn_toldc := hln cBool told
    generalize ln (A.enc cBool told) = n_toldc at hn_toldc ⊢
    have hn_workc := hln cInt64 work
    generalize ln (A.enc cInt64 work) = n_workc at hn_workc ⊢
    have hn_heapc := hln cTwig heap
    generalize ln (A.enc cTwig heap) = n_heapc at hn_heapc ⊢
    have hn_listc := hln cTimer list
    generalize ln (A.enc cTimer list) = n_listc at hn_listc ⊢
    have hn_agesc := hln cInt64 ages
    generalize ln (A.enc cInt64 ages) = n_agesc at hn_agesc ⊢
    have hn_usedc := hln cBool used
    generalize ln (A.enc cBool used) = n_usedc at hn_usedc ⊢
    have hn_alistc := hln cAfter alist
    generalize ln (A.enc cAfter alist) = n_alistc at hn_alistc ⊢
    have hn_tasksc := hln cTask tasks
    generalize ln (A.enc cTask tasks) = n_tasksc at hn_tasksc ⊢
    have hn_groupsc := hln (ownGroup A) groups
    generalize ln (A.enc (ownGroup A) groups) = n_groupsc at hn_groupsc ⊢
    have hn_sightsc := hln cSight sights
    generalize ln (A.enc cSight sights) = n_sightsc at hn_sightsc ⊢
    have hn_beganc := hln cInt64 began
    generalize ln (A.enc cInt64 began) = n_beganc at hn_beganc ⊢
    have hn_rangc := hln cInt64 rang
    generalize ln (A.enc cInt64 rang) = n_rangc at hn_rangc ⊢
    refine ACall.testD (dp := false) (eqWorld_c S now progs tree events told work heap list next ages used alist tasks groups sights began rang now progs tree events told work heap list next ages used alist tasks groups sights began rang) (.of rfl (by repeat' (first | exact trivial | exact rfl | exact Nat.le_refl _ | exact S.ga | exact S.gb ‹_› | exact S.gc ‹_› | exact S.gd | exact S.ge | exact S.gf ‹_› | exact S.gg ‹_› | exact S.gh | exact .inl rfl | exact S.gi ‹_› | exact S.gj ‹_› | exact S.gk | exact S.gl | refine ⟨?_, ?_⟩))) rfl (fun h3 => ?_) (fun h3 => ?_) <;> (cbv; repeat (refine Later.mk ?_; cbv))
    rotate_left
    · exact absurd rfl h3
    exact Done.to (.bool true) [] rfl rfl trivial ⟨rfl, rfl⟩

end Go.Proofs.YtaibcmhhccanoaaGreat.AM
