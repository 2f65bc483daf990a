/- Contracts: TaskIn. (printed by gw41.py) -/
import Derived.Test.YtihfpbhalnedcaaGreatW41
import Derived.Test.YtihfpbhalnedcaaGreatVTsk
set_option linter.unusedVariables false
set_option linter.unusedSimpArgs false
namespace Go.Proofs.YtihfpbhalnedcaaGreat.AM
open Go Go.Proofs

set_option maxRecDepth 100000
set_option maxHeartbeats 4000000

variable {P : Program} {A : Sy}

def newTask (prog group : Int) : Task := if TaskOk ⟨prog, 0, 0, 0, 0, -1, 0, group, 0⟩ then ⟨prog, 0, 0, 0, 0, -1, 0, group, 0⟩ else task0

theorem implNewTask_c (S : Se P A) (prog group : Int) : Is1 P 187 [.int .i64 prog, .int .i64 group] (.agg (cTask (newTask prog group))) := by
  refine S.cx.by (S.prog ▸ Tryz.func187) rfl rfl rfl rfl (fun hv ho => ?_)
  cbv
  refine ACall.testD (dp := false) (implTaskOk_c S _ _ _ _ _ _ _ _ _) ⟨rfl, (by repeat' (first | exact trivial | exact rfl | refine ⟨?_, ?_⟩)), trivial⟩ rfl (fun h => ?_) (fun h => ?_) <;> cbv
  · exact Done.isA (r := fun x : Task => .agg (cTask x)) (x := ⟨prog, 0, 0, 0, 0, -1, 0, group, 0⟩) (if_pos h)
  · exact Done.isA (r := fun x : Task => .agg (cTask x)) (x := task0) (if_neg h)

theorem specNewTaskW_c (S : Se P A) (prog group : Int) : Is1 P 91 [.int .i64 prog, .int .i64 group] (.agg (cTask (newTask prog group))) := by
  refine S.cx.by (S.prog ▸ Tryz.func91) rfl rfl rfl rfl (fun hv ho => ?_)
  cbv
  refine ACall.testD (dp := false) (specTaskOk_c S _ _ _ _ _ _ _ _ _) ⟨rfl, (by repeat' (first | exact trivial | exact rfl | refine ⟨?_, ?_⟩)), trivial⟩ rfl (fun h => ?_) (fun h => ?_) <;> cbv
  · exact Done.isA (r := fun x : Task => .agg (cTask x)) (x := ⟨prog, 0, 0, 0, 0, -1, 0, group, 0⟩) (if_pos h)
  · exact Done.isA (r := fun x : Task => .agg (cTask x)) (x := task0) (if_neg h)

theorem taskD_is {w : World} {prog : Int} {l : List Task} (h : l = w.tasks ++ [newTask prog (-1)]) : TaskD prog w = ({ w with tasks := l }, true) := by rw [h]; rfl
theorem asked_len {w x : World} {prog : Int} (h : Asked w (TaskD prog) = (x, true)) : x.tasks.length = w.tasks.length + 1 := by
  unfold Asked at h
  split at h
  · split at h
    · have := congrArg (fun z : World × Bool => z.1.tasks) h
      dsimp only [TaskD] at this
      rw [<- this, List.length_append]; rfl
    · cases h
  · cases h

theorem beginTask_c (S : Se P A) (now : Int) (progs : List (List Ins)) (tree : List Node) (events : List Event) (told : List Bool) (work : List Int) (heap : List Twig) (list : List Timer) (next : Int) (ages : List Int) (used : List Bool) (alist : List After) (tasks : List Task) (groups : List Group) (sights : List Sight) (began rang : List Int) (prog : Int) (hb : tasks.length <= 1048576) : SoundM P 93 false [.ptr 1000 0 0, .int .i64 prog, .int .i64 (-1)] [.box (ownWorld A ⟨now, progs, tree, events, ⟨told, work⟩, ⟨heap, list, next⟩, ⟨⟨ages, used⟩, alist⟩, tasks, groups, sights, began, rang⟩)]
    (fun v os => v = .bool (TaskD prog ⟨now, progs, tree, events, ⟨told, work⟩, ⟨heap, list, next⟩, ⟨⟨ages, used⟩, alist⟩, tasks, groups, sights, began, rang⟩).2 /\ os = [some (.box (ownWorld A (TaskD prog ⟨now, progs, tree, events, ⟨told, work⟩, ⟨heap, list, next⟩, ⟨⟨ages, used⟩, alist⟩, tasks, groups, sights, began, rang⟩).1))]) := by
  refine S.cx.byS [99999] (S.prog ▸ Tryz.func93) rfl rfl rfl rfl (fun ln hln hv ho => ?_)
  (cbv; repeat (refine Later.mk ?_; cbv))
  have hn_progs := hln (ownProg A) progs
  generalize ln (A.enc (ownProg A) progs) = n_progs at hn_progs ⊢
  have hn_tree := hln cNode tree
  generalize ln (A.enc cNode tree) = n_tree at hn_tree ⊢
  have hn_events := hln cEvent events
  generalize ln (A.enc cEvent events) = n_events at hn_events ⊢
  have hn_told := hln cBool told
  generalize ln (A.enc cBool told) = n_told at hn_told ⊢
  have hn_work := hln cInt64 work
  generalize ln (A.enc cInt64 work) = n_work at hn_work ⊢
  have hn_heap := hln cTwig heap
  generalize ln (A.enc cTwig heap) = n_heap at hn_heap ⊢
  have hn_list := hln cTimer list
  generalize ln (A.enc cTimer list) = n_list at hn_list ⊢
  have hn_ages := hln cInt64 ages
  generalize ln (A.enc cInt64 ages) = n_ages at hn_ages ⊢
  have hn_used := hln cBool used
  generalize ln (A.enc cBool used) = n_used at hn_used ⊢
  have hn_alist := hln cAfter alist
  generalize ln (A.enc cAfter alist) = n_alist at hn_alist ⊢
  have hn_tasks := hln cTask tasks
  generalize ln (A.enc cTask tasks) = n_tasks at hn_tasks ⊢
  have hn_groups := hln (ownGroup A) groups
  generalize ln (A.enc (ownGroup A) groups) = n_groups at hn_groups ⊢
  have hn_sights := hln cSight sights
  generalize ln (A.enc cSight sights) = n_sights at hn_sights ⊢
  have hn_began := hln cInt64 began
  generalize ln (A.enc cInt64 began) = n_began at hn_began ⊢
  have hn_rang := hln cInt64 rang
  generalize ln (A.enc cInt64 rang) = n_rang at hn_rang ⊢
  clear hv ho
  (try (refine Drawn.mk ⟨by kernel_rfl, fun _ => ?_⟩)); (repeat (refine Later.mk ?_; cbv))
  refine ACall.valN (r := (fun x : Task => .agg (cTask x))) (os := fun _ => []) (dp := false) S.cx (implNewTask_c S prog (-1)) .go rfl (fun ln hln x hx => ⟨rfl, ?_⟩)
  obtain ⟨t1, t2, t3, t4, t5, t6, t7, t8, t9⟩ := x
  (cbv; repeat (refine Later.mk ?_; cbv))
  (try (refine Drawn.mk ⟨by kernel_rfl, fun _ => ?_⟩)); (repeat (refine Later.mk ?_; cbv))
  refine Part.one ?_; (cbv; repeat (refine Later.mk ?_; cbv))
  refine AppRef.push S.cx (⟨t1, t2, t3, t4, t5, t6, t7, t8, t9⟩ : Task) (by assumption) rfl rfl plainTask (fun _ => rfl) (by simp only [maxBytes]; omega) (fun m tasks2 hw hml => ?_); (cbv; repeat (refine Later.mk ?_; cbv))
  rw [taskD_is (w := ⟨now, progs, tree, events, ⟨told, work⟩, ⟨heap, list, next⟩, ⟨⟨ages, used⟩, alist⟩, tasks, groups, sights, began, rang⟩) (prog := prog) (l := tasks2) (by rw [hw, hx])]
  (try (refine Drawn.mk ⟨by kernel_rfl, fun _ => ?_⟩)); (repeat (refine Later.mk ?_; cbv))
  exact Done.toA (.bool true) [some (.box (ownWorld A ⟨now, progs, tree, events, ⟨told, work⟩, ⟨heap, list, next⟩, ⟨⟨ages, used⟩, alist⟩, tasks2, groups, sights, began, rang⟩))] ⟨rfl, rfl⟩

theorem taskIn1_c (S : Se P A) (now : Int) (progs : List (List Ins)) (tree : List Node) (events : List Event) (told : List Bool) (work : List Int) (heap : List Twig) (list : List Timer) (next : Int) (ages : List Int) (used : List Bool) (alist : List After) (tasks : List Task) (groups : List Group) (sights : List Sight) (began rang : List Int) (prog : Int) (hb : tasks.length <= 1048576) : SoundM P 92 false [.ptr 1000 0 0, .rptr [.int .i64 prog]] [.box (ownWorld A ⟨now, progs, tree, events, ⟨told, work⟩, ⟨heap, list, next⟩, ⟨⟨ages, used⟩, alist⟩, tasks, groups, sights, began, rang⟩)]
    (fun v os => v = .bool (TaskD prog ⟨now, progs, tree, events, ⟨told, work⟩, ⟨heap, list, next⟩, ⟨⟨ages, used⟩, alist⟩, tasks, groups, sights, began, rang⟩).2 /\ os = [some (.box (ownWorld A (TaskD prog ⟨now, progs, tree, events, ⟨told, work⟩, ⟨heap, list, next⟩, ⟨⟨ages, used⟩, alist⟩, tasks, groups, sights, began, rang⟩).1))]) := by
  refine S.cx.byS [99999] (S.prog ▸ Tryz.func92) rfl rfl rfl rfl (fun ln hln hv ho => ?_)
  (cbv; repeat (refine Later.mk ?_; cbv))
  have hn_progs := hln (ownProg A) progs
  generalize ln (A.enc (ownProg A) progs) = n_progs at hn_progs ⊢
  have hn_tree := hln cNode tree
  generalize ln (A.enc cNode tree) = n_tree at hn_tree ⊢
  have hn_events := hln cEvent events
  generalize ln (A.enc cEvent events) = n_events at hn_events ⊢
  have hn_told := hln cBool told
  generalize ln (A.enc cBool told) = n_told at hn_told ⊢
  have hn_work := hln cInt64 work
  generalize ln (A.enc cInt64 work) = n_work at hn_work ⊢
  have hn_heap := hln cTwig heap
  generalize ln (A.enc cTwig heap) = n_heap at hn_heap ⊢
  have hn_list := hln cTimer list
  generalize ln (A.enc cTimer list) = n_list at hn_list ⊢
  have hn_ages := hln cInt64 ages
  generalize ln (A.enc cInt64 ages) = n_ages at hn_ages ⊢
  have hn_used := hln cBool used
  generalize ln (A.enc cBool used) = n_used at hn_used ⊢
  have hn_alist := hln cAfter alist
  generalize ln (A.enc cAfter alist) = n_alist at hn_alist ⊢
  have hn_tasks := hln cTask tasks
  generalize ln (A.enc cTask tasks) = n_tasks at hn_tasks ⊢
  have hn_groups := hln (ownGroup A) groups
  generalize ln (A.enc (ownGroup A) groups) = n_groups at hn_groups ⊢
  have hn_sights := hln cSight sights
  generalize ln (A.enc cSight sights) = n_sights at hn_sights ⊢
  have hn_began := hln cInt64 began
  generalize ln (A.enc cInt64 began) = n_began at hn_began ⊢
  have hn_rang := hln cInt64 rang
  generalize ln (A.enc cInt64 rang) = n_rang at hn_rang ⊢
  clear hv ho
  refine ACall.valN (r := fun x : World × Bool => .bool x.2) (os := fun x => [some (.box (ownWorld A x.1))]) (dp := false) S.cx (beginTask_c S now progs tree events told work heap list next ages used alist tasks groups sights began rang prog hb) .go rfl (fun ln hln x hx => ⟨rfl, ?_⟩)
  obtain ⟨⟨nowx, progsx, treex, eventsx, ⟨toldx, workx⟩, ⟨heapx, listx, nextx⟩, ⟨⟨agesx, usedx⟩, alistx⟩, tasksx, groupsx, sightsx, beganx, rangx⟩, b⟩ := x
  (cbv; repeat (refine Later.mk ?_; cbv))
  have hN_progs := hln (ownProg A) progsx
  generalize ln (A.enc (ownProg A) progsx) = N_progs at hN_progs ⊢
  have hN_tree := hln cNode treex
  generalize ln (A.enc cNode treex) = N_tree at hN_tree ⊢
  have hN_events := hln cEvent eventsx
  generalize ln (A.enc cEvent eventsx) = N_events at hN_events ⊢
  have hN_told := hln cBool toldx
  generalize ln (A.enc cBool toldx) = N_told at hN_told ⊢
  have hN_work := hln cInt64 workx
  generalize ln (A.enc cInt64 workx) = N_work at hN_work ⊢
  have hN_heap := hln cTwig heapx
  generalize ln (A.enc cTwig heapx) = N_heap at hN_heap ⊢
  have hN_list := hln cTimer listx
  generalize ln (A.enc cTimer listx) = N_list at hN_list ⊢
  have hN_ages := hln cInt64 agesx
  generalize ln (A.enc cInt64 agesx) = N_ages at hN_ages ⊢
  have hN_used := hln cBool usedx
  generalize ln (A.enc cBool usedx) = N_used at hN_used ⊢
  have hN_alist := hln cAfter alistx
  generalize ln (A.enc cAfter alistx) = N_alist at hN_alist ⊢
  have hN_tasks := hln cTask tasksx
  generalize ln (A.enc cTask tasksx) = N_tasks at hN_tasks ⊢
  have hN_groups := hln (ownGroup A) groupsx
  generalize ln (A.enc (ownGroup A) groupsx) = N_groups at hN_groups ⊢
  have hN_sights := hln cSight sightsx
  generalize ln (A.enc cSight sightsx) = N_sights at hN_sights ⊢
  have hN_began := hln cInt64 beganx
  generalize ln (A.enc cInt64 beganx) = N_began at hN_began ⊢
  have hN_rang := hln cInt64 rangx
  generalize ln (A.enc cInt64 rangx) = N_rang at hN_rang ⊢
  rw [<- hx]
  exact Done.toA (.bool b) [some (.box (ownWorld A ⟨nowx, progsx, treex, eventsx, ⟨toldx, workx⟩, ⟨heapx, listx, nextx⟩, ⟨⟨agesx, usedx⟩, alistx⟩, tasksx, groupsx, sightsx, beganx, rangx⟩))] ⟨rfl, rfl⟩

theorem implTaskIn_c (S : Se P A) (now : Int) (progs : List (List Ins)) (tree : List Node) (events : List Event) (told : List Bool) (work : List Int) (heap : List Twig) (list : List Timer) (next : Int) (ages : List Int) (used : List Bool) (alist : List After) (tasks : List Task) (groups : List Group) (sights : List Sight) (began rang : List Int) (prog : Int) (hfew : (⟨now, progs, tree, events, ⟨told, work⟩, ⟨heap, list, next⟩, ⟨⟨ages, used⟩, alist⟩, tasks, groups, sights, began, rang⟩ : World).few 1048576) : Is1 P 19 [.agg (roWorld A ⟨now, progs, tree, events, ⟨told, work⟩, ⟨heap, list, next⟩, ⟨⟨ages, used⟩, alist⟩, tasks, groups, sights, began, rang⟩), .int .i64 prog] (rWI A (TaskIn ⟨now, progs, tree, events, ⟨told, work⟩, ⟨heap, list, next⟩, ⟨⟨ages, used⟩, alist⟩, tasks, groups, sights, began, rang⟩ prog)) := by
  refine S.cx.byS [99999] (S.prog ▸ Tryz.func19) rfl rfl rfl rfl (fun ln hln hv ho => ?_)
  (cbv; repeat (refine Later.mk ?_; cbv))
  clear hv ho
  refine ACall.valN (r := rWB A) (os := fun _ => []) (dp := false) S.cx (asked1_c S now progs tree events told work heap list next ages used alist tasks groups sights began rang hfew _ [.int .i64 prog] (TaskD prog) (fun h => taskIn1_c S now progs tree events told work heap list next ages used alist tasks groups sights began rang prog hfew.tasks)) .go rfl (fun ln hln x hx => ⟨rfl, ?_⟩)
  obtain ⟨⟨nowx, progsx, treex, eventsx, ⟨toldx, workx⟩, ⟨heapx, listx, nextx⟩, ⟨⟨agesx, usedx⟩, alistx⟩, tasksx, groupsx, sightsx, beganx, rangx⟩, b⟩ := x
  (cbv; repeat (refine Later.mk ?_; cbv))
  have hN_progs := hln (ownProg A) progsx
  generalize ln (A.enc (ownProg A) progsx) = N_progs at hN_progs ⊢
  have hN_tree := hln cNode treex
  generalize ln (A.enc cNode treex) = N_tree at hN_tree ⊢
  have hN_events := hln cEvent eventsx
  generalize ln (A.enc cEvent eventsx) = N_events at hN_events ⊢
  have hN_told := hln cBool toldx
  generalize ln (A.enc cBool toldx) = N_told at hN_told ⊢
  have hN_work := hln cInt64 workx
  generalize ln (A.enc cInt64 workx) = N_work at hN_work ⊢
  have hN_heap := hln cTwig heapx
  generalize ln (A.enc cTwig heapx) = N_heap at hN_heap ⊢
  have hN_list := hln cTimer listx
  generalize ln (A.enc cTimer listx) = N_list at hN_list ⊢
  have hN_ages := hln cInt64 agesx
  generalize ln (A.enc cInt64 agesx) = N_ages at hN_ages ⊢
  have hN_used := hln cBool usedx
  generalize ln (A.enc cBool usedx) = N_used at hN_used ⊢
  have hN_alist := hln cAfter alistx
  generalize ln (A.enc cAfter alistx) = N_alist at hN_alist ⊢
  have hN_tasks := hln cTask tasksx
  generalize ln (A.enc cTask tasksx) = N_tasks at hN_tasks ⊢
  have hN_groups := hln (ownGroup A) groupsx
  generalize ln (A.enc (ownGroup A) groupsx) = N_groups at hN_groups ⊢
  have hN_sights := hln cSight sightsx
  generalize ln (A.enc cSight sightsx) = N_sights at hN_sights ⊢
  have hN_began := hln cInt64 beganx
  generalize ln (A.enc cInt64 beganx) = N_began at hN_began ⊢
  have hN_rang := hln cInt64 rangx
  generalize ln (A.enc cInt64 rangx) = N_rang at hN_rang ⊢
  have hA : Asked ⟨now, progs, tree, events, ⟨told, work⟩, ⟨heap, list, next⟩, ⟨⟨ages, used⟩, alist⟩, tasks, groups, sights, began, rang⟩ (TaskD prog) = (⟨nowx, progsx, treex, eventsx, ⟨toldx, workx⟩, ⟨heapx, listx, nextx⟩, ⟨⟨agesx, usedx⟩, alistx⟩, tasksx, groupsx, sightsx, beganx, rangx⟩, b) := hx.symm
  clear hx
  cases b <;> ((cbv; repeat (refine Later.mk ?_; cbv)); repeat (refine Later.mk ?_; (cbv; repeat (refine Later.mk ?_; cbv))))
  · (try (refine Drawn.mk ⟨by kernel_rfl, fun _ => ?_⟩)); (repeat (refine Later.mk ?_; cbv))
    exact Done.toA (rWI A (⟨nowx, progsx, treex, eventsx, ⟨toldx, workx⟩, ⟨heapx, listx, nextx⟩, ⟨⟨agesx, usedx⟩, alistx⟩, tasksx, groupsx, sightsx, beganx, rangx⟩, -1)) [] ⟨by rw [TaskIn, hA]; rfl, rfl⟩
  have hlen : tasksx.length = tasks.length + 1 := asked_len hA
  (try (refine Drawn.mk ⟨by kernel_rfl, fun _ => ?_⟩)); (repeat (refine Later.mk ?_; cbv))
  refine ACall.int (dp := false) (SoundM.knownW (e := (Int.ofNat tasksx.length)) (sizeTaskW_c S tasksx) (fun n h => by have := h; simp only [Int.ofNat_eq_natCast]; omega)) .go rfl (fun m hm => ?_); (cbv; repeat (refine Later.mk ?_; cbv))
  replace hm : 0 <= m /\ m.toNat = tasksx.length := by rw [hm]; exact ⟨Int.natCast_nonneg _, rfl⟩
  (try (refine Drawn.mk ⟨by kernel_rfl, fun _ => ?_⟩)); (repeat (refine Later.mk ?_; cbv))
  refine Arith.go (by have := hfew.tasks; dsimp only at this; lia) (fun m2 hm2 => ?_); replace hm2 : m2 = m - 1 := hm2; (cbv; repeat (refine Later.mk ?_; cbv))
  (try (refine Drawn.mk ⟨by kernel_rfl, fun _ => ?_⟩)); (repeat (refine Later.mk ?_; cbv))
  exact Done.toA (rWI A (⟨nowx, progsx, treex, eventsx, ⟨toldx, workx⟩, ⟨heapx, listx, nextx⟩, ⟨⟨agesx, usedx⟩, alistx⟩, tasksx, groupsx, sightsx, beganx, rangx⟩, m2)) [] ⟨by rw [TaskIn, hA, if_pos rfl, show m2 = (tasks.length : Int) by omega], rfl⟩

theorem specTaskIn_c (S : Se P A) (now : Int) (progs : List (List Ins)) (tree : List Node) (events : List Event) (told : List Bool) (work : List Int) (heap : List Twig) (list : List Timer) (next : Int) (ages : List Int) (used : List Bool) (alist : List After) (tasks : List Task) (groups : List Group) (sights : List Sight) (began rang : List Int) (prog : Int) (hfew : (⟨now, progs, tree, events, ⟨told, work⟩, ⟨heap, list, next⟩, ⟨⟨ages, used⟩, alist⟩, tasks, groups, sights, began, rang⟩ : World).few 1048576) : Is1 P 18 [.agg (roWorld A ⟨now, progs, tree, events, ⟨told, work⟩, ⟨heap, list, next⟩, ⟨⟨ages, used⟩, alist⟩, tasks, groups, sights, began, rang⟩), .int .i64 prog] (rWI A (TaskIn ⟨now, progs, tree, events, ⟨told, work⟩, ⟨heap, list, next⟩, ⟨⟨ages, used⟩, alist⟩, tasks, groups, sights, began, rang⟩ prog)) := by
  refine S.cx.byS [99999] (S.prog ▸ Tryz.func18) rfl rfl rfl rfl (fun ln hln hv ho => ?_)
  (cbv; repeat (refine Later.mk ?_; cbv))
  clear hv ho
  refine ACall.testD (dp := false) (specWorldOk_c S now progs tree events told work heap list next ages used alist tasks groups sights began rang) .go rfl (fun h => ?_) (fun h => ?_) <;> (cbv; repeat (refine Later.mk ?_; cbv))
  rotate_left
  · exact Done.isA (r := rWI A) (x := (world0, -1)) (by rw [TaskIn, asked_bad h]; rfl)
  (try (refine Drawn.mk ⟨by kernel_rfl, fun _ => ?_⟩)); (repeat (refine Later.mk ?_; cbv))
  refine ACall.valN (r := (fun x : World => .agg (ownWorld A x))) (os := fun _ => []) (dp := false) S.cx (l13Copy_c S now progs tree events told work heap list next ages used alist tasks groups sights began rang hfew) .go rfl (fun ln hln x hx => ⟨rfl, ?_⟩)
  obtain ⟨nowc, progsc, treec, eventsc, ⟨toldc, workc⟩, ⟨heapc, listc, nextc⟩, ⟨⟨agesc, usedc⟩, alistc⟩, tasksc, groupsc, sightsc, beganc, rangc⟩ := x
  cases hx
  (cbv; repeat (refine Later.mk ?_; cbv))
  have hn_progs := hln (ownProg A) progs
  generalize ln (A.enc (ownProg A) progs) = n_progs at hn_progs ⊢
  have hn_tree := hln cNode tree
  generalize ln (A.enc cNode tree) = n_tree at hn_tree ⊢
  have hn_events := hln cEvent events
  generalize ln (A.enc cEvent events) = n_events at hn_events ⊢
  have hn_told := hln cBool told
  generalize ln (A.enc cBool told) = n_told at hn_told ⊢
  have hn_work := hln cInt64 work
  generalize ln (A.enc cInt64 work) = n_work at hn_work ⊢
  have hn_heap := hln cTwig heap
  generalize ln (A.enc cTwig heap) = n_heap at hn_heap ⊢
  have hn_list := hln cTimer list
  generalize ln (A.enc cTimer list) = n_list at hn_list ⊢
  have hn_ages := hln cInt64 ages
  generalize ln (A.enc cInt64 ages) = n_ages at hn_ages ⊢
  have hn_used := hln cBool used
  generalize ln (A.enc cBool used) = n_used at hn_used ⊢
  have hn_alist := hln cAfter alist
  generalize ln (A.enc cAfter alist) = n_alist at hn_alist ⊢
  have hn_tasks := hln cTask tasks
  generalize ln (A.enc cTask tasks) = n_tasks at hn_tasks ⊢
  have hn_groups := hln (ownGroup A) groups
  generalize ln (A.enc (ownGroup A) groups) = n_groups at hn_groups ⊢
  have hn_sights := hln cSight sights
  generalize ln (A.enc cSight sights) = n_sights at hn_sights ⊢
  have hn_began := hln cInt64 began
  generalize ln (A.enc cInt64 began) = n_began at hn_began ⊢
  have hn_rang := hln cInt64 rang
  generalize ln (A.enc cInt64 rang) = n_rang at hn_rang ⊢
  (try (refine Drawn.mk ⟨by kernel_rfl, fun _ => ?_⟩)); (repeat (refine Later.mk ?_; cbv))
  refine ACall.valN (r := (fun x : Task => .agg (cTask x))) (os := fun _ => []) (dp := false) S.cx (specNewTaskW_c S prog (-1)) .go rfl (fun ln hln x hx => ⟨rfl, ?_⟩)
  obtain ⟨t1, t2, t3, t4, t5, t6, t7, t8, t9⟩ := x
  (cbv; repeat (refine Later.mk ?_; cbv))
  (try (refine Drawn.mk ⟨by kernel_rfl, fun _ => ?_⟩)); (repeat (refine Later.mk ?_; cbv))
  refine Part.one ?_; (cbv; repeat (refine Later.mk ?_; cbv))
  refine AppRef.push S.cx (⟨t1, t2, t3, t4, t5, t6, t7, t8, t9⟩ : Task) (by assumption) rfl rfl plainTask (fun _ => rfl) (by simp only [maxBytes]; have := hfew.tasks; dsimp only at this; omega) (fun n_tasks2 tasks2 hw hn_tasks2 => ?_); (cbv; repeat (refine Later.mk ?_; cbv))
  have hD := taskD_is (w := ⟨now, progs, tree, events, ⟨told, work⟩, ⟨heap, list, next⟩, ⟨⟨ages, used⟩, alist⟩, tasks, groups, sights, began, rang⟩) (prog := prog) (l := tasks2) (by rw [hw, hx])
  clear hx
  (try (refine Drawn.mk ⟨by kernel_rfl, fun _ => ?_⟩)); (repeat (refine Later.mk ?_; cbv))
  refine ACall.valN (r := rWB A) (os := fun _ => [none, none, none, none, none, none, none, none, none, none, none, none, none, none, none]) (dp := false) S.cx (l14Either_c S now progs tree events told work heap list next ages used alist tasks groups sights began rang now progs tree events told work heap list next ages used alist tasks2 groups sights began rang n_progs hn_progs n_tree hn_tree n_events hn_events n_told hn_told n_work hn_work n_heap hn_heap n_list hn_list n_ages hn_ages n_used hn_used n_alist hn_alist n_tasks2 hn_tasks2 n_groups hn_groups n_sights hn_sights n_began hn_began n_rang hn_rang hfew) .go rfl (fun ln hln x hx => ⟨rfl, ?_⟩)
  obtain ⟨⟨nowx, progsx, treex, eventsx, ⟨toldx, workx⟩, ⟨heapx, listx, nextx⟩, ⟨⟨agesx, usedx⟩, alistx⟩, tasksx, groupsx, sightsx, beganx, rangx⟩, b⟩ := x
  (cbv; repeat (refine Later.mk ?_; cbv))
  have hN_progs := hln (ownProg A) progsx
  generalize ln (A.enc (ownProg A) progsx) = N_progs at hN_progs ⊢
  have hN_tree := hln cNode treex
  generalize ln (A.enc cNode treex) = N_tree at hN_tree ⊢
  have hN_events := hln cEvent eventsx
  generalize ln (A.enc cEvent eventsx) = N_events at hN_events ⊢
  have hN_told := hln cBool toldx
  generalize ln (A.enc cBool toldx) = N_told at hN_told ⊢
  have hN_work := hln cInt64 workx
  generalize ln (A.enc cInt64 workx) = N_work at hN_work ⊢
  have hN_heap := hln cTwig heapx
  generalize ln (A.enc cTwig heapx) = N_heap at hN_heap ⊢
  have hN_list := hln cTimer listx
  generalize ln (A.enc cTimer listx) = N_list at hN_list ⊢
  have hN_ages := hln cInt64 agesx
  generalize ln (A.enc cInt64 agesx) = N_ages at hN_ages ⊢
  have hN_used := hln cBool usedx
  generalize ln (A.enc cBool usedx) = N_used at hN_used ⊢
  have hN_alist := hln cAfter alistx
  generalize ln (A.enc cAfter alistx) = N_alist at hN_alist ⊢
  have hN_tasks := hln cTask tasksx
  generalize ln (A.enc cTask tasksx) = N_tasks at hN_tasks ⊢
  have hN_groups := hln (ownGroup A) groupsx
  generalize ln (A.enc (ownGroup A) groupsx) = N_groups at hN_groups ⊢
  have hN_sights := hln cSight sightsx
  generalize ln (A.enc cSight sightsx) = N_sights at hN_sights ⊢
  have hN_began := hln cInt64 beganx
  generalize ln (A.enc cInt64 beganx) = N_began at hN_began ⊢
  have hN_rang := hln cInt64 rangx
  generalize ln (A.enc cInt64 rangx) = N_rang at hN_rang ⊢
  have hA : Asked ⟨now, progs, tree, events, ⟨told, work⟩, ⟨heap, list, next⟩, ⟨⟨ages, used⟩, alist⟩, tasks, groups, sights, began, rang⟩ (TaskD prog) = (⟨nowx, progsx, treex, eventsx, ⟨toldx, workx⟩, ⟨heapx, listx, nextx⟩, ⟨⟨agesx, usedx⟩, alistx⟩, tasksx, groupsx, sightsx, beganx, rangx⟩, b) := by rw [<- either_asked h (by rw [hD]), hD]; exact hx.symm
  cases b <;> ((cbv; repeat (refine Later.mk ?_; cbv)); repeat (refine Later.mk ?_; (cbv; repeat (refine Later.mk ?_; cbv))))
  · (try (refine Drawn.mk ⟨by kernel_rfl, fun _ => ?_⟩)); (repeat (refine Later.mk ?_; cbv))
    exact Done.isA (r := rWI A) (x := (⟨nowx, progsx, treex, eventsx, ⟨toldx, workx⟩, ⟨heapx, listx, nextx⟩, ⟨⟨agesx, usedx⟩, alistx⟩, tasksx, groupsx, sightsx, beganx, rangx⟩, -1)) (by rw [TaskIn, hA]; rfl)
  (try (refine Drawn.mk ⟨by kernel_rfl, fun _ => ?_⟩)); (repeat (refine Later.mk ?_; cbv))
  refine LenR.natD S.cx (by have := hfew.tasks; dsimp only at this; omega) (fun m hm => ?_); (cbv; repeat (refine Later.mk ?_; cbv))
  (try (refine Drawn.mk ⟨by kernel_rfl, fun _ => ?_⟩)); (repeat (refine Later.mk ?_; cbv))
  exact Done.isA (r := rWI A) (x := (⟨nowx, progsx, treex, eventsx, ⟨toldx, workx⟩, ⟨heapx, listx, nextx⟩, ⟨⟨agesx, usedx⟩, alistx⟩, tasksx, groupsx, sightsx, beganx, rangx⟩, m)) (by rw [TaskIn, hA, if_pos rfl, show (tasks.length : Int) = m by omega])

end Go.Proofs.YtihfpbhalnedcaaGreat.AM
