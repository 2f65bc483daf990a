/- Contracts: LimitIn. (printed by gw41.py) -/
import Derived.Test.YtihfpbhalnedcaaGreatW42
import Derived.Test.YtihfpbhalnedcaaGreatVLim
set_option linter.unusedVariables false
set_option linter.unusedSimpArgs false
namespace Go.Proofs.YtihfpbhalnedcaaGreat.AM
open Go Go.Proofs

set_option maxRecDepth 100000
set_option maxHeartbeats 4000000

variable {P : Program} {A : Sy}

theorem Row.at {T : Nat -> Option TI} (C : Cx P T A) {α : Type} {f : α -> List AV} {l : List α} {row : Nat} {K : List AV -> Prop} {x : α} (hx : l[row]? = some x) (h : K (f x)) : Row (A.enc f l) row K :=
  Row.enc C (lt_of_get hx) (fun y hy => by rw [hx] at hy; cases hy; exact h)

def LimitIn (w : World) (g limit : Int) : World × Bool := Asked w (LimitD g limit)
theorem limitD_no {w : World} {g limit : Int} (h : ¬ (0 <= g /\ g.toNat < w.groups.length)) : LimitD g limit w = (w, false) := by
  unfold LimitD
  split
  · rename_i h0
    rw [List.getElem?_eq_none (by omega)]
  · rfl
theorem limitD_at {w : World} {g limit : Int} {x : Group} (h0 : 0 <= g) (hx : w.groups[g.toNat]? = some x) : LimitD g limit w = if x.active = 0 then ({ w with groups := w.groups.set g.toNat { x with limit := limit } }, true) else (w, false) := by
  unfold LimitD
  rw [if_pos h0, hx]

theorem limitIn1_c (S : Se P A) (now : Int) (progs : List (List Ins)) (tree : List Node) (events : List Event) (told : List Bool) (work : List Int) (heap : List Twig) (list : List Timer) (next : Int) (ages : List Int) (used : List Bool) (alist : List After) (tasks : List Task) (groups : List Group) (sights : List Sight) (began rang : List Int) (g limit : Int) : SoundM P 59 false [.ptr 1000 0 0, .rptr [.int .i64 g], .rptr [.int .i64 limit]] [.box (ownWorld A ⟨now, progs, tree, events, ⟨told, work⟩, ⟨heap, list, next⟩, ⟨⟨ages, used⟩, alist⟩, tasks, groups, sights, began, rang⟩)]
    (fun v os => v = .bool (LimitD g limit ⟨now, progs, tree, events, ⟨told, work⟩, ⟨heap, list, next⟩, ⟨⟨ages, used⟩, alist⟩, tasks, groups, sights, began, rang⟩).2 /\ os = [some (.box (ownWorld A (LimitD g limit ⟨now, progs, tree, events, ⟨told, work⟩, ⟨heap, list, next⟩, ⟨⟨ages, used⟩, alist⟩, tasks, groups, sights, began, rang⟩).1))]) := by
  refine S.cx.byS [99999] (S.prog ▸ Tryz.func59) rfl rfl rfl rfl (fun ln hln hv ho => ?_)
  (cbv; repeat (refine Later.mk ?_; cbv))
  have hn_progs := hln (ownProg A) progs
  generalize ln (A.enc (ownProg A) progs) = n_progs at hn_progs ⊢
  have hn_tree := hln cNode tree
  generalize ln (A.enc cNode tree) = n_tree at hn_tree ⊢
  have hn_events := hln cEvent events
  generalize ln (A.enc cEvent events) = n_events at hn_events ⊢
  have hn_told := hln cBool told
  generalize ln (A.enc cBool told) = n_told at hn_told ⊢
  have hn_work := hln cInt64 work
  generalize ln (A.enc cInt64 work) = n_work at hn_work ⊢
  have hn_heap := hln cTwig heap
  generalize ln (A.enc cTwig heap) = n_heap at hn_heap ⊢
  have hn_list := hln cTimer list
  generalize ln (A.enc cTimer list) = n_list at hn_list ⊢
  have hn_ages := hln cInt64 ages
  generalize ln (A.enc cInt64 ages) = n_ages at hn_ages ⊢
  have hn_used := hln cBool used
  generalize ln (A.enc cBool used) = n_used at hn_used ⊢
  have hn_alist := hln cAfter alist
  generalize ln (A.enc cAfter alist) = n_alist at hn_alist ⊢
  have hn_tasks := hln cTask tasks
  generalize ln (A.enc cTask tasks) = n_tasks at hn_tasks ⊢
  have hn_groups := hln (ownGroup A) groups
  generalize ln (A.enc (ownGroup A) groups) = n_groups at hn_groups ⊢
  have hn_sights := hln cSight sights
  generalize ln (A.enc cSight sights) = n_sights at hn_sights ⊢
  have hn_began := hln cInt64 began
  generalize ln (A.enc cInt64 began) = n_began at hn_began ⊢
  have hn_rang := hln cInt64 rang
  generalize ln (A.enc cInt64 rang) = n_rang at hn_rang ⊢
  clear hv ho
  (try (refine Drawn.mk ⟨by kernel_rfl, fun _ => ?_⟩)); (repeat (refine Later.mk ?_; cbv))
  refine ACall.testD (dp := false) (isInGroupW_c S g groups) .go rfl (fun h => ?_) (fun h => ?_) <;> (cbv; repeat (refine Later.mk ?_; cbv))
  rotate_left
  · have hD : LimitD g limit ⟨now, progs, tree, events, ⟨told, work⟩, ⟨heap, list, next⟩, ⟨⟨ages, used⟩, alist⟩, tasks, groups, sights, began, rang⟩ = (⟨now, progs, tree, events, ⟨told, work⟩, ⟨heap, list, next⟩, ⟨⟨ages, used⟩, alist⟩, tasks, groups, sights, began, rang⟩, false) := limitD_no h
    rw [hD]
    exact Done.toA (.bool false) [some (.box (ownWorld A ⟨now, progs, tree, events, ⟨told, work⟩, ⟨heap, list, next⟩, ⟨⟨ages, used⟩, alist⟩, tasks, groups, sights, began, rang⟩))] ⟨rfl, rfl⟩

  obtain ⟨⟨gn, gl, ga, gw, gf⟩, hx⟩ := get_of_lt h.2
  have hat := limitD_at (w := ⟨now, progs, tree, events, ⟨told, work⟩, ⟨heap, list, next⟩, ⟨⟨ages, used⟩, alist⟩, tasks, groups, sights, began, rang⟩) (limit := limit) h.1 hx
  dsimp only at hat
  (try (refine Drawn.mk ⟨by kernel_rfl, fun _ => ?_⟩)); (repeat (refine Later.mk ?_; cbv))
  refine ElemRef.go rfl h.1 (by omega) (by rw [S.cx.lenE']; omega) (fun row hrow => ?_); (cbv; repeat (refine Later.mk ?_; cbv))
  obtain rfl : row = g.toNat := by omega
  refine Row.at S.cx hx ?_; (cbv; repeat (refine Later.mk ?_; cbv)); repeat (refine Later.mk ?_; (cbv; repeat (refine Later.mk ?_; cbv)))
  refine Test.neq (fun h2 => ?_) (fun h2 => ?_) <;> (cbv; repeat (refine Later.mk ?_; cbv))
  · rw [if_neg h2] at hat
    have hD : LimitD g limit ⟨now, progs, tree, events, ⟨told, work⟩, ⟨heap, list, next⟩, ⟨⟨ages, used⟩, alist⟩, tasks, groups, sights, began, rang⟩ = (⟨now, progs, tree, events, ⟨told, work⟩, ⟨heap, list, next⟩, ⟨⟨ages, used⟩, alist⟩, tasks, groups, sights, began, rang⟩, false) := hat
    rw [hD]
    exact Done.toA (.bool false) [some (.box (ownWorld A ⟨now, progs, tree, events, ⟨told, work⟩, ⟨heap, list, next⟩, ⟨⟨ages, used⟩, alist⟩, tasks, groups, sights, began, rang⟩))] ⟨rfl, rfl⟩

  replace h2 : ga = 0 := by omega
  rw [if_pos h2] at hat
  (try (refine Drawn.mk ⟨by kernel_rfl, fun _ => ?_⟩)); (repeat (refine Later.mk ?_; cbv))
  refine ElemRef.go rfl h.1 (by omega) (by rw [S.cx.lenE']; omega) (fun row2 hrow2 => ?_); (cbv; repeat (refine Later.mk ?_; cbv))
  obtain rfl : row2 = g.toNat := by omega
  refine RowSet.enc S.cx (⟨gn, gl, ga, gw, gf⟩ : Group) ⟨gn, limit, ga, gw, gf⟩ hx rfl (by show 2 <= 5; decide) rfl (fun groups2 hgroups2 => ?_); (cbv; repeat (refine Later.mk ?_; cbv))
  have hn2 : n_groups = groups2.length := by rw [hgroups2, List.length_set]; exact hn_groups
  rw [<- hgroups2] at hat
  rw [hat]
  (try (refine Drawn.mk ⟨by kernel_rfl, fun _ => ?_⟩)); (repeat (refine Later.mk ?_; cbv))
  exact Done.toA (.bool true) [some (.box (ownWorld A ⟨now, progs, tree, events, ⟨told, work⟩, ⟨heap, list, next⟩, ⟨⟨ages, used⟩, alist⟩, tasks, groups2, sights, began, rang⟩))] ⟨rfl, rfl⟩

theorem implLimitIn_c (S : Se P A) (now : Int) (progs : List (List Ins)) (tree : List Node) (events : List Event) (told : List Bool) (work : List Int) (heap : List Twig) (list : List Timer) (next : Int) (ages : List Int) (used : List Bool) (alist : List After) (tasks : List Task) (groups : List Group) (sights : List Sight) (began rang : List Int) (g limit : Int) (hfew : (⟨now, progs, tree, events, ⟨told, work⟩, ⟨heap, list, next⟩, ⟨⟨ages, used⟩, alist⟩, tasks, groups, sights, began, rang⟩ : World).few 1048576) : Is1 P 14 [.agg (roWorld A ⟨now, progs, tree, events, ⟨told, work⟩, ⟨heap, list, next⟩, ⟨⟨ages, used⟩, alist⟩, tasks, groups, sights, began, rang⟩), .int .i64 g, .int .i64 limit] (rWB A (LimitIn ⟨now, progs, tree, events, ⟨told, work⟩, ⟨heap, list, next⟩, ⟨⟨ages, used⟩, alist⟩, tasks, groups, sights, began, rang⟩ g limit)) := by
  refine S.cx.byS [99999] (S.prog ▸ Tryz.func14) rfl rfl rfl rfl (fun ln hln hv ho => ?_)
  (cbv; repeat (refine Later.mk ?_; cbv))
  clear hv ho
  refine ACall.valN (r := rWB A) (os := fun _ => []) (dp := false) S.cx (asked2_c S now progs tree events told work heap list next ages used alist tasks groups sights began rang hfew _ [.int .i64 g] [.int .i64 limit] (LimitD g limit) (fun h => limitIn1_c S now progs tree events told work heap list next ages used alist tasks groups sights began rang g limit)) .go rfl (fun ln hln x hx => ⟨rfl, ?_⟩)
  obtain ⟨⟨nowx, progsx, treex, eventsx, ⟨toldx, workx⟩, ⟨heapx, listx, nextx⟩, ⟨⟨agesx, usedx⟩, alistx⟩, tasksx, groupsx, sightsx, beganx, rangx⟩, b⟩ := x
  (cbv; repeat (refine Later.mk ?_; cbv))
  have hN_progs := hln (ownProg A) progsx
  generalize ln (A.enc (ownProg A) progsx) = N_progs at hN_progs ⊢
  have hN_tree := hln cNode treex
  generalize ln (A.enc cNode treex) = N_tree at hN_tree ⊢
  have hN_events := hln cEvent eventsx
  generalize ln (A.enc cEvent eventsx) = N_events at hN_events ⊢
  have hN_told := hln cBool toldx
  generalize ln (A.enc cBool toldx) = N_told at hN_told ⊢
  have hN_work := hln cInt64 workx
  generalize ln (A.enc cInt64 workx) = N_work at hN_work ⊢
  have hN_heap := hln cTwig heapx
  generalize ln (A.enc cTwig heapx) = N_heap at hN_heap ⊢
  have hN_list := hln cTimer listx
  generalize ln (A.enc cTimer listx) = N_list at hN_list ⊢
  have hN_ages := hln cInt64 agesx
  generalize ln (A.enc cInt64 agesx) = N_ages at hN_ages ⊢
  have hN_used := hln cBool usedx
  generalize ln (A.enc cBool usedx) = N_used at hN_used ⊢
  have hN_alist := hln cAfter alistx
  generalize ln (A.enc cAfter alistx) = N_alist at hN_alist ⊢
  have hN_tasks := hln cTask tasksx
  generalize ln (A.enc cTask tasksx) = N_tasks at hN_tasks ⊢
  have hN_groups := hln (ownGroup A) groupsx
  generalize ln (A.enc (ownGroup A) groupsx) = N_groups at hN_groups ⊢
  have hN_sights := hln cSight sightsx
  generalize ln (A.enc cSight sightsx) = N_sights at hN_sights ⊢
  have hN_began := hln cInt64 beganx
  generalize ln (A.enc cInt64 beganx) = N_began at hN_began ⊢
  have hN_rang := hln cInt64 rangx
  generalize ln (A.enc cInt64 rangx) = N_rang at hN_rang ⊢
  exact Done.toA (rWB A (⟨nowx, progsx, treex, eventsx, ⟨toldx, workx⟩, ⟨heapx, listx, nextx⟩, ⟨⟨agesx, usedx⟩, alistx⟩, tasksx, groupsx, sightsx, beganx, rangx⟩, b)) [] ⟨by rw [LimitIn, <- hx], rfl⟩
theorem specLimitIn_c (S : Se P A) (now : Int) (progs : List (List Ins)) (tree : List Node) (events : List Event) (told : List Bool) (work : List Int) (heap : List Twig) (list : List Timer) (next : Int) (ages : List Int) (used : List Bool) (alist : List After) (tasks : List Task) (groups : List Group) (sights : List Sight) (began rang : List Int) (g limit : Int) (hfew : (⟨now, progs, tree, events, ⟨told, work⟩, ⟨heap, list, next⟩, ⟨⟨ages, used⟩, alist⟩, tasks, groups, sights, began, rang⟩ : World).few 1048576) : Is1 P 12 [.agg (roWorld A ⟨now, progs, tree, events, ⟨told, work⟩, ⟨heap, list, next⟩, ⟨⟨ages, used⟩, alist⟩, tasks, groups, sights, began, rang⟩), .int .i64 g, .int .i64 limit] (rWB A (LimitIn ⟨now, progs, tree, events, ⟨told, work⟩, ⟨heap, list, next⟩, ⟨⟨ages, used⟩, alist⟩, tasks, groups, sights, began, rang⟩ g limit)) := by
  refine S.cx.byS [99999] (S.prog ▸ Tryz.func12) rfl rfl rfl rfl (fun ln hln hv ho => ?_)
  (cbv; repeat (refine Later.mk ?_; cbv))
  clear hv ho
  refine ACall.testD (dp := false) (specWorldOk_c S now progs tree events told work heap list next ages used alist tasks groups sights began rang) .go rfl (fun hok => ?_) (fun hok => ?_) <;> (cbv; repeat (refine Later.mk ?_; cbv))
  rotate_left
  · exact Done.isA (r := rWB A) (x := (world0, false)) (if_neg hok)
  (try (refine Drawn.mk ⟨by kernel_rfl, fun _ => ?_⟩)); (repeat (refine Later.mk ?_; cbv))
  refine ACall.valN (r := (fun x : World => .agg (ownWorld A x))) (os := fun _ => []) (dp := false) S.cx (l13Copy_c S now progs tree events told work heap list next ages used alist tasks groups sights began rang hfew) .go rfl (fun ln hln x hx => ⟨rfl, ?_⟩)
  obtain ⟨nowc, progsc, treec, eventsc, ⟨toldc, workc⟩, ⟨heapc, listc, nextc⟩, ⟨⟨agesc, usedc⟩, alistc⟩, tasksc, groupsc, sightsc, beganc, rangc⟩ := x
  cases hx
  (cbv; repeat (refine Later.mk ?_; cbv))
  have hn_progs := hln (ownProg A) progs
  generalize ln (A.enc (ownProg A) progs) = n_progs at hn_progs ⊢
  have hn_tree := hln cNode tree
  generalize ln (A.enc cNode tree) = n_tree at hn_tree ⊢
  have hn_events := hln cEvent events
  generalize ln (A.enc cEvent events) = n_events at hn_events ⊢
  have hn_told := hln cBool told
  generalize ln (A.enc cBool told) = n_told at hn_told ⊢
  have hn_work := hln cInt64 work
  generalize ln (A.enc cInt64 work) = n_work at hn_work ⊢
  have hn_heap := hln cTwig heap
  generalize ln (A.enc cTwig heap) = n_heap at hn_heap ⊢
  have hn_list := hln cTimer list
  generalize ln (A.enc cTimer list) = n_list at hn_list ⊢
  have hn_ages := hln cInt64 ages
  generalize ln (A.enc cInt64 ages) = n_ages at hn_ages ⊢
  have hn_used := hln cBool used
  generalize ln (A.enc cBool used) = n_used at hn_used ⊢
  have hn_alist := hln cAfter alist
  generalize ln (A.enc cAfter alist) = n_alist at hn_alist ⊢
  have hn_tasks := hln cTask tasks
  generalize ln (A.enc cTask tasks) = n_tasks at hn_tasks ⊢
  have hn_groups := hln (ownGroup A) groups
  generalize ln (A.enc (ownGroup A) groups) = n_groups at hn_groups ⊢
  have hn_sights := hln cSight sights
  generalize ln (A.enc cSight sights) = n_sights at hn_sights ⊢
  have hn_began := hln cInt64 began
  generalize ln (A.enc cInt64 began) = n_began at hn_began ⊢
  have hn_rang := hln cInt64 rang
  generalize ln (A.enc cInt64 rang) = n_rang at hn_rang ⊢
  (try (refine Drawn.mk ⟨by kernel_rfl, fun _ => ?_⟩)); (repeat (refine Later.mk ?_; cbv))
  refine ACall.testD (dp := false) (l13Group_c S now progs tree events told work heap list next ages used alist tasks groups sights began rang g) .go rfl (fun h => ?_) (fun h => ?_) <;> (cbv; repeat (refine Later.mk ?_; cbv))
  rotate_left
  · (try (refine Drawn.mk ⟨by kernel_rfl, fun _ => ?_⟩)); (repeat (refine Later.mk ?_; cbv))
    exact Done.isA (r := rWB A) (x := (⟨now, progs, tree, events, ⟨told, work⟩, ⟨heap, list, next⟩, ⟨⟨ages, used⟩, alist⟩, tasks, groups, sights, began, rang⟩, false)) (asked_not hok (by rw [limitD_no (fun e => h e)]))
  obtain ⟨⟨gn, gl, ga, gw, gf⟩, hx⟩ := get_of_lt h.2
  have hat := limitD_at (w := ⟨now, progs, tree, events, ⟨told, work⟩, ⟨heap, list, next⟩, ⟨⟨ages, used⟩, alist⟩, tasks, groups, sights, began, rang⟩) (limit := limit) h.1 hx
  dsimp only at hat
  (try (refine Drawn.mk ⟨by kernel_rfl, fun _ => ?_⟩)); (repeat (refine Later.mk ?_; cbv))
  refine ElemRo.at S.cx (x := (⟨gn, gl, ga, gw, gf⟩ : Group)) rfl h.1 hx ?_; (cbv; repeat (refine Later.mk ?_; cbv))
  refine Test.neq (fun h2 => ?_) (fun h2 => ?_) <;> (cbv; repeat (refine Later.mk ?_; cbv))
  · rw [if_neg h2] at hat
    (try (refine Drawn.mk ⟨by kernel_rfl, fun _ => ?_⟩)); (repeat (refine Later.mk ?_; cbv))
    exact Done.isA (r := rWB A) (x := (⟨now, progs, tree, events, ⟨told, work⟩, ⟨heap, list, next⟩, ⟨⟨ages, used⟩, alist⟩, tasks, groups, sights, began, rang⟩, false)) (asked_not hok (by rw [hat]))
  replace h2 : ga = 0 := by omega
  rw [if_pos h2] at hat
  (try (refine Drawn.mk ⟨by kernel_rfl, fun _ => ?_⟩)); (repeat (refine Later.mk ?_; cbv))
  refine ElemRef.go rfl h.1 (by omega) (by rw [S.cx.lenE']; omega) (fun row2 hrow2 => ?_); (cbv; repeat (refine Later.mk ?_; cbv))
  obtain rfl : row2 = g.toNat := by omega
  refine RowSet.enc S.cx (⟨gn, gl, ga, gw, gf⟩ : Group) ⟨gn, limit, ga, gw, gf⟩ hx rfl (by show 2 <= 5; decide) rfl (fun groups2 hgroups2 => ?_); (cbv; repeat (refine Later.mk ?_; cbv))
  have hn_groups2 : n_groups = groups2.length := by rw [hgroups2, List.length_set]; exact hn_groups
  rw [<- hgroups2] at hat
  (try (refine Drawn.mk ⟨by kernel_rfl, fun _ => ?_⟩)); (repeat (refine Later.mk ?_; cbv))
  refine ACall.valN (r := rWB A) (os := fun _ => [none, none, none, none, none, none, none, none, none, none, none, none, none, none, none]) (dp := false) S.cx (l14Either_c S now progs tree events told work heap list next ages used alist tasks groups sights began rang now progs tree events told work heap list next ages used alist tasks groups2 sights began rang n_progs hn_progs n_tree hn_tree n_events hn_events n_told hn_told n_work hn_work n_heap hn_heap n_list hn_list n_ages hn_ages n_used hn_used n_alist hn_alist n_tasks hn_tasks n_groups hn_groups2 n_sights hn_sights n_began hn_began n_rang hn_rang hfew) .go rfl (fun ln hln x hx => ⟨rfl, ?_⟩)
  obtain ⟨⟨nowx, progsx, treex, eventsx, ⟨toldx, workx⟩, ⟨heapx, listx, nextx⟩, ⟨⟨agesx, usedx⟩, alistx⟩, tasksx, groupsx, sightsx, beganx, rangx⟩, b⟩ := x
  (cbv; repeat (refine Later.mk ?_; cbv))
  have hN_progs := hln (ownProg A) progsx
  generalize ln (A.enc (ownProg A) progsx) = N_progs at hN_progs ⊢
  have hN_tree := hln cNode treex
  generalize ln (A.enc cNode treex) = N_tree at hN_tree ⊢
  have hN_events := hln cEvent eventsx
  generalize ln (A.enc cEvent eventsx) = N_events at hN_events ⊢
  have hN_told := hln cBool toldx
  generalize ln (A.enc cBool toldx) = N_told at hN_told ⊢
  have hN_work := hln cInt64 workx
  generalize ln (A.enc cInt64 workx) = N_work at hN_work ⊢
  have hN_heap := hln cTwig heapx
  generalize ln (A.enc cTwig heapx) = N_heap at hN_heap ⊢
  have hN_list := hln cTimer listx
  generalize ln (A.enc cTimer listx) = N_list at hN_list ⊢
  have hN_ages := hln cInt64 agesx
  generalize ln (A.enc cInt64 agesx) = N_ages at hN_ages ⊢
  have hN_used := hln cBool usedx
  generalize ln (A.enc cBool usedx) = N_used at hN_used ⊢
  have hN_alist := hln cAfter alistx
  generalize ln (A.enc cAfter alistx) = N_alist at hN_alist ⊢
  have hN_tasks := hln cTask tasksx
  generalize ln (A.enc cTask tasksx) = N_tasks at hN_tasks ⊢
  have hN_groups := hln (ownGroup A) groupsx
  generalize ln (A.enc (ownGroup A) groupsx) = N_groups at hN_groups ⊢
  have hN_sights := hln cSight sightsx
  generalize ln (A.enc cSight sightsx) = N_sights at hN_sights ⊢
  have hN_began := hln cInt64 beganx
  generalize ln (A.enc cInt64 beganx) = N_began at hN_began ⊢
  have hN_rang := hln cInt64 rangx
  generalize ln (A.enc cInt64 rangx) = N_rang at hN_rang ⊢
  (try (refine Drawn.mk ⟨by kernel_rfl, fun _ => ?_⟩)); (repeat (refine Later.mk ?_; cbv))
  exact Done.isA (r := rWB A) (x := (⟨nowx, progsx, treex, eventsx, ⟨toldx, workx⟩, ⟨heapx, listx, nextx⟩, ⟨⟨agesx, usedx⟩, alistx⟩, tasksx, groupsx, sightsx, beganx, rangx⟩, b)) (by rw [LimitIn, <- either_asked hok (by rw [hat]), hat]; exact hx.symm)

end Go.Proofs.YtihfpbhalnedcaaGreat.AM
