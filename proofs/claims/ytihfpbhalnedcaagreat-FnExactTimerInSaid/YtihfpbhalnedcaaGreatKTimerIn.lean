/- Contracts: TimerIn. (printed by gw41.py) -/
import Derived.Test.YtihfpbhalnedcaaGreatW44
import Derived.Test.YtihfpbhalnedcaaGreatVTim
import Derived.Test.YtihfpbhalnedcaaGreatE20
set_option linter.unusedVariables false
set_option linter.unusedSimpArgs false
namespace Go.Proofs.YtihfpbhalnedcaaGreat.AM
open Go Go.Proofs

set_option maxRecDepth 100000
set_option maxHeartbeats 4000000

variable {P : Program} {A : Sy}

def seqOf (d whom : Int) (w : World) : Int := (armT w.timers (laterT w.now d) 2 whom).2

theorem implLater_c (S : Se P A) (t d : Int) : Is1 P 122 [.int .i64 t, .int .i64 d] (.int .i64 (laterT t d)) := by
  refine S.cx.by (S.prog ▸ Tryz.func122) rfl rfl rfl rfl (fun hv ho => ?_)
  cbv
  have ht := (hv (.int .i64 t) (.head _)).i64
  have hd := (hv (.int .i64 d) (.tail _ (.head _))).i64
  have e1 : ∀ x, laterT t d = x -> laterT t d = x := fun _ h => h
  have h3 : ¬ (d > 0 /\ t > 9223372036854775807 - d) -> ¬ (d < 0 /\ t < -9223372036854775808 - d) -> laterT t d = t + d := fun g1 g2 => by unfold laterT; rw [if_neg (by omega), if_neg (by omega)]
  refine Test.gtr (fun h => ?_) (fun h => ?_) <;> cbv
  · refine Arith.go (by lia) (fun a ha => ?_); replace ha : a = 9223372036854775807 - d := ha; cbv
    refine Test.gtr (fun h2 => ?_) (fun h2 => ?_) <;> cbv
    · exact Done.isA (r := fun x : Int => .int .i64 x) (x := 9223372036854775807) (by unfold laterT; rw [if_pos (by omega)])
    refine Test.lss (fun h4 => ?_) (fun h4 => ?_) <;> cbv
    · exfalso; omega
    refine Arith.go (by lia) (fun b hb => ?_); replace hb : b = t + d := hb; cbv
    exact Done.isA (r := fun x : Int => .int .i64 x) (x := b) (by rw [hb]; exact h3 (by omega) (by omega))
  refine Test.lss (fun h4 => ?_) (fun h4 => ?_) <;> cbv
  · refine Arith.go (by lia) (fun a ha => ?_); replace ha : a = -9223372036854775808 - d := ha; cbv
    refine Test.lss (fun h2 => ?_) (fun h2 => ?_) <;> cbv
    · exact Done.isA (r := fun x : Int => .int .i64 x) (x := -9223372036854775808) (by unfold laterT; rw [if_neg (by omega), if_pos (by omega)])
    refine Arith.go (by lia) (fun b hb => ?_); replace hb : b = t + d := hb; cbv
    exact Done.isA (r := fun x : Int => .int .i64 x) (x := b) (by rw [hb]; exact h3 (by omega) (by omega))
  refine Arith.go (by lia) (fun b hb => ?_); replace hb : b = t + d := hb; cbv
  exact Done.isA (r := fun x : Int => .int .i64 x) (x := b) (by rw [hb]; exact h3 (by omega) (by omega))

theorem l2Least_c (S : Se P A) : Is1 P 210 [] (.int .i64 (-9223372036854775808)) := by
  refine S.cx.by (S.prog ▸ Tryz.func210) rfl rfl rfl rfl (fun hv ho => ?_)
  cbv
  exact Done.isA (r := fun x : Int => .int .i64 x) (x := -9223372036854775808) (rfl)

theorem specLater_c (S : Se P A) (t d : Int) : Is1 P 119 [.int .i64 t, .int .i64 d] (.int .i64 (laterT t d)) := by
  refine S.cx.by (S.prog ▸ Tryz.func119) rfl rfl rfl rfl (fun hv ho => ?_)
  cbv
  have ht := (hv (.int .i64 t) (.head _)).i64
  have hd := (hv (.int .i64 d) (.tail _ (.head _))).i64
  have h3 : ¬ (d > 0 /\ t > 9223372036854775807 - d) -> ¬ (d < 0 /\ t < -9223372036854775808 - d) -> laterT t d = t + d := fun g1 g2 => by unfold laterT; rw [if_neg (by omega), if_neg (by omega)]
  refine Test.geq (fun h => ?_) (fun h => ?_) <;> cbv
  · refine Arith.go (by lia) (fun a ha => ?_); replace ha : a = 9223372036854775807 - d := ha; cbv
    refine Test.gtr (fun h2 => ?_) (fun h2 => ?_) <;> cbv
    · exact Done.isA (r := fun x : Int => .int .i64 x) (x := 9223372036854775807) (by unfold laterT; rw [if_pos (by omega)])
    refine Arith.go (by lia) (fun b hb => ?_); replace hb : b = t + d := hb; cbv
    exact Done.isA (r := fun x : Int => .int .i64 x) (x := b) (by rw [hb]; exact h3 (by omega) (by omega))
  refine ACall.int (dp := false) (l2Least_c S) .go rfl (fun z hz => ?_); cbv
  refine Arith.go (by lia) (fun a ha => ?_); replace ha : a = z - d := ha; cbv
  refine Test.lss (fun h2 => ?_) (fun h2 => ?_) <;> cbv
  · refine ACall.int (dp := false) (l2Least_c S) .go rfl (fun z2 hz2 => ?_); cbv
    exact Done.isA (r := fun x : Int => .int .i64 x) (x := z2) (by unfold laterT; rw [if_neg (by omega), if_pos (by omega), hz2])
  refine Arith.go (by lia) (fun b hb => ?_); replace hb : b = t + d := hb; cbv
  exact Done.isA (r := fun x : Int => .int .i64 x) (x := b) (by rw [hb]; exact h3 (by omega) (by omega))

theorem timerIn1_c (S : Se P A) (now : Int) (progs : List (List Ins)) (tree : List Node) (events : List Event) (told : List Bool) (work : List Int) (heap : List Twig) (list : List Timer) (next : Int) (ages : List Int) (used : List Bool) (alist : List After) (tasks : List Task) (groups : List Group) (sights : List Sight) (began rang : List Int) (d whom z0 : Int) (hok : WorldOk ⟨now, progs, tree, events, ⟨told, work⟩, ⟨heap, list, next⟩, ⟨⟨ages, used⟩, alist⟩, tasks, groups, sights, began, rang⟩) : SoundM P 120 false [.ptr 1000 0 0, .rptr [.int .i64 d], .rptr [.int .i64 whom], .ptr 2000 0 0] [.box (ownWorld A ⟨now, progs, tree, events, ⟨told, work⟩, ⟨heap, list, next⟩, ⟨⟨ages, used⟩, alist⟩, tasks, groups, sights, began, rang⟩), .box [.int .i64 z0]]
    (fun v os => v = .bool (TimerD d whom ⟨now, progs, tree, events, ⟨told, work⟩, ⟨heap, list, next⟩, ⟨⟨ages, used⟩, alist⟩, tasks, groups, sights, began, rang⟩).2 /\ os = [some (.box (ownWorld A (TimerD d whom ⟨now, progs, tree, events, ⟨told, work⟩, ⟨heap, list, next⟩, ⟨⟨ages, used⟩, alist⟩, tasks, groups, sights, began, rang⟩).1)), some (.box [.int .i64 (seqOf d whom ⟨now, progs, tree, events, ⟨told, work⟩, ⟨heap, list, next⟩, ⟨⟨ages, used⟩, alist⟩, tasks, groups, sights, began, rang⟩)])]) := by
  have hto : TimersOk ⟨heap, list, next⟩ := hok.2.2.2.2.2.1.1
  refine S.cx.byS [99999] (S.prog ▸ Tryz.func120) rfl rfl rfl rfl (fun ln hln hv ho => ?_)
  (cbv; repeat (refine Later.mk ?_; cbv))
  have hn_progs := hln (ownProg A) progs
  generalize ln (A.enc (ownProg A) progs) = n_progs at hn_progs ⊢
  have hn_tree := hln cNode tree
  generalize ln (A.enc cNode tree) = n_tree at hn_tree ⊢
  have hn_events := hln cEvent events
  generalize ln (A.enc cEvent events) = n_events at hn_events ⊢
  have hn_told := hln cBool told
  generalize ln (A.enc cBool told) = n_told at hn_told ⊢
  have hn_work := hln cInt64 work
  generalize ln (A.enc cInt64 work) = n_work at hn_work ⊢
  have hn_heap := hln cTwig heap
  generalize ln (A.enc cTwig heap) = n_heap at hn_heap ⊢
  have hn_list := hln cTimer list
  generalize ln (A.enc cTimer list) = n_list at hn_list ⊢
  have hn_ages := hln cInt64 ages
  generalize ln (A.enc cInt64 ages) = n_ages at hn_ages ⊢
  have hn_used := hln cBool used
  generalize ln (A.enc cBool used) = n_used at hn_used ⊢
  have hn_alist := hln cAfter alist
  generalize ln (A.enc cAfter alist) = n_alist at hn_alist ⊢
  have hn_tasks := hln cTask tasks
  generalize ln (A.enc cTask tasks) = n_tasks at hn_tasks ⊢
  have hn_groups := hln (ownGroup A) groups
  generalize ln (A.enc (ownGroup A) groups) = n_groups at hn_groups ⊢
  have hn_sights := hln cSight sights
  generalize ln (A.enc cSight sights) = n_sights at hn_sights ⊢
  have hn_began := hln cInt64 began
  generalize ln (A.enc cInt64 began) = n_began at hn_began ⊢
  have hn_rang := hln cInt64 rang
  generalize ln (A.enc cInt64 rang) = n_rang at hn_rang ⊢
  clear hv ho
  (try (refine Drawn.mk ⟨by kernel_rfl, fun _ => ?_⟩)); (repeat (refine Later.mk ?_; cbv))
  refine ACall.int (dp := false) (implLater_c S now d) .go rfl (fun due hdue => ?_); (cbv; repeat (refine Later.mk ?_; cbv))
  (try (refine Drawn.mk ⟨by kernel_rfl, fun _ => ?_⟩)); (repeat (refine Later.mk ?_; cbv))
  refine ACall.valN (r := armTB) (os := oTI A) (dp := false) S.cx (arm_c S heap list next due 2 whom hto) .go rfl (fun ln hln x hx => ⟨rfl, ?_⟩)
  obtain ⟨⟨heap2, list2, next2⟩, q⟩ := x
  (cbv; repeat (refine Later.mk ?_; cbv))
  have hn_heap2 := hln cTwig heap2
  generalize ln (A.enc cTwig heap2) = n_heap2 at hn_heap2 ⊢
  have hn_list2 := hln cTimer list2
  generalize ln (A.enc cTimer list2) = n_list2 at hn_list2 ⊢
  have hR : armT ⟨heap, list, next⟩ (laterT now d) 2 whom = (⟨heap2, list2, next2⟩, q) := by rw [<- hdue]; exact hx.symm
  have hD : TimerD d whom ⟨now, progs, tree, events, ⟨told, work⟩, ⟨heap, list, next⟩, ⟨⟨ages, used⟩, alist⟩, tasks, groups, sights, began, rang⟩ = (⟨now, progs, tree, events, ⟨told, work⟩, ⟨heap2, list2, next2⟩, ⟨⟨ages, used⟩, alist⟩, tasks, groups, sights, began, rang⟩, decide (0 <= q)) := by rw [TimerD]; dsimp only; rw [hR]
  have hS : seqOf d whom ⟨now, progs, tree, events, ⟨told, work⟩, ⟨heap, list, next⟩, ⟨⟨ages, used⟩, alist⟩, tasks, groups, sights, began, rang⟩ = q := by rw [seqOf]; dsimp only; rw [hR]
  rw [hD, hS]
  (try (refine Drawn.mk ⟨by kernel_rfl, fun _ => ?_⟩)); (repeat (refine Later.mk ?_; cbv))
  refine Test.geq (fun h => ?_) (fun h => ?_) <;> (cbv; repeat (refine Later.mk ?_; cbv))
  · (try (refine Drawn.mk ⟨by kernel_rfl, fun _ => ?_⟩)); (repeat (refine Later.mk ?_; cbv))
    exact Done.toA (.bool true) [some (.box (ownWorld A ⟨now, progs, tree, events, ⟨told, work⟩, ⟨heap2, list2, next2⟩, ⟨⟨ages, used⟩, alist⟩, tasks, groups, sights, began, rang⟩)), some (.box [.int .i64 q])] ⟨by rw [decide_eq_true h], rfl⟩
  · (try (refine Drawn.mk ⟨by kernel_rfl, fun _ => ?_⟩)); (repeat (refine Later.mk ?_; cbv))
    exact Done.toA (.bool false) [some (.box (ownWorld A ⟨now, progs, tree, events, ⟨told, work⟩, ⟨heap2, list2, next2⟩, ⟨⟨ages, used⟩, alist⟩, tasks, groups, sights, began, rang⟩)), some (.box [.int .i64 q])] ⟨by rw [decide_eq_false (by omega)], rfl⟩

theorem implTimerIn_c (S : Se P A) (now : Int) (progs : List (List Ins)) (tree : List Node) (events : List Event) (told : List Bool) (work : List Int) (heap : List Twig) (list : List Timer) (next : Int) (ages : List Int) (used : List Bool) (alist : List After) (tasks : List Task) (groups : List Group) (sights : List Sight) (began rang : List Int) (d whom : Int) (hfew : (⟨now, progs, tree, events, ⟨told, work⟩, ⟨heap, list, next⟩, ⟨⟨ages, used⟩, alist⟩, tasks, groups, sights, began, rang⟩ : World).few 1048576) : Is1 P 33 [.agg (roWorld A ⟨now, progs, tree, events, ⟨told, work⟩, ⟨heap, list, next⟩, ⟨⟨ages, used⟩, alist⟩, tasks, groups, sights, began, rang⟩), .int .i64 d, .int .i64 whom] (rWI A (TimerIn ⟨now, progs, tree, events, ⟨told, work⟩, ⟨heap, list, next⟩, ⟨⟨ages, used⟩, alist⟩, tasks, groups, sights, began, rang⟩ d whom)) := by
  refine S.cx.byS [99999] (S.prog ▸ Tryz.func33) rfl rfl rfl rfl (fun ln hln hv ho => ?_)
  (cbv; repeat (refine Later.mk ?_; cbv))
  clear hv ho
  rw [timerIn_asked]
  refine ACall.ofW (dp := false) S.cx (asked21i_c S now progs tree events told work heap list next ages used alist tasks groups sights began rang hfew _ [.int .i64 d] [.int .i64 whom] (-1) (TimerD d whom) (seqOf d whom) (fun h => timerIn1_c S now progs tree events told work heap list next ages used alist tasks groups sights began rang d whom (-1) h)) .go (fun ln hln v os hv => ?_)
  obtain ⟨q, ⟨rfl, rfl⟩, hy⟩ := hv
  obtain ⟨⟨⟨nowx, progsx, treex, eventsx, ⟨toldx, workx⟩, ⟨heapx, listx, nextx⟩, ⟨⟨agesx, usedx⟩, alistx⟩, tasksx, groupsx, sightsx, beganx, rangx⟩, b⟩, hz⟩ : ∃ x, x = Asked ⟨now, progs, tree, events, ⟨told, work⟩, ⟨heap, list, next⟩, ⟨⟨ages, used⟩, alist⟩, tasks, groups, sights, began, rang⟩ (TimerD d whom) := ⟨_, rfl⟩
  rw [<- hz] at hy ⊢
  refine ⟨rfl, ?_⟩; (cbv; repeat (refine Later.mk ?_; cbv))
  have hN_progs := hln (ownProg A) progsx
  generalize ln (A.enc (ownProg A) progsx) = N_progs at hN_progs ⊢
  have hN_tree := hln cNode treex
  generalize ln (A.enc cNode treex) = N_tree at hN_tree ⊢
  have hN_events := hln cEvent eventsx
  generalize ln (A.enc cEvent eventsx) = N_events at hN_events ⊢
  have hN_told := hln cBool toldx
  generalize ln (A.enc cBool toldx) = N_told at hN_told ⊢
  have hN_work := hln cInt64 workx
  generalize ln (A.enc cInt64 workx) = N_work at hN_work ⊢
  have hN_heap := hln cTwig heapx
  generalize ln (A.enc cTwig heapx) = N_heap at hN_heap ⊢
  have hN_list := hln cTimer listx
  generalize ln (A.enc cTimer listx) = N_list at hN_list ⊢
  have hN_ages := hln cInt64 agesx
  generalize ln (A.enc cInt64 agesx) = N_ages at hN_ages ⊢
  have hN_used := hln cBool usedx
  generalize ln (A.enc cBool usedx) = N_used at hN_used ⊢
  have hN_alist := hln cAfter alistx
  generalize ln (A.enc cAfter alistx) = N_alist at hN_alist ⊢
  have hN_tasks := hln cTask tasksx
  generalize ln (A.enc cTask tasksx) = N_tasks at hN_tasks ⊢
  have hN_groups := hln (ownGroup A) groupsx
  generalize ln (A.enc (ownGroup A) groupsx) = N_groups at hN_groups ⊢
  have hN_sights := hln cSight sightsx
  generalize ln (A.enc cSight sightsx) = N_sights at hN_sights ⊢
  have hN_began := hln cInt64 beganx
  generalize ln (A.enc cInt64 beganx) = N_began at hN_began ⊢
  have hN_rang := hln cInt64 rangx
  generalize ln (A.enc cInt64 rangx) = N_rang at hN_rang ⊢
  repeat (refine Later.mk ?_; (cbv; repeat (refine Later.mk ?_; cbv)))
  cases b <;> ((cbv; repeat (refine Later.mk ?_; cbv)); repeat (refine Later.mk ?_; (cbv; repeat (refine Later.mk ?_; cbv))))
  · exact Done.toA (rWI A (⟨nowx, progsx, treex, eventsx, ⟨toldx, workx⟩, ⟨heapx, listx, nextx⟩, ⟨⟨agesx, usedx⟩, alistx⟩, tasksx, groupsx, sightsx, beganx, rangx⟩, -1)) [] ⟨rfl, rfl⟩
  have hy2 : q = (armT ⟨heap, list, next⟩ (laterT now d) 2 whom).2 := hy rfl
  (try (refine Drawn.mk ⟨by kernel_rfl, fun _ => ?_⟩)); (repeat (refine Later.mk ?_; cbv))
  exact Done.toA (rWI A (⟨nowx, progsx, treex, eventsx, ⟨toldx, workx⟩, ⟨heapx, listx, nextx⟩, ⟨⟨agesx, usedx⟩, alistx⟩, tasksx, groupsx, sightsx, beganx, rangx⟩, q)) [] ⟨by rw [hy2]; rfl, rfl⟩

theorem specTimerIn_c (S : Se P A) (now : Int) (progs : List (List Ins)) (tree : List Node) (events : List Event) (told : List Bool) (work : List Int) (heap : List Twig) (list : List Timer) (next : Int) (ages : List Int) (used : List Bool) (alist : List After) (tasks : List Task) (groups : List Group) (sights : List Sight) (began rang : List Int) (d whom : Int) (hfew : (⟨now, progs, tree, events, ⟨told, work⟩, ⟨heap, list, next⟩, ⟨⟨ages, used⟩, alist⟩, tasks, groups, sights, began, rang⟩ : World).few 1048576) : Is1 P 32 [.agg (roWorld A ⟨now, progs, tree, events, ⟨told, work⟩, ⟨heap, list, next⟩, ⟨⟨ages, used⟩, alist⟩, tasks, groups, sights, began, rang⟩), .int .i64 d, .int .i64 whom] (rWI A (TimerIn ⟨now, progs, tree, events, ⟨told, work⟩, ⟨heap, list, next⟩, ⟨⟨ages, used⟩, alist⟩, tasks, groups, sights, began, rang⟩ d whom)) := by
  refine S.cx.byS [99999] (S.prog ▸ Tryz.func32) rfl rfl rfl rfl (fun ln hln hv ho => ?_)
  (cbv; repeat (refine Later.mk ?_; cbv))
  clear hv ho
  refine ACall.testD (dp := false) (specWorldOk_c S now progs tree events told work heap list next ages used alist tasks groups sights began rang) .go rfl (fun h => ?_) (fun h => ?_) <;> (cbv; repeat (refine Later.mk ?_; cbv))
  rotate_left
  · exact Done.isA (r := rWI A) (x := (world0, -1)) (if_neg h)
  (try (refine Drawn.mk ⟨by kernel_rfl, fun _ => ?_⟩)); (repeat (refine Later.mk ?_; cbv))
  refine ACall.valN (r := (fun x : World => .agg (ownWorld A x))) (os := fun _ => []) (dp := false) S.cx (l13Copy_c S now progs tree events told work heap list next ages used alist tasks groups sights began rang hfew) .go rfl (fun ln hln x hx => ⟨rfl, ?_⟩)
  obtain ⟨nowc, progsc, treec, eventsc, ⟨toldc, workc⟩, ⟨heapc, listc, nextc⟩, ⟨⟨agesc, usedc⟩, alistc⟩, tasksc, groupsc, sightsc, beganc, rangc⟩ := x
  cases hx
  (cbv; repeat (refine Later.mk ?_; cbv))
  have hn_progs := hln (ownProg A) progs
  generalize ln (A.enc (ownProg A) progs) = n_progs at hn_progs ⊢
  have hn_tree := hln cNode tree
  generalize ln (A.enc cNode tree) = n_tree at hn_tree ⊢
  have hn_events := hln cEvent events
  generalize ln (A.enc cEvent events) = n_events at hn_events ⊢
  have hn_told := hln cBool told
  generalize ln (A.enc cBool told) = n_told at hn_told ⊢
  have hn_work := hln cInt64 work
  generalize ln (A.enc cInt64 work) = n_work at hn_work ⊢
  have hn_heap := hln cTwig heap
  generalize ln (A.enc cTwig heap) = n_heap at hn_heap ⊢
  have hn_list := hln cTimer list
  generalize ln (A.enc cTimer list) = n_list at hn_list ⊢
  have hn_ages := hln cInt64 ages
  generalize ln (A.enc cInt64 ages) = n_ages at hn_ages ⊢
  have hn_used := hln cBool used
  generalize ln (A.enc cBool used) = n_used at hn_used ⊢
  have hn_alist := hln cAfter alist
  generalize ln (A.enc cAfter alist) = n_alist at hn_alist ⊢
  have hn_tasks := hln cTask tasks
  generalize ln (A.enc cTask tasks) = n_tasks at hn_tasks ⊢
  have hn_groups := hln (ownGroup A) groups
  generalize ln (A.enc (ownGroup A) groups) = n_groups at hn_groups ⊢
  have hn_sights := hln cSight sights
  generalize ln (A.enc cSight sights) = n_sights at hn_sights ⊢
  have hn_began := hln cInt64 began
  generalize ln (A.enc cInt64 began) = n_began at hn_began ⊢
  have hn_rang := hln cInt64 rang
  generalize ln (A.enc cInt64 rang) = n_rang at hn_rang ⊢
  (try (refine Drawn.mk ⟨by kernel_rfl, fun _ => ?_⟩)); (repeat (refine Later.mk ?_; cbv))
  refine ACall.int (dp := false) (specLater_c S now d) .go rfl (fun due hdue => ?_); (cbv; repeat (refine Later.mk ?_; cbv))
  (try (refine Drawn.mk ⟨by kernel_rfl, fun _ => ?_⟩)); (repeat (refine Later.mk ?_; cbv))
  refine ACall.valN (r := rTI A) (os := fun _ => []) (dp := false) S.cx (specArmed_c S heap list next due 2 whom (Nat.le_trans hfew.timers.1 (by decide)) (Nat.le_trans hfew.timers.2 (by decide))) .go rfl (fun ln hln x hx => ⟨rfl, ?_⟩)
  obtain ⟨⟨heap2, list2, next2⟩, q⟩ := x
  (cbv; repeat (refine Later.mk ?_; cbv))
  have hn_heap2 := hln cTwig heap2
  generalize ln (A.enc cTwig heap2) = n_heap2 at hn_heap2 ⊢
  have hn_list2 := hln cTimer list2
  generalize ln (A.enc cTimer list2) = n_list2 at hn_list2 ⊢
  have hR : armT ⟨heap, list, next⟩ (laterT now d) 2 whom = (⟨heap2, list2, next2⟩, q) := by rw [<- hdue, <- (if_pos h.2.2.2.2.2.1.1 : Armed ⟨heap, list, next⟩ due 2 whom = _)]; exact hx.symm
  (try (refine Drawn.mk ⟨by kernel_rfl, fun _ => ?_⟩)); (repeat (refine Later.mk ?_; cbv))
  exact Done.isA (r := rWI A) (x := (⟨now, progs, tree, events, ⟨told, work⟩, ⟨heap2, list2, next2⟩, ⟨⟨ages, used⟩, alist⟩, tasks, groups, sights, began, rang⟩, q)) (by rw [TimerIn, if_pos h]; dsimp only; rw [hR])

end Go.Proofs.YtihfpbhalnedcaaGreat.AM
