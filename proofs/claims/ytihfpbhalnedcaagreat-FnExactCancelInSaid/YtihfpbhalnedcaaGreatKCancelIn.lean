/- Contracts: CancelIn. (printed by gw41.py) -/
import Derived.Test.YtihfpbhalnedcaaGreatW42
import Derived.Test.YtihfpbhalnedcaaGreatVCan
set_option linter.unusedVariables false
set_option linter.unusedSimpArgs false
namespace Go.Proofs.YtihfpbhalnedcaaGreat.AM
open Go Go.Proofs

set_option maxRecDepth 100000
set_option maxHeartbeats 4000000

variable {P : Program} {A : Sy}

def CancelIn (w : World) (n cause : Int) : World × Bool := Asked w (CancelD n 1 cause)

theorem cancelW_c (S : Se P A) (now : Int) (progs : List (List Ins)) (tree : List Node) (events : List Event) (told : List Bool) (work : List Int) (heap : List Twig) (list : List Timer) (next : Int) (ages : List Int) (used : List Bool) (alist : List After) (tasks : List Task) (groups : List Group) (sights : List Sight) (began rang : List Int) (n err cause : Int) (ht : TreeOk tree) (hw : work.length <= 4294967200) (he : events.length <= 4294967200) : SoundM P 97 false [.ptr 1000 0 0, .int .i64 n, .int .i64 err, .int .i64 cause] [.box (ownWorld A ⟨now, progs, tree, events, ⟨told, work⟩, ⟨heap, list, next⟩, ⟨⟨ages, used⟩, alist⟩, tasks, groups, sights, began, rang⟩)]
    (fun v os => v = .bool (CancelD n err cause ⟨now, progs, tree, events, ⟨told, work⟩, ⟨heap, list, next⟩, ⟨⟨ages, used⟩, alist⟩, tasks, groups, sights, began, rang⟩).2 /\ os = [some (.box (ownWorld A (CancelD n err cause ⟨now, progs, tree, events, ⟨told, work⟩, ⟨heap, list, next⟩, ⟨⟨ages, used⟩, alist⟩, tasks, groups, sights, began, rang⟩).1))]) := by
  refine S.cx.byS [99999] (S.prog ▸ Tryz.func97) rfl rfl rfl rfl (fun ln hln hv ho => ?_)
  (cbv; repeat (refine Later.mk ?_; cbv))
  have hn_progs := hln (ownProg A) progs
  generalize ln (A.enc (ownProg A) progs) = n_progs at hn_progs ⊢
  have hn_tree := hln cNode tree
  generalize ln (A.enc cNode tree) = n_tree at hn_tree ⊢
  have hn_events := hln cEvent events
  generalize ln (A.enc cEvent events) = n_events at hn_events ⊢
  have hn_told := hln cBool told
  generalize ln (A.enc cBool told) = n_told at hn_told ⊢
  have hn_work := hln cInt64 work
  generalize ln (A.enc cInt64 work) = n_work at hn_work ⊢
  have hn_heap := hln cTwig heap
  generalize ln (A.enc cTwig heap) = n_heap at hn_heap ⊢
  have hn_list := hln cTimer list
  generalize ln (A.enc cTimer list) = n_list at hn_list ⊢
  have hn_ages := hln cInt64 ages
  generalize ln (A.enc cInt64 ages) = n_ages at hn_ages ⊢
  have hn_used := hln cBool used
  generalize ln (A.enc cBool used) = n_used at hn_used ⊢
  have hn_alist := hln cAfter alist
  generalize ln (A.enc cAfter alist) = n_alist at hn_alist ⊢
  have hn_tasks := hln cTask tasks
  generalize ln (A.enc cTask tasks) = n_tasks at hn_tasks ⊢
  have hn_groups := hln (ownGroup A) groups
  generalize ln (A.enc (ownGroup A) groups) = n_groups at hn_groups ⊢
  have hn_sights := hln cSight sights
  generalize ln (A.enc cSight sights) = n_sights at hn_sights ⊢
  have hn_began := hln cInt64 began
  generalize ln (A.enc cInt64 began) = n_began at hn_began ⊢
  have hn_rang := hln cInt64 rang
  generalize ln (A.enc cInt64 rang) = n_rang at hn_rang ⊢
  clear hv ho
  (try (refine Drawn.mk ⟨by kernel_rfl, fun _ => ?_⟩)); (repeat (refine Later.mk ?_; cbv))
  refine ACall.testD (dp := false) (fits_c S n err cause now tree events ht) .go rfl (fun h => ?_) (fun h => ?_) <;> (cbv; repeat (refine Later.mk ?_; cbv))
  rotate_left
  · have hD : CancelD n err cause ⟨now, progs, tree, events, ⟨told, work⟩, ⟨heap, list, next⟩, ⟨⟨ages, used⟩, alist⟩, tasks, groups, sights, began, rang⟩ = (⟨now, progs, tree, events, ⟨told, work⟩, ⟨heap, list, next⟩, ⟨⟨ages, used⟩, alist⟩, tasks, groups, sights, began, rang⟩, false) := if_neg (fun e => h e.1)
    rw [hD]
    exact Done.toA (.bool false) [some (.box (ownWorld A ⟨now, progs, tree, events, ⟨told, work⟩, ⟨heap, list, next⟩, ⟨⟨ages, used⟩, alist⟩, tasks, groups, sights, began, rang⟩))] ⟨rfl, rfl⟩

  refine ACall.valN (r := rB2) (os := oSp A) (dp := false) S.cx (begin_c S told work hw n) .go rfl (fun ln hln x hx => ⟨rfl, ?_⟩)
  obtain ⟨⟨told2, work2⟩, b⟩ := x
  (cbv; repeat (refine Later.mk ?_; cbv))
  have hn_told2 := hln cBool told2
  generalize ln (A.enc cBool told2) = n_told2 at hn_told2 ⊢
  have hn_work2 := hln cInt64 work2
  generalize ln (A.enc cInt64 work2) = n_work2 at hn_work2 ⊢
  have hb : Begin ⟨told, work⟩ n = (⟨told2, work2⟩, b) := hx.symm
  cases b <;> ((cbv; repeat (refine Later.mk ?_; cbv)); repeat (refine Later.mk ?_; (cbv; repeat (refine Later.mk ?_; cbv))))
  · obtain ⟨rfl, rfl⟩ : told = told2 /\ work = work2 := by
      have := hb
      unfold Begin at this
      split at this
      · have e9 := congrArg Prod.snd this
        cases e9
      · have e4 := congrArg Prod.fst this
        injection e4 with e5 e6
        exact ⟨e5, e6⟩
    have hD : CancelD n err cause ⟨now, progs, tree, events, ⟨told, work⟩, ⟨heap, list, next⟩, ⟨⟨ages, used⟩, alist⟩, tasks, groups, sights, began, rang⟩ = (⟨now, progs, tree, events, ⟨told, work⟩, ⟨heap, list, next⟩, ⟨⟨ages, used⟩, alist⟩, tasks, groups, sights, began, rang⟩, false) := if_neg (fun e => by have := e.2; dsimp only at this; rw [hb] at this; cases this)
    rw [hD]
    exact Done.toA (.bool false) [some (.box (ownWorld A ⟨now, progs, tree, events, ⟨told, work⟩, ⟨heap, list, next⟩, ⟨⟨ages, used⟩, alist⟩, tasks, groups, sights, began, rang⟩))] ⟨rfl, rfl⟩

  (try (refine Drawn.mk ⟨by kernel_rfl, fun _ => ?_⟩)); (repeat (refine Later.mk ?_; cbv))
  refine Part.one ?_; (cbv; repeat (refine Later.mk ?_; cbv))
  refine AppRef.push S.cx (⟨n, err, cause, now⟩ : Event) (by assumption) rfl rfl plainEvent (fun _ => rfl) (by simp only [maxBytes]; omega) (fun m w hwm hml => ?_); (cbv; repeat (refine Later.mk ?_; cbv))
  have hD : CancelD n err cause ⟨now, progs, tree, events, ⟨told, work⟩, ⟨heap, list, next⟩, ⟨⟨ages, used⟩, alist⟩, tasks, groups, sights, began, rang⟩ = (⟨now, progs, tree, w, ⟨told2, work2⟩, ⟨heap, list, next⟩, ⟨⟨ages, used⟩, alist⟩, tasks, groups, sights, began, rang⟩, true) := by
    rw [CancelD, if_pos ⟨h, by dsimp only; rw [hb]⟩]
    dsimp only
    rw [hb, <- hwm]
  rw [hD]
  exact Done.toA (.bool true) [some (.box (ownWorld A ⟨now, progs, tree, w, ⟨told2, work2⟩, ⟨heap, list, next⟩, ⟨⟨ages, used⟩, alist⟩, tasks, groups, sights, began, rang⟩))] ⟨rfl, rfl⟩

theorem cancelIn1_c (S : Se P A) (now : Int) (progs : List (List Ins)) (tree : List Node) (events : List Event) (told : List Bool) (work : List Int) (heap : List Twig) (list : List Timer) (next : Int) (ages : List Int) (used : List Bool) (alist : List After) (tasks : List Task) (groups : List Group) (sights : List Sight) (began rang : List Int) (n cause : Int) (ht : TreeOk tree) (hw : work.length <= 4294967200) (he : events.length <= 4294967200) : SoundM P 96 false [.ptr 1000 0 0, .rptr [.int .i64 n], .rptr [.int .i64 cause]] [.box (ownWorld A ⟨now, progs, tree, events, ⟨told, work⟩, ⟨heap, list, next⟩, ⟨⟨ages, used⟩, alist⟩, tasks, groups, sights, began, rang⟩)]
    (fun v os => v = .bool (CancelD n 1 cause ⟨now, progs, tree, events, ⟨told, work⟩, ⟨heap, list, next⟩, ⟨⟨ages, used⟩, alist⟩, tasks, groups, sights, began, rang⟩).2 /\ os = [some (.box (ownWorld A (CancelD n 1 cause ⟨now, progs, tree, events, ⟨told, work⟩, ⟨heap, list, next⟩, ⟨⟨ages, used⟩, alist⟩, tasks, groups, sights, began, rang⟩).1))]) := by
  refine S.cx.byS [99999] (S.prog ▸ Tryz.func96) rfl rfl rfl rfl (fun ln hln hv ho => ?_)
  (cbv; repeat (refine Later.mk ?_; cbv))
  have hn_progs := hln (ownProg A) progs
  generalize ln (A.enc (ownProg A) progs) = n_progs at hn_progs ⊢
  have hn_tree := hln cNode tree
  generalize ln (A.enc cNode tree) = n_tree at hn_tree ⊢
  have hn_events := hln cEvent events
  generalize ln (A.enc cEvent events) = n_events at hn_events ⊢
  have hn_told := hln cBool told
  generalize ln (A.enc cBool told) = n_told at hn_told ⊢
  have hn_work := hln cInt64 work
  generalize ln (A.enc cInt64 work) = n_work at hn_work ⊢
  have hn_heap := hln cTwig heap
  generalize ln (A.enc cTwig heap) = n_heap at hn_heap ⊢
  have hn_list := hln cTimer list
  generalize ln (A.enc cTimer list) = n_list at hn_list ⊢
  have hn_ages := hln cInt64 ages
  generalize ln (A.enc cInt64 ages) = n_ages at hn_ages ⊢
  have hn_used := hln cBool used
  generalize ln (A.enc cBool used) = n_used at hn_used ⊢
  have hn_alist := hln cAfter alist
  generalize ln (A.enc cAfter alist) = n_alist at hn_alist ⊢
  have hn_tasks := hln cTask tasks
  generalize ln (A.enc cTask tasks) = n_tasks at hn_tasks ⊢
  have hn_groups := hln (ownGroup A) groups
  generalize ln (A.enc (ownGroup A) groups) = n_groups at hn_groups ⊢
  have hn_sights := hln cSight sights
  generalize ln (A.enc cSight sights) = n_sights at hn_sights ⊢
  have hn_began := hln cInt64 began
  generalize ln (A.enc cInt64 began) = n_began at hn_began ⊢
  have hn_rang := hln cInt64 rang
  generalize ln (A.enc cInt64 rang) = n_rang at hn_rang ⊢
  clear hv ho
  refine ACall.valN (r := fun x : World × Bool => .bool x.2) (os := fun x => [some (.box (ownWorld A x.1))]) (dp := false) S.cx (cancelW_c S now progs tree events told work heap list next ages used alist tasks groups sights began rang n 1 cause ht hw he) .go rfl (fun ln hln x hx => ⟨rfl, ?_⟩)
  obtain ⟨⟨nowx, progsx, treex, eventsx, ⟨toldx, workx⟩, ⟨heapx, listx, nextx⟩, ⟨⟨agesx, usedx⟩, alistx⟩, tasksx, groupsx, sightsx, beganx, rangx⟩, b⟩ := x
  (cbv; repeat (refine Later.mk ?_; cbv))
  have hN_progs := hln (ownProg A) progsx
  generalize ln (A.enc (ownProg A) progsx) = N_progs at hN_progs ⊢
  have hN_tree := hln cNode treex
  generalize ln (A.enc cNode treex) = N_tree at hN_tree ⊢
  have hN_events := hln cEvent eventsx
  generalize ln (A.enc cEvent eventsx) = N_events at hN_events ⊢
  have hN_told := hln cBool toldx
  generalize ln (A.enc cBool toldx) = N_told at hN_told ⊢
  have hN_work := hln cInt64 workx
  generalize ln (A.enc cInt64 workx) = N_work at hN_work ⊢
  have hN_heap := hln cTwig heapx
  generalize ln (A.enc cTwig heapx) = N_heap at hN_heap ⊢
  have hN_list := hln cTimer listx
  generalize ln (A.enc cTimer listx) = N_list at hN_list ⊢
  have hN_ages := hln cInt64 agesx
  generalize ln (A.enc cInt64 agesx) = N_ages at hN_ages ⊢
  have hN_used := hln cBool usedx
  generalize ln (A.enc cBool usedx) = N_used at hN_used ⊢
  have hN_alist := hln cAfter alistx
  generalize ln (A.enc cAfter alistx) = N_alist at hN_alist ⊢
  have hN_tasks := hln cTask tasksx
  generalize ln (A.enc cTask tasksx) = N_tasks at hN_tasks ⊢
  have hN_groups := hln (ownGroup A) groupsx
  generalize ln (A.enc (ownGroup A) groupsx) = N_groups at hN_groups ⊢
  have hN_sights := hln cSight sightsx
  generalize ln (A.enc cSight sightsx) = N_sights at hN_sights ⊢
  have hN_began := hln cInt64 beganx
  generalize ln (A.enc cInt64 beganx) = N_began at hN_began ⊢
  have hN_rang := hln cInt64 rangx
  generalize ln (A.enc cInt64 rangx) = N_rang at hN_rang ⊢
  rw [<- hx]
  exact Done.toA (.bool b) [some (.box (ownWorld A ⟨nowx, progsx, treex, eventsx, ⟨toldx, workx⟩, ⟨heapx, listx, nextx⟩, ⟨⟨agesx, usedx⟩, alistx⟩, tasksx, groupsx, sightsx, beganx, rangx⟩))] ⟨rfl, rfl⟩

theorem implCancelIn_c (S : Se P A) (now : Int) (progs : List (List Ins)) (tree : List Node) (events : List Event) (told : List Bool) (work : List Int) (heap : List Twig) (list : List Timer) (next : Int) (ages : List Int) (used : List Bool) (alist : List After) (tasks : List Task) (groups : List Group) (sights : List Sight) (began rang : List Int) (n cause : Int) (hfew : (⟨now, progs, tree, events, ⟨told, work⟩, ⟨heap, list, next⟩, ⟨⟨ages, used⟩, alist⟩, tasks, groups, sights, began, rang⟩ : World).few 1048576) : Is1 P 21 [.agg (roWorld A ⟨now, progs, tree, events, ⟨told, work⟩, ⟨heap, list, next⟩, ⟨⟨ages, used⟩, alist⟩, tasks, groups, sights, began, rang⟩), .int .i64 n, .int .i64 cause] (rWB A (CancelIn ⟨now, progs, tree, events, ⟨told, work⟩, ⟨heap, list, next⟩, ⟨⟨ages, used⟩, alist⟩, tasks, groups, sights, began, rang⟩ n cause)) := by
  refine S.cx.byS [99999] (S.prog ▸ Tryz.func21) rfl rfl rfl rfl (fun ln hln hv ho => ?_)
  (cbv; repeat (refine Later.mk ?_; cbv))
  clear hv ho
  refine ACall.valN (r := rWB A) (os := fun _ => []) (dp := false) S.cx (asked2_c S now progs tree events told work heap list next ages used alist tasks groups sights began rang hfew _ [.int .i64 n] [.int .i64 cause] (CancelD n 1 cause) (fun h => cancelIn1_c S now progs tree events told work heap list next ages used alist tasks groups sights began rang n cause h.2.2.1.1 (Nat.le_trans hfew.spread.2 (by decide)) (Nat.le_trans hfew.events (by decide)))) .go rfl (fun ln hln x hx => ⟨rfl, ?_⟩)
  obtain ⟨⟨nowx, progsx, treex, eventsx, ⟨toldx, workx⟩, ⟨heapx, listx, nextx⟩, ⟨⟨agesx, usedx⟩, alistx⟩, tasksx, groupsx, sightsx, beganx, rangx⟩, b⟩ := x
  (cbv; repeat (refine Later.mk ?_; cbv))
  have hN_progs := hln (ownProg A) progsx
  generalize ln (A.enc (ownProg A) progsx) = N_progs at hN_progs ⊢
  have hN_tree := hln cNode treex
  generalize ln (A.enc cNode treex) = N_tree at hN_tree ⊢
  have hN_events := hln cEvent eventsx
  generalize ln (A.enc cEvent eventsx) = N_events at hN_events ⊢
  have hN_told := hln cBool toldx
  generalize ln (A.enc cBool toldx) = N_told at hN_told ⊢
  have hN_work := hln cInt64 workx
  generalize ln (A.enc cInt64 workx) = N_work at hN_work ⊢
  have hN_heap := hln cTwig heapx
  generalize ln (A.enc cTwig heapx) = N_heap at hN_heap ⊢
  have hN_list := hln cTimer listx
  generalize ln (A.enc cTimer listx) = N_list at hN_list ⊢
  have hN_ages := hln cInt64 agesx
  generalize ln (A.enc cInt64 agesx) = N_ages at hN_ages ⊢
  have hN_used := hln cBool usedx
  generalize ln (A.enc cBool usedx) = N_used at hN_used ⊢
  have hN_alist := hln cAfter alistx
  generalize ln (A.enc cAfter alistx) = N_alist at hN_alist ⊢
  have hN_tasks := hln cTask tasksx
  generalize ln (A.enc cTask tasksx) = N_tasks at hN_tasks ⊢
  have hN_groups := hln (ownGroup A) groupsx
  generalize ln (A.enc (ownGroup A) groupsx) = N_groups at hN_groups ⊢
  have hN_sights := hln cSight sightsx
  generalize ln (A.enc cSight sightsx) = N_sights at hN_sights ⊢
  have hN_began := hln cInt64 beganx
  generalize ln (A.enc cInt64 beganx) = N_began at hN_began ⊢
  have hN_rang := hln cInt64 rangx
  generalize ln (A.enc cInt64 rangx) = N_rang at hN_rang ⊢
  exact Done.toA (rWB A (⟨nowx, progsx, treex, eventsx, ⟨toldx, workx⟩, ⟨heapx, listx, nextx⟩, ⟨⟨agesx, usedx⟩, alistx⟩, tasksx, groupsx, sightsx, beganx, rangx⟩, b)) [] ⟨by rw [CancelIn, <- hx], rfl⟩
def rLB (A : Sy) (x : List Event × Bool) : AV := .tup [.own 4 true (A.enc cEvent x.1), .bool x.2]

theorem specLetGo_c (S : Se P A) (t : List Node) (l : List Event) (n err cause time : Int) (hb : l.length <= 1048576) : Is1 P 188 [.ro (A.enc cNode t), .ro (A.enc cEvent l), .agg (cEvent ⟨n, err, cause, time⟩)] (rLB A (LetGo t l ⟨n, err, cause, time⟩)) := by
  refine S.cx.byS [99999] (S.prog ▸ Tryz.func188) rfl rfl rfl rfl (fun ln hln hv ho => ?_)
  (cbv; repeat (refine Later.mk ?_; cbv))
  clear hv ho
  refine ACall.testD (dp := false) (specEventsOk_c S t l) .go rfl (fun h => ?_) (fun h => ?_) <;> (cbv; repeat (refine Later.mk ?_; cbv))
  rotate_left
  · exact Done.isA (r := rLB A) (x := ([], false)) (if_neg h)
  (try (refine Drawn.mk ⟨by kernel_rfl, fun _ => ?_⟩)); (repeat (refine Later.mk ?_; cbv))
  refine ACall.valN (r := rEvent A) (os := fun _ => []) (dp := false) S.cx (l6Copy_c S l (Nat.le_trans hb (by decide))) .go rfl (fun ln hln l1 hx => ⟨rfl, ?_⟩)
  cases hx
  (cbv; repeat (refine Later.mk ?_; cbv))
  have hn1 := hln cEvent l
  generalize ln (A.enc cEvent l) = n1 at hn1 ⊢
  (try (refine Drawn.mk ⟨by kernel_rfl, fun _ => ?_⟩)); (repeat (refine Later.mk ?_; cbv))
  refine Part.one ?_; (cbv; repeat (refine Later.mk ?_; cbv))
  refine AppRef.push S.cx (⟨n, err, cause, time⟩ : Event) (by assumption) rfl rfl plainEvent (fun _ => rfl) (by simp only [maxBytes]; omega) (fun m w hw hml => ?_); (cbv; repeat (refine Later.mk ?_; cbv))
  refine ACall.testD (dp := false) (specEventsOk_c S t w) .go rfl (fun h2 => ?_) (fun h2 => ?_) <;> (cbv; repeat (refine Later.mk ?_; cbv))
  rotate_left
  · skip
    (try (refine Drawn.mk ⟨by kernel_rfl, fun _ => ?_⟩)); (repeat (refine Later.mk ?_; cbv))
    refine ACall.valN (r := rEvent A) (os := fun _ => []) (dp := false) S.cx (l6Copy_c S l (Nat.le_trans hb (by decide))) .go rfl (fun ln hln l2 hx => ⟨rfl, ?_⟩)
    cases hx
    (cbv; repeat (refine Later.mk ?_; cbv))
    have hn2 := hln cEvent l
    generalize ln (A.enc cEvent l) = n2 at hn2 ⊢
    (try (refine Drawn.mk ⟨by kernel_rfl, fun _ => ?_⟩)); (repeat (refine Later.mk ?_; cbv))
    exact Done.isA (r := rLB A) (x := (l, false)) (by rw [LetGo, if_pos h, if_neg (fun e => h2 (by rw [hw]; exact e))])
  · exact Done.isA (r := rLB A) (x := (w, true)) (by rw [LetGo, if_pos h, <- hw, if_pos h2])

theorem l14LetGo_c (S : Se P A) (now : Int) (progs : List (List Ins)) (tree : List Node) (events : List Event) (told : List Bool) (work : List Int) (heap : List Twig) (list : List Timer) (next : Int) (ages : List Int) (used : List Bool) (alist : List After) (tasks : List Task) (groups : List Group) (sights : List Sight) (began rang : List Int) (n_progs : Nat) (hn_progs : n_progs = progs.length) (n_tree : Nat) (hn_tree : n_tree = tree.length) (n_events : Nat) (hn_events : n_events = events.length) (n_told : Nat) (hn_told : n_told = told.length) (n_work : Nat) (hn_work : n_work = work.length) (n_heap : Nat) (hn_heap : n_heap = heap.length) (n_list : Nat) (hn_list : n_list = list.length) (n_ages : Nat) (hn_ages : n_ages = ages.length) (n_used : Nat) (hn_used : n_used = used.length) (n_alist : Nat) (hn_alist : n_alist = alist.length) (n_tasks : Nat) (hn_tasks : n_tasks = tasks.length) (n_groups : Nat) (hn_groups : n_groups = groups.length) (n_sights : Nat) (hn_sights : n_sights = sights.length) (n_began : Nat) (hn_began : n_began = began.length) (n_rang : Nat) (hn_rang : n_rang = rang.length) (n err cause : Int) (hok : WorldOk ⟨now, progs, tree, events, ⟨told, work⟩, ⟨heap, list, next⟩, ⟨⟨ages, used⟩, alist⟩, tasks, groups, sights, began, rang⟩) (hb : events.length <= 1048576) : SoundM P 95 false [.agg [.int .i64 now, .ref false 1000 0 n_progs, .ref false 2000 0 n_tree, .ref false 3000 0 n_events, .ref false 4000 0 n_told, .ref false 5000 0 n_work, .ref false 6000 0 n_heap, .ref false 7000 0 n_list, .int .i64 next, .ref false 8000 0 n_ages, .ref false 9000 0 n_used, .ref false 10000 0 n_alist, .ref false 11000 0 n_tasks, .ref false 12000 0 n_groups, .ref false 13000 0 n_sights, .ref false 14000 0 n_began, .ref false 15000 0 n_rang], .int .i64 n, .int .i64 err, .int .i64 cause] [.arr 1 false (A.enc (ownProg A) progs), .arr 5 true (A.enc cNode tree), .arr 4 true (A.enc cEvent events), .arr 1 true (A.enc cBool told), .arr 1 true (A.enc cInt64 work), .arr 3 true (A.enc cTwig heap), .arr 5 true (A.enc cTimer list), .arr 1 true (A.enc cInt64 ages), .arr 1 true (A.enc cBool used), .arr 5 true (A.enc cAfter alist), .arr 9 true (A.enc cTask tasks), .arr 5 false (A.enc (ownGroup A) groups), .arr 4 true (A.enc cSight sights), .arr 1 true (A.enc cInt64 began), .arr 1 true (A.enc cInt64 rang)]
    (fun v os => v = rWB A (CancelD n err cause ⟨now, progs, tree, events, ⟨told, work⟩, ⟨heap, list, next⟩, ⟨⟨ages, used⟩, alist⟩, tasks, groups, sights, began, rang⟩) /\ os = [none, none, none, none, none, none, none, none, none, none, none, none, none, none, none]) := by
  refine S.cx.byS [99999] (S.prog ▸ Tryz.func95) rfl rfl rfl rfl (fun ln hln hv ho => ?_)
  (cbv; repeat (refine Later.mk ?_; cbv))
  clear hv ho
  refine ACall.valN (r := rLB A) (os := fun _ => []) (dp := false) S.cx (specLetGo_c S tree events n err cause now hb) .go rfl (fun ln hln x hx => ⟨rfl, ?_⟩)
  obtain ⟨l2, b1⟩ := x
  (cbv; repeat (refine Later.mk ?_; cbv))
  have hn_l2 := hln cEvent l2
  generalize ln (A.enc cEvent l2) = n_l2 at hn_l2 ⊢
  have hL : LetGo tree events ⟨n, err, cause, now⟩ = (l2, b1) := hx.symm
  clear hx
  refine ACall.valN (r := rSpB A) (os := fun _ => []) (dp := false) S.cx (specBegun_c S tree told work n) .go rfl (fun ln hln x hx => ⟨rfl, ?_⟩)
  obtain ⟨⟨told2, work2⟩, b2⟩ := x
  (cbv; repeat (refine Later.mk ?_; cbv))
  have hn_told2 := hln cBool told2
  generalize ln (A.enc cBool told2) = n_told2 at hn_told2 ⊢
  have hn_work2 := hln cInt64 work2
  generalize ln (A.enc cInt64 work2) = n_work2 at hn_work2 ⊢
  have hB : Begin ⟨told, work⟩ n = (⟨told2, work2⟩, b2) := by rw [<- (if_pos (show SpreadOk tree ⟨told, work⟩ from ⟨hok.2.2.1.1, hok.2.2.2.1⟩) : Begun tree ⟨told, work⟩ n = _)]; exact hx.symm
  rw [letGo_ok hok.2.2.1] at hL
  repeat (refine Later.mk ?_; (cbv; repeat (refine Later.mk ?_; cbv)))
  have hno : ¬ (EvFits tree events ⟨n, err, cause, now⟩ /\ (Begin ⟨told, work⟩ n).2 = true) -> CancelD n err cause ⟨now, progs, tree, events, ⟨told, work⟩, ⟨heap, list, next⟩, ⟨⟨ages, used⟩, alist⟩, tasks, groups, sights, began, rang⟩ = (⟨now, progs, tree, events, ⟨told, work⟩, ⟨heap, list, next⟩, ⟨⟨ages, used⟩, alist⟩, tasks, groups, sights, began, rang⟩, false) := fun e => if_neg e
  cases b1 <;> ((cbv; repeat (refine Later.mk ?_; cbv)); repeat (refine Later.mk ?_; (cbv; repeat (refine Later.mk ?_; cbv))))
  · rw [hno (fun e => by rw [if_pos e.1] at hL; cases hL)]
    exact Done.toA (rWB A (⟨now, progs, tree, events, ⟨told, work⟩, ⟨heap, list, next⟩, ⟨⟨ages, used⟩, alist⟩, tasks, groups, sights, began, rang⟩, false)) [none, none, none, none, none, none, none, none, none, none, none, none, none, none, none] ⟨rfl, rfl⟩
  cases b2 <;> ((cbv; repeat (refine Later.mk ?_; cbv)); repeat (refine Later.mk ?_; (cbv; repeat (refine Later.mk ?_; cbv))))
  · rw [hno (fun e => by have := e.2; rw [hB] at this; cases this)]
    exact Done.toA (rWB A (⟨now, progs, tree, events, ⟨told, work⟩, ⟨heap, list, next⟩, ⟨⟨ages, used⟩, alist⟩, tasks, groups, sights, began, rang⟩, false)) [none, none, none, none, none, none, none, none, none, none, none, none, none, none, none] ⟨rfl, rfl⟩
  have hfit : EvFits tree events ⟨n, err, cause, now⟩ := by
    by_cases e : EvFits tree events ⟨n, err, cause, now⟩
    · exact e
    · rw [if_neg e] at hL; cases hL
  have hD : CancelD n err cause ⟨now, progs, tree, events, ⟨told, work⟩, ⟨heap, list, next⟩, ⟨⟨ages, used⟩, alist⟩, tasks, groups, sights, began, rang⟩ = (⟨now, progs, tree, l2, ⟨told2, work2⟩, ⟨heap, list, next⟩, ⟨⟨ages, used⟩, alist⟩, tasks, groups, sights, began, rang⟩, true) := by
    rw [if_pos hfit] at hL
    rw [CancelD, if_pos ⟨hfit, by dsimp only; rw [hB]⟩]
    dsimp only
    have hl : events ++ [⟨n, err, cause, now⟩] = l2 := congrArg Prod.fst hL
    rw [hB]
    dsimp only
    rw [hl]
  rw [hD]
  exact Done.toA (rWB A (⟨now, progs, tree, l2, ⟨told2, work2⟩, ⟨heap, list, next⟩, ⟨⟨ages, used⟩, alist⟩, tasks, groups, sights, began, rang⟩, true)) [none, none, none, none, none, none, none, none, none, none, none, none, none, none, none] ⟨rfl, rfl⟩

theorem specCancelIn_c (S : Se P A) (now : Int) (progs : List (List Ins)) (tree : List Node) (events : List Event) (told : List Bool) (work : List Int) (heap : List Twig) (list : List Timer) (next : Int) (ages : List Int) (used : List Bool) (alist : List After) (tasks : List Task) (groups : List Group) (sights : List Sight) (began rang : List Int) (n cause : Int) (hfew : (⟨now, progs, tree, events, ⟨told, work⟩, ⟨heap, list, next⟩, ⟨⟨ages, used⟩, alist⟩, tasks, groups, sights, began, rang⟩ : World).few 1048576) : Is1 P 20 [.agg (roWorld A ⟨now, progs, tree, events, ⟨told, work⟩, ⟨heap, list, next⟩, ⟨⟨ages, used⟩, alist⟩, tasks, groups, sights, began, rang⟩), .int .i64 n, .int .i64 cause] (rWB A (CancelIn ⟨now, progs, tree, events, ⟨told, work⟩, ⟨heap, list, next⟩, ⟨⟨ages, used⟩, alist⟩, tasks, groups, sights, began, rang⟩ n cause)) := by
  refine S.cx.byS [99999] (S.prog ▸ Tryz.func20) rfl rfl rfl rfl (fun ln hln hv ho => ?_)
  (cbv; repeat (refine Later.mk ?_; cbv))
  clear hv ho
  refine ACall.testD (dp := false) (specWorldOk_c S now progs tree events told work heap list next ages used alist tasks groups sights began rang) .go rfl (fun h => ?_) (fun h => ?_) <;> (cbv; repeat (refine Later.mk ?_; cbv))
  rotate_left
  · exact Done.isA (r := rWB A) (x := (world0, false)) (if_neg h)
  (try (refine Drawn.mk ⟨by kernel_rfl, fun _ => ?_⟩)); (repeat (refine Later.mk ?_; cbv))
  refine ACall.valN (r := (fun x : World => .agg (ownWorld A x))) (os := fun _ => []) (dp := false) S.cx (l13Copy_c S now progs tree events told work heap list next ages used alist tasks groups sights began rang hfew) .go rfl (fun ln hln x hx => ⟨rfl, ?_⟩)
  obtain ⟨nowc, progsc, treec, eventsc, ⟨toldc, workc⟩, ⟨heapc, listc, nextc⟩, ⟨⟨agesc, usedc⟩, alistc⟩, tasksc, groupsc, sightsc, beganc, rangc⟩ := x
  cases hx
  (cbv; repeat (refine Later.mk ?_; cbv))
  have hn_progs := hln (ownProg A) progs
  generalize ln (A.enc (ownProg A) progs) = n_progs at hn_progs ⊢
  have hn_tree := hln cNode tree
  generalize ln (A.enc cNode tree) = n_tree at hn_tree ⊢
  have hn_events := hln cEvent events
  generalize ln (A.enc cEvent events) = n_events at hn_events ⊢
  have hn_told := hln cBool told
  generalize ln (A.enc cBool told) = n_told at hn_told ⊢
  have hn_work := hln cInt64 work
  generalize ln (A.enc cInt64 work) = n_work at hn_work ⊢
  have hn_heap := hln cTwig heap
  generalize ln (A.enc cTwig heap) = n_heap at hn_heap ⊢
  have hn_list := hln cTimer list
  generalize ln (A.enc cTimer list) = n_list at hn_list ⊢
  have hn_ages := hln cInt64 ages
  generalize ln (A.enc cInt64 ages) = n_ages at hn_ages ⊢
  have hn_used := hln cBool used
  generalize ln (A.enc cBool used) = n_used at hn_used ⊢
  have hn_alist := hln cAfter alist
  generalize ln (A.enc cAfter alist) = n_alist at hn_alist ⊢
  have hn_tasks := hln cTask tasks
  generalize ln (A.enc cTask tasks) = n_tasks at hn_tasks ⊢
  have hn_groups := hln (ownGroup A) groups
  generalize ln (A.enc (ownGroup A) groups) = n_groups at hn_groups ⊢
  have hn_sights := hln cSight sights
  generalize ln (A.enc cSight sights) = n_sights at hn_sights ⊢
  have hn_began := hln cInt64 began
  generalize ln (A.enc cInt64 began) = n_began at hn_began ⊢
  have hn_rang := hln cInt64 rang
  generalize ln (A.enc cInt64 rang) = n_rang at hn_rang ⊢
  (try (refine Drawn.mk ⟨by kernel_rfl, fun _ => ?_⟩)); (repeat (refine Later.mk ?_; cbv))
  refine ACall.valN (r := rWB A) (os := fun _ => [none, none, none, none, none, none, none, none, none, none, none, none, none, none, none]) (dp := false) S.cx (l14LetGo_c S now progs tree events told work heap list next ages used alist tasks groups sights began rang n_progs hn_progs n_tree hn_tree n_events hn_events n_told hn_told n_work hn_work n_heap hn_heap n_list hn_list n_ages hn_ages n_used hn_used n_alist hn_alist n_tasks hn_tasks n_groups hn_groups n_sights hn_sights n_began hn_began n_rang hn_rang n 1 cause h hfew.events) .go rfl (fun ln hln x hx => ⟨rfl, ?_⟩)
  obtain ⟨⟨nowx, progsx, treex, eventsx, ⟨toldx, workx⟩, ⟨heapx, listx, nextx⟩, ⟨⟨agesx, usedx⟩, alistx⟩, tasksx, groupsx, sightsx, beganx, rangx⟩, b⟩ := x
  (cbv; repeat (refine Later.mk ?_; cbv))
  have hN_progs := hln (ownProg A) progsx
  generalize ln (A.enc (ownProg A) progsx) = N_progs at hN_progs ⊢
  have hN_tree := hln cNode treex
  generalize ln (A.enc cNode treex) = N_tree at hN_tree ⊢
  have hN_events := hln cEvent eventsx
  generalize ln (A.enc cEvent eventsx) = N_events at hN_events ⊢
  have hN_told := hln cBool toldx
  generalize ln (A.enc cBool toldx) = N_told at hN_told ⊢
  have hN_work := hln cInt64 workx
  generalize ln (A.enc cInt64 workx) = N_work at hN_work ⊢
  have hN_heap := hln cTwig heapx
  generalize ln (A.enc cTwig heapx) = N_heap at hN_heap ⊢
  have hN_list := hln cTimer listx
  generalize ln (A.enc cTimer listx) = N_list at hN_list ⊢
  have hN_ages := hln cInt64 agesx
  generalize ln (A.enc cInt64 agesx) = N_ages at hN_ages ⊢
  have hN_used := hln cBool usedx
  generalize ln (A.enc cBool usedx) = N_used at hN_used ⊢
  have hN_alist := hln cAfter alistx
  generalize ln (A.enc cAfter alistx) = N_alist at hN_alist ⊢
  have hN_tasks := hln cTask tasksx
  generalize ln (A.enc cTask tasksx) = N_tasks at hN_tasks ⊢
  have hN_groups := hln (ownGroup A) groupsx
  generalize ln (A.enc (ownGroup A) groupsx) = N_groups at hN_groups ⊢
  have hN_sights := hln cSight sightsx
  generalize ln (A.enc cSight sightsx) = N_sights at hN_sights ⊢
  have hN_began := hln cInt64 beganx
  generalize ln (A.enc cInt64 beganx) = N_began at hN_began ⊢
  have hN_rang := hln cInt64 rangx
  generalize ln (A.enc cInt64 rangx) = N_rang at hN_rang ⊢
  have hD : CancelD n 1 cause ⟨now, progs, tree, events, ⟨told, work⟩, ⟨heap, list, next⟩, ⟨⟨ages, used⟩, alist⟩, tasks, groups, sights, began, rang⟩ = (⟨nowx, progsx, treex, eventsx, ⟨toldx, workx⟩, ⟨heapx, listx, nextx⟩, ⟨⟨agesx, usedx⟩, alistx⟩, tasksx, groupsx, sightsx, beganx, rangx⟩, b) := hx.symm
  clear hx
  repeat (refine Later.mk ?_; (cbv; repeat (refine Later.mk ?_; cbv)))
  cases b <;> ((cbv; repeat (refine Later.mk ?_; cbv)); repeat (refine Later.mk ?_; (cbv; repeat (refine Later.mk ?_; cbv))))
  · skip
    (try (refine Drawn.mk ⟨by kernel_rfl, fun _ => ?_⟩)); (repeat (refine Later.mk ?_; cbv))
    refine ACall.valN (r := (fun x : World => .agg (ownWorld A x))) (os := fun _ => []) (dp := false) S.cx (l13Copy_c S now progs tree events told work heap list next ages used alist tasks groups sights began rang hfew) .go rfl (fun ln hln x hx => ⟨rfl, ?_⟩)
    obtain ⟨nowz, progsz, treez, eventsz, ⟨toldz, workz⟩, ⟨heapz, listz, nextz⟩, ⟨⟨agesz, usedz⟩, alistz⟩, tasksz, groupsz, sightsz, beganz, rangz⟩ := x
    cases hx
    (cbv; repeat (refine Later.mk ?_; cbv))
    have hm_progsz := hln (ownProg A) progs
    generalize ln (A.enc (ownProg A) progs) = m_progsz at hm_progsz ⊢
    have hm_treez := hln cNode tree
    generalize ln (A.enc cNode tree) = m_treez at hm_treez ⊢
    have hm_eventsz := hln cEvent events
    generalize ln (A.enc cEvent events) = m_eventsz at hm_eventsz ⊢
    have hm_toldz := hln cBool told
    generalize ln (A.enc cBool told) = m_toldz at hm_toldz ⊢
    have hm_workz := hln cInt64 work
    generalize ln (A.enc cInt64 work) = m_workz at hm_workz ⊢
    have hm_heapz := hln cTwig heap
    generalize ln (A.enc cTwig heap) = m_heapz at hm_heapz ⊢
    have hm_listz := hln cTimer list
    generalize ln (A.enc cTimer list) = m_listz at hm_listz ⊢
    have hm_agesz := hln cInt64 ages
    generalize ln (A.enc cInt64 ages) = m_agesz at hm_agesz ⊢
    have hm_usedz := hln cBool used
    generalize ln (A.enc cBool used) = m_usedz at hm_usedz ⊢
    have hm_alistz := hln cAfter alist
    generalize ln (A.enc cAfter alist) = m_alistz at hm_alistz ⊢
    have hm_tasksz := hln cTask tasks
    generalize ln (A.enc cTask tasks) = m_tasksz at hm_tasksz ⊢
    have hm_groupsz := hln (ownGroup A) groups
    generalize ln (A.enc (ownGroup A) groups) = m_groupsz at hm_groupsz ⊢
    have hm_sightsz := hln cSight sights
    generalize ln (A.enc cSight sights) = m_sightsz at hm_sightsz ⊢
    have hm_beganz := hln cInt64 began
    generalize ln (A.enc cInt64 began) = m_beganz at hm_beganz ⊢
    have hm_rangz := hln cInt64 rang
    generalize ln (A.enc cInt64 rang) = m_rangz at hm_rangz ⊢
    (try (refine Drawn.mk ⟨by kernel_rfl, fun _ => ?_⟩)); (repeat (refine Later.mk ?_; cbv))
    exact Done.isA (r := rWB A) (x := (⟨now, progs, tree, events, ⟨told, work⟩, ⟨heap, list, next⟩, ⟨⟨ages, used⟩, alist⟩, tasks, groups, sights, began, rang⟩, false)) (asked_not h (by rw [hD]))
  (try (refine Drawn.mk ⟨by kernel_rfl, fun _ => ?_⟩)); (repeat (refine Later.mk ?_; cbv))
  refine ACall.valN (r := rWB A) (os := fun _ => [none, none, none, none, none, none, none, none, none, none, none, none, none, none, none]) (dp := false) S.cx (l14Either_c S now progs tree events told work heap list next ages used alist tasks groups sights began rang nowx progsx treex eventsx toldx workx heapx listx nextx agesx usedx alistx tasksx groupsx sightsx beganx rangx N_progs hN_progs N_tree hN_tree N_events hN_events N_told hN_told N_work hN_work N_heap hN_heap N_list hN_list N_ages hN_ages N_used hN_used N_alist hN_alist N_tasks hN_tasks N_groups hN_groups N_sights hN_sights N_began hN_began N_rang hN_rang hfew) .go rfl (fun ln hln x hx => ⟨rfl, ?_⟩)
  obtain ⟨⟨nowy, progsy, treey, eventsy, ⟨toldy, worky⟩, ⟨heapy, listy, nexty⟩, ⟨⟨agesy, usedy⟩, alisty⟩, tasksy, groupsy, sightsy, begany, rangy⟩, b⟩ := x
  (cbv; repeat (refine Later.mk ?_; cbv))
  have hk_progs := hln (ownProg A) progsy
  generalize ln (A.enc (ownProg A) progsy) = k_progs at hk_progs ⊢
  have hk_tree := hln cNode treey
  generalize ln (A.enc cNode treey) = k_tree at hk_tree ⊢
  have hk_events := hln cEvent eventsy
  generalize ln (A.enc cEvent eventsy) = k_events at hk_events ⊢
  have hk_told := hln cBool toldy
  generalize ln (A.enc cBool toldy) = k_told at hk_told ⊢
  have hk_work := hln cInt64 worky
  generalize ln (A.enc cInt64 worky) = k_work at hk_work ⊢
  have hk_heap := hln cTwig heapy
  generalize ln (A.enc cTwig heapy) = k_heap at hk_heap ⊢
  have hk_list := hln cTimer listy
  generalize ln (A.enc cTimer listy) = k_list at hk_list ⊢
  have hk_ages := hln cInt64 agesy
  generalize ln (A.enc cInt64 agesy) = k_ages at hk_ages ⊢
  have hk_used := hln cBool usedy
  generalize ln (A.enc cBool usedy) = k_used at hk_used ⊢
  have hk_alist := hln cAfter alisty
  generalize ln (A.enc cAfter alisty) = k_alist at hk_alist ⊢
  have hk_tasks := hln cTask tasksy
  generalize ln (A.enc cTask tasksy) = k_tasks at hk_tasks ⊢
  have hk_groups := hln (ownGroup A) groupsy
  generalize ln (A.enc (ownGroup A) groupsy) = k_groups at hk_groups ⊢
  have hk_sights := hln cSight sightsy
  generalize ln (A.enc cSight sightsy) = k_sights at hk_sights ⊢
  have hk_began := hln cInt64 begany
  generalize ln (A.enc cInt64 begany) = k_began at hk_began ⊢
  have hk_rang := hln cInt64 rangy
  generalize ln (A.enc cInt64 rangy) = k_rang at hk_rang ⊢
  (try (refine Drawn.mk ⟨by kernel_rfl, fun _ => ?_⟩)); (repeat (refine Later.mk ?_; cbv))
  exact Done.isA (r := rWB A) (x := (⟨nowy, progsy, treey, eventsy, ⟨toldy, worky⟩, ⟨heapy, listy, nexty⟩, ⟨⟨agesy, usedy⟩, alisty⟩, tasksy, groupsy, sightsy, begany, rangy⟩, b)) (by rw [CancelIn, <- either_asked h (by rw [hD]), hD]; exact hx.symm)

end Go.Proofs.YtihfpbhalnedcaaGreat.AM
