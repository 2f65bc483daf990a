/- Contracts: AfterIn. (printed by gw41.py) -/
import Derived.Test.YtihfpbhalnedcaaGreatW43
import Derived.Test.YtihfpbhalnedcaaGreatVAft
import Derived.Test.YtihfpbhalnedcaaGreatA4
set_option linter.unusedVariables false
set_option linter.unusedSimpArgs false
namespace Go.Proofs.YtihfpbhalnedcaaGreat.AM
open Go Go.Proofs

set_option maxRecDepth 100000
set_option maxHeartbeats 4000000

variable {P : Program} {A : Sy}

theorem Row.at {T : Nat -> Option TI} (C : Cx P T A) {α : Type} {f : α -> List AV} {l : List α} {row : Nat} {K : List AV -> Prop} {x : α} (hx : l[row]? = some x) (h : K (f x)) : Row (A.enc f l) row K :=
  Row.enc C (lt_of_get hx) (fun y hy => by rw [hx] at hy; cases hy; exact h)

theorem register_stay {a : Afters} {n fn : Int} (h : (Register a n fn).2.2 = false) : Register a n fn = (a, handle0, false) := by
  unfold Register at h ⊢
  split at h
  · cases h
  · rename_i hc; rw [if_neg hc]
def handleOf (n fn : Int) (w : World) : Handle := if 0 <= n /\ n.toNat < w.tree.length then (Register w.afters n fn).2.1 else handle0

theorem afterIn1_c (S : Se P A) (now : Int) (progs : List (List Ins)) (tree : List Node) (events : List Event) (told : List Bool) (work : List Int) (heap : List Twig) (list : List Timer) (next : Int) (ages : List Int) (used : List Bool) (alist : List After) (tasks : List Task) (groups : List Group) (sights : List Sight) (began rang : List Int) (n fn : Int) (hok : WorldOk ⟨now, progs, tree, events, ⟨told, work⟩, ⟨heap, list, next⟩, ⟨⟨ages, used⟩, alist⟩, tasks, groups, sights, began, rang⟩) : SoundM P 110 false [.ptr 1000 0 0, .rptr [.int .i64 n], .rptr [.int .i64 fn], .ptr 2000 0 0] [.box (ownWorld A ⟨now, progs, tree, events, ⟨told, work⟩, ⟨heap, list, next⟩, ⟨⟨ages, used⟩, alist⟩, tasks, groups, sights, began, rang⟩), .box (cHandle handle0)]
    (fun v os => v = .bool (AfterD n fn ⟨now, progs, tree, events, ⟨told, work⟩, ⟨heap, list, next⟩, ⟨⟨ages, used⟩, alist⟩, tasks, groups, sights, began, rang⟩).2 /\ os = [some (.box (ownWorld A (AfterD n fn ⟨now, progs, tree, events, ⟨told, work⟩, ⟨heap, list, next⟩, ⟨⟨ages, used⟩, alist⟩, tasks, groups, sights, began, rang⟩).1)), some (.box (cHandle (handleOf n fn ⟨now, progs, tree, events, ⟨told, work⟩, ⟨heap, list, next⟩, ⟨⟨ages, used⟩, alist⟩, tasks, groups, sights, began, rang⟩)))]) := by
  have hao := hok.2.2.2.2.2.2.1.1
  have hto : told.length = tree.length := hok.2.2.2.1.1
  have hsl : used.length = ages.length := hao.1.2.1
  have hal : alist.length <= 64 := by
    have h1 := hao.2.1
    have h2 := hao.1.1.2
    have h3 := usedN_le used
    dsimp only at h1 h2
    omega
  refine S.cx.byS [99999] (S.prog ▸ Tryz.func110) rfl rfl rfl rfl (fun ln hln hv ho => ?_)
  (cbv; repeat (refine Later.mk ?_; cbv))
  have hn_progs := hln (ownProg A) progs
  generalize ln (A.enc (ownProg A) progs) = n_progs at hn_progs ⊢
  have hn_tree := hln cNode tree
  generalize ln (A.enc cNode tree) = n_tree at hn_tree ⊢
  have hn_events := hln cEvent events
  generalize ln (A.enc cEvent events) = n_events at hn_events ⊢
  have hn_told := hln cBool told
  generalize ln (A.enc cBool told) = n_told at hn_told ⊢
  have hn_work := hln cInt64 work
  generalize ln (A.enc cInt64 work) = n_work at hn_work ⊢
  have hn_heap := hln cTwig heap
  generalize ln (A.enc cTwig heap) = n_heap at hn_heap ⊢
  have hn_list := hln cTimer list
  generalize ln (A.enc cTimer list) = n_list at hn_list ⊢
  have hn_ages := hln cInt64 ages
  generalize ln (A.enc cInt64 ages) = n_ages at hn_ages ⊢
  have hn_used := hln cBool used
  generalize ln (A.enc cBool used) = n_used at hn_used ⊢
  have hn_alist := hln cAfter alist
  generalize ln (A.enc cAfter alist) = n_alist at hn_alist ⊢
  have hn_tasks := hln cTask tasks
  generalize ln (A.enc cTask tasks) = n_tasks at hn_tasks ⊢
  have hn_groups := hln (ownGroup A) groups
  generalize ln (A.enc (ownGroup A) groups) = n_groups at hn_groups ⊢
  have hn_sights := hln cSight sights
  generalize ln (A.enc cSight sights) = n_sights at hn_sights ⊢
  have hn_began := hln cInt64 began
  generalize ln (A.enc cInt64 began) = n_began at hn_began ⊢
  have hn_rang := hln cInt64 rang
  generalize ln (A.enc cInt64 rang) = n_rang at hn_rang ⊢
  clear hv ho
  (try (refine Drawn.mk ⟨by kernel_rfl, fun _ => ?_⟩)); (repeat (refine Later.mk ?_; cbv))
  refine ACall.testD (dp := false) (isInNode_c S n tree) .go rfl (fun h => ?_) (fun h => ?_) <;> (cbv; repeat (refine Later.mk ?_; cbv))
  rotate_left
  · have hD : AfterD n fn ⟨now, progs, tree, events, ⟨told, work⟩, ⟨heap, list, next⟩, ⟨⟨ages, used⟩, alist⟩, tasks, groups, sights, began, rang⟩ = (⟨now, progs, tree, events, ⟨told, work⟩, ⟨heap, list, next⟩, ⟨⟨ages, used⟩, alist⟩, tasks, groups, sights, began, rang⟩, false) := if_neg (fun e => h e.1)
    have hH : handleOf n fn ⟨now, progs, tree, events, ⟨told, work⟩, ⟨heap, list, next⟩, ⟨⟨ages, used⟩, alist⟩, tasks, groups, sights, began, rang⟩ = handle0 := if_neg h
    rw [hD, hH]
    exact Done.toA (.bool false) [some (.box (ownWorld A ⟨now, progs, tree, events, ⟨told, work⟩, ⟨heap, list, next⟩, ⟨⟨ages, used⟩, alist⟩, tasks, groups, sights, began, rang⟩)), some (.box (cHandle handle0))] ⟨rfl, rfl⟩
  have hH : handleOf n fn ⟨now, progs, tree, events, ⟨told, work⟩, ⟨heap, list, next⟩, ⟨⟨ages, used⟩, alist⟩, tasks, groups, sights, began, rang⟩ = (Register ⟨⟨ages, used⟩, alist⟩ n fn).2.1 := if_pos h
  (try (refine Drawn.mk ⟨by kernel_rfl, fun _ => ?_⟩)); (repeat (refine Later.mk ?_; cbv))
  refine ACall.valN (r := rHB3) (os := oA3 A) (dp := false) S.cx (register_c S ages used alist hsl (by omega) n fn) .go rfl (fun ln hln x hx => ⟨rfl, ?_⟩)
  obtain ⟨⟨⟨ages2, used2⟩, alist2⟩, ⟨slot, age⟩, b⟩ := x
  (cbv; repeat (refine Later.mk ?_; cbv))
  have hn_ages2 := hln cInt64 ages2
  generalize ln (A.enc cInt64 ages2) = n_ages2 at hn_ages2 ⊢
  have hn_used2 := hln cBool used2
  generalize ln (A.enc cBool used2) = n_used2 at hn_used2 ⊢
  have hn_alist2 := hln cAfter alist2
  generalize ln (A.enc cAfter alist2) = n_alist2 at hn_alist2 ⊢
  have hR : Register ⟨⟨ages, used⟩, alist⟩ n fn = (⟨⟨ages2, used2⟩, alist2⟩, ⟨slot, age⟩, b) := hx.symm
  rw [hH, hR]
  repeat (refine Later.mk ?_; (cbv; repeat (refine Later.mk ?_; cbv)))
  cases b <;> ((cbv; repeat (refine Later.mk ?_; cbv)); repeat (refine Later.mk ?_; (cbv; repeat (refine Later.mk ?_; cbv))))
  · have hD : AfterD n fn ⟨now, progs, tree, events, ⟨told, work⟩, ⟨heap, list, next⟩, ⟨⟨ages, used⟩, alist⟩, tasks, groups, sights, began, rang⟩ = (⟨now, progs, tree, events, ⟨told, work⟩, ⟨heap, list, next⟩, ⟨⟨ages, used⟩, alist⟩, tasks, groups, sights, began, rang⟩, false) := if_neg (fun e => by have := e.2; dsimp only at this; rw [hR] at this; cases this)
    have e3 := register_stay (a := ⟨⟨ages, used⟩, alist⟩) (n := n) (fn := fn) (by rw [hR])
    rw [hR] at e3
    obtain ⟨rfl, rfl, rfl⟩ : ages = ages2 /\ used = used2 /\ alist = alist2 := by
      have e4 := congrArg Prod.fst e3
      injection e4 with e5 e6
      injection e5 with e7 e8
      exact ⟨e7.symm, e8.symm, e6.symm⟩
    rw [hD]
    (try (refine Drawn.mk ⟨by kernel_rfl, fun _ => ?_⟩)); (repeat (refine Later.mk ?_; cbv))
    exact Done.toA (.bool false) [some (.box (ownWorld A ⟨now, progs, tree, events, ⟨told, work⟩, ⟨heap, list, next⟩, ⟨⟨ages, used⟩, alist⟩, tasks, groups, sights, began, rang⟩)), some (.box (cHandle ⟨slot, age⟩))] ⟨rfl, rfl⟩
  obtain ⟨tb, htb⟩ := get_of_lt (l := told) (i := n.toNat) (by omega)
  (try (refine Drawn.mk ⟨by kernel_rfl, fun _ => ?_⟩)); (repeat (refine Later.mk ?_; cbv))
  refine ElemRef.go rfl h.1 (by omega) (by rw [S.cx.lenE']; omega) (fun row hrow => ?_); (cbv; repeat (refine Later.mk ?_; cbv))
  obtain rfl : row = n.toNat := by omega
  refine Row.at S.cx htb ?_; (cbv; repeat (refine Later.mk ?_; cbv)); repeat (refine Later.mk ?_; (cbv; repeat (refine Later.mk ?_; cbv)))
  have hDD : ∀ a2, afterA ⟨now, progs, tree, events, ⟨told, work⟩, ⟨heap, list, next⟩, ⟨⟨ages, used⟩, alist⟩, tasks, groups, sights, began, rang⟩ n fn = a2 -> AfterD n fn ⟨now, progs, tree, events, ⟨told, work⟩, ⟨heap, list, next⟩, ⟨⟨ages, used⟩, alist⟩, tasks, groups, sights, began, rang⟩ = (⟨now, progs, tree, events, ⟨told, work⟩, ⟨heap, list, next⟩, a2, tasks, groups, sights, began, rang⟩, true) := fun a2 e => by
    rw [AfterD, if_pos ⟨h, by dsimp only; rw [hR]⟩, e]
  cases tb <;> ((cbv; repeat (refine Later.mk ?_; cbv)); repeat (refine Later.mk ?_; (cbv; repeat (refine Later.mk ?_; cbv))))
  · rw [hDD ⟨⟨ages2, used2⟩, alist2⟩ (by unfold afterA; rw [if_neg (by dsimp only; rw [htb]; decide)]; dsimp only; rw [hR])]
    exact Done.toA (.bool true) [some (.box (ownWorld A ⟨now, progs, tree, events, ⟨told, work⟩, ⟨heap, list, next⟩, ⟨⟨ages2, used2⟩, alist2⟩, tasks, groups, sights, began, rang⟩)), some (.box (cHandle ⟨slot, age⟩))] ⟨rfl, rfl⟩
  (try (refine Drawn.mk ⟨by kernel_rfl, fun _ => ?_⟩)); (repeat (refine Later.mk ?_; cbv))
  refine ACall.valN (r := (fun _ : Afters => .tup [])) (os := oA A) (dp := false) S.cx (queue_c S ages2 used2 alist2 n) .go rfl (fun ln hln x hx => ⟨rfl, ?_⟩)
  obtain ⟨⟨ages3, used3⟩, alist3⟩ := x
  (cbv; repeat (refine Later.mk ?_; cbv))
  have hn_ages3 := hln cInt64 ages3
  generalize ln (A.enc cInt64 ages3) = n_ages3 at hn_ages3 ⊢
  have hn_used3 := hln cBool used3
  generalize ln (A.enc cBool used3) = n_used3 at hn_used3 ⊢
  have hn_alist3 := hln cAfter alist3
  generalize ln (A.enc cAfter alist3) = n_alist3 at hn_alist3 ⊢
  repeat (refine Later.mk ?_; (cbv; repeat (refine Later.mk ?_; cbv)))
  rw [hDD ⟨⟨ages3, used3⟩, alist3⟩ (by unfold afterA; rw [if_pos (by dsimp only; rw [htb])]; dsimp only; rw [hR]; exact hx.symm)]
  exact Done.toA (.bool true) [some (.box (ownWorld A ⟨now, progs, tree, events, ⟨told, work⟩, ⟨heap, list, next⟩, ⟨⟨ages3, used3⟩, alist3⟩, tasks, groups, sights, began, rang⟩)), some (.box (cHandle ⟨slot, age⟩))] ⟨rfl, rfl⟩

theorem implAfterIn_c (S : Se P A) (now : Int) (progs : List (List Ins)) (tree : List Node) (events : List Event) (told : List Bool) (work : List Int) (heap : List Twig) (list : List Timer) (next : Int) (ages : List Int) (used : List Bool) (alist : List After) (tasks : List Task) (groups : List Group) (sights : List Sight) (began rang : List Int) (n fn : Int) (hfew : (⟨now, progs, tree, events, ⟨told, work⟩, ⟨heap, list, next⟩, ⟨⟨ages, used⟩, alist⟩, tasks, groups, sights, began, rang⟩ : World).few 1048576) : Is1 P 28 [.agg (roWorld A ⟨now, progs, tree, events, ⟨told, work⟩, ⟨heap, list, next⟩, ⟨⟨ages, used⟩, alist⟩, tasks, groups, sights, began, rang⟩), .int .i64 n, .int .i64 fn] (rWHB A (AfterIn ⟨now, progs, tree, events, ⟨told, work⟩, ⟨heap, list, next⟩, ⟨⟨ages, used⟩, alist⟩, tasks, groups, sights, began, rang⟩ n fn)) := by
  refine S.cx.byS [99999] (S.prog ▸ Tryz.func28) rfl rfl rfl rfl (fun ln hln hv ho => ?_)
  (cbv; repeat (refine Later.mk ?_; cbv))
  clear hv ho
  rw [afterIn_asked]
  refine ACall.ofW (dp := false) S.cx (asked21_c S now progs tree events told work heap list next ages used alist tasks groups sights began rang hfew _ [.int .i64 n] [.int .i64 fn] handle0 (AfterD n fn) (handleOf n fn) (fun h => afterIn1_c S now progs tree events told work heap list next ages used alist tasks groups sights began rang n fn h)) .go (fun ln hln v os hv => ?_)
  obtain ⟨⟨slot, age⟩, ⟨rfl, rfl⟩, hy⟩ := hv
  obtain ⟨⟨⟨nowx, progsx, treex, eventsx, ⟨toldx, workx⟩, ⟨heapx, listx, nextx⟩, ⟨⟨agesx, usedx⟩, alistx⟩, tasksx, groupsx, sightsx, beganx, rangx⟩, b⟩, hz⟩ : ∃ x, x = Asked ⟨now, progs, tree, events, ⟨told, work⟩, ⟨heap, list, next⟩, ⟨⟨ages, used⟩, alist⟩, tasks, groups, sights, began, rang⟩ (AfterD n fn) := ⟨_, rfl⟩
  rw [<- hz] at hy ⊢
  refine ⟨rfl, ?_⟩; (cbv; repeat (refine Later.mk ?_; cbv))
  have hN_progs := hln (ownProg A) progsx
  generalize ln (A.enc (ownProg A) progsx) = N_progs at hN_progs ⊢
  have hN_tree := hln cNode treex
  generalize ln (A.enc cNode treex) = N_tree at hN_tree ⊢
  have hN_events := hln cEvent eventsx
  generalize ln (A.enc cEvent eventsx) = N_events at hN_events ⊢
  have hN_told := hln cBool toldx
  generalize ln (A.enc cBool toldx) = N_told at hN_told ⊢
  have hN_work := hln cInt64 workx
  generalize ln (A.enc cInt64 workx) = N_work at hN_work ⊢
  have hN_heap := hln cTwig heapx
  generalize ln (A.enc cTwig heapx) = N_heap at hN_heap ⊢
  have hN_list := hln cTimer listx
  generalize ln (A.enc cTimer listx) = N_list at hN_list ⊢
  have hN_ages := hln cInt64 agesx
  generalize ln (A.enc cInt64 agesx) = N_ages at hN_ages ⊢
  have hN_used := hln cBool usedx
  generalize ln (A.enc cBool usedx) = N_used at hN_used ⊢
  have hN_alist := hln cAfter alistx
  generalize ln (A.enc cAfter alistx) = N_alist at hN_alist ⊢
  have hN_tasks := hln cTask tasksx
  generalize ln (A.enc cTask tasksx) = N_tasks at hN_tasks ⊢
  have hN_groups := hln (ownGroup A) groupsx
  generalize ln (A.enc (ownGroup A) groupsx) = N_groups at hN_groups ⊢
  have hN_sights := hln cSight sightsx
  generalize ln (A.enc cSight sightsx) = N_sights at hN_sights ⊢
  have hN_began := hln cInt64 beganx
  generalize ln (A.enc cInt64 beganx) = N_began at hN_began ⊢
  have hN_rang := hln cInt64 rangx
  generalize ln (A.enc cInt64 rangx) = N_rang at hN_rang ⊢
  repeat (refine Later.mk ?_; (cbv; repeat (refine Later.mk ?_; cbv)))
  cases b <;> ((cbv; repeat (refine Later.mk ?_; cbv)); repeat (refine Later.mk ?_; (cbv; repeat (refine Later.mk ?_; cbv))))
  · exact Done.toA (rWHB A (⟨nowx, progsx, treex, eventsx, ⟨toldx, workx⟩, ⟨heapx, listx, nextx⟩, ⟨⟨agesx, usedx⟩, alistx⟩, tasksx, groupsx, sightsx, beganx, rangx⟩, handle0, false)) [] ⟨rfl, rfl⟩
  have hy2 := hy rfl
  have htree : 0 <= n /\ n.toNat < tree.length := by
    have := hz.symm
    unfold Asked at this
    split at this
    · split at this
      · rename_i e
        have := e.1
        unfold AfterD at this
        split at this
        · rename_i e2; exact e2.1
        · cases this
      · cases this
    · cases this
  rw [handleOf, if_pos htree] at hy2
  (try (refine Drawn.mk ⟨by kernel_rfl, fun _ => ?_⟩)); (repeat (refine Later.mk ?_; cbv))
  exact Done.toA (rWHB A (⟨nowx, progsx, treex, eventsx, ⟨toldx, workx⟩, ⟨heapx, listx, nextx⟩, ⟨⟨agesx, usedx⟩, alistx⟩, tasksx, groupsx, sightsx, beganx, rangx⟩, ⟨slot, age⟩, true)) [] ⟨by rw [hy2]; rfl, rfl⟩

theorem specAfterIn_c (S : Se P A) (now : Int) (progs : List (List Ins)) (tree : List Node) (events : List Event) (told : List Bool) (work : List Int) (heap : List Twig) (list : List Timer) (next : Int) (ages : List Int) (used : List Bool) (alist : List After) (tasks : List Task) (groups : List Group) (sights : List Sight) (began rang : List Int) (n fn : Int) (hfew : (⟨now, progs, tree, events, ⟨told, work⟩, ⟨heap, list, next⟩, ⟨⟨ages, used⟩, alist⟩, tasks, groups, sights, began, rang⟩ : World).few 1048576) : Is1 P 27 [.agg (roWorld A ⟨now, progs, tree, events, ⟨told, work⟩, ⟨heap, list, next⟩, ⟨⟨ages, used⟩, alist⟩, tasks, groups, sights, began, rang⟩), .int .i64 n, .int .i64 fn] (rWHB A (AfterIn ⟨now, progs, tree, events, ⟨told, work⟩, ⟨heap, list, next⟩, ⟨⟨ages, used⟩, alist⟩, tasks, groups, sights, began, rang⟩ n fn)) := by
  refine S.cx.byS [99999] (S.prog ▸ Tryz.func27) rfl rfl rfl rfl (fun ln hln hv ho => ?_)
  (cbv; repeat (refine Later.mk ?_; cbv))
  clear hv ho
  refine ACall.testD (dp := false) (specWorldOk_c S now progs tree events told work heap list next ages used alist tasks groups sights began rang) .go rfl (fun h => ?_) (fun h => ?_) <;> (cbv; repeat (refine Later.mk ?_; cbv))
  rotate_left
  · exact Done.isA (r := rWHB A) (x := (world0, handle0, false)) (if_neg h)
  refine ACall.valN (r := (fun x : World => .agg (ownWorld A x))) (os := fun _ => []) (dp := false) S.cx (l13Copy_c S now progs tree events told work heap list next ages used alist tasks groups sights began rang hfew) .go rfl (fun ln hln x hx => ⟨rfl, ?_⟩)
  obtain ⟨nowc, progsc, treec, eventsc, ⟨toldc, workc⟩, ⟨heapc, listc, nextc⟩, ⟨⟨agesc, usedc⟩, alistc⟩, tasksc, groupsc, sightsc, beganc, rangc⟩ := x
  cases hx
  (cbv; repeat (refine Later.mk ?_; cbv))
  have hn_progs := hln (ownProg A) progs
  generalize ln (A.enc (ownProg A) progs) = n_progs at hn_progs ⊢
  have hn_tree := hln cNode tree
  generalize ln (A.enc cNode tree) = n_tree at hn_tree ⊢
  have hn_events := hln cEvent events
  generalize ln (A.enc cEvent events) = n_events at hn_events ⊢
  have hn_told := hln cBool told
  generalize ln (A.enc cBool told) = n_told at hn_told ⊢
  have hn_work := hln cInt64 work
  generalize ln (A.enc cInt64 work) = n_work at hn_work ⊢
  have hn_heap := hln cTwig heap
  generalize ln (A.enc cTwig heap) = n_heap at hn_heap ⊢
  have hn_list := hln cTimer list
  generalize ln (A.enc cTimer list) = n_list at hn_list ⊢
  have hn_ages := hln cInt64 ages
  generalize ln (A.enc cInt64 ages) = n_ages at hn_ages ⊢
  have hn_used := hln cBool used
  generalize ln (A.enc cBool used) = n_used at hn_used ⊢
  have hn_alist := hln cAfter alist
  generalize ln (A.enc cAfter alist) = n_alist at hn_alist ⊢
  have hn_tasks := hln cTask tasks
  generalize ln (A.enc cTask tasks) = n_tasks at hn_tasks ⊢
  have hn_groups := hln (ownGroup A) groups
  generalize ln (A.enc (ownGroup A) groups) = n_groups at hn_groups ⊢
  have hn_sights := hln cSight sights
  generalize ln (A.enc cSight sights) = n_sights at hn_sights ⊢
  have hn_began := hln cInt64 began
  generalize ln (A.enc cInt64 began) = n_began at hn_began ⊢
  have hn_rang := hln cInt64 rang
  generalize ln (A.enc cInt64 rang) = n_rang at hn_rang ⊢
  repeat (refine Later.mk ?_; (cbv; repeat (refine Later.mk ?_; cbv)))
  have hto : told.length = tree.length := h.2.2.2.1.1
  refine ACall.testD (dp := false) (l13Node_c S now progs tree events told work heap list next ages used alist tasks groups sights began rang n) .go rfl (fun hn => ?_) (fun hn => ?_) <;> (cbv; repeat (refine Later.mk ?_; cbv))
  rotate_left
  · exact Done.isA (r := rWHB A) (x := (⟨now, progs, tree, events, ⟨told, work⟩, ⟨heap, list, next⟩, ⟨⟨ages, used⟩, alist⟩, tasks, groups, sights, began, rang⟩, handle0, false)) (by rw [AfterIn, if_pos h, if_neg (fun e => hn e.1)])
  refine ACall.valN (r := rAHB A) (os := fun _ => []) (dp := false) S.cx (specRegistered_c S ages used alist n fn) .go rfl (fun ln hln x hx => ⟨rfl, ?_⟩)
  obtain ⟨⟨⟨ages2, used2⟩, alist2⟩, ⟨slot, age⟩, b⟩ := x
  (cbv; repeat (refine Later.mk ?_; cbv))
  have hn_ages2 := hln cInt64 ages2
  generalize ln (A.enc cInt64 ages2) = n_ages2 at hn_ages2 ⊢
  have hn_used2 := hln cBool used2
  generalize ln (A.enc cBool used2) = n_used2 at hn_used2 ⊢
  have hn_alist2 := hln cAfter alist2
  generalize ln (A.enc cAfter alist2) = n_alist2 at hn_alist2 ⊢
  have hR : Register ⟨⟨ages, used⟩, alist⟩ n fn = (⟨⟨ages2, used2⟩, alist2⟩, ⟨slot, age⟩, b) := by rw [<- (if_pos h.2.2.2.2.2.2.1.1 : Registered ⟨⟨ages, used⟩, alist⟩ n fn = _)]; exact hx.symm
  repeat (refine Later.mk ?_; (cbv; repeat (refine Later.mk ?_; cbv)))
  cases b <;> ((cbv; repeat (refine Later.mk ?_; cbv)); repeat (refine Later.mk ?_; (cbv; repeat (refine Later.mk ?_; cbv))))
  · exact Done.isA (r := rWHB A) (x := (⟨now, progs, tree, events, ⟨told, work⟩, ⟨heap, list, next⟩, ⟨⟨ages, used⟩, alist⟩, tasks, groups, sights, began, rang⟩, handle0, false)) (by rw [AfterIn, if_pos h, if_neg (fun e => by have := e.2; dsimp only at this; rw [hR] at this; cases this)])
  obtain ⟨tb, htb⟩ := get_of_lt (l := told) (i := n.toNat) (by omega)
  refine ElemRo.at S.cx (x := tb) rfl hn.1 htb ?_; (cbv; repeat (refine Later.mk ?_; cbv))
  have hDD : ∀ a2, afterA ⟨now, progs, tree, events, ⟨told, work⟩, ⟨heap, list, next⟩, ⟨⟨ages, used⟩, alist⟩, tasks, groups, sights, began, rang⟩ n fn = a2 -> AfterIn ⟨now, progs, tree, events, ⟨told, work⟩, ⟨heap, list, next⟩, ⟨⟨ages, used⟩, alist⟩, tasks, groups, sights, began, rang⟩ n fn = (⟨now, progs, tree, events, ⟨told, work⟩, ⟨heap, list, next⟩, a2, tasks, groups, sights, began, rang⟩, ⟨slot, age⟩, true) := fun a2 e => by
    rw [AfterIn, if_pos h, if_pos ⟨hn, by dsimp only; rw [hR]⟩, e]
    dsimp only
    rw [hR]
  cases tb <;> ((cbv; repeat (refine Later.mk ?_; cbv)); repeat (refine Later.mk ?_; (cbv; repeat (refine Later.mk ?_; cbv))))
  · (try (refine Drawn.mk ⟨by kernel_rfl, fun _ => ?_⟩)); (repeat (refine Later.mk ?_; cbv))
    exact Done.isA (r := rWHB A) (x := (⟨now, progs, tree, events, ⟨told, work⟩, ⟨heap, list, next⟩, ⟨⟨ages2, used2⟩, alist2⟩, tasks, groups, sights, began, rang⟩, ⟨slot, age⟩, true)) (hDD _ (by unfold afterA; rw [if_neg (by dsimp only; rw [htb]; decide)]; dsimp only; rw [hR]))
  have hao2 : AftersOk ⟨⟨ages2, used2⟩, alist2⟩ := by have := register_ok h.2.2.2.2.2.2.1.1 n fn; dsimp only at this; rw [hR] at this; exact this
  refine ACall.valN (r := (fun x : Afters => .agg (ownAfters A x))) (os := fun _ => []) (dp := false) S.cx (specQueuedBy_c S ages2 used2 alist2 n) .go rfl (fun ln hln x hx => ⟨rfl, ?_⟩)
  obtain ⟨⟨ages3, used3⟩, alist3⟩ := x
  (cbv; repeat (refine Later.mk ?_; cbv))
  have hn_ages3 := hln cInt64 ages3
  generalize ln (A.enc cInt64 ages3) = n_ages3 at hn_ages3 ⊢
  have hn_used3 := hln cBool used3
  generalize ln (A.enc cBool used3) = n_used3 at hn_used3 ⊢
  have hn_alist3 := hln cAfter alist3
  generalize ln (A.enc cAfter alist3) = n_alist3 at hn_alist3 ⊢
  repeat (refine Later.mk ?_; (cbv; repeat (refine Later.mk ?_; cbv)))
  have hQ : (⟨⟨ages3, used3⟩, alist3⟩ : Afters) = { (⟨⟨ages2, used2⟩, alist2⟩ : Afters) with list := alist2.map (queueIf n) } := by rw [show (⟨⟨ages3, used3⟩, alist3⟩ : Afters) = QueuedBy ⟨⟨ages2, used2⟩, alist2⟩ n from hx, QueuedBy, if_pos hao2]
  (try (refine Drawn.mk ⟨by kernel_rfl, fun _ => ?_⟩)); (repeat (refine Later.mk ?_; cbv))
  exact Done.isA (r := rWHB A) (x := (⟨now, progs, tree, events, ⟨told, work⟩, ⟨heap, list, next⟩, ⟨⟨ages3, used3⟩, alist3⟩, tasks, groups, sights, began, rang⟩, ⟨slot, age⟩, true)) (hDD _ (by unfold afterA; rw [if_pos (by dsimp only; rw [htb])]; dsimp only; rw [hR]; exact hQ.symm))

end Go.Proofs.YtihfpbhalnedcaaGreat.AM
