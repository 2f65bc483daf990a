/- Contracts: requests, their beginning and end. (printed by gw31.py) -/
import Derived.Test.YtihfpbhalnedcaaGreatW30
import Derived.Test.YtihfpbhalnedcaaGreatV0
set_option linter.unusedVariables false
set_option linter.unusedSimpArgs false
namespace Go.Proofs.YtihfpbhalnedcaaGreat.AM
open Go Go.Proofs

set_option maxRecDepth 100000
set_option maxHeartbeats 4000000

variable {P : Program} {A : Sy}

theorem ACall.ofW {T : Nat -> Option TI} (C : Cx P T A) {f : FuncId} {al dp : Bool} {avs bs : List AV} {objs : List Obj} {R : AV -> List (Option Obj) -> Prop} {lab : Nat} {st : St} {K : AV -> Dl -> Prop} (h : SoundM P f al bs objs R) (hg : Gives st al dp avs bs objs)
    (hk : ∀ (ln : List (List AV) -> Nat), (∀ {α : Type} (f : α -> List AV) (l : List α), ln (A.enc f l) = l.length) -> ∀ v os, R v os -> backChk st (rhoA avs bs) lab objs os v = true /\ K (adopt ln lab v) (backD dp ln st avs bs objs lab os v)) : ACall A false P f avs lab st K :=
  ACall.of h hg (hk A.len C.lenE)

theorem l14Either_c (S : Se P A) (nowo : Int) (progso : List (List Ins)) (treeo : List Node) (eventso : List Event) (toldo : List Bool) (worko : List Int) (heapo : List Twig) (listo : List Timer) (nexto : Int) (ageso : List Int) (usedo : List Bool) (alisto : List After) (taskso : List Task) (groupso : List Group) (sightso : List Sight) (begano rango : List Int) (now : Int) (progs : List (List Ins)) (tree : List Node) (events : List Event) (told : List Bool) (work : List Int) (heap : List Twig) (list : List Timer) (next : Int) (ages : List Int) (used : List Bool) (alist : List After) (tasks : List Task) (groups : List Group) (sights : List Sight) (began rang : List Int) (n_progs : Nat) (hn_progs : n_progs = progs.length) (n_tree : Nat) (hn_tree : n_tree = tree.length) (n_events : Nat) (hn_events : n_events = events.length) (n_told : Nat) (hn_told : n_told = told.length) (n_work : Nat) (hn_work : n_work = work.length) (n_heap : Nat) (hn_heap : n_heap = heap.length) (n_list : Nat) (hn_list : n_list = list.length) (n_ages : Nat) (hn_ages : n_ages = ages.length) (n_used : Nat) (hn_used : n_used = used.length) (n_alist : Nat) (hn_alist : n_alist = alist.length) (n_tasks : Nat) (hn_tasks : n_tasks = tasks.length) (n_groups : Nat) (hn_groups : n_groups = groups.length) (n_sights : Nat) (hn_sights : n_sights = sights.length) (n_began : Nat) (hn_began : n_began = began.length) (n_rang : Nat) (hn_rang : n_rang = rang.length) (hfew : (⟨nowo, progso, treeo, eventso, ⟨toldo, worko⟩, ⟨heapo, listo, nexto⟩, ⟨⟨ageso, usedo⟩, alisto⟩, taskso, groupso, sightso, begano, rango⟩ : World).few 1048576) : SoundM P 47 false [.agg (roWorld A ⟨nowo, progso, treeo, eventso, ⟨toldo, worko⟩, ⟨heapo, listo, nexto⟩, ⟨⟨ageso, usedo⟩, alisto⟩, taskso, groupso, sightso, begano, rango⟩), .agg [.int .i64 now, .ref false 1000 0 n_progs, .ref false 2000 0 n_tree, .ref false 3000 0 n_events, .ref false 4000 0 n_told, .ref false 5000 0 n_work, .ref false 6000 0 n_heap, .ref false 7000 0 n_list, .int .i64 next, .ref false 8000 0 n_ages, .ref false 9000 0 n_used, .ref false 10000 0 n_alist, .ref false 11000 0 n_tasks, .ref false 12000 0 n_groups, .ref false 13000 0 n_sights, .ref false 14000 0 n_began, .ref false 15000 0 n_rang]] [.arr 1 false (A.enc (ownProg A) progs), .arr 5 true (A.enc cNode tree), .arr 4 true (A.enc cEvent events), .arr 1 true (A.enc cBool told), .arr 1 true (A.enc cInt64 work), .arr 3 true (A.enc cTwig heap), .arr 5 true (A.enc cTimer list), .arr 1 true (A.enc cInt64 ages), .arr 1 true (A.enc cBool used), .arr 5 true (A.enc cAfter alist), .arr 9 true (A.enc cTask tasks), .arr 5 false (A.enc (ownGroup A) groups), .arr 4 true (A.enc cSight sights), .arr 1 true (A.enc cInt64 began), .arr 1 true (A.enc cInt64 rang)]
    (fun v os => v = rWB A (Either ⟨nowo, progso, treeo, eventso, ⟨toldo, worko⟩, ⟨heapo, listo, nexto⟩, ⟨⟨ageso, usedo⟩, alisto⟩, taskso, groupso, sightso, begano, rango⟩ ⟨now, progs, tree, events, ⟨told, work⟩, ⟨heap, list, next⟩, ⟨⟨ages, used⟩, alist⟩, tasks, groups, sights, began, rang⟩) /\ os = [none, none, none, none, none, none, none, none, none, none, none, none, none, none, none]) := by
  refine S.cx.byS [99999] (S.prog ▸ Tryz.func47) rfl rfl rfl rfl (fun ln hln hv ho => ?_)
  (cbv; repeat (refine Later.mk ?_; cbv))
  clear hv ho
  refine ACall.testD (dp := false) (specWorldOk_c S now progs tree events told work heap list next ages used alist tasks groups sights began rang) .go rfl (fun h => ?_) (fun h => ?_) <;> (cbv; repeat (refine Later.mk ?_; cbv))
  · rw [Either, if_pos h]
    exact Done.toA (rWB A (⟨now, progs, tree, events, ⟨told, work⟩, ⟨heap, list, next⟩, ⟨⟨ages, used⟩, alist⟩, tasks, groups, sights, began, rang⟩, true)) [none, none, none, none, none, none, none, none, none, none, none, none, none, none, none] ⟨rfl, rfl⟩
  · rw [Either, if_neg h]
    refine ACall.valN (r := (fun x : World => .agg (ownWorld A x))) (os := fun _ => []) (dp := false) S.cx (l13Copy_c S nowo progso treeo eventso toldo worko heapo listo nexto ageso usedo alisto taskso groupso sightso begano rango hfew) .go rfl (fun ln hln x hx => ⟨rfl, ?_⟩)
    obtain ⟨nowx, progsx, treex, eventsx, ⟨toldx, workx⟩, ⟨heapx, listx, nextx⟩, ⟨⟨agesx, usedx⟩, alistx⟩, tasksx, groupsx, sightsx, beganx, rangx⟩ := x
    cases hx
    (cbv; repeat (refine Later.mk ?_; cbv))
    have hN_progs := hln (ownProg A) progso
    generalize ln (A.enc (ownProg A) progso) = N_progs at hN_progs ⊢
    have hN_tree := hln cNode treeo
    generalize ln (A.enc cNode treeo) = N_tree at hN_tree ⊢
    have hN_events := hln cEvent eventso
    generalize ln (A.enc cEvent eventso) = N_events at hN_events ⊢
    have hN_told := hln cBool toldo
    generalize ln (A.enc cBool toldo) = N_told at hN_told ⊢
    have hN_work := hln cInt64 worko
    generalize ln (A.enc cInt64 worko) = N_work at hN_work ⊢
    have hN_heap := hln cTwig heapo
    generalize ln (A.enc cTwig heapo) = N_heap at hN_heap ⊢
    have hN_list := hln cTimer listo
    generalize ln (A.enc cTimer listo) = N_list at hN_list ⊢
    have hN_ages := hln cInt64 ageso
    generalize ln (A.enc cInt64 ageso) = N_ages at hN_ages ⊢
    have hN_used := hln cBool usedo
    generalize ln (A.enc cBool usedo) = N_used at hN_used ⊢
    have hN_alist := hln cAfter alisto
    generalize ln (A.enc cAfter alisto) = N_alist at hN_alist ⊢
    have hN_tasks := hln cTask taskso
    generalize ln (A.enc cTask taskso) = N_tasks at hN_tasks ⊢
    have hN_groups := hln (ownGroup A) groupso
    generalize ln (A.enc (ownGroup A) groupso) = N_groups at hN_groups ⊢
    have hN_sights := hln cSight sightso
    generalize ln (A.enc cSight sightso) = N_sights at hN_sights ⊢
    have hN_began := hln cInt64 begano
    generalize ln (A.enc cInt64 begano) = N_began at hN_began ⊢
    have hN_rang := hln cInt64 rango
    generalize ln (A.enc cInt64 rango) = N_rang at hN_rang ⊢
    exact Done.toA (rWB A (⟨nowo, progso, treeo, eventso, ⟨toldo, worko⟩, ⟨heapo, listo, nexto⟩, ⟨⟨ageso, usedo⟩, alisto⟩, taskso, groupso, sightso, begano, rango⟩, false)) [none, none, none, none, none, none, none, none, none, none, none, none, none, none, none] ⟨rfl, rfl⟩

end Go.Proofs.YtihfpbhalnedcaaGreat.AM
