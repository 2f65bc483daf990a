/- Contracts: AskIn. (printed by gw41.py) -/
import Derived.Test.YtihfpbhalnedcaaGreatW45
import Derived.Test.YtihfpbhalnedcaaGreatVAsk
set_option linter.unusedVariables false
set_option linter.unusedSimpArgs false
namespace Go.Proofs.YtihfpbhalnedcaaGreat.AM
open Go Go.Proofs

set_option maxRecDepth 100000
set_option maxHeartbeats 4000000

variable {P : Program} {A : Sy}

def rE2 (x : Event × Bool) : AV := .tup [.int .i64 x.1.err, .int .i64 x.1.cause]
theorem firstE_idx {t : List Node} {l : List Event} {n : Int} {x : Event} (h0 : 0 <= firstIdx t l n) (hx : l[(firstIdx t l n).toNat]? = some x) : FirstE t l n = (x, true) := by
  unfold firstIdx at h0 hx
  cases hf : l.findIdx? (fun e => decide (e.node ∈ chainL t n)) with
  | none => rw [hf] at h0; dsimp only at h0; omega
  | some i =>
    rw [hf] at hx
    dsimp only at hx
    obtain ⟨hi, h1, h2⟩ := List.findIdx?_eq_some_iff_getElem.1 hf
    refine firstE_some (i := (i : Int)) (by omega) hx ?_ (fun j y hj hy => ?_)
    · have e : l[i] = x := by
        have := hx
        rw [Int.toNat_natCast, List.getElem?_eq_getElem hi] at this
        exact Option.some.inj this
      rw [<- e]; simpa using h1
    · have hjl := lt_of_get hy
      have := h2 j (by omega)
      rw [(List.getElem?_eq_some_iff.1 hy).2] at this
      simpa using this
theorem seenW_lt {w : World} {n : Int} {l : List Sight} (h : w.sights.length < 2000) (hl : l = w.sights ++ [sightOf w n]) : seenW w n = { w with sights := l } := by rw [seenW, if_pos h, hl]
theorem seenW_ge {w : World} {n : Int} (h : ¬ w.sights.length < 2000) : seenW w n = w := by rw [seenW, if_neg h]

theorem specFirstOf_c (S : Se P A) (t : List Node) (l : List Event) (n : Int) (hok : EventsOk t l) (hn : 0 <= n /\ n.toNat < t.length) : Is1 P 192 [.ro (A.enc cNode t), .ro (A.enc cEvent l), .int .i64 n] (rEB (FirstE t l n)) := by
  refine S.cx.by (S.prog ▸ Tryz.func192) rfl rfl rfl rfl (fun hv ho => ?_)
  cbv
  refine ACall.testD (dp := false) (specEventsOk_c S t l) .go rfl (fun h1 => ?_) (fun h1 => ?_) <;> cbv
  rotate_left
  · exact absurd hok h1
  refine ACall.testD (dp := false) (l5Has_c S t n) .go rfl (fun h2 => ?_) (fun h2 => ?_) <;> cbv
  rotate_left
  · exact absurd ⟨hok.1, hn⟩ h2
  refine ACall.int (dp := false) (l6First_c S t l n hok.1 hn) .go rfl (fun i hi => ?_); cbv
  refine Test.lss (fun h3 => ?_) (fun h3 => ?_) <;> cbv
  · exact Done.isA (r := rEB) (x := (event0, false)) (firstE_none (firstIdx_neg.1 (by rw [<- hi]; exact h3)))
  obtain ⟨⟨en, ee, ec, et⟩, hx, hc⟩ := firstIdx_some (t := t) (l := l) (n := n) (by omega)
  refine ElemRo.at S.cx (x := (⟨en, ee, ec, et⟩ : Event)) rfl (by omega) (by rw [hi]; exact hx) ?_; cbv
  exact Done.isA (r := rEB) (x := (⟨en, ee, ec, et⟩, true)) (firstE_idx (by omega) hx)

theorem specErrOf_c (S : Se P A) (t : List Node) (l : List Event) (n : Int) (hok : EventsOk t l) (hn : 0 <= n /\ n.toNat < t.length) : Is1 P 100 [.ro (A.enc cNode t), .ro (A.enc cEvent l), .int .i64 n] (.int .i64 (FirstE t l n).1.err) := by
  refine S.cx.by (S.prog ▸ Tryz.func100) rfl rfl rfl rfl (fun hv ho => ?_)
  cbv
  refine ACall.valN (r := rEB) (os := fun _ => []) (dp := false) S.cx (specFirstOf_c S t l n hok hn) .go rfl (fun ln hln x hx => ⟨rfl, ?_⟩)
  obtain ⟨⟨en, ee, ec, et⟩, b⟩ := x
  cbv
  exact Done.isA (r := fun x : Int => .int .i64 x) (x := ee) (by rw [<- hx])

theorem specCauseOf_c (S : Se P A) (t : List Node) (l : List Event) (n : Int) (hok : EventsOk t l) (hn : 0 <= n /\ n.toNat < t.length) : Is1 P 101 [.ro (A.enc cNode t), .ro (A.enc cEvent l), .int .i64 n] (.int .i64 (FirstE t l n).1.cause) := by
  refine S.cx.by (S.prog ▸ Tryz.func101) rfl rfl rfl rfl (fun hv ho => ?_)
  cbv
  refine ACall.valN (r := rEB) (os := fun _ => []) (dp := false) S.cx (specFirstOf_c S t l n hok hn) .go rfl (fun ln hln x hx => ⟨rfl, ?_⟩)
  obtain ⟨⟨en, ee, ec, et⟩, b⟩ := x
  cbv
  exact Done.isA (r := fun x : Int => .int .i64 x) (x := ec) (by rw [<- hx])

theorem errOf_c (S : Se P A) (now : Int) (progs : List (List Ins)) (tree : List Node) (events : List Event) (told : List Bool) (work : List Int) (heap : List Twig) (list : List Timer) (next : Int) (ages : List Int) (used : List Bool) (alist : List After) (tasks : List Task) (groups : List Group) (sights : List Sight) (began rang : List Int) (n : Int) (ht : TreeOk tree) (hn : 0 <= n /\ n.toNat < tree.length) : Is1 P 194 [.agg (roWorld A ⟨now, progs, tree, events, ⟨told, work⟩, ⟨heap, list, next⟩, ⟨⟨ages, used⟩, alist⟩, tasks, groups, sights, began, rang⟩), .int .i64 n] (rE2 (FirstE tree events n)) := by
  refine S.cx.byS [99999] (S.prog ▸ Tryz.func194) rfl rfl rfl rfl (fun ln hln hv ho => ?_)
  (cbv; repeat (refine Later.mk ?_; cbv))
  clear hv ho
  refine ACall.valN (r := rEB) (os := fun _ => []) (dp := false) S.cx (firstOf_c S tree events n ht hn) .go rfl (fun ln hln x hx => ⟨rfl, ?_⟩)
  obtain ⟨⟨en, ee, ec, et⟩, b⟩ := x
  (cbv; repeat (refine Later.mk ?_; cbv))
  (try (refine Drawn.mk ⟨by kernel_rfl, fun _ => ?_⟩)); (repeat (refine Later.mk ?_; cbv))
  exact Done.isA (r := rE2) (x := (⟨en, ee, ec, et⟩, b)) (hx.symm)

theorem see_c (S : Se P A) (now : Int) (progs : List (List Ins)) (tree : List Node) (events : List Event) (told : List Bool) (work : List Int) (heap : List Twig) (list : List Timer) (next : Int) (ages : List Int) (used : List Bool) (alist : List After) (tasks : List Task) (groups : List Group) (sights : List Sight) (began rang : List Int) (n : Int) (ht : TreeOk tree) (hn : 0 <= n /\ n.toNat < tree.length) (hb : events.length <= 1048576) : SoundM P 104 false [.ptr 1000 0 0, .int .i64 n] [.box (ownWorld A ⟨now, progs, tree, events, ⟨told, work⟩, ⟨heap, list, next⟩, ⟨⟨ages, used⟩, alist⟩, tasks, groups, sights, began, rang⟩)]
    (fun v os => v = rE2 (FirstE tree events n) /\ os = [some (.box (ownWorld A (seenW ⟨now, progs, tree, events, ⟨told, work⟩, ⟨heap, list, next⟩, ⟨⟨ages, used⟩, alist⟩, tasks, groups, sights, began, rang⟩ n)))]) := by
  refine S.cx.byS [99999] (S.prog ▸ Tryz.func104) rfl rfl rfl rfl (fun ln hln hv ho => ?_)
  (cbv; repeat (refine Later.mk ?_; cbv))
  have hn_progs := hln (ownProg A) progs
  generalize ln (A.enc (ownProg A) progs) = n_progs at hn_progs ⊢
  have hn_tree := hln cNode tree
  generalize ln (A.enc cNode tree) = n_tree at hn_tree ⊢
  have hn_events := hln cEvent events
  generalize ln (A.enc cEvent events) = n_events at hn_events ⊢
  have hn_told := hln cBool told
  generalize ln (A.enc cBool told) = n_told at hn_told ⊢
  have hn_work := hln cInt64 work
  generalize ln (A.enc cInt64 work) = n_work at hn_work ⊢
  have hn_heap := hln cTwig heap
  generalize ln (A.enc cTwig heap) = n_heap at hn_heap ⊢
  have hn_list := hln cTimer list
  generalize ln (A.enc cTimer list) = n_list at hn_list ⊢
  have hn_ages := hln cInt64 ages
  generalize ln (A.enc cInt64 ages) = n_ages at hn_ages ⊢
  have hn_used := hln cBool used
  generalize ln (A.enc cBool used) = n_used at hn_used ⊢
  have hn_alist := hln cAfter alist
  generalize ln (A.enc cAfter alist) = n_alist at hn_alist ⊢
  have hn_tasks := hln cTask tasks
  generalize ln (A.enc cTask tasks) = n_tasks at hn_tasks ⊢
  have hn_groups := hln (ownGroup A) groups
  generalize ln (A.enc (ownGroup A) groups) = n_groups at hn_groups ⊢
  have hn_sights := hln cSight sights
  generalize ln (A.enc cSight sights) = n_sights at hn_sights ⊢
  have hn_began := hln cInt64 began
  generalize ln (A.enc cInt64 began) = n_began at hn_began ⊢
  have hn_rang := hln cInt64 rang
  generalize ln (A.enc cInt64 rang) = n_rang at hn_rang ⊢
  clear hv ho
  (try (refine Drawn.mk ⟨by kernel_rfl, fun _ => ?_⟩)); (repeat (refine Later.mk ?_; cbv))
  refine ACall.valN (r := rE2) (os := fun _ => []) (dp := false) S.cx (errOf_c S now progs tree events told work heap list next ages used alist tasks groups sights began rang n ht hn) .go rfl (fun ln hln x hx => ⟨rfl, ?_⟩)
  obtain ⟨⟨en, ee, ec, et⟩, b⟩ := x
  (cbv; repeat (refine Later.mk ?_; cbv))
  have hE : FirstE tree events n = (⟨en, ee, ec, et⟩, b) := hx.symm
  clear hx
  rw [hE]
  (try (refine Drawn.mk ⟨by kernel_rfl, fun _ => ?_⟩)); (repeat (refine Later.mk ?_; cbv))
  refine Len.nat (fun K hK hK2 => ?_); (cbv; repeat (refine Later.mk ?_; cbv))
  refine Test.lss (fun h => ?_) (fun h => ?_) <;> (cbv; repeat (refine Later.mk ?_; cbv))
  rotate_left
  · rw [seenW_ge (w := ⟨now, progs, tree, events, ⟨told, work⟩, ⟨heap, list, next⟩, ⟨⟨ages, used⟩, alist⟩, tasks, groups, sights, began, rang⟩) (fun e => by dsimp only at e; omega)]
    exact Done.toA (rE2 (⟨en, ee, ec, et⟩, b)) [some (.box (ownWorld A ⟨now, progs, tree, events, ⟨told, work⟩, ⟨heap, list, next⟩, ⟨⟨ages, used⟩, alist⟩, tasks, groups, sights, began, rang⟩))] ⟨rfl, rfl⟩
  (try (refine Drawn.mk ⟨by kernel_rfl, fun _ => ?_⟩)); (repeat (refine Later.mk ?_; cbv))
  refine ACall.int (dp := false) (SoundM.knownW (e := (Int.ofNat events.length)) (sizeEventW_c S events) (fun n h => by have := h; simp only [Int.ofNat_eq_natCast]; omega)) .go rfl (fun k hk => ?_); (cbv; repeat (refine Later.mk ?_; cbv))
  replace hk : 0 <= k /\ k.toNat = events.length := by rw [hk]; exact ⟨Int.natCast_nonneg _, rfl⟩
  (try (refine Drawn.mk ⟨by kernel_rfl, fun _ => ?_⟩)); (repeat (refine Later.mk ?_; cbv))
  refine Part.one ?_; (cbv; repeat (refine Later.mk ?_; cbv))
  refine AppRef.push S.cx (⟨n, ee, ec, k⟩ : Sight) (by assumption) rfl rfl plainSight (fun _ => rfl) (by simp only [maxBytes]; omega) (fun m sights2 hw hml => ?_); (cbv; repeat (refine Later.mk ?_; cbv))
  rw [seenW_lt (w := ⟨now, progs, tree, events, ⟨told, work⟩, ⟨heap, list, next⟩, ⟨⟨ages, used⟩, alist⟩, tasks, groups, sights, began, rang⟩) (n := n) (l := sights2) (by dsimp only; omega) (by rw [hw]; unfold sightOf; dsimp only; rw [hE, show k = (events.length : Int) by omega])]
  (try (refine Drawn.mk ⟨by kernel_rfl, fun _ => ?_⟩)); (repeat (refine Later.mk ?_; cbv))
  exact Done.toA (rE2 (⟨en, ee, ec, et⟩, b)) [some (.box (ownWorld A ⟨now, progs, tree, events, ⟨told, work⟩, ⟨heap, list, next⟩, ⟨⟨ages, used⟩, alist⟩, tasks, groups, sights2, began, rang⟩))] ⟨rfl, rfl⟩

theorem askIn1_c (S : Se P A) (now : Int) (progs : List (List Ins)) (tree : List Node) (events : List Event) (told : List Bool) (work : List Int) (heap : List Twig) (list : List Timer) (next : Int) (ages : List Int) (used : List Bool) (alist : List After) (tasks : List Task) (groups : List Group) (sights : List Sight) (began rang : List Int) (n z0 z1 : Int) (ht : TreeOk tree) (hb : events.length <= 1048576) : SoundM P 102 false [.ptr 1000 0 0, .rptr [.int .i64 n], .ptr 2000 0 0, .ptr 3000 0 0] [.box (ownWorld A ⟨now, progs, tree, events, ⟨told, work⟩, ⟨heap, list, next⟩, ⟨⟨ages, used⟩, alist⟩, tasks, groups, sights, began, rang⟩), .box [.int .i64 z0], .box [.int .i64 z1]]
    (fun v os => v = .bool (AskD n ⟨now, progs, tree, events, ⟨told, work⟩, ⟨heap, list, next⟩, ⟨⟨ages, used⟩, alist⟩, tasks, groups, sights, began, rang⟩).2 /\ os = [some (.box (ownWorld A (AskD n ⟨now, progs, tree, events, ⟨told, work⟩, ⟨heap, list, next⟩, ⟨⟨ages, used⟩, alist⟩, tasks, groups, sights, began, rang⟩).1)), some (.box [.int .i64 (if 0 <= n /\ n.toNat < tree.length then (FirstE tree events n).1.err else z0)]), some (.box [.int .i64 (if 0 <= n /\ n.toNat < tree.length then (FirstE tree events n).1.cause else z1)])]) := by
  refine S.cx.byS [99999] (S.prog ▸ Tryz.func102) rfl rfl rfl rfl (fun ln hln hv ho => ?_)
  (cbv; repeat (refine Later.mk ?_; cbv))
  have hn_progs := hln (ownProg A) progs
  generalize ln (A.enc (ownProg A) progs) = n_progs at hn_progs ⊢
  have hn_tree := hln cNode tree
  generalize ln (A.enc cNode tree) = n_tree at hn_tree ⊢
  have hn_events := hln cEvent events
  generalize ln (A.enc cEvent events) = n_events at hn_events ⊢
  have hn_told := hln cBool told
  generalize ln (A.enc cBool told) = n_told at hn_told ⊢
  have hn_work := hln cInt64 work
  generalize ln (A.enc cInt64 work) = n_work at hn_work ⊢
  have hn_heap := hln cTwig heap
  generalize ln (A.enc cTwig heap) = n_heap at hn_heap ⊢
  have hn_list := hln cTimer list
  generalize ln (A.enc cTimer list) = n_list at hn_list ⊢
  have hn_ages := hln cInt64 ages
  generalize ln (A.enc cInt64 ages) = n_ages at hn_ages ⊢
  have hn_used := hln cBool used
  generalize ln (A.enc cBool used) = n_used at hn_used ⊢
  have hn_alist := hln cAfter alist
  generalize ln (A.enc cAfter alist) = n_alist at hn_alist ⊢
  have hn_tasks := hln cTask tasks
  generalize ln (A.enc cTask tasks) = n_tasks at hn_tasks ⊢
  have hn_groups := hln (ownGroup A) groups
  generalize ln (A.enc (ownGroup A) groups) = n_groups at hn_groups ⊢
  have hn_sights := hln cSight sights
  generalize ln (A.enc cSight sights) = n_sights at hn_sights ⊢
  have hn_began := hln cInt64 began
  generalize ln (A.enc cInt64 began) = n_began at hn_began ⊢
  have hn_rang := hln cInt64 rang
  generalize ln (A.enc cInt64 rang) = n_rang at hn_rang ⊢
  clear hv ho
  (try (refine Drawn.mk ⟨by kernel_rfl, fun _ => ?_⟩)); (repeat (refine Later.mk ?_; cbv))
  refine ACall.testD (dp := false) (isInNode_c S n tree) .go rfl (fun h => ?_) (fun h => ?_) <;> (cbv; repeat (refine Later.mk ?_; cbv))
  rotate_left
  · have hD : AskD n ⟨now, progs, tree, events, ⟨told, work⟩, ⟨heap, list, next⟩, ⟨⟨ages, used⟩, alist⟩, tasks, groups, sights, began, rang⟩ = (⟨now, progs, tree, events, ⟨told, work⟩, ⟨heap, list, next⟩, ⟨⟨ages, used⟩, alist⟩, tasks, groups, sights, began, rang⟩, false) := if_neg h
    rw [hD, if_neg h, if_neg h]
    exact Done.toA (.bool false) [some (.box (ownWorld A ⟨now, progs, tree, events, ⟨told, work⟩, ⟨heap, list, next⟩, ⟨⟨ages, used⟩, alist⟩, tasks, groups, sights, began, rang⟩)), some (.box [.int .i64 z0]), some (.box [.int .i64 z1])] ⟨rfl, rfl⟩
  have hD : AskD n ⟨now, progs, tree, events, ⟨told, work⟩, ⟨heap, list, next⟩, ⟨⟨ages, used⟩, alist⟩, tasks, groups, sights, began, rang⟩ = (seenW ⟨now, progs, tree, events, ⟨told, work⟩, ⟨heap, list, next⟩, ⟨⟨ages, used⟩, alist⟩, tasks, groups, sights, began, rang⟩ n, true) := if_pos h
  rw [hD, if_pos h, if_pos h]
  (try (refine Drawn.mk ⟨by kernel_rfl, fun _ => ?_⟩)); (repeat (refine Later.mk ?_; cbv))
  refine ACall.valN (r := fun x : (Event × Bool) × World => rE2 x.1) (os := fun x => [some (.box (ownWorld A x.2))]) (dp := false) S.cx (show SoundM P _ false _ _ (fun v os => v = rE2 ((FirstE tree events n), seenW ⟨now, progs, tree, events, ⟨told, work⟩, ⟨heap, list, next⟩, ⟨⟨ages, used⟩, alist⟩, tasks, groups, sights, began, rang⟩ n).1 /\ os = [some (.box (ownWorld A ((FirstE tree events n), seenW ⟨now, progs, tree, events, ⟨told, work⟩, ⟨heap, list, next⟩, ⟨⟨ages, used⟩, alist⟩, tasks, groups, sights, began, rang⟩ n).2))]) from see_c S now progs tree events told work heap list next ages used alist tasks groups sights began rang n ht h hb) .go rfl (fun ln hln x hx => ⟨rfl, ?_⟩)
  obtain ⟨⟨⟨en, ee, ec, et⟩, b⟩, ⟨nowx, progsx, treex, eventsx, ⟨toldx, workx⟩, ⟨heapx, listx, nextx⟩, ⟨⟨agesx, usedx⟩, alistx⟩, tasksx, groupsx, sightsx, beganx, rangx⟩⟩ := x
  (cbv; repeat (refine Later.mk ?_; cbv))
  have hN_progs := hln (ownProg A) progsx
  generalize ln (A.enc (ownProg A) progsx) = N_progs at hN_progs ⊢
  have hN_tree := hln cNode treex
  generalize ln (A.enc cNode treex) = N_tree at hN_tree ⊢
  have hN_events := hln cEvent eventsx
  generalize ln (A.enc cEvent eventsx) = N_events at hN_events ⊢
  have hN_told := hln cBool toldx
  generalize ln (A.enc cBool toldx) = N_told at hN_told ⊢
  have hN_work := hln cInt64 workx
  generalize ln (A.enc cInt64 workx) = N_work at hN_work ⊢
  have hN_heap := hln cTwig heapx
  generalize ln (A.enc cTwig heapx) = N_heap at hN_heap ⊢
  have hN_list := hln cTimer listx
  generalize ln (A.enc cTimer listx) = N_list at hN_list ⊢
  have hN_ages := hln cInt64 agesx
  generalize ln (A.enc cInt64 agesx) = N_ages at hN_ages ⊢
  have hN_used := hln cBool usedx
  generalize ln (A.enc cBool usedx) = N_used at hN_used ⊢
  have hN_alist := hln cAfter alistx
  generalize ln (A.enc cAfter alistx) = N_alist at hN_alist ⊢
  have hN_tasks := hln cTask tasksx
  generalize ln (A.enc cTask tasksx) = N_tasks at hN_tasks ⊢
  have hN_groups := hln (ownGroup A) groupsx
  generalize ln (A.enc (ownGroup A) groupsx) = N_groups at hN_groups ⊢
  have hN_sights := hln cSight sightsx
  generalize ln (A.enc cSight sightsx) = N_sights at hN_sights ⊢
  have hN_began := hln cInt64 beganx
  generalize ln (A.enc cInt64 beganx) = N_began at hN_began ⊢
  have hN_rang := hln cInt64 rangx
  generalize ln (A.enc cInt64 rangx) = N_rang at hN_rang ⊢
  have hE : FirstE tree events n = (⟨en, ee, ec, et⟩, b) := (congrArg Prod.fst hx).symm
  have hS : seenW ⟨now, progs, tree, events, ⟨told, work⟩, ⟨heap, list, next⟩, ⟨⟨ages, used⟩, alist⟩, tasks, groups, sights, began, rang⟩ n = ⟨nowx, progsx, treex, eventsx, ⟨toldx, workx⟩, ⟨heapx, listx, nextx⟩, ⟨⟨agesx, usedx⟩, alistx⟩, tasksx, groupsx, sightsx, beganx, rangx⟩ := (congrArg Prod.snd hx).symm
  clear hx
  rw [hE, hS]
  (try (refine Drawn.mk ⟨by kernel_rfl, fun _ => ?_⟩)); (repeat (refine Later.mk ?_; cbv))
  exact Done.toA (.bool true) [some (.box (ownWorld A ⟨nowx, progsx, treex, eventsx, ⟨toldx, workx⟩, ⟨heapx, listx, nextx⟩, ⟨⟨agesx, usedx⟩, alistx⟩, tasksx, groupsx, sightsx, beganx, rangx⟩)), some (.box [.int .i64 ee]), some (.box [.int .i64 ec])] ⟨rfl, rfl⟩

theorem implAskIn_c (S : Se P A) (now : Int) (progs : List (List Ins)) (tree : List Node) (events : List Event) (told : List Bool) (work : List Int) (heap : List Twig) (list : List Timer) (next : Int) (ages : List Int) (used : List Bool) (alist : List After) (tasks : List Task) (groups : List Group) (sights : List Sight) (began rang : List Int) (n : Int) (hfew : (⟨now, progs, tree, events, ⟨told, work⟩, ⟨heap, list, next⟩, ⟨⟨ages, used⟩, alist⟩, tasks, groups, sights, began, rang⟩ : World).few 1048576) : Is1 P 23 [.agg (roWorld A ⟨now, progs, tree, events, ⟨told, work⟩, ⟨heap, list, next⟩, ⟨⟨ages, used⟩, alist⟩, tasks, groups, sights, began, rang⟩), .int .i64 n] (rWII A (AskIn ⟨now, progs, tree, events, ⟨told, work⟩, ⟨heap, list, next⟩, ⟨⟨ages, used⟩, alist⟩, tasks, groups, sights, began, rang⟩ n)) := by
  refine S.cx.byS [99999] (S.prog ▸ Tryz.func23) rfl rfl rfl rfl (fun ln hln hv ho => ?_)
  (cbv; repeat (refine Later.mk ?_; cbv))
  clear hv ho
  rw [askIn_asked]
  refine ACall.ofW (dp := false) S.cx (asked12_c S now progs tree events told work heap list next ages used alist tasks groups sights began rang hfew _ [.int .i64 n] 0 0 (AskD n) (fun w => if 0 <= n /\ n.toNat < w.tree.length then (FirstE w.tree w.events n).1.err else 0) (fun w => if 0 <= n /\ n.toNat < w.tree.length then (FirstE w.tree w.events n).1.cause else 0) (fun h => askIn1_c S now progs tree events told work heap list next ages used alist tasks groups sights began rang n 0 0 h.2.2.1.1 hfew.events)) .go (fun ln hln v os hv => ?_)
  obtain ⟨q0, q1, ⟨rfl, rfl⟩, hy⟩ := hv
  obtain ⟨⟨⟨nowx, progsx, treex, eventsx, ⟨toldx, workx⟩, ⟨heapx, listx, nextx⟩, ⟨⟨agesx, usedx⟩, alistx⟩, tasksx, groupsx, sightsx, beganx, rangx⟩, b⟩, hz⟩ : ∃ x, x = Asked ⟨now, progs, tree, events, ⟨told, work⟩, ⟨heap, list, next⟩, ⟨⟨ages, used⟩, alist⟩, tasks, groups, sights, began, rang⟩ (AskD n) := ⟨_, rfl⟩
  rw [<- hz] at hy ⊢
  refine ⟨rfl, ?_⟩; (cbv; repeat (refine Later.mk ?_; cbv))
  have hN_progs := hln (ownProg A) progsx
  generalize ln (A.enc (ownProg A) progsx) = N_progs at hN_progs ⊢
  have hN_tree := hln cNode treex
  generalize ln (A.enc cNode treex) = N_tree at hN_tree ⊢
  have hN_events := hln cEvent eventsx
  generalize ln (A.enc cEvent eventsx) = N_events at hN_events ⊢
  have hN_told := hln cBool toldx
  generalize ln (A.enc cBool toldx) = N_told at hN_told ⊢
  have hN_work := hln cInt64 workx
  generalize ln (A.enc cInt64 workx) = N_work at hN_work ⊢
  have hN_heap := hln cTwig heapx
  generalize ln (A.enc cTwig heapx) = N_heap at hN_heap ⊢
  have hN_list := hln cTimer listx
  generalize ln (A.enc cTimer listx) = N_list at hN_list ⊢
  have hN_ages := hln cInt64 agesx
  generalize ln (A.enc cInt64 agesx) = N_ages at hN_ages ⊢
  have hN_used := hln cBool usedx
  generalize ln (A.enc cBool usedx) = N_used at hN_used ⊢
  have hN_alist := hln cAfter alistx
  generalize ln (A.enc cAfter alistx) = N_alist at hN_alist ⊢
  have hN_tasks := hln cTask tasksx
  generalize ln (A.enc cTask tasksx) = N_tasks at hN_tasks ⊢
  have hN_groups := hln (ownGroup A) groupsx
  generalize ln (A.enc (ownGroup A) groupsx) = N_groups at hN_groups ⊢
  have hN_sights := hln cSight sightsx
  generalize ln (A.enc cSight sightsx) = N_sights at hN_sights ⊢
  have hN_began := hln cInt64 beganx
  generalize ln (A.enc cInt64 beganx) = N_began at hN_began ⊢
  have hN_rang := hln cInt64 rangx
  generalize ln (A.enc cInt64 rangx) = N_rang at hN_rang ⊢
  repeat (refine Later.mk ?_; (cbv; repeat (refine Later.mk ?_; cbv)))
  cases b <;> ((cbv; repeat (refine Later.mk ?_; cbv)); repeat (refine Later.mk ?_; (cbv; repeat (refine Later.mk ?_; cbv))))
  · exact Done.toA (rWII A (⟨nowx, progsx, treex, eventsx, ⟨toldx, workx⟩, ⟨heapx, listx, nextx⟩, ⟨⟨agesx, usedx⟩, alistx⟩, tasksx, groupsx, sightsx, beganx, rangx⟩, 0, 0)) [] ⟨rfl, rfl⟩
  have hy2 := hy rfl
  have htree : 0 <= n /\ n.toNat < tree.length := by
    have := hz.symm
    unfold Asked at this
    split at this
    · split at this
      · rename_i e
        have := e.1
        unfold AskD at this
        split at this
        · rename_i e2; exact e2
        · cases this
      · cases this
    · cases this
  dsimp only at hy2
  rw [if_pos htree, if_pos htree] at hy2
  (try (refine Drawn.mk ⟨by kernel_rfl, fun _ => ?_⟩)); (repeat (refine Later.mk ?_; cbv))
  exact Done.toA (rWII A (⟨nowx, progsx, treex, eventsx, ⟨toldx, workx⟩, ⟨heapx, listx, nextx⟩, ⟨⟨agesx, usedx⟩, alistx⟩, tasksx, groupsx, sightsx, beganx, rangx⟩, q0, q1)) [] ⟨by rw [hy2.1, hy2.2]; rfl, rfl⟩

theorem l14Sight_c (S : Se P A) (now : Int) (progs : List (List Ins)) (tree : List Node) (events : List Event) (told : List Bool) (work : List Int) (heap : List Twig) (list : List Timer) (next : Int) (ages : List Int) (used : List Bool) (alist : List After) (tasks : List Task) (groups : List Group) (sights : List Sight) (began rang : List Int) (n_progs : Nat) (hn_progs : n_progs = progs.length) (n_tree : Nat) (hn_tree : n_tree = tree.length) (n_events : Nat) (hn_events : n_events = events.length) (n_told : Nat) (hn_told : n_told = told.length) (n_work : Nat) (hn_work : n_work = work.length) (n_heap : Nat) (hn_heap : n_heap = heap.length) (n_list : Nat) (hn_list : n_list = list.length) (n_ages : Nat) (hn_ages : n_ages = ages.length) (n_used : Nat) (hn_used : n_used = used.length) (n_alist : Nat) (hn_alist : n_alist = alist.length) (n_tasks : Nat) (hn_tasks : n_tasks = tasks.length) (n_groups : Nat) (hn_groups : n_groups = groups.length) (n_sights : Nat) (hn_sights : n_sights = sights.length) (n_began : Nat) (hn_began : n_began = began.length) (n_rang : Nat) (hn_rang : n_rang = rang.length) (n : Int) (hok : EventsOk tree events) (hn : 0 <= n /\ n.toNat < tree.length) (hb : events.length <= 1048576) (hb2 : sights.length <= 1048576) : SoundM P 99 false [.agg [.int .i64 now, .ref false 1000 0 n_progs, .ref false 2000 0 n_tree, .ref false 3000 0 n_events, .ref false 4000 0 n_told, .ref false 5000 0 n_work, .ref false 6000 0 n_heap, .ref false 7000 0 n_list, .int .i64 next, .ref false 8000 0 n_ages, .ref false 9000 0 n_used, .ref false 10000 0 n_alist, .ref false 11000 0 n_tasks, .ref false 12000 0 n_groups, .ref false 13000 0 n_sights, .ref false 14000 0 n_began, .ref false 15000 0 n_rang], .int .i64 n] [.arr 1 false (A.enc (ownProg A) progs), .arr 5 true (A.enc cNode tree), .arr 4 true (A.enc cEvent events), .arr 1 true (A.enc cBool told), .arr 1 true (A.enc cInt64 work), .arr 3 true (A.enc cTwig heap), .arr 5 true (A.enc cTimer list), .arr 1 true (A.enc cInt64 ages), .arr 1 true (A.enc cBool used), .arr 5 true (A.enc cAfter alist), .arr 9 true (A.enc cTask tasks), .arr 5 false (A.enc (ownGroup A) groups), .arr 4 true (A.enc cSight sights), .arr 1 true (A.enc cInt64 began), .arr 1 true (A.enc cInt64 rang)]
    (fun v os => v = (fun x : World => .agg (ownWorld A x)) (seenW ⟨now, progs, tree, events, ⟨told, work⟩, ⟨heap, list, next⟩, ⟨⟨ages, used⟩, alist⟩, tasks, groups, sights, began, rang⟩ n) /\ os = [none, none, none, none, none, none, none, none, none, none, none, none, none, none, none]) := by
  refine S.cx.byS [99999] (S.prog ▸ Tryz.func99) rfl rfl rfl rfl (fun ln hln hv ho => ?_)
  (cbv; repeat (refine Later.mk ?_; cbv))
  clear hv ho
  (try (refine Drawn.mk ⟨by kernel_rfl, fun _ => ?_⟩)); (repeat (refine Later.mk ?_; cbv))
  refine Len.nat (fun K hK hK2 => ?_); (cbv; repeat (refine Later.mk ?_; cbv))
  refine Test.lss (fun h => ?_) (fun h => ?_) <;> (cbv; repeat (refine Later.mk ?_; cbv))
  rotate_left
  · rw [seenW_ge (w := ⟨now, progs, tree, events, ⟨told, work⟩, ⟨heap, list, next⟩, ⟨⟨ages, used⟩, alist⟩, tasks, groups, sights, began, rang⟩) (fun e => by dsimp only at e; omega)]
    exact Done.toA (.agg (ownWorld A ⟨now, progs, tree, events, ⟨told, work⟩, ⟨heap, list, next⟩, ⟨⟨ages, used⟩, alist⟩, tasks, groups, sights, began, rang⟩)) [none, none, none, none, none, none, none, none, none, none, none, none, none, none, none] ⟨rfl, rfl⟩
  (try (refine Drawn.mk ⟨by kernel_rfl, fun _ => ?_⟩)); (repeat (refine Later.mk ?_; cbv))
  refine ACall.int (dp := false) (specErrOf_c S tree events n hok hn) .go rfl (fun ee hee => ?_); (cbv; repeat (refine Later.mk ?_; cbv))
  (try (refine Drawn.mk ⟨by kernel_rfl, fun _ => ?_⟩)); (repeat (refine Later.mk ?_; cbv))
  refine ACall.int (dp := false) (specCauseOf_c S tree events n hok hn) .go rfl (fun ec hec => ?_); (cbv; repeat (refine Later.mk ?_; cbv))
  (try (refine Drawn.mk ⟨by kernel_rfl, fun _ => ?_⟩)); (repeat (refine Later.mk ?_; cbv))
  refine Len.natD (by omega) (fun k hk => ?_); (cbv; repeat (refine Later.mk ?_; cbv))
  refine Part.one ?_; (cbv; repeat (refine Later.mk ?_; cbv))
  refine AppRef.push S.cx (⟨n, ee, ec, k⟩ : Sight) (by assumption) rfl rfl plainSight (fun _ => rfl) (by simp only [maxBytes]; omega) (fun m sights2 hw hml => ?_); (cbv; repeat (refine Later.mk ?_; cbv))
  rw [seenW_lt (w := ⟨now, progs, tree, events, ⟨told, work⟩, ⟨heap, list, next⟩, ⟨⟨ages, used⟩, alist⟩, tasks, groups, sights, began, rang⟩) (n := n) (l := sights2) (by dsimp only; omega) (by rw [hw]; unfold sightOf; dsimp only; rw [hee, hec, show k = (events.length : Int) by omega])]
  (try (refine Drawn.mk ⟨by kernel_rfl, fun _ => ?_⟩)); (repeat (refine Later.mk ?_; cbv))
  exact Done.toA (.agg (ownWorld A ⟨now, progs, tree, events, ⟨told, work⟩, ⟨heap, list, next⟩, ⟨⟨ages, used⟩, alist⟩, tasks, groups, sights2, began, rang⟩)) [none, none, none, none, none, none, none, none, none, none, none, none, none, none, none] ⟨rfl, rfl⟩

theorem specAskIn_c (S : Se P A) (now : Int) (progs : List (List Ins)) (tree : List Node) (events : List Event) (told : List Bool) (work : List Int) (heap : List Twig) (list : List Timer) (next : Int) (ages : List Int) (used : List Bool) (alist : List After) (tasks : List Task) (groups : List Group) (sights : List Sight) (began rang : List Int) (n : Int) (hfew : (⟨now, progs, tree, events, ⟨told, work⟩, ⟨heap, list, next⟩, ⟨⟨ages, used⟩, alist⟩, tasks, groups, sights, began, rang⟩ : World).few 1048576) : Is1 P 22 [.agg (roWorld A ⟨now, progs, tree, events, ⟨told, work⟩, ⟨heap, list, next⟩, ⟨⟨ages, used⟩, alist⟩, tasks, groups, sights, began, rang⟩), .int .i64 n] (rWII A (AskIn ⟨now, progs, tree, events, ⟨told, work⟩, ⟨heap, list, next⟩, ⟨⟨ages, used⟩, alist⟩, tasks, groups, sights, began, rang⟩ n)) := by
  refine S.cx.byS [99999] (S.prog ▸ Tryz.func22) rfl rfl rfl rfl (fun ln hln hv ho => ?_)
  (cbv; repeat (refine Later.mk ?_; cbv))
  clear hv ho
  refine ACall.testD (dp := false) (specWorldOk_c S now progs tree events told work heap list next ages used alist tasks groups sights began rang) .go rfl (fun h => ?_) (fun h => ?_) <;> (cbv; repeat (refine Later.mk ?_; cbv))
  rotate_left
  · exact Done.isA (r := rWII A) (x := (world0, 0, 0)) (by rw [AskIn, if_neg (fun e => h e.1), if_neg h])
  (try (refine Drawn.mk ⟨by kernel_rfl, fun _ => ?_⟩)); (repeat (refine Later.mk ?_; cbv))
  refine ACall.valN (r := (fun x : World => .agg (ownWorld A x))) (os := fun _ => []) (dp := false) S.cx (l13Copy_c S now progs tree events told work heap list next ages used alist tasks groups sights began rang hfew) .go rfl (fun ln hln x hx => ⟨rfl, ?_⟩)
  obtain ⟨nowc, progsc, treec, eventsc, ⟨toldc, workc⟩, ⟨heapc, listc, nextc⟩, ⟨⟨agesc, usedc⟩, alistc⟩, tasksc, groupsc, sightsc, beganc, rangc⟩ := x
  cases hx
  (cbv; repeat (refine Later.mk ?_; cbv))
  have hn_progs := hln (ownProg A) progs
  generalize ln (A.enc (ownProg A) progs) = n_progs at hn_progs ⊢
  have hn_tree := hln cNode tree
  generalize ln (A.enc cNode tree) = n_tree at hn_tree ⊢
  have hn_events := hln cEvent events
  generalize ln (A.enc cEvent events) = n_events at hn_events ⊢
  have hn_told := hln cBool told
  generalize ln (A.enc cBool told) = n_told at hn_told ⊢
  have hn_work := hln cInt64 work
  generalize ln (A.enc cInt64 work) = n_work at hn_work ⊢
  have hn_heap := hln cTwig heap
  generalize ln (A.enc cTwig heap) = n_heap at hn_heap ⊢
  have hn_list := hln cTimer list
  generalize ln (A.enc cTimer list) = n_list at hn_list ⊢
  have hn_ages := hln cInt64 ages
  generalize ln (A.enc cInt64 ages) = n_ages at hn_ages ⊢
  have hn_used := hln cBool used
  generalize ln (A.enc cBool used) = n_used at hn_used ⊢
  have hn_alist := hln cAfter alist
  generalize ln (A.enc cAfter alist) = n_alist at hn_alist ⊢
  have hn_tasks := hln cTask tasks
  generalize ln (A.enc cTask tasks) = n_tasks at hn_tasks ⊢
  have hn_groups := hln (ownGroup A) groups
  generalize ln (A.enc (ownGroup A) groups) = n_groups at hn_groups ⊢
  have hn_sights := hln cSight sights
  generalize ln (A.enc cSight sights) = n_sights at hn_sights ⊢
  have hn_began := hln cInt64 began
  generalize ln (A.enc cInt64 began) = n_began at hn_began ⊢
  have hn_rang := hln cInt64 rang
  generalize ln (A.enc cInt64 rang) = n_rang at hn_rang ⊢
  (try (refine Drawn.mk ⟨by kernel_rfl, fun _ => ?_⟩)); (repeat (refine Later.mk ?_; cbv))
  refine ACall.testD (dp := false) (l13Node_c S now progs tree events told work heap list next ages used alist tasks groups sights began rang n) .go rfl (fun hn => ?_) (fun hn => ?_) <;> (cbv; repeat (refine Later.mk ?_; cbv))
  rotate_left
  · (try (refine Drawn.mk ⟨by kernel_rfl, fun _ => ?_⟩)); (repeat (refine Later.mk ?_; cbv))
    exact Done.isA (r := rWII A) (x := (⟨now, progs, tree, events, ⟨told, work⟩, ⟨heap, list, next⟩, ⟨⟨ages, used⟩, alist⟩, tasks, groups, sights, began, rang⟩, 0, 0)) (by rw [AskIn, if_neg (fun e => hn e.2), if_pos h])
  (try (refine Drawn.mk ⟨by kernel_rfl, fun _ => ?_⟩)); (repeat (refine Later.mk ?_; cbv))
  refine ACall.valN (r := (fun x : World => .agg (ownWorld A x))) (os := fun _ => [none, none, none, none, none, none, none, none, none, none, none, none, none, none, none]) (dp := false) S.cx (l14Sight_c S now progs tree events told work heap list next ages used alist tasks groups sights began rang n_progs hn_progs n_tree hn_tree n_events hn_events n_told hn_told n_work hn_work n_heap hn_heap n_list hn_list n_ages hn_ages n_used hn_used n_alist hn_alist n_tasks hn_tasks n_groups hn_groups n_sights hn_sights n_began hn_began n_rang hn_rang n h.2.2.1 hn hfew.events hfew.sights) .go rfl (fun ln hln x hx => ⟨rfl, ?_⟩)
  obtain ⟨nowx, progsx, treex, eventsx, ⟨toldx, workx⟩, ⟨heapx, listx, nextx⟩, ⟨⟨agesx, usedx⟩, alistx⟩, tasksx, groupsx, sightsx, beganx, rangx⟩ := x
  (cbv; repeat (refine Later.mk ?_; cbv))
  have hN_progs := hln (ownProg A) progsx
  generalize ln (A.enc (ownProg A) progsx) = N_progs at hN_progs ⊢
  have hN_tree := hln cNode treex
  generalize ln (A.enc cNode treex) = N_tree at hN_tree ⊢
  have hN_events := hln cEvent eventsx
  generalize ln (A.enc cEvent eventsx) = N_events at hN_events ⊢
  have hN_told := hln cBool toldx
  generalize ln (A.enc cBool toldx) = N_told at hN_told ⊢
  have hN_work := hln cInt64 workx
  generalize ln (A.enc cInt64 workx) = N_work at hN_work ⊢
  have hN_heap := hln cTwig heapx
  generalize ln (A.enc cTwig heapx) = N_heap at hN_heap ⊢
  have hN_list := hln cTimer listx
  generalize ln (A.enc cTimer listx) = N_list at hN_list ⊢
  have hN_ages := hln cInt64 agesx
  generalize ln (A.enc cInt64 agesx) = N_ages at hN_ages ⊢
  have hN_used := hln cBool usedx
  generalize ln (A.enc cBool usedx) = N_used at hN_used ⊢
  have hN_alist := hln cAfter alistx
  generalize ln (A.enc cAfter alistx) = N_alist at hN_alist ⊢
  have hN_tasks := hln cTask tasksx
  generalize ln (A.enc cTask tasksx) = N_tasks at hN_tasks ⊢
  have hN_groups := hln (ownGroup A) groupsx
  generalize ln (A.enc (ownGroup A) groupsx) = N_groups at hN_groups ⊢
  have hN_sights := hln cSight sightsx
  generalize ln (A.enc cSight sightsx) = N_sights at hN_sights ⊢
  have hN_began := hln cInt64 beganx
  generalize ln (A.enc cInt64 beganx) = N_began at hN_began ⊢
  have hN_rang := hln cInt64 rangx
  generalize ln (A.enc cInt64 rangx) = N_rang at hN_rang ⊢
  have hS : seenW ⟨now, progs, tree, events, ⟨told, work⟩, ⟨heap, list, next⟩, ⟨⟨ages, used⟩, alist⟩, tasks, groups, sights, began, rang⟩ n = ⟨nowx, progsx, treex, eventsx, ⟨toldx, workx⟩, ⟨heapx, listx, nextx⟩, ⟨⟨agesx, usedx⟩, alistx⟩, tasksx, groupsx, sightsx, beganx, rangx⟩ := hx.symm
  clear hx
  (try (refine Drawn.mk ⟨by kernel_rfl, fun _ => ?_⟩)); (repeat (refine Later.mk ?_; cbv))
  refine ACall.int (dp := false) (specErrOf_c S tree events n h.2.2.1 hn) .go rfl (fun ee hee => ?_); (cbv; repeat (refine Later.mk ?_; cbv))
  (try (refine Drawn.mk ⟨by kernel_rfl, fun _ => ?_⟩)); (repeat (refine Later.mk ?_; cbv))
  refine ACall.int (dp := false) (specCauseOf_c S tree events n h.2.2.1 hn) .go rfl (fun ec hec => ?_); (cbv; repeat (refine Later.mk ?_; cbv))
  (try (refine Drawn.mk ⟨by kernel_rfl, fun _ => ?_⟩)); (repeat (refine Later.mk ?_; cbv))
  exact Done.isA (r := rWII A) (x := (⟨nowx, progsx, treex, eventsx, ⟨toldx, workx⟩, ⟨heapx, listx, nextx⟩, ⟨⟨agesx, usedx⟩, alistx⟩, tasksx, groupsx, sightsx, beganx, rangx⟩, ee, ec)) (by rw [AskIn, if_pos ⟨h, hn⟩, hS, hee, hec])

end Go.Proofs.YtihfpbhalnedcaaGreat.AM
