/- Contracts: worlds converted, measured, compared. (printed by gw10.py) -/
import Derived.Test.YtihfpbhalnedcaaGreatW9
set_option linter.unusedVariables false
set_option linter.unusedSimpArgs false
namespace Go.Proofs.YtihfpbhalnedcaaGreat.AM
open Go Go.Proofs

set_option maxRecDepth 100000
set_option maxHeartbeats 4000000

variable {P : Program} {A : Sy}

def World.total (w : World) : Int := (w.progs.length + sumBy List.length w.progs : Nat) + w.tree.length + w.events.length + w.spread.total + w.timers.total + w.afters.total + w.tasks.length + (w.groups.length + sumBy (fun g : Group => g.waits.length) w.groups : Nat) + w.sights.length + w.began.length + w.rang.length
structure World.few (w : World) (b : Nat) : Prop where
  progs : w.progs.length <= b /\ ∀ p ∈ w.progs, p.length <= b
  tree : w.tree.length <= b
  events : w.events.length <= b
  spread : w.spread.few b
  timers : w.timers.few b
  afters : w.afters.few b
  tasks : w.tasks.length <= b
  groups : w.groups.length <= b /\ ∀ g ∈ w.groups, g.waits.length <= b
  sights : w.sights.length <= b
  began : w.began.length <= b
  rang : w.rang.length <= b

theorem World.few_of {w : World} {b : Nat} (h : w.total <= b) : w.few b := by
  obtain ⟨now, progs, tree, events, ⟨told, work⟩, ⟨heap, list, next⟩, ⟨⟨ages, used⟩, alist⟩, tasks, groups, sights, began, rang⟩ := w
  simp only [World.total, Spread.total, Timers.total, Afters.total] at h
  refine ⟨⟨by dsimp only; omega, fun p hp => ?_⟩, by dsimp only; omega, by dsimp only; omega, ⟨by dsimp only; omega, by dsimp only; omega⟩, ⟨by dsimp only; omega, by dsimp only; omega⟩, ⟨by dsimp only; omega, by dsimp only; omega, by dsimp only; omega⟩, by dsimp only; omega, ⟨by dsimp only; omega, fun p hp => ?_⟩, by dsimp only; omega, by dsimp only; omega, by dsimp only; omega⟩
  · obtain ⟨i, hi⟩ := List.getElem?_of_mem hp
    have := sumBy_at (f := List.length) hi
    dsimp only at this
    omega
  · obtain ⟨i, hi⟩ := List.getElem?_of_mem hp
    have := sumBy_at (f := fun g : Group => g.waits.length) hi
    dsimp only at this
    omega

theorem World.few.mono {w : World} {b c : Nat} (h : w.few b) (hbc : b <= c) : w.few c :=
  ⟨⟨Nat.le_trans h.progs.1 hbc, fun p hp => Nat.le_trans (h.progs.2 p hp) hbc⟩, Nat.le_trans h.tree hbc, Nat.le_trans h.events hbc, ⟨Nat.le_trans h.spread.1 hbc, Nat.le_trans h.spread.2 hbc⟩, ⟨Nat.le_trans h.timers.1 hbc, Nat.le_trans h.timers.2 hbc⟩,
   ⟨Nat.le_trans h.afters.1 hbc, Nat.le_trans h.afters.2.1 hbc, Nat.le_trans h.afters.2.2 hbc⟩, Nat.le_trans h.tasks hbc, ⟨Nat.le_trans h.groups.1 hbc, fun p hp => Nat.le_trans (h.groups.2 p hp) hbc⟩, Nat.le_trans h.sights hbc, Nat.le_trans h.began hbc, Nat.le_trans h.rang hbc⟩

theorem szWorld_c (S : Se P A) (now : Int) (progs : List (List Ins)) (tree : List Node) (events : List Event) (told : List Bool) (work : List Int) (heap : List Twig) (list : List Timer) (next : Int) (ages : List Int) (used : List Bool) (alist : List After) (tasks : List Task) (groups : List Group) (sights : List Sight) (began rang : List Int) (left : Int) (h0 : 0 <= left) : Nums P 11 [.agg (roWorld A ⟨now, progs, tree, events, ⟨told, work⟩, ⟨heap, list, next⟩, ⟨⟨ages, used⟩, alist⟩, tasks, groups, sights, began, rang⟩), .int .i64 left] (fun n => n = -1 ∨ 0 <= n /\ n = left - (⟨now, progs, tree, events, ⟨told, work⟩, ⟨heap, list, next⟩, ⟨⟨ages, used⟩, alist⟩, tasks, groups, sights, began, rang⟩ : World).total) := by
  refine S.cx.byS [99999] (S.prog ▸ Tryz.func11) rfl rfl rfl rfl (fun ln hln hv ho => ?_)
  (cbv; repeat (refine Later.mk ?_; cbv))
  clear hv ho
  refine ACall.num (dp := false) (szInsSS_c S progs left (by lia)) .go (fun q1 hq1 => ?_); (cbv; repeat (refine Later.mk ?_; cbv))
  refine Test.lss (fun g1 => ?_) (fun g1 => ?_) <;> (cbv; repeat (refine Later.mk ?_; cbv))
  · exact Done.num (.inl rfl)
  replace hq1 : q1 = left - (progs.length + sumBy List.length progs) := (hq1.resolve_left (by lia)).2
  refine ACall.int (dp := false) (szNodeS_c S tree q1 (by lia)) .go rfl (fun q2 hq2 => ?_); (cbv; repeat (refine Later.mk ?_; cbv))
  refine Test.lss (fun g2 => ?_) (fun g2 => ?_) <;> (cbv; repeat (refine Later.mk ?_; cbv))
  · exact Done.num (.inl rfl)
  replace hq2 : q2 = q1 - tree.length := by split at hq2 <;> lia
  refine ACall.int (dp := false) (szEventS_c S events q2 (by lia)) .go rfl (fun q3 hq3 => ?_); (cbv; repeat (refine Later.mk ?_; cbv))
  refine Test.lss (fun g3 => ?_) (fun g3 => ?_) <;> (cbv; repeat (refine Later.mk ?_; cbv))
  · exact Done.num (.inl rfl)
  replace hq3 : q3 = q2 - events.length := by split at hq3 <;> lia
  refine ACall.num (dp := false) (szSpread_c S ⟨told, work⟩ q3 (by lia)) .go (fun q4 hq4 => ?_); (cbv; repeat (refine Later.mk ?_; cbv))
  refine Test.lss (fun g4 => ?_) (fun g4 => ?_) <;> (cbv; repeat (refine Later.mk ?_; cbv))
  · exact Done.num (.inl rfl)
  replace hq4 : q4 = q3 - ((⟨told, work⟩ : Spread).total) := (hq4.resolve_left (by lia)).2
  refine ACall.num (dp := false) (szTimers_c S ⟨heap, list, next⟩ q4 (by lia)) .go (fun q5 hq5 => ?_); (cbv; repeat (refine Later.mk ?_; cbv))
  refine Test.lss (fun g5 => ?_) (fun g5 => ?_) <;> (cbv; repeat (refine Later.mk ?_; cbv))
  · exact Done.num (.inl rfl)
  replace hq5 : q5 = q4 - ((⟨heap, list, next⟩ : Timers).total) := (hq5.resolve_left (by lia)).2
  refine ACall.num (dp := false) (szAfters_c S ⟨⟨ages, used⟩, alist⟩ q5 (by lia)) .go (fun q6 hq6 => ?_); (cbv; repeat (refine Later.mk ?_; cbv))
  refine Test.lss (fun g6 => ?_) (fun g6 => ?_) <;> (cbv; repeat (refine Later.mk ?_; cbv))
  · exact Done.num (.inl rfl)
  replace hq6 : q6 = q5 - ((⟨⟨ages, used⟩, alist⟩ : Afters).total) := (hq6.resolve_left (by lia)).2
  refine ACall.int (dp := false) (szTaskS_c S tasks q6 (by lia)) .go rfl (fun q7 hq7 => ?_); (cbv; repeat (refine Later.mk ?_; cbv))
  refine Test.lss (fun g7 => ?_) (fun g7 => ?_) <;> (cbv; repeat (refine Later.mk ?_; cbv))
  · exact Done.num (.inl rfl)
  replace hq7 : q7 = q6 - tasks.length := by split at hq7 <;> lia
  refine ACall.num (dp := false) (szGroupS_c S groups q7 (by lia)) .go (fun q8 hq8 => ?_); (cbv; repeat (refine Later.mk ?_; cbv))
  refine Test.lss (fun g8 => ?_) (fun g8 => ?_) <;> (cbv; repeat (refine Later.mk ?_; cbv))
  · exact Done.num (.inl rfl)
  replace hq8 : q8 = q7 - (groups.length + sumBy (fun g : Group => g.waits.length) groups) := (hq8.resolve_left (by lia)).2
  refine ACall.int (dp := false) (szSightS_c S sights q8 (by lia)) .go rfl (fun q9 hq9 => ?_); (cbv; repeat (refine Later.mk ?_; cbv))
  refine Test.lss (fun g9 => ?_) (fun g9 => ?_) <;> (cbv; repeat (refine Later.mk ?_; cbv))
  · exact Done.num (.inl rfl)
  replace hq9 : q9 = q8 - sights.length := by split at hq9 <;> lia
  refine ACall.int (dp := false) (szInt64S_c S began q9 (by lia)) .go rfl (fun q10 hq10 => ?_); (cbv; repeat (refine Later.mk ?_; cbv))
  refine Test.lss (fun g10 => ?_) (fun g10 => ?_) <;> (cbv; repeat (refine Later.mk ?_; cbv))
  · exact Done.num (.inl rfl)
  replace hq10 : q10 = q9 - began.length := by split at hq10 <;> lia
  refine ACall.int (dp := false) (szInt64S_c S rang q10 (by lia)) .go rfl (fun q11 hq11 => ?_); (cbv; repeat (refine Later.mk ?_; cbv))
  refine Test.lss (fun g11 => ?_) (fun g11 => ?_) <;> (cbv; repeat (refine Later.mk ?_; cbv))
  · exact Done.num (.inl rfl)
  replace hq11 : q11 = q10 - rang.length := by split at hq11 <;> lia
  refine Done.num (.inr ⟨by lia, ?_⟩)
  simp only [World.total, Int.natCast_add]
  lia

theorem toWorld_c (S : Se P A) (now : Int) (progs : List (List Ins)) (tree : List Node) (events : List Event) (told : List Bool) (work : List Int) (heap : List Twig) (list : List Timer) (next : Int) (ages : List Int) (used : List Bool) (alist : List After) (tasks : List Task) (groups : List Group) (sights : List Sight) (began rang : List Int) (hb : (⟨now, progs, tree, events, ⟨told, work⟩, ⟨heap, list, next⟩, ⟨⟨ages, used⟩, alist⟩, tasks, groups, sights, began, rang⟩ : World).few 4294967296) : Is1 P 13 [.agg (roWorld A ⟨now, progs, tree, events, ⟨told, work⟩, ⟨heap, list, next⟩, ⟨⟨ages, used⟩, alist⟩, tasks, groups, sights, began, rang⟩)] (.agg (ownWorld A ⟨now, progs, tree, events, ⟨told, work⟩, ⟨heap, list, next⟩, ⟨⟨ages, used⟩, alist⟩, tasks, groups, sights, began, rang⟩)) := by
  refine S.cx.byS [99999] (S.prog ▸ Tryz.func13) rfl rfl rfl rfl (fun ln hln hv ho => ?_)
  (cbv; repeat (refine Later.mk ?_; cbv))
  clear hv ho
  refine ACall.own (dp := false) S.cx (toInsSS_c S progs hb.progs.1 hb.progs.2) ⟨rfl, (by repeat' (first | exact trivial | exact rfl | exact Nat.le_refl _ | exact S.ga | exact S.gb ‹_› | exact S.gc ‹_› | exact S.gd | exact S.ge | exact S.gf ‹_› | exact S.gg ‹_› | exact S.gh | exact .inl rfl | exact S.gi ‹_› | exact S.gj ‹_› | exact S.gk | exact S.gl | refine ⟨?_, ?_⟩)), trivial⟩ rfl rfl (fun progs0 n_progs e_progs l_progs => ?_)
  subst e_progs
  (cbv; repeat (refine Later.mk ?_; cbv))
  refine ACall.own (dp := false) S.cx (toNodeS_c S tree hb.tree) ⟨rfl, (by repeat' (first | exact trivial | exact rfl | exact Nat.le_refl _ | exact S.ga | exact S.gb ‹_› | exact S.gc ‹_› | exact S.gd | exact S.ge | exact S.gf ‹_› | exact S.gg ‹_› | exact S.gh | exact .inl rfl | exact S.gi ‹_› | exact S.gj ‹_› | exact S.gk | exact S.gl | refine ⟨?_, ?_⟩)), trivial⟩ rfl rfl (fun tree0 n_tree e_tree l_tree => ?_)
  subst e_tree
  (cbv; repeat (refine Later.mk ?_; cbv))
  refine ACall.own (dp := false) S.cx (toEventS_c S events hb.events) ⟨rfl, (by repeat' (first | exact trivial | exact rfl | exact Nat.le_refl _ | exact S.ga | exact S.gb ‹_› | exact S.gc ‹_› | exact S.gd | exact S.ge | exact S.gf ‹_› | exact S.gg ‹_› | exact S.gh | exact .inl rfl | exact S.gi ‹_› | exact S.gj ‹_› | exact S.gk | exact S.gl | refine ⟨?_, ?_⟩)), trivial⟩ rfl rfl (fun events0 n_events e_events l_events => ?_)
  subst e_events
  (cbv; repeat (refine Later.mk ?_; cbv))
  refine ACall.valN (r := (fun x : Spread => .agg (ownSpread A x))) (os := fun _ => []) (dp := false) S.cx (toSpread_c S ⟨told, work⟩ hb.spread) .go rfl (fun ln hln x hx => ⟨rfl, ?_⟩)
  obtain ⟨told0, work0⟩ := x
  cases hx
  (cbv; repeat (refine Later.mk ?_; cbv))
  have hn_told := hln cBool told
  generalize ln (A.enc cBool told) = n_told at hn_told ⊢
  have hn_work := hln cInt64 work
  generalize ln (A.enc cInt64 work) = n_work at hn_work ⊢
  refine ACall.valN (r := (fun x : Timers => .agg (ownTimers A x))) (os := fun _ => []) (dp := false) S.cx (toTimers_c S ⟨heap, list, next⟩ hb.timers) .go rfl (fun ln hln x hx => ⟨rfl, ?_⟩)
  obtain ⟨heap0, list0, next0⟩ := x
  cases hx
  (cbv; repeat (refine Later.mk ?_; cbv))
  have hn_heap := hln cTwig heap
  generalize ln (A.enc cTwig heap) = n_heap at hn_heap ⊢
  have hn_list := hln cTimer list
  generalize ln (A.enc cTimer list) = n_list at hn_list ⊢
  refine ACall.valN (r := (fun x : Afters => .agg (ownAfters A x))) (os := fun _ => []) (dp := false) S.cx (toAfters_c S ⟨⟨ages, used⟩, alist⟩ hb.afters) .go rfl (fun ln hln x hx => ⟨rfl, ?_⟩)
  obtain ⟨⟨ages0, used0⟩, alist0⟩ := x
  cases hx
  (cbv; repeat (refine Later.mk ?_; cbv))
  have hn_ages := hln cInt64 ages
  generalize ln (A.enc cInt64 ages) = n_ages at hn_ages ⊢
  have hn_used := hln cBool used
  generalize ln (A.enc cBool used) = n_used at hn_used ⊢
  have hn_alist := hln cAfter alist
  generalize ln (A.enc cAfter alist) = n_alist at hn_alist ⊢
  refine ACall.own (dp := false) S.cx (toTaskS_c S tasks hb.tasks) ⟨rfl, (by repeat' (first | exact trivial | exact rfl | exact Nat.le_refl _ | exact S.ga | exact S.gb ‹_› | exact S.gc ‹_› | exact S.gd | exact S.ge | exact S.gf ‹_› | exact S.gg ‹_› | exact S.gh | exact .inl rfl | exact S.gi ‹_› | exact S.gj ‹_› | exact S.gk | exact S.gl | refine ⟨?_, ?_⟩)), trivial⟩ rfl rfl (fun tasks0 n_tasks e_tasks l_tasks => ?_)
  subst e_tasks
  (cbv; repeat (refine Later.mk ?_; cbv))
  refine ACall.own (dp := false) S.cx (toGroupS_c S groups hb.groups.1 hb.groups.2) ⟨rfl, (by repeat' (first | exact trivial | exact rfl | exact Nat.le_refl _ | exact S.ga | exact S.gb ‹_› | exact S.gc ‹_› | exact S.gd | exact S.ge | exact S.gf ‹_› | exact S.gg ‹_› | exact S.gh | exact .inl rfl | exact S.gi ‹_› | exact S.gj ‹_› | exact S.gk | exact S.gl | refine ⟨?_, ?_⟩)), trivial⟩ rfl rfl (fun groups0 n_groups e_groups l_groups => ?_)
  subst e_groups
  (cbv; repeat (refine Later.mk ?_; cbv))
  refine ACall.own (dp := false) S.cx (toSightS_c S sights hb.sights) ⟨rfl, (by repeat' (first | exact trivial | exact rfl | exact Nat.le_refl _ | exact S.ga | exact S.gb ‹_› | exact S.gc ‹_› | exact S.gd | exact S.ge | exact S.gf ‹_› | exact S.gg ‹_› | exact S.gh | exact .inl rfl | exact S.gi ‹_› | exact S.gj ‹_› | exact S.gk | exact S.gl | refine ⟨?_, ?_⟩)), trivial⟩ rfl rfl (fun sights0 n_sights e_sights l_sights => ?_)
  subst e_sights
  (cbv; repeat (refine Later.mk ?_; cbv))
  refine ACall.own (dp := false) S.cx (toInt64S_c S began hb.began) ⟨rfl, (by repeat' (first | exact trivial | exact rfl | exact Nat.le_refl _ | exact S.ga | exact S.gb ‹_› | exact S.gc ‹_› | exact S.gd | exact S.ge | exact S.gf ‹_› | exact S.gg ‹_› | exact S.gh | exact .inl rfl | exact S.gi ‹_› | exact S.gj ‹_› | exact S.gk | exact S.gl | refine ⟨?_, ?_⟩)), trivial⟩ rfl rfl (fun began0 n_began e_began l_began => ?_)
  subst e_began
  (cbv; repeat (refine Later.mk ?_; cbv))
  refine ACall.own (dp := false) S.cx (toInt64S_c S rang hb.rang) ⟨rfl, (by repeat' (first | exact trivial | exact rfl | exact Nat.le_refl _ | exact S.ga | exact S.gb ‹_› | exact S.gc ‹_› | exact S.gd | exact S.ge | exact S.gf ‹_› | exact S.gg ‹_› | exact S.gh | exact .inl rfl | exact S.gi ‹_› | exact S.gj ‹_› | exact S.gk | exact S.gl | refine ⟨?_, ?_⟩)), trivial⟩ rfl rfl (fun rang0 n_rang e_rang l_rang => ?_)
  subst e_rang
  (cbv; repeat (refine Later.mk ?_; cbv))
  refine Done.to (.agg (ownWorld A ⟨now, progs0, tree0, events0, ⟨told, work⟩, ⟨heap, list, next⟩, ⟨⟨ages, used⟩, alist⟩, tasks0, groups0, sights0, began0, rang0⟩)) [] rfl ?_ trivial ⟨rfl, rfl⟩
  exact ⟨rfl, resOwnF S.cx fre_ownProg rfl l_progs, resOwn S.cx rfl l_tree, resOwn S.cx rfl l_events, resOwn S.cx rfl hn_told, resOwn S.cx rfl hn_work, resOwn S.cx rfl hn_heap, resOwn S.cx rfl hn_list, rfl, resOwn S.cx rfl hn_ages, resOwn S.cx rfl hn_used, resOwn S.cx rfl hn_alist, resOwn S.cx rfl l_tasks, resOwnF S.cx fre_ownGroup rfl l_groups, resOwn S.cx rfl l_sights, resOwn S.cx rfl l_began, resOwn S.cx rfl l_rang, trivial⟩

theorem eqWorld_c (S : Se P A) (now : Int) (progs : List (List Ins)) (tree : List Node) (events : List Event) (told : List Bool) (work : List Int) (heap : List Twig) (list : List Timer) (next : Int) (ages : List Int) (used : List Bool) (alist : List After) (tasks : List Task) (groups : List Group) (sights : List Sight) (began rang : List Int) (now' : Int) (progs' : List (List Ins)) (tree' : List Node) (events' : List Event) (told' : List Bool) (work' : List Int) (heap' : List Twig) (list' : List Timer) (next' : Int) (ages' : List Int) (used' : List Bool) (alist' : List After) (tasks' : List Task) (groups' : List Group) (sights' : List Sight) (began' : List Int) (rang' : List Int) : Tests P 15 [.agg (roWorld A ⟨now, progs, tree, events, ⟨told, work⟩, ⟨heap, list, next⟩, ⟨⟨ages, used⟩, alist⟩, tasks, groups, sights, began, rang⟩), .agg (roWorld A ⟨now', progs', tree', events', ⟨told', work'⟩, ⟨heap', list', next'⟩, ⟨⟨ages', used'⟩, alist'⟩, tasks', groups', sights', began', rang'⟩)] ((⟨now, progs, tree, events, ⟨told, work⟩, ⟨heap, list, next⟩, ⟨⟨ages, used⟩, alist⟩, tasks, groups, sights, began, rang⟩ : World) = ⟨now', progs', tree', events', ⟨told', work'⟩, ⟨heap', list', next'⟩, ⟨⟨ages', used'⟩, alist'⟩, tasks', groups', sights', began', rang'⟩) := by
  refine S.cx.byS [99999] (S.prog ▸ Tryz.func15) rfl rfl rfl rfl (fun ln hln hv ho => ?_)
  (cbv; repeat (refine Later.mk ?_; cbv))
  clear hv ho
  refine Test.neq (fun g0 => ?_) (fun g0 => ?_) <;> (cbv; repeat (refine Later.mk ?_; cbv))
  · exact Done.no fun e => g0 (congrArg World.now e)
  subst g0
  refine ACall.testD (dp := false) (eqInsSS_c S progs progs') .go rfl (fun e12 => ?_) (fun e12 => ?_) <;> (cbv; repeat (refine Later.mk ?_; cbv))
  rotate_left
  · exact Done.no fun e => e12 (congrArg World.progs e)
  cases e12
  refine ACall.testD (dp := false) (eqNodeS_c S tree tree') .go rfl (fun e13 => ?_) (fun e13 => ?_) <;> (cbv; repeat (refine Later.mk ?_; cbv))
  rotate_left
  · exact Done.no fun e => e13 (congrArg World.tree e)
  cases e13
  refine ACall.testD (dp := false) (eqEventS_c S events events') .go rfl (fun e14 => ?_) (fun e14 => ?_) <;> (cbv; repeat (refine Later.mk ?_; cbv))
  rotate_left
  · exact Done.no fun e => e14 (congrArg World.events e)
  cases e14
  refine ACall.testD (dp := false) (eqSpread_c S ⟨told, work⟩ ⟨told', work'⟩) .go rfl (fun e15 => ?_) (fun e15 => ?_) <;> (cbv; repeat (refine Later.mk ?_; cbv))
  rotate_left
  · exact Done.no fun e => e15 (congrArg World.spread e)
  cases e15
  refine ACall.testD (dp := false) (eqTimers_c S ⟨heap, list, next⟩ ⟨heap', list', next'⟩) .go rfl (fun e16 => ?_) (fun e16 => ?_) <;> (cbv; repeat (refine Later.mk ?_; cbv))
  rotate_left
  · exact Done.no fun e => e16 (congrArg World.timers e)
  cases e16
  refine ACall.testD (dp := false) (eqAfters_c S ⟨⟨ages, used⟩, alist⟩ ⟨⟨ages', used'⟩, alist'⟩) .go rfl (fun e17 => ?_) (fun e17 => ?_) <;> (cbv; repeat (refine Later.mk ?_; cbv))
  rotate_left
  · exact Done.no fun e => e17 (congrArg World.afters e)
  cases e17
  refine ACall.testD (dp := false) (eqTaskS_c S tasks tasks') .go rfl (fun e18 => ?_) (fun e18 => ?_) <;> (cbv; repeat (refine Later.mk ?_; cbv))
  rotate_left
  · exact Done.no fun e => e18 (congrArg World.tasks e)
  cases e18
  refine ACall.testD (dp := false) (eqGroupS_c S groups groups') .go rfl (fun e19 => ?_) (fun e19 => ?_) <;> (cbv; repeat (refine Later.mk ?_; cbv))
  rotate_left
  · exact Done.no fun e => e19 (congrArg World.groups e)
  cases e19
  refine ACall.testD (dp := false) (eqSightS_c S sights sights') .go rfl (fun e20 => ?_) (fun e20 => ?_) <;> (cbv; repeat (refine Later.mk ?_; cbv))
  rotate_left
  · exact Done.no fun e => e20 (congrArg World.sights e)
  cases e20
  refine ACall.testD (dp := false) (eqInt64S_c S began began') .go rfl (fun e21 => ?_) (fun e21 => ?_) <;> (cbv; repeat (refine Later.mk ?_; cbv))
  rotate_left
  · exact Done.no fun e => e21 (congrArg World.began e)
  cases e21
  refine ACall.testD (dp := false) (eqInt64S_c S rang rang') .go rfl (fun e22 => ?_) (fun e22 => ?_) <;> (cbv; repeat (refine Later.mk ?_; cbv))
  rotate_left
  · exact Done.no fun e => e22 (congrArg World.rang e)
  cases e22
  exact Done.yes rfl

end Go.Proofs.YtihfpbhalnedcaaGreat.AM
