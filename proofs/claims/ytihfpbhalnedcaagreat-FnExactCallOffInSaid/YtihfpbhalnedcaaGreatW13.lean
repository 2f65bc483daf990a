/- Contracts: worlds marked, and held. (printed by gw13.py) -/
import Derived.Test.YtihfpbhalnedcaaGreatW12
import Derived.Test.YtihfpbhalnedcaaGreatW10
set_option linter.unusedVariables false
set_option linter.unusedSimpArgs false
namespace Go.Proofs.YtihfpbhalnedcaaGreat.AM
open Go Go.Proofs

set_option maxRecDepth 100000
set_option maxHeartbeats 4000000

variable {P : Program} {A : Sy}

def World.k1 (w : World) (k : Int) : Int := k + 3 * (sumBy List.length w.progs : Int)
def World.k2 (w : World) (k : Int) : Int := w.k1 k + 5 * (w.tree.length : Int)
def World.k3 (w : World) (k : Int) : Int := w.k2 k + 4 * (w.events.length : Int)
def World.k4 (w : World) (k : Int) : Int := w.k3 k + 1 * (w.spread.told.length : Int)
def World.k5 (w : World) (k : Int) : Int := w.k4 k + 1 * (w.spread.work.length : Int)
def World.k6 (w : World) (k : Int) : Int := w.k5 k + 3 * (w.timers.heap.length : Int)
def World.k7 (w : World) (k : Int) : Int := w.k6 k + 5 * (w.timers.list.length : Int)
def World.k8 (w : World) (k : Int) : Int := w.k7 k + 1 * (w.afters.slots.ages.length : Int)
def World.k9 (w : World) (k : Int) : Int := w.k8 k + 1 * (w.afters.slots.used.length : Int)
def World.k10 (w : World) (k : Int) : Int := w.k9 k + 5 * (w.afters.list.length : Int)
def World.k11 (w : World) (k : Int) : Int := w.k10 k + 9 * (w.tasks.length : Int)
def World.k12 (w : World) (k : Int) : Int := w.k11 k + 1 * (sumBy wl w.groups : Int)
def World.k13 (w : World) (k : Int) : Int := w.k12 k + 4 * (w.sights.length : Int)
def World.k14 (w : World) (k : Int) : Int := w.k13 k + 1 * (w.began.length : Int)
def World.k15 (w : World) (k : Int) : Int := w.k14 k + 1 * (w.rang.length : Int)
def World.marked (w : World) (k : Int) : World := ⟨w.now, marksP (k) w.progs, marks mNode 5 (w.k1 k) w.tree.length, marks mEvent 4 (w.k2 k) w.events.length, ⟨marks mBool 1 (w.k3 k) w.spread.told.length, marks mInt64 1 (w.k4 k) w.spread.work.length⟩, ⟨marks mTwig 3 (w.k5 k) w.timers.heap.length, marks mTimer 5 (w.k6 k) w.timers.list.length, w.timers.next⟩, ⟨⟨marks mInt64 1 (w.k7 k) w.afters.slots.ages.length, marks mBool 1 (w.k8 k) w.afters.slots.used.length⟩, marks mAfter 5 (w.k9 k) w.afters.list.length⟩, marks mTask 9 (w.k10 k) w.tasks.length, marksG (w.k11 k) w.groups, marks mSight 4 (w.k12 k) w.sights.length, marks mInt64 1 (w.k13 k) w.began.length, marks mInt64 1 (w.k14 k) w.rang.length⟩
def objsW (A : Sy) (w : World) : List (Option Obj) := [some (.arr 1 false (A.enc (ownProg A) w.progs)), some (.arr 5 true (A.enc cNode w.tree)), some (.arr 4 true (A.enc cEvent w.events)), some (.arr 1 true (A.enc cBool w.spread.told)), some (.arr 1 true (A.enc cInt64 w.spread.work)), some (.arr 3 true (A.enc cTwig w.timers.heap)), some (.arr 5 true (A.enc cTimer w.timers.list)), some (.arr 1 true (A.enc cInt64 w.afters.slots.ages)), some (.arr 1 true (A.enc cBool w.afters.slots.used)), some (.arr 5 true (A.enc cAfter w.afters.list)), some (.arr 9 true (A.enc cTask w.tasks)), some (.arr 5 false (A.enc (ownGroup A) w.groups)), some (.arr 4 true (A.enc cSight w.sights)), some (.arr 1 true (A.enc cInt64 w.began)), some (.arr 1 true (A.enc cInt64 w.rang))]

theorem sumBy_wl (l : List Group) : sumBy wl l = sumBy (fun g : Group => g.waits.length) l + 4 * l.length := by
  induction l with
  | nil => rfl
  | cons x r ih => simp only [sumBy, ih, wl, List.length_cons]; omega

theorem World.end_le {w : World} {k : Int} (h : 0 <= w.total) : w.k15 k <= k + 9 * w.total := by
  obtain ⟨now, progs, tree, events, ⟨told, work⟩, ⟨heap, list, next⟩, ⟨⟨ages, used⟩, alist⟩, tasks, groups, sights, began, rang⟩ := w
  simp only [World.k1, World.k2, World.k3, World.k4, World.k5, World.k6, World.k7, World.k8, World.k9, World.k10, World.k11, World.k12, World.k13, World.k14, World.k15, World.total, Spread.total, Timers.total, Afters.total, sumBy_wl] at *
  omega

theorem World.total_ge (w : World) : 0 <= w.total := by
  simp only [World.total, Spread.total, Timers.total, Afters.total]
  omega
theorem World.end_ge (w : World) {k : Int} (h : 0 <= k) : 0 <= w.k15 k := by
  simp only [World.k15, World.k14, World.k13, World.k12, World.k11, World.k10, World.k9, World.k8, World.k7, World.k6, World.k5, World.k4, World.k3, World.k2, World.k1]
  omega

theorem World.l_progs {w w' : World} {k : Int} {n : Nat} (h : w' = w.marked k) (hn : n = w.progs.length) : n = w'.progs.length := by subst h; rw [hn]; simp only [World.marked, marks_len, marksBy_len]
theorem World.l_tree {w w' : World} {k : Int} {n : Nat} (h : w' = w.marked k) (hn : n = w.tree.length) : n = w'.tree.length := by subst h; rw [hn]; simp only [World.marked, marks_len, marksBy_len]
theorem World.l_events {w w' : World} {k : Int} {n : Nat} (h : w' = w.marked k) (hn : n = w.events.length) : n = w'.events.length := by subst h; rw [hn]; simp only [World.marked, marks_len, marksBy_len]
theorem World.l_told {w w' : World} {k : Int} {n : Nat} (h : w' = w.marked k) (hn : n = w.spread.told.length) : n = w'.spread.told.length := by subst h; rw [hn]; simp only [World.marked, marks_len, marksBy_len]
theorem World.l_work {w w' : World} {k : Int} {n : Nat} (h : w' = w.marked k) (hn : n = w.spread.work.length) : n = w'.spread.work.length := by subst h; rw [hn]; simp only [World.marked, marks_len, marksBy_len]
theorem World.l_heap {w w' : World} {k : Int} {n : Nat} (h : w' = w.marked k) (hn : n = w.timers.heap.length) : n = w'.timers.heap.length := by subst h; rw [hn]; simp only [World.marked, marks_len, marksBy_len]
theorem World.l_list {w w' : World} {k : Int} {n : Nat} (h : w' = w.marked k) (hn : n = w.timers.list.length) : n = w'.timers.list.length := by subst h; rw [hn]; simp only [World.marked, marks_len, marksBy_len]
theorem World.l_ages {w w' : World} {k : Int} {n : Nat} (h : w' = w.marked k) (hn : n = w.afters.slots.ages.length) : n = w'.afters.slots.ages.length := by subst h; rw [hn]; simp only [World.marked, marks_len, marksBy_len]
theorem World.l_used {w w' : World} {k : Int} {n : Nat} (h : w' = w.marked k) (hn : n = w.afters.slots.used.length) : n = w'.afters.slots.used.length := by subst h; rw [hn]; simp only [World.marked, marks_len, marksBy_len]
theorem World.l_alist {w w' : World} {k : Int} {n : Nat} (h : w' = w.marked k) (hn : n = w.afters.list.length) : n = w'.afters.list.length := by subst h; rw [hn]; simp only [World.marked, marks_len, marksBy_len]
theorem World.l_tasks {w w' : World} {k : Int} {n : Nat} (h : w' = w.marked k) (hn : n = w.tasks.length) : n = w'.tasks.length := by subst h; rw [hn]; simp only [World.marked, marks_len, marksBy_len]
theorem World.l_groups {w w' : World} {k : Int} {n : Nat} (h : w' = w.marked k) (hn : n = w.groups.length) : n = w'.groups.length := by subst h; rw [hn]; simp only [World.marked, marks_len, marksBy_len]
theorem World.l_sights {w w' : World} {k : Int} {n : Nat} (h : w' = w.marked k) (hn : n = w.sights.length) : n = w'.sights.length := by subst h; rw [hn]; simp only [World.marked, marks_len, marksBy_len]
theorem World.l_began {w w' : World} {k : Int} {n : Nat} (h : w' = w.marked k) (hn : n = w.began.length) : n = w'.began.length := by subst h; rw [hn]; simp only [World.marked, marks_len, marksBy_len]
theorem World.l_rang {w w' : World} {k : Int} {n : Nat} (h : w' = w.marked k) (hn : n = w.rang.length) : n = w'.rang.length := by subst h; rw [hn]; simp only [World.marked, marks_len, marksBy_len]

theorem marksP_again (k : Int) : ∀ l : List (List Ins), marksP k (marksP k l) = marksP k l := by
  have : ∀ (l : List (List Ins)) (k : Int), marksP k (marksP k l) = marksP k l := by
    intro l
    induction l with
    | nil => intro k; rfl
    | cons x r ih => intro k; simp only [marksBy, mkP, marks_len, ih]
  exact fun l => this l k
theorem marksG_again (k : Int) : ∀ l : List Group, marksG k (marksG k l) = marksG k l := by
  have : ∀ (l : List Group) (k : Int), marksG k (marksG k l) = marksG k l := by
    intro l
    induction l with
    | nil => intro k; rfl
    | cons x r ih => intro k; simp only [marksBy, mkG, wl, marks_len, ih]
  exact fun l => this l k
theorem marksP_sum (l : List (List Ins)) : ∀ k : Int, sumBy List.length (marksP k l) = sumBy List.length l := by
  induction l with
  | nil => intro k; rfl
  | cons x r ih => intro k; simp only [marksBy, sumBy, ih, mkP, marks_len]
theorem marksG_sum (l : List Group) : ∀ k : Int, sumBy wl (marksG k l) = sumBy wl l := by
  induction l with
  | nil => intro k; rfl
  | cons x r ih => intro k; simp only [marksBy, sumBy, ih, mkG, wl, marks_len]

theorem World.marked_end (w : World) (k : Int) : (w.marked k).k15 k = w.k15 k := by
  simp only [World.k15, World.k14, World.k13, World.k12, World.k11, World.k10, World.k9, World.k8, World.k7, World.k6, World.k5, World.k4, World.k3, World.k2, World.k1, World.marked, marks_len, marksP_sum, marksG_sum]
theorem World.marked_again (w : World) (k : Int) : w.marked k = (w.marked k).marked k := by
  simp only [World.marked, World.k15, World.k14, World.k13, World.k12, World.k11, World.k10, World.k9, World.k8, World.k7, World.k6, World.k5, World.k4, World.k3, World.k2, World.k1, marks_len, marksP_sum, marksG_sum, marksP_again, marksG_again]

theorem markWorld_c (S : Se P A) (now : Int) (progs : List (List Ins)) (tree : List Node) (events : List Event) (told : List Bool) (work : List Int) (heap : List Twig) (list : List Timer) (next : Int) (ages : List Int) (used : List Bool) (alist : List After) (tasks : List Task) (groups : List Group) (sights : List Sight) (began rang : List Int) (n_progs : Nat) (hn_progs : n_progs = progs.length) (n_tree : Nat) (hn_tree : n_tree = tree.length) (n_events : Nat) (hn_events : n_events = events.length) (n_told : Nat) (hn_told : n_told = told.length) (n_work : Nat) (hn_work : n_work = work.length) (n_heap : Nat) (hn_heap : n_heap = heap.length) (n_list : Nat) (hn_list : n_list = list.length) (n_ages : Nat) (hn_ages : n_ages = ages.length) (n_used : Nat) (hn_used : n_used = used.length) (n_alist : Nat) (hn_alist : n_alist = alist.length) (n_tasks : Nat) (hn_tasks : n_tasks = tasks.length) (n_groups : Nat) (hn_groups : n_groups = groups.length) (n_sights : Nat) (hn_sights : n_sights = sights.length) (n_began : Nat) (hn_began : n_began = began.length) (n_rang : Nat) (hn_rang : n_rang = rang.length) (k : Int) (h0 : 0 <= k) (hk : (⟨now, progs, tree, events, ⟨told, work⟩, ⟨heap, list, next⟩, ⟨⟨ages, used⟩, alist⟩, tasks, groups, sights, began, rang⟩ : World).k15 k <= 4611686018427387904) : SoundM P 16 false [.agg [.int .i64 now, .ref false 1000 0 n_progs, .ref false 2000 0 n_tree, .ref false 3000 0 n_events, .ref false 4000 0 n_told, .ref false 5000 0 n_work, .ref false 6000 0 n_heap, .ref false 7000 0 n_list, .int .i64 next, .ref false 8000 0 n_ages, .ref false 9000 0 n_used, .ref false 10000 0 n_alist, .ref false 11000 0 n_tasks, .ref false 12000 0 n_groups, .ref false 13000 0 n_sights, .ref false 14000 0 n_began, .ref false 15000 0 n_rang], .int .i64 k] [.arr 1 false (A.enc (ownProg A) progs), .arr 5 true (A.enc cNode tree), .arr 4 true (A.enc cEvent events), .arr 1 true (A.enc cBool told), .arr 1 true (A.enc cInt64 work), .arr 3 true (A.enc cTwig heap), .arr 5 true (A.enc cTimer list), .arr 1 true (A.enc cInt64 ages), .arr 1 true (A.enc cBool used), .arr 5 true (A.enc cAfter alist), .arr 9 true (A.enc cTask tasks), .arr 5 false (A.enc (ownGroup A) groups), .arr 4 true (A.enc cSight sights), .arr 1 true (A.enc cInt64 began), .arr 1 true (A.enc cInt64 rang)]
    (fun v os => v = .int .i64 ((⟨now, progs, tree, events, ⟨told, work⟩, ⟨heap, list, next⟩, ⟨⟨ages, used⟩, alist⟩, tasks, groups, sights, began, rang⟩ : World).k15 k) /\ os = objsW A ((⟨now, progs, tree, events, ⟨told, work⟩, ⟨heap, list, next⟩, ⟨⟨ages, used⟩, alist⟩, tasks, groups, sights, began, rang⟩ : World).marked k)) := by
  refine S.cx.byS [99999] (S.prog ▸ Tryz.func16) rfl rfl rfl rfl (fun ln hln hv ho => ?_)
  (cbv; repeat (refine Later.mk ?_; cbv))
  clear hv ho
  simp only [World.k1, World.k2, World.k3, World.k4, World.k5, World.k6, World.k7, World.k8, World.k9, World.k10, World.k11, World.k12, World.k13, World.k14, World.k15] at hk
  refine ACall.mut1 (dp := false) (markInsSS_c S progs n_progs hn_progs k (by lia) (by lia)) .go rfl (fun q1 m_progs h1 e_progs => ⟨rfl, ?_⟩); (cbv; repeat (refine Later.mk ?_; cbv))
  replace h1 : q1 = k + 3 * (sumBy List.length progs : Int) := by lia
  replace e_progs : m_progs = marksP (k) progs := e_progs
  refine ACall.mut1 (dp := false) (markNodeS_c S tree n_tree hn_tree q1 (by lia) (by lia)) .go rfl (fun q2 m_tree h2 e_tree => ⟨rfl, ?_⟩); (cbv; repeat (refine Later.mk ?_; cbv))
  replace h2 : q2 = k + 3 * (sumBy List.length progs : Int) + 5 * (tree.length : Int) := by lia
  replace e_tree : m_tree = marks mNode 5 (q1) n_tree := e_tree
  refine ACall.mut1 (dp := false) (markEventS_c S events n_events hn_events q2 (by lia) (by lia)) .go rfl (fun q3 m_events h3 e_events => ⟨rfl, ?_⟩); (cbv; repeat (refine Later.mk ?_; cbv))
  replace h3 : q3 = k + 3 * (sumBy List.length progs : Int) + 5 * (tree.length : Int) + 4 * (events.length : Int) := by lia
  replace e_events : m_events = marks mEvent 4 (q2) n_events := e_events
  refine ACall.mut2 (dp := false) (markSpread_c S told work n_told hn_told n_work hn_work q3 (by lia) (by lia)) .go rfl (fun q4 m_told m_work h4 e_told e_work => ⟨rfl, ?_⟩); (cbv; repeat (refine Later.mk ?_; cbv))
  replace h4 : q4 = k + 3 * (sumBy List.length progs : Int) + 5 * (tree.length : Int) + 4 * (events.length : Int) + 1 * (told.length : Int) + 1 * (work.length : Int) := by lia
  replace e_told : m_told = marks mBool 1 (q3) n_told := e_told
  replace e_work : m_work = marks mInt64 1 (q3 + 1 * (n_told : Int)) n_work := e_work
  refine ACall.mut2 (dp := false) (markTimers_c S heap list next n_heap hn_heap n_list hn_list q4 (by lia) (by lia)) .go rfl (fun q5 m_heap m_list h5 e_heap e_list => ⟨rfl, ?_⟩); (cbv; repeat (refine Later.mk ?_; cbv))
  replace h5 : q5 = k + 3 * (sumBy List.length progs : Int) + 5 * (tree.length : Int) + 4 * (events.length : Int) + 1 * (told.length : Int) + 1 * (work.length : Int) + 3 * (heap.length : Int) + 5 * (list.length : Int) := by lia
  replace e_heap : m_heap = marks mTwig 3 (q4) n_heap := e_heap
  replace e_list : m_list = marks mTimer 5 (q4 + 3 * (n_heap : Int)) n_list := e_list
  refine ACall.mut3 (dp := false) (markAfters_c S ages used alist n_ages hn_ages n_used hn_used n_alist hn_alist q5 (by lia) (by lia)) .go rfl (fun q6 m_ages m_used m_alist h6 e_ages e_used e_alist => ⟨rfl, ?_⟩); (cbv; repeat (refine Later.mk ?_; cbv))
  replace h6 : q6 = k + 3 * (sumBy List.length progs : Int) + 5 * (tree.length : Int) + 4 * (events.length : Int) + 1 * (told.length : Int) + 1 * (work.length : Int) + 3 * (heap.length : Int) + 5 * (list.length : Int) + 1 * (ages.length : Int) + 1 * (used.length : Int) + 5 * (alist.length : Int) := by lia
  replace e_ages : m_ages = marks mInt64 1 (q5) n_ages := e_ages
  replace e_used : m_used = marks mBool 1 (q5 + 1 * (n_ages : Int)) n_used := e_used
  replace e_alist : m_alist = marks mAfter 5 (q5 + 1 * (n_ages : Int) + 1 * (n_used : Int)) n_alist := e_alist
  refine ACall.mut1 (dp := false) (markTaskS_c S tasks n_tasks hn_tasks q6 (by lia) (by lia)) .go rfl (fun q7 m_tasks h7 e_tasks => ⟨rfl, ?_⟩); (cbv; repeat (refine Later.mk ?_; cbv))
  replace h7 : q7 = k + 3 * (sumBy List.length progs : Int) + 5 * (tree.length : Int) + 4 * (events.length : Int) + 1 * (told.length : Int) + 1 * (work.length : Int) + 3 * (heap.length : Int) + 5 * (list.length : Int) + 1 * (ages.length : Int) + 1 * (used.length : Int) + 5 * (alist.length : Int) + 9 * (tasks.length : Int) := by lia
  replace e_tasks : m_tasks = marks mTask 9 (q6) n_tasks := e_tasks
  refine ACall.mut1 (dp := false) (markGroupS_c S groups n_groups hn_groups q7 (by lia) (by lia)) .go rfl (fun q8 m_groups h8 e_groups => ⟨rfl, ?_⟩); (cbv; repeat (refine Later.mk ?_; cbv))
  replace h8 : q8 = k + 3 * (sumBy List.length progs : Int) + 5 * (tree.length : Int) + 4 * (events.length : Int) + 1 * (told.length : Int) + 1 * (work.length : Int) + 3 * (heap.length : Int) + 5 * (list.length : Int) + 1 * (ages.length : Int) + 1 * (used.length : Int) + 5 * (alist.length : Int) + 9 * (tasks.length : Int) + 1 * (sumBy wl groups : Int) := by lia
  replace e_groups : m_groups = marksG (q7) groups := e_groups
  refine ACall.mut1 (dp := false) (markSightS_c S sights n_sights hn_sights q8 (by lia) (by lia)) .go rfl (fun q9 m_sights h9 e_sights => ⟨rfl, ?_⟩); (cbv; repeat (refine Later.mk ?_; cbv))
  replace h9 : q9 = k + 3 * (sumBy List.length progs : Int) + 5 * (tree.length : Int) + 4 * (events.length : Int) + 1 * (told.length : Int) + 1 * (work.length : Int) + 3 * (heap.length : Int) + 5 * (list.length : Int) + 1 * (ages.length : Int) + 1 * (used.length : Int) + 5 * (alist.length : Int) + 9 * (tasks.length : Int) + 1 * (sumBy wl groups : Int) + 4 * (sights.length : Int) := by lia
  replace e_sights : m_sights = marks mSight 4 (q8) n_sights := e_sights
  refine ACall.mut1 (dp := false) (markInt64S_c S began n_began hn_began q9 (by lia) (by lia)) .go rfl (fun q10 m_began h10 e_began => ⟨rfl, ?_⟩); (cbv; repeat (refine Later.mk ?_; cbv))
  replace h10 : q10 = k + 3 * (sumBy List.length progs : Int) + 5 * (tree.length : Int) + 4 * (events.length : Int) + 1 * (told.length : Int) + 1 * (work.length : Int) + 3 * (heap.length : Int) + 5 * (list.length : Int) + 1 * (ages.length : Int) + 1 * (used.length : Int) + 5 * (alist.length : Int) + 9 * (tasks.length : Int) + 1 * (sumBy wl groups : Int) + 4 * (sights.length : Int) + 1 * (began.length : Int) := by lia
  replace e_began : m_began = marks mInt64 1 (q9) n_began := e_began
  refine ACall.mut1 (dp := false) (markInt64S_c S rang n_rang hn_rang q10 (by lia) (by lia)) .go rfl (fun q11 m_rang h11 e_rang => ⟨rfl, ?_⟩); (cbv; repeat (refine Later.mk ?_; cbv))
  replace h11 : q11 = k + 3 * (sumBy List.length progs : Int) + 5 * (tree.length : Int) + 4 * (events.length : Int) + 1 * (told.length : Int) + 1 * (work.length : Int) + 3 * (heap.length : Int) + 5 * (list.length : Int) + 1 * (ages.length : Int) + 1 * (used.length : Int) + 5 * (alist.length : Int) + 9 * (tasks.length : Int) + 1 * (sumBy wl groups : Int) + 4 * (sights.length : Int) + 1 * (began.length : Int) + 1 * (rang.length : Int) := by lia
  replace e_rang : m_rang = marks mInt64 1 (q10) n_rang := e_rang
  refine Done.to (.int .i64 q11) (objsW A (⟨now, m_progs, m_tree, m_events, ⟨m_told, m_work⟩, ⟨m_heap, m_list, next⟩, ⟨⟨m_ages, m_used⟩, m_alist⟩, m_tasks, m_groups, m_sights, m_began, m_rang⟩ : World)) rfl rfl ?_ ⟨by rw [h11]; simp only [World.k1, World.k2, World.k3, World.k4, World.k5, World.k6, World.k7, World.k8, World.k9, World.k10, World.k11, World.k12, World.k13, World.k14, World.k15], ?_⟩
  · exact ⟨⟨⟨rfl, rfl⟩, rfl, S.gk⟩, ⟨⟨rfl, rfl⟩, rfl, trivial⟩, ⟨⟨rfl, rfl⟩, rfl, trivial⟩, ⟨⟨rfl, rfl⟩, rfl, trivial⟩, ⟨⟨rfl, rfl⟩, rfl, trivial⟩, ⟨⟨rfl, rfl⟩, rfl, trivial⟩, ⟨⟨rfl, rfl⟩, rfl, trivial⟩, ⟨⟨rfl, rfl⟩, rfl, trivial⟩, ⟨⟨rfl, rfl⟩, rfl, trivial⟩, ⟨⟨rfl, rfl⟩, rfl, trivial⟩, ⟨⟨rfl, rfl⟩, rfl, trivial⟩, ⟨⟨rfl, rfl⟩, rfl, S.gl⟩, ⟨⟨rfl, rfl⟩, rfl, trivial⟩, ⟨⟨rfl, rfl⟩, rfl, trivial⟩, ⟨⟨rfl, rfl⟩, rfl, trivial⟩, trivial⟩
  · refine congrArg (objsW A) ?_
    simp only [World.marked, World.mk.injEq, Spread.mk.injEq, Timers.mk.injEq, Afters.mk.injEq, Slots.mk.injEq, World.k1, World.k2, World.k3, World.k4, World.k5, World.k6, World.k7, World.k8, World.k9, World.k10, World.k11, World.k12, World.k13, World.k14, World.k15]
    exact ⟨trivial, e_progs, (by rw [e_tree, hn_tree]; congr 1 <;> lia), (by rw [e_events, hn_events]; congr 1 <;> lia), ⟨(by rw [e_told, hn_told]; congr 1 <;> lia), (by rw [e_work, hn_work]; congr 1 <;> lia)⟩, ⟨(by rw [e_heap, hn_heap]; congr 1 <;> lia), (by rw [e_list, hn_list]; congr 1 <;> lia), trivial⟩, ⟨⟨(by rw [e_ages, hn_ages]; congr 1 <;> lia), (by rw [e_used, hn_used]; congr 1 <;> lia)⟩, (by rw [e_alist, hn_alist]; congr 1 <;> lia)⟩, (by rw [e_tasks, hn_tasks]; congr 1 <;> lia), (by rw [e_groups]; congr 1 <;> lia), (by rw [e_sights, hn_sights]; congr 1 <;> lia), (by rw [e_began, hn_began]; congr 1 <;> lia), (by rw [e_rang, hn_rang]; congr 1 <;> lia)⟩

theorem heldWorld_c (S : Se P A) (now : Int) (progs : List (List Ins)) (tree : List Node) (events : List Event) (told : List Bool) (work : List Int) (heap : List Twig) (list : List Timer) (next : Int) (ages : List Int) (used : List Bool) (alist : List After) (tasks : List Task) (groups : List Group) (sights : List Sight) (began rang : List Int) (k : Int) (h0 : 0 <= k) (hk : (⟨now, progs, tree, events, ⟨told, work⟩, ⟨heap, list, next⟩, ⟨⟨ages, used⟩, alist⟩, tasks, groups, sights, began, rang⟩ : World).k15 k <= 4611686018427387904) (hm : (⟨now, progs, tree, events, ⟨told, work⟩, ⟨heap, list, next⟩, ⟨⟨ages, used⟩, alist⟩, tasks, groups, sights, began, rang⟩ : World) = (⟨now, progs, tree, events, ⟨told, work⟩, ⟨heap, list, next⟩, ⟨⟨ages, used⟩, alist⟩, tasks, groups, sights, began, rang⟩ : World).marked k) : Is1 P 17 [.agg (roWorld A ⟨now, progs, tree, events, ⟨told, work⟩, ⟨heap, list, next⟩, ⟨⟨ages, used⟩, alist⟩, tasks, groups, sights, began, rang⟩), .int .i64 k] (.int .i64 ((⟨now, progs, tree, events, ⟨told, work⟩, ⟨heap, list, next⟩, ⟨⟨ages, used⟩, alist⟩, tasks, groups, sights, began, rang⟩ : World).k15 k)) := by
  refine S.cx.byS [99999] (S.prog ▸ Tryz.func17) rfl rfl rfl rfl (fun ln hln hv ho => ?_)
  (cbv; repeat (refine Later.mk ?_; cbv))
  clear hv ho
  simp only [World.marked, World.mk.injEq, Spread.mk.injEq, Timers.mk.injEq, Afters.mk.injEq, Slots.mk.injEq, World.k1, World.k2, World.k3, World.k4, World.k5, World.k6, World.k7, World.k8, World.k9, World.k10, World.k11, World.k12, World.k13, World.k14, World.k15] at hm
  obtain ⟨-, g_progs, g_tree, g_events, ⟨g_told, g_work⟩, ⟨g_heap, g_list, -⟩, ⟨⟨g_ages, g_used⟩, g_alist⟩, g_tasks, g_groups, g_sights, g_began, g_rang⟩ := hm
  simp only [World.k1, World.k2, World.k3, World.k4, World.k5, World.k6, World.k7, World.k8, World.k9, World.k10, World.k11, World.k12, World.k13, World.k14, World.k15] at hk
  refine ACall.int (dp := false) (heldInsSS_c S progs k (by lia) (by lia) g_progs) .go rfl (fun q1 h1 => ?_); (cbv; repeat (refine Later.mk ?_; cbv))
  replace h1 : q1 = k + 3 * (sumBy List.length progs : Int) := by lia
  refine Test.lss (fun j1 => ?_) (fun j1 => ?_) <;> (cbv; repeat (refine Later.mk ?_; cbv))
  · exfalso; lia
  refine ACall.int (dp := false) (heldNodeS_c S tree q1 (by lia) (by lia) (marks_of (by have e := g_tree; refine e.trans ?_; congr 1; lia))) .go rfl (fun q2 h2 => ?_); (cbv; repeat (refine Later.mk ?_; cbv))
  replace h2 : q2 = k + 3 * (sumBy List.length progs : Int) + 5 * (tree.length : Int) := by lia
  refine Test.lss (fun j2 => ?_) (fun j2 => ?_) <;> (cbv; repeat (refine Later.mk ?_; cbv))
  · exfalso; lia
  refine ACall.int (dp := false) (heldEventS_c S events q2 (by lia) (by lia) (marks_of (by have e := g_events; refine e.trans ?_; congr 1; lia))) .go rfl (fun q3 h3 => ?_); (cbv; repeat (refine Later.mk ?_; cbv))
  replace h3 : q3 = k + 3 * (sumBy List.length progs : Int) + 5 * (tree.length : Int) + 4 * (events.length : Int) := by lia
  refine Test.lss (fun j3 => ?_) (fun j3 => ?_) <;> (cbv; repeat (refine Later.mk ?_; cbv))
  · exfalso; lia
  refine ACall.int (dp := false) (heldSpread_c S ⟨told, work⟩ q3 (by lia) (by dsimp only; lia) (by have e := g_told; refine e.trans ?_; congr 1; lia) (by have e := g_work; refine e.trans ?_; congr 1; lia)) .go rfl (fun q4 h4 => ?_); (cbv; repeat (refine Later.mk ?_; cbv))
  replace h4 : q4 = k + 3 * (sumBy List.length progs : Int) + 5 * (tree.length : Int) + 4 * (events.length : Int) + 1 * (told.length : Int) + 1 * (work.length : Int) := by dsimp only at h4; lia
  refine Test.lss (fun j4 => ?_) (fun j4 => ?_) <;> (cbv; repeat (refine Later.mk ?_; cbv))
  · exfalso; lia
  refine ACall.int (dp := false) (heldTimers_c S ⟨heap, list, next⟩ q4 (by lia) (by dsimp only; lia) (by have e := g_heap; refine e.trans ?_; congr 1; lia) (by have e := g_list; refine e.trans ?_; congr 1; lia)) .go rfl (fun q5 h5 => ?_); (cbv; repeat (refine Later.mk ?_; cbv))
  replace h5 : q5 = k + 3 * (sumBy List.length progs : Int) + 5 * (tree.length : Int) + 4 * (events.length : Int) + 1 * (told.length : Int) + 1 * (work.length : Int) + 3 * (heap.length : Int) + 5 * (list.length : Int) := by dsimp only at h5; lia
  refine Test.lss (fun j5 => ?_) (fun j5 => ?_) <;> (cbv; repeat (refine Later.mk ?_; cbv))
  · exfalso; lia
  refine ACall.int (dp := false) (heldAfters_c S ⟨⟨ages, used⟩, alist⟩ q5 (by lia) (by dsimp only; lia) (by have e := g_ages; refine e.trans ?_; congr 1; lia) (by have e := g_used; refine e.trans ?_; congr 1; lia) (by have e := g_alist; refine e.trans ?_; congr 1; lia)) .go rfl (fun q6 h6 => ?_); (cbv; repeat (refine Later.mk ?_; cbv))
  replace h6 : q6 = k + 3 * (sumBy List.length progs : Int) + 5 * (tree.length : Int) + 4 * (events.length : Int) + 1 * (told.length : Int) + 1 * (work.length : Int) + 3 * (heap.length : Int) + 5 * (list.length : Int) + 1 * (ages.length : Int) + 1 * (used.length : Int) + 5 * (alist.length : Int) := by dsimp only at h6; lia
  refine Test.lss (fun j6 => ?_) (fun j6 => ?_) <;> (cbv; repeat (refine Later.mk ?_; cbv))
  · exfalso; lia
  refine ACall.int (dp := false) (heldTaskS_c S tasks q6 (by lia) (by lia) (marks_of (by have e := g_tasks; refine e.trans ?_; congr 1; lia))) .go rfl (fun q7 h7 => ?_); (cbv; repeat (refine Later.mk ?_; cbv))
  replace h7 : q7 = k + 3 * (sumBy List.length progs : Int) + 5 * (tree.length : Int) + 4 * (events.length : Int) + 1 * (told.length : Int) + 1 * (work.length : Int) + 3 * (heap.length : Int) + 5 * (list.length : Int) + 1 * (ages.length : Int) + 1 * (used.length : Int) + 5 * (alist.length : Int) + 9 * (tasks.length : Int) := by lia
  refine Test.lss (fun j7 => ?_) (fun j7 => ?_) <;> (cbv; repeat (refine Later.mk ?_; cbv))
  · exfalso; lia
  refine ACall.int (dp := false) (heldGroupS_c S groups q7 (by lia) (by lia) (by have e := g_groups; refine e.trans ?_; congr 1; lia)) .go rfl (fun q8 h8 => ?_); (cbv; repeat (refine Later.mk ?_; cbv))
  replace h8 : q8 = k + 3 * (sumBy List.length progs : Int) + 5 * (tree.length : Int) + 4 * (events.length : Int) + 1 * (told.length : Int) + 1 * (work.length : Int) + 3 * (heap.length : Int) + 5 * (list.length : Int) + 1 * (ages.length : Int) + 1 * (used.length : Int) + 5 * (alist.length : Int) + 9 * (tasks.length : Int) + 1 * (sumBy wl groups : Int) := by lia
  refine Test.lss (fun j8 => ?_) (fun j8 => ?_) <;> (cbv; repeat (refine Later.mk ?_; cbv))
  · exfalso; lia
  refine ACall.int (dp := false) (heldSightS_c S sights q8 (by lia) (by lia) (marks_of (by have e := g_sights; refine e.trans ?_; congr 1; lia))) .go rfl (fun q9 h9 => ?_); (cbv; repeat (refine Later.mk ?_; cbv))
  replace h9 : q9 = k + 3 * (sumBy List.length progs : Int) + 5 * (tree.length : Int) + 4 * (events.length : Int) + 1 * (told.length : Int) + 1 * (work.length : Int) + 3 * (heap.length : Int) + 5 * (list.length : Int) + 1 * (ages.length : Int) + 1 * (used.length : Int) + 5 * (alist.length : Int) + 9 * (tasks.length : Int) + 1 * (sumBy wl groups : Int) + 4 * (sights.length : Int) := by lia
  refine Test.lss (fun j9 => ?_) (fun j9 => ?_) <;> (cbv; repeat (refine Later.mk ?_; cbv))
  · exfalso; lia
  refine ACall.int (dp := false) (heldInt64S_c S began q9 (by lia) (by lia) (marks_of (by have e := g_began; refine e.trans ?_; congr 1; lia))) .go rfl (fun q10 h10 => ?_); (cbv; repeat (refine Later.mk ?_; cbv))
  replace h10 : q10 = k + 3 * (sumBy List.length progs : Int) + 5 * (tree.length : Int) + 4 * (events.length : Int) + 1 * (told.length : Int) + 1 * (work.length : Int) + 3 * (heap.length : Int) + 5 * (list.length : Int) + 1 * (ages.length : Int) + 1 * (used.length : Int) + 5 * (alist.length : Int) + 9 * (tasks.length : Int) + 1 * (sumBy wl groups : Int) + 4 * (sights.length : Int) + 1 * (began.length : Int) := by lia
  refine Test.lss (fun j10 => ?_) (fun j10 => ?_) <;> (cbv; repeat (refine Later.mk ?_; cbv))
  · exfalso; lia
  refine ACall.int (dp := false) (heldInt64S_c S rang q10 (by lia) (by lia) (marks_of (by have e := g_rang; refine e.trans ?_; congr 1; lia))) .go rfl (fun q11 h11 => ?_); (cbv; repeat (refine Later.mk ?_; cbv))
  replace h11 : q11 = k + 3 * (sumBy List.length progs : Int) + 5 * (tree.length : Int) + 4 * (events.length : Int) + 1 * (told.length : Int) + 1 * (work.length : Int) + 3 * (heap.length : Int) + 5 * (list.length : Int) + 1 * (ages.length : Int) + 1 * (used.length : Int) + 5 * (alist.length : Int) + 9 * (tasks.length : Int) + 1 * (sumBy wl groups : Int) + 4 * (sights.length : Int) + 1 * (began.length : Int) + 1 * (rang.length : Int) := by lia
  refine Test.lss (fun j11 => ?_) (fun j11 => ?_) <;> (cbv; repeat (refine Later.mk ?_; cbv))
  · exfalso; lia
  exact Done.to (.int .i64 q11) [] rfl rfl trivial ⟨by rw [h11]; simp only [World.k1, World.k2, World.k3, World.k4, World.k5, World.k6, World.k7, World.k8, World.k9, World.k10, World.k11, World.k12, World.k13, World.k14, World.k15], rfl⟩

end Go.Proofs.YtihfpbhalnedcaaGreat.AM
