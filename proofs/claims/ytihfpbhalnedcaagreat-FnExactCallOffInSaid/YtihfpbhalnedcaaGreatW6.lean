/- Contracts: valid worlds, as specified. (printed by gw6.py) -/
import Derived.Test.YtihfpbhalnedcaaGreatW3
import Derived.Test.YtihfpbhalnedcaaGreatW5
import Derived.Test.YtihfpbhalnedcaaGreatQA
import Derived.Test.YtihfpbhalnedcaaGreatEB
import Derived.Test.YtihfpbhalnedcaaGreatHA
set_option linter.unusedVariables false
set_option linter.unusedSimpArgs false
namespace Go.Proofs.YtihfpbhalnedcaaGreat.AM
open Go Go.Proofs

set_option maxRecDepth 100000
set_option maxHeartbeats 4000000

variable {P : Program} {A : Sy}

instance (l : List Task) : Decidable (TasksOk l) := by unfold TasksOk; infer_instance

def TimerFits (tree : List Node) (tasks : List Task) (x : Timer) : Prop := (x.what = 0 -> 0 <= x.whom /\ x.whom.toNat < tree.length) /\ (x.what = 1 -> 0 <= x.whom /\ x.whom.toNat < tasks.length)
instance (tree : List Node) (tasks : List Task) (x : Timer) : Decidable (TimerFits tree tasks x) := by unfold TimerFits; infer_instance
def progLen (progs : List (List Ins)) (n : Int) : Int := match progs[n.toNat]? with
  | some p => (p.length : Int)
  | none => -1
def TaskFits (progs : List (List Ins)) (tree : List Node) (groups : List Group) (t : Task) : Prop :=
  (0 <= t.prog /\ t.prog.toNat < progs.length) /\ t.pc <= progLen progs t.prog /\ (-1 <= t.group /\ t.group < groups.length) /\ (t.why = 1 ∨ t.why = 2 -> 0 <= t.what /\ t.what.toNat < tree.length) /\ (t.why = 3 ∨ t.why = 4 -> 0 <= t.what /\ t.what.toNat < groups.length)
instance (progs : List (List Ins)) (tree : List Node) (groups : List Group) (t : Task) : Decidable (TaskFits progs tree groups t) := by unfold TaskFits; infer_instance
def kindAt (tree : List Node) (n : Int) : Int := match tree[n.toNat]? with
  | some x => x.kind
  | none => -1
def GroupFits (tree : List Node) (tasks : List Task) (g : Group) : Prop := GroupOk g /\ g.node.toNat < tree.length /\ kindAt tree g.node = 1 /\ ∀ n ∈ g.waits, 0 <= n /\ n.toNat < tasks.length
instance (tree : List Node) (tasks : List Task) (g : Group) : Decidable (GroupFits tree tasks g) := by unfold GroupFits; infer_instance
def SightFits (tree : List Node) (events : List Event) (s : Sight) : Prop := (0 <= s.node /\ s.node.toNat < tree.length) /\ (0 <= s.at_ /\ s.at_ <= events.length) /\ ((s.err = 1 /\ 0 <= s.cause /\ s.cause <= 999) ∨ ((s.err = 0 ∨ s.err = 2) /\ s.cause = 0))
instance (tree : List Node) (events : List Event) (s : Sight) : Decidable (SightFits tree events s) := by unfold SightFits; infer_instance

def WorldOk (w : World) : Prop :=
  0 <= w.now /\ (w.progs.length <= 8 /\ ∀ p ∈ w.progs, ProgOk p) /\ EventsOk w.tree w.events /\ SpreadIs w.tree w.spread /\ (∀ e ∈ w.events, 0 <= e.time /\ e.time <= w.now) /\
  (TimersOk w.timers /\ ∀ x ∈ w.timers.list, TimerFits w.tree w.tasks x) /\ (AftersOk w.afters /\ ∀ x ∈ w.afters.list, 0 <= x.node /\ x.node.toNat < w.tree.length) /\
  (TasksOk w.tasks /\ ∀ t ∈ w.tasks, TaskFits w.progs w.tree w.groups t) /\ (w.groups.length <= 8 /\ ∀ g ∈ w.groups, GroupFits w.tree w.tasks g) /\
  (w.sights.length <= 2000 /\ ∀ s ∈ w.sights, SightFits w.tree w.events s) /\ (w.began.length <= 2000 /\ ∀ n ∈ w.began, 0 <= n /\ n <= 99) /\ (w.rang.length <= 2000 /\ ∀ n ∈ w.rang, 0 <= n /\ n <= 99)
instance (w : World) : Decidable (WorldOk w) := by unfold WorldOk; infer_instance

theorem l13Node_c (S : Se P A) (now : Int) (progs : List (List Ins)) (tree : List Node) (events : List Event) (told : List Bool) (work : List Int) (heap : List Twig) (list : List Timer) (next : Int) (ages : List Int) (used : List Bool) (alist : List After) (tasks : List Task) (groups : List Group) (sights : List Sight) (began rang : List Int) (n : Int) : Tests P 98 [.agg (roWorld A ⟨now, progs, tree, events, ⟨told, work⟩, ⟨heap, list, next⟩, ⟨⟨ages, used⟩, alist⟩, tasks, groups, sights, began, rang⟩), .int .i64 n] (0 <= n /\ n.toNat < tree.length) := by
  refine S.cx.by (S.prog ▸ Tryz.func98) rfl rfl rfl rfl (fun hv ho => ?_)
  cbv
  refine LenR.nat S.cx (fun N hN hm => ?_); cbv
  refine Arith.go (by lia) (fun z hz => ?_); replace hz : z = N - 1 := hz; cbv
  refine ACall.testD (dp := false) (l1In_c S n 0 z) .go rfl (fun h => ?_) (fun h => ?_) <;> cbv
  · exact Done.yes (by omega)
  · exact Done.no (by omega)

theorem l13Task_c (S : Se P A) (now : Int) (progs : List (List Ins)) (tree : List Node) (events : List Event) (told : List Bool) (work : List Int) (heap : List Twig) (list : List Timer) (next : Int) (ages : List Int) (used : List Bool) (alist : List After) (tasks : List Task) (groups : List Group) (sights : List Sight) (began rang : List Int) (n : Int) : Tests P 215 [.agg (roWorld A ⟨now, progs, tree, events, ⟨told, work⟩, ⟨heap, list, next⟩, ⟨⟨ages, used⟩, alist⟩, tasks, groups, sights, began, rang⟩), .int .i64 n] (0 <= n /\ n.toNat < tasks.length) := by
  refine S.cx.by (S.prog ▸ Tryz.func215) rfl rfl rfl rfl (fun hv ho => ?_)
  cbv
  refine LenR.nat S.cx (fun N hN hm => ?_); cbv
  refine Arith.go (by lia) (fun z hz => ?_); replace hz : z = N - 1 := hz; cbv
  refine ACall.testD (dp := false) (l1In_c S n 0 z) .go rfl (fun h => ?_) (fun h => ?_) <;> cbv
  · exact Done.yes (by omega)
  · exact Done.no (by omega)

theorem l13Group_c (S : Se P A) (now : Int) (progs : List (List Ins)) (tree : List Node) (events : List Event) (told : List Bool) (work : List Int) (heap : List Twig) (list : List Timer) (next : Int) (ages : List Int) (used : List Bool) (alist : List After) (tasks : List Task) (groups : List Group) (sights : List Sight) (began rang : List Int) (n : Int) : Tests P 46 [.agg (roWorld A ⟨now, progs, tree, events, ⟨told, work⟩, ⟨heap, list, next⟩, ⟨⟨ages, used⟩, alist⟩, tasks, groups, sights, began, rang⟩), .int .i64 n] (0 <= n /\ n.toNat < groups.length) := by
  refine S.cx.by (S.prog ▸ Tryz.func46) rfl rfl rfl rfl (fun hv ho => ?_)
  cbv
  refine LenR.nat S.cx (fun N hN hm => ?_); cbv
  refine Arith.go (by lia) (fun z hz => ?_); replace hz : z = N - 1 := hz; cbv
  refine ACall.testD (dp := false) (l1In_c S n 0 z) .go rfl (fun h => ?_) (fun h => ?_) <;> cbv
  · exact Done.yes (by omega)
  · exact Done.no (by omega)

theorem l13Events_c (S : Se P A) (now : Int) (progs : List (List Ins)) (tree : List Node) (events : List Event) (told : List Bool) (work : List Int) (heap : List Twig) (list : List Timer) (next : Int) (ages : List Int) (used : List Bool) (alist : List After) (tasks : List Task) (groups : List Group) (sights : List Sight) (began rang : List Int) : Tests P 131 [.agg (roWorld A ⟨now, progs, tree, events, ⟨told, work⟩, ⟨heap, list, next⟩, ⟨⟨ages, used⟩, alist⟩, tasks, groups, sights, began, rang⟩)] (EventsOk tree events /\ ∀ e ∈ events, 0 <= e.time /\ e.time <= now) := by
  refine S.cx.by (S.prog ▸ Tryz.func131) rfl rfl rfl rfl (fun hv ho => ?_)
  cbv
  refine LenR.nat S.cx (fun N hN hm => ?_); cbv
  try (refine Drawn.mk ⟨by kernel_rfl, fun _ => ?_⟩)
  refine ACall.testD (dp := false) (specEventsOk_c S tree events) .go rfl (fun h => ?_) (fun h => ?_) <;> cbv
  rotate_left
  · exact Done.no (fun e => h e.1)
  refine Test.eql (fun h1 => ?_) (fun h1 => ?_) <;> cbv
  · obtain rfl := List.eq_nil_of_length_eq_zero (show events.length = 0 by omega)
    exact Done.yes ⟨h, by simp⟩
  obtain ⟨a, ha⟩ := get_of_lt (l := events) (i := 0) (by omega)
  obtain ⟨b, hb⟩ := get_of_lt (l := events) (i := events.length - 1) (by omega)
  have hin := times_in h (now := now) ha hb
  refine ElemRo.at S.cx (x := a) rfl (by decide) ha ?_; cbv
  refine Test.geq (fun h2 => ?_) (fun h2 => ?_) <;> cbv
  · refine Arith.go (by lia) (fun z hz => ?_); replace hz : z = N - 1 := hz; cbv
    refine ElemRo.at S.cx (x := b) rfl (by omega) (by rw [show z.toNat = events.length - 1 by omega]; exact hb) ?_; cbv
    refine Test.leq (fun h3 => ?_) (fun h3 => ?_) <;> cbv
    · exact Done.yes ⟨h, hin.1 ⟨h2, h3⟩⟩
    · exact Done.no (fun e => by have := hin.2 e.2; omega)
  · exact Done.no (fun e => by have := hin.2 e.2; omega)

theorem l13Timers_c (S : Se P A) (now : Int) (progs : List (List Ins)) (tree : List Node) (events : List Event) (told : List Bool) (work : List Int) (heap : List Twig) (list : List Timer) (next : Int) (ages : List Int) (used : List Bool) (alist : List After) (tasks : List Task) (groups : List Group) (sights : List Sight) (began rang : List Int) : Tests P 133 [.agg (roWorld A ⟨now, progs, tree, events, ⟨told, work⟩, ⟨heap, list, next⟩, ⟨⟨ages, used⟩, alist⟩, tasks, groups, sights, began, rang⟩)] (TimersOk ⟨heap, list, next⟩ /\ ∀ x ∈ list, TimerFits tree tasks x) := by
  refine S.cx.by (S.prog ▸ Tryz.func133) rfl rfl rfl rfl (fun hv ho => ?_)
  cbv
  refine ACall.testD (dp := false) (specTimersOk_c S heap list next) .go rfl (fun h => ?_) (fun h => ?_) <;> cbv
  rotate_left
  · exact Done.no (fun e => h e.1)
  refine ALoop.goS (ι := Int) (fun i => [(3, .int .i64 i)]) [] (fun i => []) (fun i => 0 <= i /\ Upto (fun _ x => TimerFits tree tasks x) list i) (fun i => (list.length - i).toNat) (0) S.cx.tab S.cx.mix S.eq ?_ ?_ ?_
  · exact ⟨Int.le_refl _, .zero⟩
  · (cbv; exact Less.toA [])
  rintro i ⟨h0, hu⟩
  refine Rnd.mk ?_; cbv
  refine LenR.nat S.cx (fun N hN hm => ?_); cbv
  refine Test.lss (fun h1 => ?_) (fun h1 => ?_) <;> cbv
  rotate_left
  · exact Done.yes ⟨h, hu.mem (by lia)⟩
  refine ElemRo.enc S.cx (fun _ => rfl) (by lia) (by lia) (fun x hx => ?_); cbv
  have hgo : ∀ i', i' = i + 1 -> TimerFits tree tasks x -> 0 <= i' /\ Upto (fun _ x => TimerFits tree tasks x) list i' := fun i' hi' hf => ⟨by omega, hu.next h0 hx hf hi'⟩
  have hno : ¬ TimerFits tree tasks x -> ¬ (TimersOk ⟨heap, list, next⟩ /\ ∀ x ∈ list, TimerFits tree tasks x) := fun hn e => hn (e.2 x (mem_at hx))
  obtain ⟨seq, due, what, whom, armed⟩ := x
  simp only [TimerFits] at hgo hno
  cbv
  refine Test.eql (fun h2 => ?_) (fun h2 => ?_) <;> cbv
  · refine ACall.testD (dp := false) (l13Node_c S now progs tree events told work heap list next ages used alist tasks groups sights began rang whom) .go rfl (fun h3 => ?_) (fun h3 => ?_) <;> cbv
    · refine Test.eql (fun h4 => ?_) (fun h4 => ?_) <;> cbv
      · exact absurd (h2.symm.trans h4) (by decide)
      · refine Arith.go (by lia) (fun i' hi' => ?_); cbv
        refine Again.on i' (by lia) (hgo i' hi' ⟨fun _ => h3, fun e => absurd e h4⟩) ?_
        (cbv; exact Less.toA [])
    · exact Done.no (hno fun e => h3 (e.1 h2))
  · refine Test.eql (fun h4 => ?_) (fun h4 => ?_) <;> cbv
    · refine ACall.testD (dp := false) (l13Task_c S now progs tree events told work heap list next ages used alist tasks groups sights began rang whom) .go rfl (fun h3 => ?_) (fun h3 => ?_) <;> cbv
      · refine Arith.go (by lia) (fun i' hi' => ?_); cbv
        refine Again.on i' (by lia) (hgo i' hi' ⟨fun e => absurd e h2, fun _ => h3⟩) ?_
        (cbv; exact Less.toA [])
      · exact Done.no (hno fun e => h3 (e.2 h4))
    · refine Arith.go (by lia) (fun i' hi' => ?_); cbv
      refine Again.on i' (by lia) (hgo i' hi' ⟨fun e => absurd e h2, fun e => absurd e h4⟩) ?_
      (cbv; exact Less.toA [])

theorem l13Afters_c (S : Se P A) (now : Int) (progs : List (List Ins)) (tree : List Node) (events : List Event) (told : List Bool) (work : List Int) (heap : List Twig) (list : List Timer) (next : Int) (ages : List Int) (used : List Bool) (alist : List After) (tasks : List Task) (groups : List Group) (sights : List Sight) (began rang : List Int) : Tests P 134 [.agg (roWorld A ⟨now, progs, tree, events, ⟨told, work⟩, ⟨heap, list, next⟩, ⟨⟨ages, used⟩, alist⟩, tasks, groups, sights, began, rang⟩)] (AftersOk ⟨⟨ages, used⟩, alist⟩ /\ ∀ x ∈ alist, 0 <= x.node /\ x.node.toNat < tree.length) := by
  refine S.cx.by (S.prog ▸ Tryz.func134) rfl rfl rfl rfl (fun hv ho => ?_)
  cbv
  refine ALoop.goS (ι := Int) (fun i => [(3, .int .i64 i)]) [] (fun i => []) (fun i => 0 <= i /\ Upto (fun _ x => 0 <= x.node /\ x.node.toNat < tree.length) alist i) (fun i => (alist.length - i).toNat) (0) S.cx.tab S.cx.mix S.eq ?_ ?_ ?_
  · exact ⟨Int.le_refl _, .zero⟩
  · (cbv; exact Less.toA [])
  rintro i ⟨h0, hu⟩
  refine Rnd.mk ?_; cbv
  refine LenR.nat S.cx (fun N hN hm => ?_); cbv
  refine Test.lss (fun h1 => ?_) (fun h1 => ?_) <;> cbv
  · try (refine Drawn.mk ⟨by kernel_rfl, fun _ => ?_⟩)
    refine ElemRo.enc S.cx (fun _ => rfl) (by lia) (by lia) (fun x hx => ?_); cbv
    refine ACall.testD (dp := false) (l13Node_c S now progs tree events told work heap list next ages used alist tasks groups sights began rang x.node) .go rfl (fun h3 => ?_) (fun h3 => ?_) <;> cbv
    · refine Arith.go (by lia) (fun i' hi' => ?_); cbv
      refine Again.on i' (by lia) ⟨by lia, hu.next h0 hx h3 hi'⟩ ?_
      (cbv; exact Less.toA [])
    · exact Done.no (fun e => h3 (e.2 x (mem_at hx)))
  have hu := hu.mem (by lia)
  refine ACall.testD (dp := false) (specAftersOk_c S ages used alist) .go rfl (fun h => ?_) (fun h => ?_) <;> cbv
  · exact Done.yes ⟨h, hu⟩
  · exact Done.no (fun e => h e.1)

theorem progLen_at {progs : List (List Ins)} {n : Int} {p : List Ins} (h : progs[n.toNat]? = some p) : progLen progs n = (p.length : Int) := by unfold progLen; rw [h]
theorem kindAt_at {tree : List Node} {n : Int} {x : Node} (h : tree[n.toNat]? = some x) : kindAt tree n = x.kind := by unfold kindAt; rw [h]

theorem l13Tasks_c (S : Se P A) (now : Int) (progs : List (List Ins)) (tree : List Node) (events : List Event) (told : List Bool) (work : List Int) (heap : List Twig) (list : List Timer) (next : Int) (ages : List Int) (used : List Bool) (alist : List After) (tasks : List Task) (groups : List Group) (sights : List Sight) (began rang : List Int) : Tests P 135 [.agg (roWorld A ⟨now, progs, tree, events, ⟨told, work⟩, ⟨heap, list, next⟩, ⟨⟨ages, used⟩, alist⟩, tasks, groups, sights, began, rang⟩)] (TasksOk tasks /\ ∀ t ∈ tasks, TaskFits progs tree groups t) := by
  refine S.cx.by (S.prog ▸ Tryz.func135) rfl rfl rfl rfl (fun hv ho => ?_)
  cbv
  have hpl := ((hv (.agg (roWorld A ⟨now, progs, tree, events, ⟨told, work⟩, ⟨heap, list, next⟩, ⟨⟨ages, used⟩, alist⟩, tasks, groups, sights, began, rang⟩)) (by simp)).agg (v := .ro (A.enc (roProg A) progs)) (by simp [roWorld])).len
  have hgl := ((hv (.agg (roWorld A ⟨now, progs, tree, events, ⟨told, work⟩, ⟨heap, list, next⟩, ⟨⟨ages, used⟩, alist⟩, tasks, groups, sights, began, rang⟩)) (by simp)).agg (v := .ro (A.enc (roGroup A) groups)) (by simp [roWorld])).len
  rw [S.cx.lenE'] at hpl hgl
  simp only [maxLen] at hpl hgl
  refine ACall.testD (dp := false) (specTasksOk_c S tasks) .go rfl (fun h => ?_) (fun h => ?_) <;> cbv
  rotate_left
  · exact Done.no (fun e => h e.1)
  refine ALoop.goS (ι := Int) (fun i => [(3, .int .i64 i)]) [] (fun i => []) (fun i => 0 <= i /\ Upto (fun _ x => TaskFits progs tree groups x) tasks i) (fun i => (tasks.length - i).toNat) (0) S.cx.tab S.cx.mix S.eq ?_ ?_ ?_
  · exact ⟨Int.le_refl _, .zero⟩
  · (cbv; exact Less.toA [])
  rintro i ⟨h0, hu⟩
  refine Rnd.mk ?_; cbv
  refine LenR.nat S.cx (fun N hN hm => ?_); cbv
  refine Test.lss (fun h1 => ?_) (fun h1 => ?_) <;> cbv
  rotate_left
  · exact Done.yes ⟨h, hu.mem (by lia)⟩
  refine ElemRo.enc S.cx (fun _ => rfl) (by lia) (by lia) (fun x hx => ?_); cbv
  have hok := h.2 x (mem_at hx)
  have hgo : ∀ i', i' = i + 1 -> TaskFits progs tree groups x -> 0 <= i' /\ Upto (fun _ x => TaskFits progs tree groups x) tasks i' := fun i' hi' hf => ⟨by omega, hu.next h0 hx hf hi'⟩
  have hno : ¬ TaskFits progs tree groups x -> ¬ (TasksOk tasks /\ ∀ t ∈ tasks, TaskFits progs tree groups t) := fun hn e => hn (e.2 x (mem_at hx))
  obtain ⟨prog, pc, state, why, what, timer, reg, group, err⟩ := x
  have hp0 : 0 <= prog := hok.1.1
  have hg0 : -1 <= group := hok.2.2.2.1.1
  clear hok
  simp only [TaskFits] at hgo hno
  cbv
  try (refine Drawn.mk ⟨by kernel_rfl, fun _ => ?_⟩)
  refine LenR.natD S.cx (by omega) (fun M hM => ?_); cbv
  refine Test.geq (fun h2 => ?_) (fun h2 => ?_) <;> cbv
  · exact Done.no (hno fun e => by have := e.1; omega)
  obtain ⟨p, hp⟩ := get_of_lt (l := progs) (i := prog.toNat) (by omega)
  rw [progLen_at hp] at hgo hno
  refine ElemRo.at S.cx (x := p) rfl hp0 hp ?_; cbv
  have hplen := (AV.real.cell (r := roProg A p) (v := .ro (A.enc cIns p)) ((hv (.agg (roWorld A ⟨now, progs, tree, events, ⟨told, work⟩, ⟨heap, list, next⟩, ⟨⟨ages, used⟩, alist⟩, tasks, groups, sights, began, rang⟩)) (by simp)).agg (v := .ro (A.enc (roProg A) progs)) (by simp [roWorld])) (by rw [S.cx.enc]; exact List.mem_map_of_mem (mem_at hp)) (by simp [roProg])).len
  rw [S.cx.lenE'] at hplen
  simp only [maxLen] at hplen
  refine LenR.natD S.cx (by omega) (fun L hL => ?_); cbv
  refine Test.gtr (fun h3 => ?_) (fun h3 => ?_) <;> cbv
  · exact Done.no (hno fun e => by have := e.2.1; lia)
  refine LenR.natD S.cx (by omega) (fun G hG => ?_); cbv
  refine Test.geq (fun h4 => ?_) (fun h4 => ?_) <;> cbv
  · exact Done.no (hno fun e => by have := e.2.2.1; lia)
  have h12 : (0 <= prog /\ prog.toNat < progs.length) /\ pc <= (p.length : Int) /\ (-1 <= group /\ group < groups.length) := ⟨by omega, by lia, by lia⟩
  replace hgo : ∀ i', i' = i + 1 -> (why = 1 ∨ why = 2 -> 0 <= what /\ what.toNat < tree.length) /\ (why = 3 ∨ why = 4 -> 0 <= what /\ what.toNat < groups.length) -> 0 <= i' /\ Upto (fun _ x => TaskFits progs tree groups x) tasks i' := fun i' hi' hf => hgo i' hi' ⟨h12.1, h12.2.1, h12.2.2, hf⟩
  replace hno : ¬ ((why = 1 ∨ why = 2 -> 0 <= what /\ what.toNat < tree.length) /\ (why = 3 ∨ why = 4 -> 0 <= what /\ what.toNat < groups.length)) -> ¬ (TasksOk tasks /\ ∀ t ∈ tasks, TaskFits progs tree groups t) := fun hn => hno fun e => hn e.2.2.2
  clear hv ho hpl hgl hplen h12 hM hL hG h2 h3 h4 hp hx
  repeat' (first
    | (refine ACall.testD (dp := false) (l13Node_c S now progs tree events told work heap list next ages used alist tasks groups sights began rang what) ⟨rfl, (by repeat' (first | exact trivial | exact rfl | refine ⟨?_, ?_⟩)), trivial⟩ rfl (fun _ => ?_) (fun _ => ?_) <;> cbv)
    | (refine ACall.testD (dp := false) (l13Group_c S now progs tree events told work heap list next ages used alist tasks groups sights began rang what) ⟨rfl, (by repeat' (first | exact trivial | exact rfl | refine ⟨?_, ?_⟩)), trivial⟩ rfl (fun _ => ?_) (fun _ => ?_) <;> cbv)
    | (refine Test.eql (fun _ => ?_) (fun _ => ?_) <;> first | (exfalso; omega) | cbv)
    | exact Done.no (hno (by omega))
    | (refine Arith.go (by lia) (fun i' hi' => ?_); cbv
       refine Again.on i' (by lia) (hgo i' hi' (by omega)) ?_
       (cbv; exact Less.toA [])))

theorem l13Groups_c (S : Se P A) (now : Int) (progs : List (List Ins)) (tree : List Node) (events : List Event) (told : List Bool) (work : List Int) (heap : List Twig) (list : List Timer) (next : Int) (ages : List Int) (used : List Bool) (alist : List After) (tasks : List Task) (groups : List Group) (sights : List Sight) (began rang : List Int) : Tests P 136 [.agg (roWorld A ⟨now, progs, tree, events, ⟨told, work⟩, ⟨heap, list, next⟩, ⟨⟨ages, used⟩, alist⟩, tasks, groups, sights, began, rang⟩)] (groups.length <= 8 /\ ∀ g ∈ groups, GroupFits tree tasks g) := by
  refine S.cx.by (S.prog ▸ Tryz.func136) rfl rfl rfl rfl (fun hv ho => ?_)
  cbv
  refine ALoop.goS (ι := Int) (fun i => [(3, .int .i64 i)]) [] (fun i => []) (fun i => 0 <= i /\ Upto (fun _ x => GroupFits tree tasks x) groups i) (fun i => (groups.length - i).toNat) (0) S.cx.tab S.cx.mix S.eq ?_ ?_ ?_
  · exact ⟨Int.le_refl _, .zero⟩
  · (cbv; exact Less.toA [])
  rintro i ⟨h0, hu⟩
  refine Rnd.mk ?_; cbv
  refine LenR.nat S.cx (fun N hN hm => ?_); cbv
  refine Test.lss (fun h1 => ?_) (fun h1 => ?_) <;> cbv
  rotate_left
  · have hu := hu.mem (by lia)
    refine LenR.nat S.cx (fun M hM hm2 => ?_); cbv
    refine Test.leq (fun h2 => ?_) (fun h2 => ?_) <;> cbv
    · exact Done.yes ⟨by omega, hu⟩
    · exact Done.no (fun e => by have := e.1; omega)
  refine ElemRo.enc S.cx (fun _ => rfl) (by lia) (by lia) (fun x hx => ?_); cbv
  have hgo : ∀ i', i' = i + 1 -> GroupFits tree tasks x -> 0 <= i' /\ Upto (fun _ x => GroupFits tree tasks x) groups i' := fun i' hi' hf => ⟨by omega, hu.next h0 hx hf hi'⟩
  have hno : ¬ GroupFits tree tasks x -> ¬ (groups.length <= 8 /\ ∀ g ∈ groups, GroupFits tree tasks g) := fun hn e => hn (e.2 x (mem_at hx))
  obtain ⟨node, limit, active, waits, first⟩ := x
  simp only [GroupFits] at hgo hno
  cbv
  refine ACall.testD (dp := false) (specGroupOk_c S node limit active waits first) .go rfl (fun h2 => ?_) (fun h2 => ?_) <;> cbv
  rotate_left
  · exact Done.no (hno fun e => h2 e.1)
  refine ACall.testD (dp := false) (l13Node_c S now progs tree events told work heap list next ages used alist tasks groups sights began rang node) .go rfl (fun h3 => ?_) (fun h3 => ?_) <;> cbv
  rotate_left
  · exact Done.no (hno fun e => h3 ⟨h2.1.1, e.2.1⟩)
  obtain ⟨y, hy⟩ := get_of_lt h3.2
  rw [kindAt_at hy] at hgo hno
  refine ElemRo.at S.cx (x := y) rfl h3.1 hy ?_; cbv
  refine Test.neq (fun h4 => ?_) (fun h4 => ?_) <;> cbv
  · exact Done.no (hno fun e => h4 e.2.2.1)
  refine ALoop.goS (ι := Int) (fun i => [(5, .int .i64 i)]) [] (fun i => []) (fun i => 0 <= i /\ Upto (fun _ n => 0 <= n /\ n.toNat < tasks.length) waits i) (fun i => (waits.length - i).toNat) (0) S.cx.tab S.cx.mix S.eq ?_ ?_ ?_
  · exact ⟨Int.le_refl _, .zero⟩
  · (cbv; exact Less.toA [])
  rintro k ⟨k0, ku⟩
  refine Rnd.mk ?_; cbv
  refine LenR.nat S.cx (fun M hM hm2 => ?_); cbv
  refine Test.lss (fun h5 => ?_) (fun h5 => ?_) <;> cbv
  · try (refine Drawn.mk ⟨by kernel_rfl, fun _ => ?_⟩)
    refine ElemRo.enc S.cx (fun _ => rfl) (by lia) (by lia) (fun n hn => ?_); cbv
    refine ACall.testD (dp := false) (l13Task_c S now progs tree events told work heap list next ages used alist tasks groups sights began rang n) .go rfl (fun h6 => ?_) (fun h6 => ?_) <;> cbv
    · refine Arith.go (by lia) (fun k' hk' => ?_); cbv
      refine Again.on k' (by lia) ⟨by lia, ku.next k0 hn h6 hk'⟩ ?_
      (cbv; exact Less.toA [])
    · exact Done.no (hno fun e => h6 (e.2.2.2 n (mem_at hn)))
  have hin : 0 <= i /\ i < N /\ N <= 9223372036854775807 := ⟨h0, h1, by omega⟩
  have kin : ((waits.length : Nat) : Int) <= k := by omega
  refine Arith.go (by clear hno hgo ku hu hv ho; omega) (fun i' hi' => ?_); cbv
  replace hi' : i' = i + 1 := hi'
  refine Again.on i' (by clear hno hgo ku hu hv ho; lia) (hgo i' hi' ⟨h2, h3.2, h4, ku.mem kin⟩) ?_
  (cbv; exact Less.toA [])

theorem l13Sights_c (S : Se P A) (now : Int) (progs : List (List Ins)) (tree : List Node) (events : List Event) (told : List Bool) (work : List Int) (heap : List Twig) (list : List Timer) (next : Int) (ages : List Int) (used : List Bool) (alist : List After) (tasks : List Task) (groups : List Group) (sights : List Sight) (began rang : List Int) : Tests P 137 [.agg (roWorld A ⟨now, progs, tree, events, ⟨told, work⟩, ⟨heap, list, next⟩, ⟨⟨ages, used⟩, alist⟩, tasks, groups, sights, began, rang⟩)] (sights.length <= 2000 /\ ∀ s ∈ sights, SightFits tree events s) := by
  refine S.cx.by (S.prog ▸ Tryz.func137) rfl rfl rfl rfl (fun hv ho => ?_)
  cbv
  refine ALoop.goS (ι := Int) (fun i => [(3, .int .i64 i)]) [] (fun i => []) (fun i => 0 <= i /\ Upto (fun _ x => SightFits tree events x) sights i) (fun i => (sights.length - i).toNat) (0) S.cx.tab S.cx.mix S.eq ?_ ?_ ?_
  · exact ⟨Int.le_refl _, .zero⟩
  · (cbv; exact Less.toA [])
  rintro i ⟨h0, hu⟩
  refine Rnd.mk ?_; cbv
  refine LenR.nat S.cx (fun N hN hm => ?_); cbv
  refine Test.lss (fun h1 => ?_) (fun h1 => ?_) <;> cbv
  rotate_left
  · have hu := hu.mem (by lia)
    refine LenR.nat S.cx (fun M hM hm2 => ?_); cbv
    refine Test.leq (fun h2 => ?_) (fun h2 => ?_) <;> cbv
    · exact Done.yes ⟨by omega, hu⟩
    · exact Done.no (fun e => by have := e.1; omega)
  refine ElemRo.enc S.cx (fun _ => rfl) (by lia) (by lia) (fun x hx => ?_); cbv
  have hgo : ∀ i', i' = i + 1 -> SightFits tree events x -> 0 <= i' /\ Upto (fun _ x => SightFits tree events x) sights i' := fun i' hi' hf => ⟨by omega, hu.next h0 hx hf hi'⟩
  have hno : ¬ SightFits tree events x -> ¬ (sights.length <= 2000 /\ ∀ g ∈ sights, SightFits tree events g) := fun hn e => hn (e.2 x (mem_at hx))
  obtain ⟨node, err, cause, at_⟩ := x
  simp only [SightFits] at hgo hno
  cbv
  clear hv ho hx
  refine ACall.testD (dp := false) (l13Node_c S now progs tree events told work heap list next ages used alist tasks groups sights began rang node) .go rfl (fun h2 => ?_) (fun h2 => ?_) <;> cbv
  rotate_left
  · exact Done.no (hno fun e => h2 e.1)
  refine LenR.nat S.cx (fun M hM hm2 => ?_); cbv
  refine ACall.testD (dp := false) (l1In_c S at_ 0 M) .go rfl (fun h3 => ?_) (fun h3 => ?_) <;> cbv
  rotate_left
  · exact Done.no (hno fun e => h3 (by have := e.2.1; lia))
  have h3 : 0 <= at_ /\ at_ <= (events.length : Int) := by lia
  replace hgo : ∀ i', i' = i + 1 -> ((err = 1 /\ 0 <= cause /\ cause <= 999) ∨ ((err = 0 ∨ err = 2) /\ cause = 0)) -> 0 <= i' /\ Upto (fun _ x => SightFits tree events x) sights i' := fun i' hi' hf => hgo i' hi' ⟨h2, h3, hf⟩
  replace hno : ¬ ((err = 1 /\ 0 <= cause /\ cause <= 999) ∨ ((err = 0 ∨ err = 2) /\ cause = 0)) -> ¬ (sights.length <= 2000 /\ ∀ g ∈ sights, SightFits tree events g) := fun hn => hno fun e => hn e.2.2
  repeat' (first
    | (refine ACall.testD (dp := false) (l1In_c S _ _ _) ⟨rfl, (by repeat' (first | exact trivial | exact rfl | refine ⟨?_, ?_⟩)), trivial⟩ rfl (fun _ => ?_) (fun _ => ?_) <;> cbv)
    | (refine Test.eql (fun _ => ?_) (fun _ => ?_) <;> first | (exfalso; omega) | cbv)
    | (refine Test.neq (fun _ => ?_) (fun _ => ?_) <;> first | (exfalso; omega) | cbv)
    | exact Done.no (hno (by omega))
    | (refine Arith.go (by lia) (fun i' hi' => ?_); cbv
       refine Again.on i' (by lia) (hgo i' hi' (by omega)) ?_
       (cbv; exact Less.toA [])))

theorem specWorldOk_c (S : Se P A) (now : Int) (progs : List (List Ins)) (tree : List Node) (events : List Event) (told : List Bool) (work : List Int) (heap : List Twig) (list : List Timer) (next : Int) (ages : List Int) (used : List Bool) (alist : List After) (tasks : List Task) (groups : List Group) (sights : List Sight) (began rang : List Int) : Tests P 44 [.agg (roWorld A ⟨now, progs, tree, events, ⟨told, work⟩, ⟨heap, list, next⟩, ⟨⟨ages, used⟩, alist⟩, tasks, groups, sights, began, rang⟩)] (WorldOk ⟨now, progs, tree, events, ⟨told, work⟩, ⟨heap, list, next⟩, ⟨⟨ages, used⟩, alist⟩, tasks, groups, sights, began, rang⟩) := by
  refine S.cx.by (S.prog ▸ Tryz.func44) rfl rfl rfl rfl (fun hv ho => ?_)
  cbv
  have key : WorldOk ⟨now, progs, tree, events, ⟨told, work⟩, ⟨heap, list, next⟩, ⟨⟨ages, used⟩, alist⟩, tasks, groups, sights, began, rang⟩ ↔ 0 <= now /\ (progs.length <= 8 /\ ∀ p ∈ progs, ProgOk p) /\ (EventsOk tree events /\ ∀ e ∈ events, 0 <= e.time /\ e.time <= now) /\ SpreadOk tree ⟨told, work⟩ /\ (TimersOk ⟨heap, list, next⟩ /\ ∀ x ∈ list, TimerFits tree tasks x) /\
      (AftersOk ⟨⟨ages, used⟩, alist⟩ /\ ∀ x ∈ alist, 0 <= x.node /\ x.node.toNat < tree.length) /\ (TasksOk tasks /\ ∀ t ∈ tasks, TaskFits progs tree groups t) /\ (groups.length <= 8 /\ ∀ g ∈ groups, GroupFits tree tasks g) /\ (sights.length <= 2000 /\ ∀ s ∈ sights, SightFits tree events s) /\
      (began.length <= 2000 /\ ∀ n ∈ began, 0 <= n /\ n <= 99) /\ (rang.length <= 2000 /\ ∀ n ∈ rang, 0 <= n /\ n <= 99) :=
    ⟨fun ⟨h1, h2, h3, h4, h5, h6, h7, h8, h9, h10, h11, h12⟩ => ⟨h1, h2, ⟨h3, h5⟩, ⟨h3.1, h4⟩, h6, h7, h8, h9, h10, h11, h12⟩,
     fun ⟨h1, h2, ⟨h3, h5⟩, h4, h6, h7, h8, h9, h10, h11, h12⟩ => ⟨h1, h2, h3, h4.2, h5, h6, h7, h8, h9, h10, h11, h12⟩⟩
  refine Test.geq (fun g1 => ?_) (fun g1 => ?_) <;> cbv
  rotate_left
  · exact Done.no (fun e => by have := e.1; dsimp only at this; omega)
  refine ACall.testD (dp := false) (l13Progs_c S progs) .go rfl (fun g2 => ?_) (fun g2 => ?_) <;> cbv
  rotate_left
  · exact Done.no (fun e => g2 (key.1 e).2.1)
  refine ACall.testD (dp := false) (l13Events_c S now progs tree events told work heap list next ages used alist tasks groups sights began rang) .go rfl (fun g3 => ?_) (fun g3 => ?_) <;> cbv
  rotate_left
  · exact Done.no (fun e => g3 (key.1 e).2.2.1)
  refine ACall.testD (dp := false) (specSpreadOk_c S tree told work) .go rfl (fun g4 => ?_) (fun g4 => ?_) <;> cbv
  rotate_left
  · exact Done.no (fun e => g4 (key.1 e).2.2.2.1)
  refine ACall.testD (dp := false) (l13Timers_c S now progs tree events told work heap list next ages used alist tasks groups sights began rang) .go rfl (fun g5 => ?_) (fun g5 => ?_) <;> cbv
  rotate_left
  · exact Done.no (fun e => g5 (key.1 e).2.2.2.2.1)
  refine ACall.testD (dp := false) (l13Afters_c S now progs tree events told work heap list next ages used alist tasks groups sights began rang) .go rfl (fun g6 => ?_) (fun g6 => ?_) <;> cbv
  rotate_left
  · exact Done.no (fun e => g6 (key.1 e).2.2.2.2.2.1)
  refine ACall.testD (dp := false) (l13Tasks_c S now progs tree events told work heap list next ages used alist tasks groups sights began rang) .go rfl (fun g7 => ?_) (fun g7 => ?_) <;> cbv
  rotate_left
  · exact Done.no (fun e => g7 (key.1 e).2.2.2.2.2.2.1)
  refine ACall.testD (dp := false) (l13Groups_c S now progs tree events told work heap list next ages used alist tasks groups sights began rang) .go rfl (fun g8 => ?_) (fun g8 => ?_) <;> cbv
  rotate_left
  · exact Done.no (fun e => g8 (key.1 e).2.2.2.2.2.2.2.1)
  refine ACall.testD (dp := false) (l13Sights_c S now progs tree events told work heap list next ages used alist tasks groups sights began rang) .go rfl (fun g9 => ?_) (fun g9 => ?_) <;> cbv
  rotate_left
  · exact Done.no (fun e => g9 (key.1 e).2.2.2.2.2.2.2.2.1)
  refine ACall.testD (dp := false) (l13Numbers_c S began 99) .go rfl (fun g10 => ?_) (fun g10 => ?_) <;> cbv
  rotate_left
  · exact Done.no (fun e => g10 (key.1 e).2.2.2.2.2.2.2.2.2.1)
  refine ACall.testD (dp := false) (l13Numbers_c S rang 99) .go rfl (fun g11 => ?_) (fun g11 => ?_) <;> cbv
  rotate_left
  · exact Done.no (fun e => g11 (key.1 e).2.2.2.2.2.2.2.2.2.2)
  exact Done.yes (key.2 ⟨g1, g2, g3, g4, g5, g6, g7, g8, g9, g10, g11⟩)

end Go.Proofs.YtihfpbhalnedcaaGreat.AM
