/- Contracts: valid worlds, of the program. (printed by gw8.py) -/
import Derived.Test.YtihfpbhalnedcaaGreatW6
import Derived.Test.YtihfpbhalnedcaaGreatBD
set_option linter.unusedVariables false
set_option linter.unusedSimpArgs false
namespace Go.Proofs.YtihfpbhalnedcaaGreat.AM
open Go Go.Proofs

set_option maxRecDepth 100000
set_option maxHeartbeats 4000000

variable {P : Program} {A : Sy}

theorem sizeTaskW_c (S : Se P A) (l : List (Task)) : Nums P 94 [.ro (A.enc cTask l)] (fun n => 0 <= n /\ n.toNat = l.length) := by
  refine S.cx.by (S.prog ▸ Tryz.func94) rfl rfl rfl rfl (fun hv ho => ?_)
  cbv
  refine LenR.nat S.cx (fun N hN hm => ?_); cbv
  exact Done.num hN

theorem isInTaskW_c (S : Se P A) (n : Int) (l : List (Task)) : Tests P 303 [.int .i64 n, .ro (A.enc cTask l)] (0 <= n /\ n.toNat < l.length) := by
  refine S.cx.by (S.prog ▸ Tryz.func303) rfl rfl rfl rfl (fun hv ho => ?_)
  cbv
  refine ACall.num (dp := false) (sizeTaskW_c S l) .go (fun N hN => ?_); cbv
  refine Arith.know (fun h1 h2 => by lia) (fun m hm h1 h2 => ?_); cbv
  replace hm : m = N - 1 := hm
  refine ACall.testD (dp := false) (within_c S n 0 m) .go rfl (fun h => ?_) (fun h => ?_) <;> cbv
  · exact Done.yes (by omega)
  · exact Done.no (by omega)

theorem sizeProgW_c (S : Se P A) (l : List (List Ins)) : Nums P 358 [.ro (A.enc (roProg A) l)] (fun n => 0 <= n /\ n.toNat = l.length) := by
  refine S.cx.by (S.prog ▸ Tryz.func358) rfl rfl rfl rfl (fun hv ho => ?_)
  cbv
  refine LenR.nat S.cx (fun N hN hm => ?_); cbv
  exact Done.num hN

theorem isInProgW_c (S : Se P A) (n : Int) (l : List (List Ins)) : Tests P 313 [.int .i64 n, .ro (A.enc (roProg A) l)] (0 <= n /\ n.toNat < l.length) := by
  refine S.cx.by (S.prog ▸ Tryz.func313) rfl rfl rfl rfl (fun hv ho => ?_)
  cbv
  refine ACall.num (dp := false) (sizeProgW_c S l) .go (fun N hN => ?_); cbv
  refine Arith.know (fun h1 h2 => by lia) (fun m hm h1 h2 => ?_); cbv
  replace hm : m = N - 1 := hm
  refine ACall.testD (dp := false) (within_c S n 0 m) .go rfl (fun h => ?_) (fun h => ?_) <;> cbv
  · exact Done.yes (by omega)
  · exact Done.no (by omega)

theorem sizeGroupW_c (S : Se P A) (l : List (Group)) : Nums P 162 [.ro (A.enc (roGroup A) l)] (fun n => 0 <= n /\ n.toNat = l.length) := by
  refine S.cx.by (S.prog ▸ Tryz.func162) rfl rfl rfl rfl (fun hv ho => ?_)
  cbv
  refine LenR.nat S.cx (fun N hN hm => ?_); cbv
  exact Done.num hN

theorem sizeGroupW_e (S : Se P A) (l : List (Group)) {e : Int} (he : 0 <= e /\ e.toNat = l.length) : Is1 P 162 [.ro (A.enc (roGroup A) l)] (.int .i64 e) := SoundM.knownW (sizeGroupW_c S l) fun n hn => by omega

theorem isInGroupW_c (S : Se P A) (n : Int) (l : List (Group)) : Tests P 60 [.int .i64 n, .ro (A.enc (roGroup A) l)] (0 <= n /\ n.toNat < l.length) := by
  refine S.cx.by (S.prog ▸ Tryz.func60) rfl rfl rfl rfl (fun hv ho => ?_)
  cbv
  refine ACall.num (dp := false) (sizeGroupW_c S l) .go (fun N hN => ?_); cbv
  refine Arith.know (fun h1 h2 => by lia) (fun m hm h1 h2 => ?_); cbv
  replace hm : m = N - 1 := hm
  refine ACall.testD (dp := false) (within_c S n 0 m) .go rfl (fun h => ?_) (fun h => ?_) <;> cbv
  · exact Done.yes (by omega)
  · exact Done.no (by omega)

theorem sizeInsW_c (S : Se P A) (l : List (Ins)) : Nums P 314 [.ro (A.enc cIns l)] (fun n => 0 <= n /\ n.toNat = l.length) := by
  refine S.cx.by (S.prog ▸ Tryz.func314) rfl rfl rfl rfl (fun hv ho => ?_)
  cbv
  refine LenR.nat S.cx (fun N hN hm => ?_); cbv
  exact Done.num hN

theorem sizeInsW_e (S : Se P A) (l : List (Ins)) {e : Int} (he : 0 <= e /\ e.toNat = l.length) : Is1 P 314 [.ro (A.enc cIns l)] (.int .i64 e) := SoundM.knownW (sizeInsW_c S l) fun n hn => by omega

theorem sizeEventW_c (S : Se P A) (l : List (Event)) : Nums P 195 [.ro (A.enc cEvent l)] (fun n => 0 <= n /\ n.toNat = l.length) := by
  refine S.cx.by (S.prog ▸ Tryz.func195) rfl rfl rfl rfl (fun hv ho => ?_)
  cbv
  refine LenR.nat S.cx (fun N hN hm => ?_); cbv
  exact Done.num hN

theorem sizeEventW_e (S : Se P A) (l : List (Event)) {e : Int} (he : 0 <= e /\ e.toNat = l.length) : Is1 P 195 [.ro (A.enc cEvent l)] (.int .i64 e) := SoundM.knownW (sizeEventW_c S l) fun n hn => by omega

theorem isTimerW_c (S : Se P A) (w : World) (x : Timer) : Tests P 232 [.agg (roWorld A w), .agg (cTimer x)] (TimerFits w.tree w.tasks x) := by
  obtain ⟨now, progs, tree, events, ⟨told, work⟩, ⟨heap, list, next⟩, ⟨⟨ages, used⟩, alist⟩, tasks, groups, sights, began, rang⟩ := w
  obtain ⟨seq, due, what, whom, armed⟩ := x
  simp only [TimerFits]
  refine S.cx.by (S.prog ▸ Tryz.func232) rfl rfl rfl rfl (fun hv ho => ?_)
  cbv
  clear hv ho
  refine Test.eql (fun h2 => ?_) (fun h2 => ?_) <;> cbv
  · refine ACall.testD (dp := false) (isInNode_c S whom tree) .go rfl (fun h3 => ?_) (fun h3 => ?_) <;> cbv
    · exact Done.yes ⟨fun _ => h3, fun e => absurd (h2.symm.trans e) (by decide)⟩
    · exact Done.no (fun e => h3 (e.1 h2))
  · refine Test.eql (fun h4 => ?_) (fun h4 => ?_) <;> cbv
    · refine ACall.testD (dp := false) (isInTaskW_c S whom tasks) .go rfl (fun h3 => ?_) (fun h3 => ?_) <;> cbv
      · exact Done.yes ⟨fun e => absurd e h2, fun _ => h3⟩
      · exact Done.no (fun e => h3 (e.2 h4))
    · exact Done.yes ⟨fun e => absurd e h2, fun e => absurd e h4⟩

theorem isTaskW_c (S : Se P A) (w : World) (x : Task) : Tests P 238 [.agg (roWorld A w), .agg (cTask x)] (TaskFits w.progs w.tree w.groups x) := by
  obtain ⟨now, progs, tree, events, ⟨told, work⟩, ⟨heap, list, next⟩, ⟨⟨ages, used⟩, alist⟩, tasks, groups, sights, began, rang⟩ := w
  obtain ⟨prog, pc, state, why, what, timer, reg, group, err⟩ := x
  simp only [TaskFits]
  refine S.cx.by (S.prog ▸ Tryz.func238) rfl rfl rfl rfl (fun hv ho => ?_)
  cbv
  have hgl := ((hv (.agg (roWorld A ⟨now, progs, tree, events, ⟨told, work⟩, ⟨heap, list, next⟩, ⟨⟨ages, used⟩, alist⟩, tasks, groups, sights, began, rang⟩)) (by simp)).agg (v := .ro (A.enc (roGroup A) groups)) (by simp [roWorld])).len
  rw [S.cx.lenE'] at hgl
  simp only [maxLen] at hgl
  clear hv ho
  try (refine Drawn.mk ⟨by kernel_rfl, fun _ => ?_⟩)
  refine ACall.testD (dp := false) (isInProgW_c S prog progs) .go rfl (fun h2 => ?_) (fun h2 => ?_) <;> cbv
  rotate_left
  · exact Done.no (fun e => h2 e.1)
  obtain ⟨p, hp⟩ := get_of_lt h2.2
  rw [progLen_at hp]
  refine ElemRo.at S.cx (x := p) rfl h2.1 hp ?_; cbv
  refine ACall.int (dp := false) (sizeInsW_e S p (e := p.length) (by omega)) .go rfl (fun L hL => ?_); cbv
  replace hL : L = (p.length : Int) := hL
  refine Test.gtr (fun h3 => ?_) (fun h3 => ?_) <;> cbv
  · exact Done.no (fun e => by have := e.2.1; lia)
  refine ACall.int (dp := false) (sizeGroupW_e S groups (e := groups.length) (by omega)) .go rfl (fun G hG => ?_); cbv
  replace hG : G = (groups.length : Int) := hG
  have hgl0 : groups.length <= 9223372036854775807 := hgl
  refine Arith.go (by omega) (fun m hm => ?_); cbv
  replace hm : m = G - 1 := hm
  refine ACall.testD (dp := false) (within_c S group (-1) m) .go rfl (fun h4 => ?_) (fun h4 => ?_) <;> cbv
  rotate_left
  · exact Done.no (fun e => h4 (by have := e.2.2.1; lia))
  have h12 : (0 <= prog /\ prog.toNat < progs.length) /\ pc <= (p.length : Int) /\ (-1 <= group /\ group < groups.length) := ⟨h2, by lia, by lia⟩
  clear hL hG hm h3 h4 hp hgl0
  repeat' (first
    | (refine ACall.testD (dp := false) (isInNode_c S what tree) ⟨rfl, (by repeat' (first | exact trivial | exact rfl | refine ⟨?_, ?_⟩)), trivial⟩ rfl (fun h => ?_) (fun h => ?_) <;> cbv)
    | (refine ACall.testD (dp := false) (isInGroupW_c S what groups) ⟨rfl, (by repeat' (first | exact trivial | exact rfl | refine ⟨?_, ?_⟩)), trivial⟩ rfl (fun h => ?_) (fun h => ?_) <;> cbv)
    | (refine Test.eql (fun _ => ?_) (fun _ => ?_) <;> first | (exfalso; omega) | cbv)
    | exact Done.no (by omega)
    | exact Done.yes ⟨h12.1, h12.2.1, h12.2.2, by omega, by omega⟩)

theorem isGroup1W_c (S : Se P A) (w : World) (n : Int) : Tests P 318 [.int .i64 n, .rptr (roWorld A w)] (¬ (0 <= n /\ n.toNat < w.tasks.length)) := by
  obtain ⟨now, progs, tree, events, ⟨told, work⟩, ⟨heap, list, next⟩, ⟨⟨ages, used⟩, alist⟩, tasks, groups, sights, began, rang⟩ := w
  refine S.cx.by (S.prog ▸ Tryz.func318) rfl rfl rfl rfl (fun hv ho => ?_)
  cbv
  refine ACall.testD (dp := false) (isInTaskW_c S n tasks) .go rfl (fun h => ?_) (fun h => ?_) <;> cbv
  · exact Done.no (fun e => e h)
  · exact Done.yes h

theorem isGroupW_c (S : Se P A) (w : World) (x : Group) : Tests P 240 [.agg (roWorld A w), .agg (roGroup A x)] (GroupFits w.tree w.tasks x) := by
  obtain ⟨now, progs, tree, events, ⟨told, work⟩, ⟨heap, list, next⟩, ⟨⟨ages, used⟩, alist⟩, tasks, groups, sights, began, rang⟩ := w
  obtain ⟨node, limit, active, waits, first⟩ := x
  simp only [GroupFits]
  refine S.cx.by (S.prog ▸ Tryz.func240) rfl rfl rfl rfl (fun hv ho => ?_)
  cbv
  clear hv ho
  refine ACall.testD (dp := false) (implGroupOk_c S node limit active waits first) .go rfl (fun h2 => ?_) (fun h2 => ?_) <;> cbv
  rotate_left
  · exact Done.no (fun e => h2 e.1)
  refine ACall.testD (dp := false) (isInNode_c S node tree) .go rfl (fun h3 => ?_) (fun h3 => ?_) <;> cbv
  rotate_left
  · exact Done.no (fun e => h3 ⟨h2.1.1, e.2.1⟩)
  obtain ⟨y, hy⟩ := get_of_lt h3.2
  rw [kindAt_at hy]
  refine ElemRo.at S.cx (x := y) rfl h3.1 hy ?_; cbv
  refine Test.eql (fun h4 => ?_) (fun h4 => ?_) <;> cbv
  rotate_left
  · exact Done.no (fun e => h4 e.2.2.1)
  refine ACall.testX (dp := false) (containsFuncInt641_c S _ _ _ (isGroup1W_c S ⟨now, progs, tree, events, ⟨told, work⟩, ⟨heap, list, next⟩, ⟨⟨ages, used⟩, alist⟩, tasks, groups, sights, began, rang⟩) waits) .go rfl (fun h5 => ?_) (fun h5 => ?_) <;> cbv
  · exact Done.no (fun e => by obtain ⟨x, hx, hn⟩ := h5; exact hn (e.2.2.2 x hx))
  · exact Done.yes ⟨h2, h3.2, h4, fun x hx => Classical.byContradiction fun hn => h5 ⟨x, hx, hn⟩⟩

theorem isSightW_c (S : Se P A) (w : World) (x : Sight) : Tests P 242 [.agg (roWorld A w), .agg (cSight x)] (SightFits w.tree w.events x) := by
  obtain ⟨now, progs, tree, events, ⟨told, work⟩, ⟨heap, list, next⟩, ⟨⟨ages, used⟩, alist⟩, tasks, groups, sights, began, rang⟩ := w
  obtain ⟨node, err, cause, at_⟩ := x
  simp only [SightFits]
  refine S.cx.by (S.prog ▸ Tryz.func242) rfl rfl rfl rfl (fun hv ho => ?_)
  cbv
  clear hv ho
  try (refine Drawn.mk ⟨by kernel_rfl, fun _ => ?_⟩)
  refine ACall.testD (dp := false) (isInNode_c S node tree) .go rfl (fun h2 => ?_) (fun h2 => ?_) <;> cbv
  rotate_left
  · exact Done.no (fun e => h2 e.1)
  refine ACall.int (dp := false) (sizeEventW_e S events (e := events.length) (by omega)) .go rfl (fun L hL => ?_); cbv
  replace hL : L = (events.length : Int) := hL
  refine ACall.testD (dp := false) (within_c S at_ 0 L) .go rfl (fun h3 => ?_) (fun h3 => ?_) <;> cbv
  rotate_left
  · exact Done.no (fun e => h3 (by have := e.2.1; lia))
  have h3 : 0 <= at_ /\ at_ <= (events.length : Int) := by lia
  clear hL
  repeat' (first
    | (refine ACall.testD (dp := false) (within_c S _ _ _) ⟨rfl, (by repeat' (first | exact trivial | exact rfl | refine ⟨?_, ?_⟩)), trivial⟩ rfl (fun h => ?_) (fun h => ?_) <;> cbv)
    | (refine Test.eql (fun _ => ?_) (fun _ => ?_) <;> first | (exfalso; omega) | cbv)
    | exact Done.yes ⟨h2, h3, by omega⟩
    | exact Done.no (by omega))

theorem worldOk1_c (S : Se P A) (w : World) (x : Event) : Tests P 229 [.agg (cEvent x), .rptr (roWorld A w)] (0 <= x.time /\ x.time <= w.now) := by
  obtain ⟨now, progs, tree, events, ⟨told, work⟩, ⟨heap, list, next⟩, ⟨⟨ages, used⟩, alist⟩, tasks, groups, sights, began, rang⟩ := w
  obtain ⟨node, err, cause, time⟩ := x
  refine S.cx.by (S.prog ▸ Tryz.func229) rfl rfl rfl rfl (fun hv ho => ?_)
  cbv
  repeat' (first
    | (refine ACall.testD (dp := false) (within_c S _ _ _) ⟨rfl, (by repeat' (first | exact trivial | exact rfl | refine ⟨?_, ?_⟩)), trivial⟩ rfl (fun _ => ?_) (fun _ => ?_) <;> cbv)
    | (refine Test.eql (fun _ => ?_) (fun _ => ?_) <;> cbv)
    | (refine Test.neq (fun _ => ?_) (fun _ => ?_) <;> cbv)
    | (refine Test.lss (fun _ => ?_) (fun _ => ?_) <;> cbv)
    | (refine Test.leq (fun _ => ?_) (fun _ => ?_) <;> cbv)
    | (refine Test.gtr (fun _ => ?_) (fun _ => ?_) <;> cbv)
    | (refine Test.geq (fun _ => ?_) (fun _ => ?_) <;> cbv)
    | (refine ⟨⟨by kernel_rfl, fun _ => ?_⟩⟩)
    | (refine LenR.nat S.cx (fun N hN hm => ?_); cbv)
    | exact Done.yes (by (dsimp only; omega))
    | exact Done.no (by (dsimp only; omega)))

theorem worldOk2_c (S : Se P A) (w : World) (x : After) : Tests P 235 [.agg (cAfter x), .rptr (roWorld A w)] (0 <= x.node /\ x.node.toNat < w.tree.length) := by
  obtain ⟨now, progs, tree, events, ⟨told, work⟩, ⟨heap, list, next⟩, ⟨⟨ages, used⟩, alist⟩, tasks, groups, sights, began, rang⟩ := w
  obtain ⟨slot, age, node, func, queued⟩ := x
  refine S.cx.by (S.prog ▸ Tryz.func235) rfl rfl rfl rfl (fun hv ho => ?_)
  cbv
  refine ACall.testD (dp := false) (isInNode_c S node tree) .go rfl (fun h => ?_) (fun h => ?_) <;> cbv
  · exact Done.yes h
  · exact Done.no h

theorem worldOk3_c (S : Se P A) (x : Int) : Tests P 244 [.int .i64 x] (0 <= x /\ x <= 99) := by
  refine S.cx.by (S.prog ▸ Tryz.func244) rfl rfl rfl rfl (fun hv ho => ?_)
  cbv
  repeat' (first
    | (refine ACall.testD (dp := false) (within_c S _ _ _) ⟨rfl, (by repeat' (first | exact trivial | exact rfl | refine ⟨?_, ?_⟩)), trivial⟩ rfl (fun _ => ?_) (fun _ => ?_) <;> cbv)
    | (refine Test.eql (fun _ => ?_) (fun _ => ?_) <;> cbv)
    | (refine Test.neq (fun _ => ?_) (fun _ => ?_) <;> cbv)
    | (refine Test.lss (fun _ => ?_) (fun _ => ?_) <;> cbv)
    | (refine Test.leq (fun _ => ?_) (fun _ => ?_) <;> cbv)
    | (refine Test.gtr (fun _ => ?_) (fun _ => ?_) <;> cbv)
    | (refine Test.geq (fun _ => ?_) (fun _ => ?_) <;> cbv)
    | (refine ⟨⟨by kernel_rfl, fun _ => ?_⟩⟩)
    | (refine LenR.nat S.cx (fun N hN hm => ?_); cbv)
    | exact Done.yes (by omega)
    | exact Done.no (by omega))

theorem worldOk4_c (S : Se P A) (x : Int) : Tests P 245 [.int .i64 x] (0 <= x /\ x <= 99) := by
  refine S.cx.by (S.prog ▸ Tryz.func245) rfl rfl rfl rfl (fun hv ho => ?_)
  cbv
  repeat' (first
    | (refine ACall.testD (dp := false) (within_c S _ _ _) ⟨rfl, (by repeat' (first | exact trivial | exact rfl | refine ⟨?_, ?_⟩)), trivial⟩ rfl (fun _ => ?_) (fun _ => ?_) <;> cbv)
    | (refine Test.eql (fun _ => ?_) (fun _ => ?_) <;> cbv)
    | (refine Test.neq (fun _ => ?_) (fun _ => ?_) <;> cbv)
    | (refine Test.lss (fun _ => ?_) (fun _ => ?_) <;> cbv)
    | (refine Test.leq (fun _ => ?_) (fun _ => ?_) <;> cbv)
    | (refine Test.gtr (fun _ => ?_) (fun _ => ?_) <;> cbv)
    | (refine Test.geq (fun _ => ?_) (fun _ => ?_) <;> cbv)
    | (refine ⟨⟨by kernel_rfl, fun _ => ?_⟩⟩)
    | (refine LenR.nat S.cx (fun N hN hm => ?_); cbv)
    | exact Done.yes (by omega)
    | exact Done.no (by omega))

theorem implWorldOk_c (S : Se P A) (now : Int) (progs : List (List Ins)) (tree : List Node) (events : List Event) (told : List Bool) (work : List Int) (heap : List Twig) (list : List Timer) (next : Int) (ages : List Int) (used : List Bool) (alist : List After) (tasks : List Task) (groups : List Group) (sights : List Sight) (began rang : List Int) : Tests P 159 [.agg (roWorld A ⟨now, progs, tree, events, ⟨told, work⟩, ⟨heap, list, next⟩, ⟨⟨ages, used⟩, alist⟩, tasks, groups, sights, began, rang⟩)] (WorldOk ⟨now, progs, tree, events, ⟨told, work⟩, ⟨heap, list, next⟩, ⟨⟨ages, used⟩, alist⟩, tasks, groups, sights, began, rang⟩) := by
  refine S.cx.byS [99999] (S.prog ▸ Tryz.func159) rfl rfl rfl rfl (fun ln hln hv ho => ?_)
  (cbv; repeat (refine Later.mk ?_; cbv))
  clear hv ho
  have W : ∀ {p : Prop}, (WorldOk ⟨now, progs, tree, events, ⟨told, work⟩, ⟨heap, list, next⟩, ⟨⟨ages, used⟩, alist⟩, tasks, groups, sights, began, rang⟩ -> p) -> ¬ p -> ¬ WorldOk ⟨now, progs, tree, events, ⟨told, work⟩, ⟨heap, list, next⟩, ⟨⟨ages, used⟩, alist⟩, tasks, groups, sights, began, rang⟩ := fun h hn e => hn (h e)
  refine Test.lss (fun g1 => ?_) (fun g1 => ?_) <;> (cbv; repeat (refine Later.mk ?_; cbv))
  · exact Done.no (W (fun e => e.1) (by dsimp only; omega))
  refine LenR.nat S.cx (fun N hN hm => ?_); (cbv; repeat (refine Later.mk ?_; cbv))
  refine Test.gtr (fun g2 => ?_) (fun g2 => ?_) <;> (cbv; repeat (refine Later.mk ?_; cbv))
  · exact Done.no (W (fun e => e.2.1.1) (by dsimp only; omega))
  refine ACall.testX (dp := false) (allProg0_c S _ _ progs (fun x _ => implProgOk_c S x)) .go rfl (fun g3 => ?_) (fun g3 => ?_) <;> (cbv; repeat (refine Later.mk ?_; cbv))
  rotate_left
  · exact Done.no (W (fun e => e.2.1.2) g3)
  refine ACall.testD (dp := false) (implEventsOk_c S tree events) .go rfl (fun g4 => ?_) (fun g4 => ?_) <;> (cbv; repeat (refine Later.mk ?_; cbv))
  rotate_left
  · exact Done.no (W (fun e => e.2.2.1) g4)
  refine ACall.testD (dp := false) (isSpread_c S tree told work) .go rfl (fun g5 => ?_) (fun g5 => ?_) <;> (cbv; repeat (refine Later.mk ?_; cbv))
  rotate_left
  · exact Done.no (W (fun e => e.2.2.2.1) g5)
  refine ACall.testX (dp := false) (allEventC_c S _ _ _ events (fun x _ => worldOk1_c S ⟨now, progs, tree, events, ⟨told, work⟩, ⟨heap, list, next⟩, ⟨⟨ages, used⟩, alist⟩, tasks, groups, sights, began, rang⟩ x)) .go rfl (fun g6 => ?_) (fun g6 => ?_) <;> (cbv; repeat (refine Later.mk ?_; cbv))
  rotate_left
  · exact Done.no (W (fun e => e.2.2.2.2.1) g6)
  refine ACall.testD (dp := false) (implTimersOk_c S heap list next) .go rfl (fun g7 => ?_) (fun g7 => ?_) <;> (cbv; repeat (refine Later.mk ?_; cbv))
  rotate_left
  · exact Done.no (W (fun e => e.2.2.2.2.2.1.1) g7)
  refine ACall.testX (dp := false) (allTimerR_c S _ ⟨now, progs, tree, events, ⟨told, work⟩, ⟨heap, list, next⟩, ⟨⟨ages, used⟩, alist⟩, tasks, groups, sights, began, rang⟩ _ list (fun x _ => isTimerW_c S ⟨now, progs, tree, events, ⟨told, work⟩, ⟨heap, list, next⟩, ⟨⟨ages, used⟩, alist⟩, tasks, groups, sights, began, rang⟩ x)) .go rfl (fun g8 => ?_) (fun g8 => ?_) <;> (cbv; repeat (refine Later.mk ?_; cbv))
  rotate_left
  · exact Done.no (W (fun e => e.2.2.2.2.2.1.2) g8)
  refine ACall.testD (dp := false) (implAftersOk_c S ages used alist) .go rfl (fun g9 => ?_) (fun g9 => ?_) <;> (cbv; repeat (refine Later.mk ?_; cbv))
  rotate_left
  · exact Done.no (W (fun e => e.2.2.2.2.2.2.1.1) g9)
  refine ACall.testX (dp := false) (allAfterC_c S _ _ _ alist (fun x _ => worldOk2_c S ⟨now, progs, tree, events, ⟨told, work⟩, ⟨heap, list, next⟩, ⟨⟨ages, used⟩, alist⟩, tasks, groups, sights, began, rang⟩ x)) .go rfl (fun g10 => ?_) (fun g10 => ?_) <;> (cbv; repeat (refine Later.mk ?_; cbv))
  rotate_left
  · exact Done.no (W (fun e => e.2.2.2.2.2.2.1.2) g10)
  refine ACall.testD (dp := false) (implTasksOk_c S tasks) .go rfl (fun g11 => ?_) (fun g11 => ?_) <;> (cbv; repeat (refine Later.mk ?_; cbv))
  rotate_left
  · exact Done.no (W (fun e => e.2.2.2.2.2.2.2.1.1) g11)
  refine ACall.testX (dp := false) (allTaskR_c S _ ⟨now, progs, tree, events, ⟨told, work⟩, ⟨heap, list, next⟩, ⟨⟨ages, used⟩, alist⟩, tasks, groups, sights, began, rang⟩ _ tasks (fun x _ => isTaskW_c S ⟨now, progs, tree, events, ⟨told, work⟩, ⟨heap, list, next⟩, ⟨⟨ages, used⟩, alist⟩, tasks, groups, sights, began, rang⟩ x)) .go rfl (fun g12 => ?_) (fun g12 => ?_) <;> (cbv; repeat (refine Later.mk ?_; cbv))
  rotate_left
  · exact Done.no (W (fun e => e.2.2.2.2.2.2.2.1.2) g12)
  refine LenR.nat S.cx (fun N2 hN2 hm2 => ?_); (cbv; repeat (refine Later.mk ?_; cbv))
  refine Test.gtr (fun g13 => ?_) (fun g13 => ?_) <;> (cbv; repeat (refine Later.mk ?_; cbv))
  · exact Done.no (W (fun e => e.2.2.2.2.2.2.2.2.1.1) (by dsimp only; omega))
  refine ACall.testX (dp := false) (allGroupR_c S _ ⟨now, progs, tree, events, ⟨told, work⟩, ⟨heap, list, next⟩, ⟨⟨ages, used⟩, alist⟩, tasks, groups, sights, began, rang⟩ _ groups (fun x _ => isGroupW_c S ⟨now, progs, tree, events, ⟨told, work⟩, ⟨heap, list, next⟩, ⟨⟨ages, used⟩, alist⟩, tasks, groups, sights, began, rang⟩ x)) .go rfl (fun g14 => ?_) (fun g14 => ?_) <;> (cbv; repeat (refine Later.mk ?_; cbv))
  rotate_left
  · exact Done.no (W (fun e => e.2.2.2.2.2.2.2.2.1.2) g14)
  refine LenR.nat S.cx (fun N3 hN3 hm3 => ?_); (cbv; repeat (refine Later.mk ?_; cbv))
  refine Test.gtr (fun g15 => ?_) (fun g15 => ?_) <;> (cbv; repeat (refine Later.mk ?_; cbv))
  · exact Done.no (W (fun e => e.2.2.2.2.2.2.2.2.2.1.1) (by dsimp only; omega))
  refine LenR.nat S.cx (fun N4 hN4 hm4 => ?_); (cbv; repeat (refine Later.mk ?_; cbv))
  refine Test.gtr (fun g16 => ?_) (fun g16 => ?_) <;> (cbv; repeat (refine Later.mk ?_; cbv))
  · exact Done.no (W (fun e => e.2.2.2.2.2.2.2.2.2.2.1.1) (by dsimp only; omega))
  refine LenR.nat S.cx (fun N5 hN5 hm5 => ?_); (cbv; repeat (refine Later.mk ?_; cbv))
  refine Test.gtr (fun g17 => ?_) (fun g17 => ?_) <;> (cbv; repeat (refine Later.mk ?_; cbv))
  · exact Done.no (W (fun e => e.2.2.2.2.2.2.2.2.2.2.2.1) (by dsimp only; omega))
  refine ACall.testX (dp := false) (allSightR_c S _ ⟨now, progs, tree, events, ⟨told, work⟩, ⟨heap, list, next⟩, ⟨⟨ages, used⟩, alist⟩, tasks, groups, sights, began, rang⟩ _ sights (fun x _ => isSightW_c S ⟨now, progs, tree, events, ⟨told, work⟩, ⟨heap, list, next⟩, ⟨⟨ages, used⟩, alist⟩, tasks, groups, sights, began, rang⟩ x)) .go rfl (fun g18 => ?_) (fun g18 => ?_) <;> (cbv; repeat (refine Later.mk ?_; cbv))
  rotate_left
  · exact Done.no (W (fun e => e.2.2.2.2.2.2.2.2.2.1.2) g18)
  refine ACall.testX (dp := false) (allInt640_c S _ _ began (fun x _ => worldOk3_c S x)) .go rfl (fun g19 => ?_) (fun g19 => ?_) <;> (cbv; repeat (refine Later.mk ?_; cbv))
  rotate_left
  · exact Done.no (W (fun e => e.2.2.2.2.2.2.2.2.2.2.1.2) g19)
  refine ACall.testX (dp := false) (allInt640_c S _ _ rang (fun x _ => worldOk4_c S x)) .go rfl (fun g20 => ?_) (fun g20 => ?_) <;> (cbv; repeat (refine Later.mk ?_; cbv))
  rotate_left
  · exact Done.no (W (fun e => e.2.2.2.2.2.2.2.2.2.2.2.2) g20)
  exact Done.yes ⟨by dsimp only; omega, ⟨by dsimp only; omega, g3⟩, g4, g5, g6, ⟨g7, g8⟩, ⟨g9, g10⟩, ⟨g11, g12⟩, ⟨by dsimp only; omega, g14⟩, ⟨by dsimp only; omega, g18⟩, ⟨by dsimp only; omega, g19⟩, by dsimp only; omega, g20⟩

end Go.Proofs.YtihfpbhalnedcaaGreat.AM
