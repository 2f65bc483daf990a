/- Contracts: worlds cloned. (printed by gw30.py) -/
import Derived.Test.YtihfpbhalnedcaaGreatW20
import Derived.Test.YtihfpbhalnedcaaGreatW10
import Derived.Test.YtihfpbhalnedcaaGreatT4
import Derived.Test.YtihfpbhalnedcaaGreatE15
import Derived.Test.YtihfpbhalnedcaaGreatBD
set_option linter.unusedVariables false
set_option linter.unusedSimpArgs false
namespace Go.Proofs.YtihfpbhalnedcaaGreat.AM
open Go Go.Proofs

set_option maxRecDepth 100000
set_option maxHeartbeats 4000000

variable {P : Program} {A : Sy}

theorem plainNode : Plain cNode := fun _ => rfl
def rNode (A : Sy) (l : List Node) : AV := .own 5 true (A.enc cNode l)

theorem cloneNode_c (S : Se P A) (l : List Node) (hb : l.length <= 4294967296) : Is1 P 247 [.ro (A.enc cNode l)] (rNode A l) := by
  refine S.cx.by (S.prog ▸ Tryz.func247) rfl rfl rfl rfl (fun hv ho => ?_)
  cbv
  refine NilT.ro S.cx (fun h => ?_) ?_ <;> cbv
  · subst h
    exact Done.isA (r := rNode A) (x := []) (rfl)
  · refine AppNew.enc S.cx plainNode (.inr (.inr trivial)) (fun _ => rfl) (by simp only [maxBytes]; omega) (fun n hn => ?_); cbv
    exact Done.isA (r := rNode A) (x := l) (rfl)

theorem plainEvent : Plain cEvent := fun _ => rfl
def rEvent (A : Sy) (l : List Event) : AV := .own 4 true (A.enc cEvent l)

theorem cloneEvent_c (S : Se P A) (l : List Event) (hb : l.length <= 4294967296) : Is1 P 248 [.ro (A.enc cEvent l)] (rEvent A l) := by
  refine S.cx.by (S.prog ▸ Tryz.func248) rfl rfl rfl rfl (fun hv ho => ?_)
  cbv
  refine NilT.ro S.cx (fun h => ?_) ?_ <;> cbv
  · subst h
    exact Done.isA (r := rEvent A) (x := []) (rfl)
  · refine AppNew.enc S.cx plainEvent (.inr (.inr trivial)) (fun _ => rfl) (by simp only [maxBytes]; omega) (fun n hn => ?_); cbv
    exact Done.isA (r := rEvent A) (x := l) (rfl)

theorem plainTask : Plain cTask := fun _ => rfl
def rTask (A : Sy) (l : List Task) : AV := .own 9 true (A.enc cTask l)

theorem cloneTask_c (S : Se P A) (l : List Task) (hb : l.length <= 4294967296) : Is1 P 252 [.ro (A.enc cTask l)] (rTask A l) := by
  refine S.cx.by (S.prog ▸ Tryz.func252) rfl rfl rfl rfl (fun hv ho => ?_)
  cbv
  refine NilT.ro S.cx (fun h => ?_) ?_ <;> cbv
  · subst h
    exact Done.isA (r := rTask A) (x := []) (rfl)
  · refine AppNew.enc S.cx plainTask (.inr (.inr trivial)) (fun _ => rfl) (by simp only [maxBytes]; omega) (fun n hn => ?_); cbv
    exact Done.isA (r := rTask A) (x := l) (rfl)

theorem plainSight : Plain cSight := fun _ => rfl
def rSight (A : Sy) (l : List Sight) : AV := .own 4 true (A.enc cSight l)

theorem cloneSight_c (S : Se P A) (l : List Sight) (hb : l.length <= 4294967296) : Is1 P 254 [.ro (A.enc cSight l)] (rSight A l) := by
  refine S.cx.by (S.prog ▸ Tryz.func254) rfl rfl rfl rfl (fun hv ho => ?_)
  cbv
  refine NilT.ro S.cx (fun h => ?_) ?_ <;> cbv
  · subst h
    exact Done.isA (r := rSight A) (x := []) (rfl)
  · refine AppNew.enc S.cx plainSight (.inr (.inr trivial)) (fun _ => rfl) (by simp only [maxBytes]; omega) (fun n hn => ?_); cbv
    exact Done.isA (r := rSight A) (x := l) (rfl)

theorem l5Copy_c (S : Se P A) (l : List Node) (hb : l.length <= 4294967296) : Is1 P 140 [.ro (A.enc cNode l)] (rNode A l) := by
  refine S.cx.by (S.prog ▸ Tryz.func140) rfl rfl rfl rfl (fun hv ho => ?_)
  cbv
  refine AppNew.enc S.cx plainNode (.inr (.inr trivial)) (fun _ => rfl) (by simp only [maxBytes]; omega) (fun n hn => ?_); cbv
  exact Done.isA (r := rNode A) (x := l) (rfl)

theorem l6Copy_c (S : Se P A) (l : List Event) (hb : l.length <= 4294967296) : Is1 P 141 [.ro (A.enc cEvent l)] (rEvent A l) := by
  refine S.cx.by (S.prog ▸ Tryz.func141) rfl rfl rfl rfl (fun hv ho => ?_)
  cbv
  refine AppNew.enc S.cx plainEvent (.inr (.inr trivial)) (fun _ => rfl) (by simp only [maxBytes]; omega) (fun n hn => ?_); cbv
  exact Done.isA (r := rEvent A) (x := l) (rfl)

theorem l1Copy_c (S : Se P A) (l : List Int) (hb : l.length <= 4294967296) : Is1 P 145 [.ro (A.enc cInt64 l)] (rInt64 A l) := by
  refine S.cx.by (S.prog ▸ Tryz.func145) rfl rfl rfl rfl (fun hv ho => ?_)
  cbv
  refine AppNew.enc S.cx plainInt64 (.inr (.inr trivial)) (fun _ => rfl) (by simp only [maxBytes]; omega) (fun n hn => ?_); cbv
  exact Done.isA (r := rInt64 A) (x := l) (rfl)

theorem noRefsOP (S : Se P A) (l : List (List Ins)) : noRefs (A.enc (ownProg A) l) := by
  rw [<- encPC S.cx]
  exact noRefsPC S.cx (fun c hc => by obtain ⟨_, _, rfl⟩ := List.mem_map.1 hc; trivial)

def rGr (A : Sy) (x : Group) : AV := .agg (ownGroup A x)

theorem groupCloned_c (S : Se P A) (node limit active : Int) (waits : List Int) (first : Int) (hb : waits.length <= 4294967296) : Is1 P 253 [.agg (roGroup A ⟨node, limit, active, waits, first⟩)] (rGr A ⟨node, limit, active, waits, first⟩) := by
  refine S.cx.by (S.prog ▸ Tryz.func253) rfl rfl rfl rfl (fun hv ho => ?_)
  cbv
  refine ACall.valN (r := rInt64 A) (os := fun _ => []) (dp := false) S.cx (cloneInt64_c S waits hb) .go rfl (fun ln hln a hx => ⟨rfl, ?_⟩)
  cases hx
  cbv
  have hN := hln cInt64 waits
  generalize ln (A.enc cInt64 waits) = N at hN ⊢
  exact Done.isA (r := rGr A) (x := ⟨node, limit, active, waits, first⟩) (rfl)

theorem groupCopy_c (S : Se P A) (node limit active : Int) (waits : List Int) (first : Int) (hb : waits.length <= 4294967296) : Is1 P 146 [.agg (roGroup A ⟨node, limit, active, waits, first⟩)] (rGr A ⟨node, limit, active, waits, first⟩) := by
  refine S.cx.by (S.prog ▸ Tryz.func146) rfl rfl rfl rfl (fun hv ho => ?_)
  cbv
  refine AppNew.enc S.cx plainInt64 (.inr (.inr trivial)) (fun _ => rfl) (by simp only [maxBytes]; omega) (fun n hn => ?_); cbv
  exact Done.isA (r := rGr A) (x := ⟨node, limit, active, waits, first⟩) (rfl)

theorem implCloned_c (S : Se P A) (now : Int) (progs : List (List Ins)) (tree : List Node) (events : List Event) (told : List Bool) (work : List Int) (heap : List Twig) (list : List Timer) (next : Int) (ages : List Int) (used : List Bool) (alist : List After) (tasks : List Task) (groups : List Group) (sights : List Sight) (began rang : List Int) (hfew : (⟨now, progs, tree, events, ⟨told, work⟩, ⟨heap, list, next⟩, ⟨⟨ages, used⟩, alist⟩, tasks, groups, sights, began, rang⟩ : World).few 1048576) : Is1 P 160 [.agg (roWorld A ⟨now, progs, tree, events, ⟨told, work⟩, ⟨heap, list, next⟩, ⟨⟨ages, used⟩, alist⟩, tasks, groups, sights, began, rang⟩)] (.agg (ownWorld A ⟨now, progs, tree, events, ⟨told, work⟩, ⟨heap, list, next⟩, ⟨⟨ages, used⟩, alist⟩, tasks, groups, sights, began, rang⟩)) := by
  refine S.cx.byS [99999] (S.prog ▸ Tryz.func160) rfl rfl rfl rfl (fun ln hln hv ho => ?_)
  (cbv; repeat (refine Later.mk ?_; cbv))
  clear hv ho
  (try (refine Drawn.mk ⟨by kernel_rfl, fun _ => ?_⟩)); (repeat (refine Later.mk ?_; cbv))
  refine ACall.valN (r := (fun x : List (List Ins) => .own 1 false (A.enc (ownProg A) x))) (os := fun _ => []) (dp := false) S.cx (clonedProgs_c S progs hfew.progs.1 hfew.progs.2) .go rfl (fun ln hln a1 hx => ⟨rfl, ?_⟩)
  cases hx
  (cbv; repeat (refine Later.mk ?_; cbv))
  have hn_progs := hln (ownProg A) progs
  generalize ln (A.enc (ownProg A) progs) = n_progs at hn_progs ⊢
  refine ACall.valN (r := rNode A) (os := fun _ => []) (dp := false) S.cx (cloneNode_c S tree (Nat.le_trans hfew.tree (by decide))) .go rfl (fun ln hln a2 hx => ⟨rfl, ?_⟩)
  cases hx
  (cbv; repeat (refine Later.mk ?_; cbv))
  have hn_tree := hln cNode tree
  generalize ln (A.enc cNode tree) = n_tree at hn_tree ⊢
  refine ACall.valN (r := rEvent A) (os := fun _ => []) (dp := false) S.cx (cloneEvent_c S events (Nat.le_trans hfew.events (by decide))) .go rfl (fun ln hln a3 hx => ⟨rfl, ?_⟩)
  cases hx
  (cbv; repeat (refine Later.mk ?_; cbv))
  have hn_events := hln cEvent events
  generalize ln (A.enc cEvent events) = n_events at hn_events ⊢
  repeat (refine Later.mk ?_; (cbv; repeat (refine Later.mk ?_; cbv)))
  (try (refine Drawn.mk ⟨by kernel_rfl, fun _ => ?_⟩)); (repeat (refine Later.mk ?_; cbv))
  refine ACall.valN (r := rSp A) (os := fun _ => []) (dp := false) S.cx (clonedSpread_c S told work (Nat.le_trans hfew.spread.1 (by decide)) (Nat.le_trans hfew.spread.2 (by decide))) .go rfl (fun ln hln x hx => ⟨rfl, ?_⟩)
  obtain ⟨b1, b2⟩ := x
  cases hx
  (cbv; repeat (refine Later.mk ?_; cbv))
  have hn_told := hln cBool told
  generalize ln (A.enc cBool told) = n_told at hn_told ⊢
  have hn_work := hln cInt64 work
  generalize ln (A.enc cInt64 work) = n_work at hn_work ⊢
  refine ACall.valN (r := rT A) (os := fun _ => []) (dp := false) S.cx (timCloned_c S heap list next (Nat.le_trans hfew.timers.1 (by decide)) (Nat.le_trans hfew.timers.2 (by decide))) .go rfl (fun ln hln x hx => ⟨rfl, ?_⟩)
  obtain ⟨b3, b4, b5⟩ := x
  cases hx
  (cbv; repeat (refine Later.mk ?_; cbv))
  have hn_heap := hln cTwig heap
  generalize ln (A.enc cTwig heap) = n_heap at hn_heap ⊢
  have hn_list := hln cTimer list
  generalize ln (A.enc cTimer list) = n_list at hn_list ⊢
  refine ACall.valN (r := (fun x : Afters => .agg (ownAfters A x))) (os := fun _ => []) (dp := false) S.cx (clonedAfters_c S ages used alist (Nat.le_trans hfew.afters.1 (by decide)) (Nat.le_trans hfew.afters.2.1 (by decide)) (Nat.le_trans hfew.afters.2.2 (by decide))) .go rfl (fun ln hln x hx => ⟨rfl, ?_⟩)
  obtain ⟨⟨b6, b7⟩, b8⟩ := x
  cases hx
  (cbv; repeat (refine Later.mk ?_; cbv))
  have hn_ages := hln cInt64 ages
  generalize ln (A.enc cInt64 ages) = n_ages at hn_ages ⊢
  have hn_used := hln cBool used
  generalize ln (A.enc cBool used) = n_used at hn_used ⊢
  have hn_alist := hln cAfter alist
  generalize ln (A.enc cAfter alist) = n_alist at hn_alist ⊢
  repeat (refine Later.mk ?_; (cbv; repeat (refine Later.mk ?_; cbv)))
  refine ACall.valN (r := rTask A) (os := fun _ => []) (dp := false) S.cx (cloneTask_c S tasks (Nat.le_trans hfew.tasks (by decide))) .go rfl (fun ln hln b9 hx => ⟨rfl, ?_⟩)
  cases hx
  (cbv; repeat (refine Later.mk ?_; cbv))
  have hn_tasks := hln cTask tasks
  generalize ln (A.enc cTask tasks) = n_tasks at hn_tasks ⊢
  repeat (refine Later.mk ?_; (cbv; repeat (refine Later.mk ?_; cbv)))
  refine LenR.nat S.cx (fun ng hng hmg => ?_); (cbv; repeat (refine Later.mk ?_; cbv))
  refine ALoop.pre (Less.initCell S.cx (cGC A) 999000000 5 false 2010000 13 rfl rfl rfl) ?_
  (cbv; repeat (refine Later.mk ?_; cbv))
  refine ALoop.goT (ι := Int × List GC × Nat) (fun i => [(39, .int .i64 i.1)]) [] [999000000, 2010000] (fun i => [(2010000, .box [.int .i64 now, .ref false 3020000 0 n_progs, .ref false 3050000 0 n_tree, .ref false 3080000 0 n_events, .ref false 4020000 0 n_told, .ref false 4020001 0 n_work, .ref false 4050000 0 n_heap, .ref false 4050001 0 n_list, .int .i64 next, .ref false 4080000 0 n_ages, .ref false 4080001 0 n_used, .ref false 4080002 0 n_alist, .ref false 5020000 0 n_tasks, .ref false 999000000 0 i.2.2, .ro (A.enc cSight sights), .ro (A.enc cInt64 began), .ro (A.enc cInt64 rang)]), (999000000, .arr 5 false (A.enc (cGC A) i.2.1))]) (fun i => 0 <= i.1 /\ i.1.toNat <= groups.length /\ i.2.2 = i.2.1.length /\ i.2.1 = (groups.take i.1.toNat).map GC.own) (fun i => (groups.length - i.1.toNat)) ((0, [], 0)) [99999] S.cx.tab S.cx.mix S.eq ?_ ?_ ?_
  · exact ⟨Int.le_refl _, Nat.zero_le _, rfl, rfl⟩
  · ((cbv; repeat (refine Later.mk ?_; cbv)); refine Less.to [] rfl rfl ?_ ?_ <;> repeat' (first | exact trivial | exact ⟨rfl, rfl⟩ | exact ⟨_, rfl, Nat.zero_le _, rfl⟩ | apply And.intro | exact rfl))
    all_goals first | exact noRefsNil | exact noRefsOP S _ | exact noRefsGC S.cx (fun x hx => by cases hx) | exact noRefsPC S.cx (fun x hx => by cases hx) | skip
  rintro ⟨i, m, k⟩ ⟨h1, h2, h3, h4⟩
  dsimp only at h1 h2 h3 h4
  have hml : m.length = i.toNat := by rw [h4]; simp; omega
  refine Rnd.mk ?_; (cbv; repeat (refine Later.mk ?_; cbv))
  refine Test.lss (fun h => ?_) (fun h => ?_) <;> (cbv; repeat (refine Later.mk ?_; cbv))
  · refine ElemRo.enc S.cx (fun _ => rfl) (by lia) (by lia) (fun x hx => ?_); (cbv; repeat (refine Later.mk ?_; cbv))
    have hgb := hfew.groups.2 x (mem_at hx)
    obtain ⟨node, limit, active, waits, first⟩ := x
    (cbv; repeat (refine Later.mk ?_; cbv)); repeat (refine Later.mk ?_; (cbv; repeat (refine Later.mk ?_; cbv)))
    (try (refine Drawn.mk ⟨by kernel_rfl, fun _ => ?_⟩)); (repeat (refine Later.mk ?_; cbv))
    refine ACall.valN (r := rGr A) (os := fun _ => []) (dp := false) S.cx (groupCloned_c S node limit active waits first (Nat.le_trans hgb (by decide))) .go rfl (fun ln hln x0 hx => ⟨rfl, ?_⟩)
    cases hx
    (cbv; repeat (refine Later.mk ?_; cbv))
    have hq := hln cInt64 waits
    generalize ln (A.enc cInt64 waits) = q at hq ⊢
    refine Part.one ?_; (cbv; repeat (refine Later.mk ?_; cbv))
    refine AppRef.pushF S.cx (GC.ref ⟨node, limit, active, waits, first⟩ 9030003 q) h3 rfl rfl rfl (fun v hv => by simp only [cGC, List.mem_cons, List.not_mem_nil, or_false] at hv; rcases hv with rfl | rfl | rfl | rfl | rfl <;> rfl) (by simp only [maxBytes]; have := hfew.groups.1; dsimp only at this; omega) (fun n' m' hm' hn' => ?_); (cbv; repeat (refine Later.mk ?_; cbv))
    refine Arith.go (by omega) (fun i' hi' => ?_); (cbv; repeat (refine Later.mk ?_; cbv))
    replace hi' : i' = i + 1 := hi'
    obtain ⟨m2, hm2⟩ : ∃ m2, m2 = m'.set i.toNat (GC.own ⟨node, limit, active, waits, first⟩) := ⟨_, rfl⟩
    have hmx : m'[i.toNat]? = some (GC.ref ⟨node, limit, active, waits, first⟩ 9030003 q) := by rw [hm', <- hml]; simp
    have hm3 : m2 = (groups.take i'.toNat).map GC.own := by
      rw [hm2, hm', show i'.toNat = i.toNat + 1 by omega, take_next hx, List.map_append, <- h4, <- hml]
      simp
    refine Again.on (i', m2, n') (by dsimp only; omega) ⟨by dsimp only; omega, by dsimp only; have := lt_of_get hx; omega, by dsimp only; rw [hn', set_len hm2], hm3⟩ ?_
    refine Less.trans (Less.fold S.cx (id := 9050000) (L := 9030003) (i := i.toNat) (j := 3) (m := m') (GC.ref ⟨node, limit, active, waits, first⟩ 9030003 q) (GC.own ⟨node, limit, active, waits, first⟩) rfl hmx rfl rfl hq rfl rfl hm2) ?_
    ((cbv; repeat (refine Later.mk ?_; cbv)); refine Less.to [(999000000, (9050000, 0))] rfl rfl ?_ ?_ <;> repeat' (first | exact trivial | exact ⟨rfl, rfl⟩ | exact ⟨_, rfl, Nat.zero_le _, rfl⟩ | apply And.intro | exact rfl))
    all_goals first | exact noRefsNil | exact noRefsOP S _ | exact noRefsGC S.cx (fun c hc => by rw [hm3] at hc; obtain ⟨_, _, rfl⟩ := List.mem_map.1 hc; trivial) | skip
  · have e : m = groups.map GC.own := by rw [h4, take_all (by omega)]
    (try (refine Drawn.mk ⟨by kernel_rfl, fun _ => ?_⟩)); (repeat (refine Later.mk ?_; cbv))
    refine ACall.valN (r := rSight A) (os := fun _ => []) (dp := false) S.cx (cloneSight_c S sights (Nat.le_trans hfew.sights (by decide))) .go rfl (fun ln hln d1 hx => ⟨rfl, ?_⟩)
    cases hx
    (cbv; repeat (refine Later.mk ?_; cbv))
    have hn_sights := hln cSight sights
    generalize ln (A.enc cSight sights) = n_sights at hn_sights ⊢
    refine ACall.valN (r := rInt64 A) (os := fun _ => []) (dp := false) S.cx (cloneInt64_c S began (Nat.le_trans hfew.began (by decide))) .go rfl (fun ln hln d2 hx => ⟨rfl, ?_⟩)
    cases hx
    (cbv; repeat (refine Later.mk ?_; cbv))
    have hn_began := hln cInt64 began
    generalize ln (A.enc cInt64 began) = n_began at hn_began ⊢
    refine ACall.valN (r := rInt64 A) (os := fun _ => []) (dp := false) S.cx (cloneInt64_c S rang (Nat.le_trans hfew.rang (by decide))) .go rfl (fun ln hln d3 hx => ⟨rfl, ?_⟩)
    cases hx
    (cbv; repeat (refine Later.mk ?_; cbv))
    have hn_rang := hln cInt64 rang
    generalize ln (A.enc cInt64 rang) = n_rang at hn_rang ⊢
    repeat (refine Later.mk ?_; (cbv; repeat (refine Later.mk ?_; cbv)))
    have hgk : k = groups.length := by rw [h3, e]; simp
    subst e
    exact Done.is (r := (fun x : World => .agg (ownWorld A x))) (x := ⟨now, progs, tree, events, ⟨told, work⟩, ⟨heap, list, next⟩, ⟨⟨ages, used⟩, alist⟩, tasks, groups, sights, began, rang⟩) (by repeat' (first | exact S.rf (by show some (Obj.arr 5 false (A.enc (cGC A) (groups.map GC.own))) = _; rw [encGC S.cx]) hgk | exact trivial | exact rfl | exact S.ra rfl ‹_› | exact S.rb rfl | exact S.rc rfl ‹_› | exact S.rd rfl ‹_› | exact S.gh | exact S.re rfl ‹_› | exact S.rg rfl ‹_› | refine ⟨?_, ?_⟩)) rfl rfl

theorem l13Copy_c (S : Se P A) (now : Int) (progs : List (List Ins)) (tree : List Node) (events : List Event) (told : List Bool) (work : List Int) (heap : List Twig) (list : List Timer) (next : Int) (ages : List Int) (used : List Bool) (alist : List After) (tasks : List Task) (groups : List Group) (sights : List Sight) (began rang : List Int) (hfew : (⟨now, progs, tree, events, ⟨told, work⟩, ⟨heap, list, next⟩, ⟨⟨ages, used⟩, alist⟩, tasks, groups, sights, began, rang⟩ : World).few 1048576) : Is1 P 45 [.agg (roWorld A ⟨now, progs, tree, events, ⟨told, work⟩, ⟨heap, list, next⟩, ⟨⟨ages, used⟩, alist⟩, tasks, groups, sights, began, rang⟩)] (.agg (ownWorld A ⟨now, progs, tree, events, ⟨told, work⟩, ⟨heap, list, next⟩, ⟨⟨ages, used⟩, alist⟩, tasks, groups, sights, began, rang⟩)) := by
  refine S.cx.byS [99999] (S.prog ▸ Tryz.func45) rfl rfl rfl rfl (fun ln hln hv ho => ?_)
  (cbv; repeat (refine Later.mk ?_; cbv))
  clear hv ho
  (try (refine Drawn.mk ⟨by kernel_rfl, fun _ => ?_⟩)); (repeat (refine Later.mk ?_; cbv))
  refine ACall.valN (r := (fun x : List (List Ins) => .own 1 false (A.enc (ownProg A) x))) (os := fun _ => []) (dp := false) S.cx (l13CopyProgs_c S progs hfew.progs.1 hfew.progs.2) .go rfl (fun ln hln a1 hx => ⟨rfl, ?_⟩)
  cases hx
  (cbv; repeat (refine Later.mk ?_; cbv))
  have hn_progs := hln (ownProg A) progs
  generalize ln (A.enc (ownProg A) progs) = n_progs at hn_progs ⊢
  refine ACall.valN (r := rNode A) (os := fun _ => []) (dp := false) S.cx (l5Copy_c S tree (Nat.le_trans hfew.tree (by decide))) .go rfl (fun ln hln a2 hx => ⟨rfl, ?_⟩)
  cases hx
  (cbv; repeat (refine Later.mk ?_; cbv))
  have hn_tree := hln cNode tree
  generalize ln (A.enc cNode tree) = n_tree at hn_tree ⊢
  refine ACall.valN (r := rEvent A) (os := fun _ => []) (dp := false) S.cx (l6Copy_c S events (Nat.le_trans hfew.events (by decide))) .go rfl (fun ln hln a3 hx => ⟨rfl, ?_⟩)
  cases hx
  (cbv; repeat (refine Later.mk ?_; cbv))
  have hn_events := hln cEvent events
  generalize ln (A.enc cEvent events) = n_events at hn_events ⊢
  refine ACall.valN (r := rSp A) (os := fun _ => []) (dp := false) S.cx (l7Copy_c S told work (Nat.le_trans hfew.spread.1 (by decide)) (Nat.le_trans hfew.spread.2 (by decide))) .go rfl (fun ln hln x hx => ⟨rfl, ?_⟩)
  obtain ⟨b1, b2⟩ := x
  cases hx
  (cbv; repeat (refine Later.mk ?_; cbv))
  have hn_told := hln cBool told
  generalize ln (A.enc cBool told) = n_told at hn_told ⊢
  have hn_work := hln cInt64 work
  generalize ln (A.enc cInt64 work) = n_work at hn_work ⊢
  refine ACall.valN (r := rT A) (os := fun _ => []) (dp := false) S.cx (l4Copy_c S heap list next (Nat.le_trans hfew.timers.1 (by decide)) (Nat.le_trans hfew.timers.2 (by decide))) .go rfl (fun ln hln x hx => ⟨rfl, ?_⟩)
  obtain ⟨b3, b4, b5⟩ := x
  cases hx
  (cbv; repeat (refine Later.mk ?_; cbv))
  have hn_heap := hln cTwig heap
  generalize ln (A.enc cTwig heap) = n_heap at hn_heap ⊢
  have hn_list := hln cTimer list
  generalize ln (A.enc cTimer list) = n_list at hn_list ⊢
  refine ACall.valN (r := (fun x : Afters => .agg (ownAfters A x))) (os := fun _ => []) (dp := false) S.cx (l8Copy_c S ages used alist (Nat.le_trans hfew.afters.1 (by decide)) (Nat.le_trans hfew.afters.2.1 (by decide)) (Nat.le_trans hfew.afters.2.2 (by decide))) .go rfl (fun ln hln x hx => ⟨rfl, ?_⟩)
  obtain ⟨⟨b6, b7⟩, b8⟩ := x
  cases hx
  (cbv; repeat (refine Later.mk ?_; cbv))
  have hn_ages := hln cInt64 ages
  generalize ln (A.enc cInt64 ages) = n_ages at hn_ages ⊢
  have hn_used := hln cBool used
  generalize ln (A.enc cBool used) = n_used at hn_used ⊢
  have hn_alist := hln cAfter alist
  generalize ln (A.enc cAfter alist) = n_alist at hn_alist ⊢
  refine AppNew.enc S.cx plainTask (.inr (.inr trivial)) (fun _ => rfl) (by simp only [maxBytes]; have := hfew.tasks; dsimp only at this; omega) (fun n_tasks hn_tasks => ?_); (cbv; repeat (refine Later.mk ?_; cbv))
  refine AppNew.enc S.cx plainSight (.inr (.inr trivial)) (fun _ => rfl) (by simp only [maxBytes]; have := hfew.sights; dsimp only at this; omega) (fun n_sights hn_sights => ?_); (cbv; repeat (refine Later.mk ?_; cbv))
  refine ACall.valN (r := rInt64 A) (os := fun _ => []) (dp := false) S.cx (l1Copy_c S began (Nat.le_trans hfew.began (by decide))) .go rfl (fun ln hln d2 hx => ⟨rfl, ?_⟩)
  cases hx
  (cbv; repeat (refine Later.mk ?_; cbv))
  have hn_began := hln cInt64 began
  generalize ln (A.enc cInt64 began) = n_began at hn_began ⊢
  refine ACall.valN (r := rInt64 A) (os := fun _ => []) (dp := false) S.cx (l1Copy_c S rang (Nat.le_trans hfew.rang (by decide))) .go rfl (fun ln hln d3 hx => ⟨rfl, ?_⟩)
  cases hx
  (cbv; repeat (refine Later.mk ?_; cbv))
  have hn_rang := hln cInt64 rang
  generalize ln (A.enc cInt64 rang) = n_rang at hn_rang ⊢
  repeat (refine Later.mk ?_; (cbv; repeat (refine Later.mk ?_; cbv)))
  refine ALoop.pre (Less.initCell S.cx (cGC A) 999000000 5 false 2350000 13 rfl rfl rfl) ?_
  (cbv; repeat (refine Later.mk ?_; cbv))
  refine ALoop.goT (ι := Int × List GC × Nat) (fun i => [(4, .int .i64 i.1)]) [] [999000000, 2350000] (fun i => [(2350000, .box [.int .i64 now, .ref false 2040000 0 n_progs, .ref false 2070000 0 n_tree, .ref false 2100000 0 n_events, .ref false 2130000 0 n_told, .ref false 2130001 0 n_work, .ref false 2160000 0 n_heap, .ref false 2160001 0 n_list, .int .i64 next, .ref false 2190000 0 n_ages, .ref false 2190001 0 n_used, .ref false 2190002 0 n_alist, .ref false 2230000 0 n_tasks, .ref false 999000000 0 i.2.2, .ref false 2270000 0 n_sights, .ref false 2300000 0 n_began, .ref false 2330000 0 n_rang]), (999000000, .arr 5 false (A.enc (cGC A) i.2.1))]) (fun i => 0 <= i.1 /\ i.1.toNat <= groups.length /\ i.2.2 = i.2.1.length /\ i.2.1 = (groups.take i.1.toNat).map GC.own) (fun i => (groups.length - i.1.toNat)) ((0, [], 0)) [99999] S.cx.tab S.cx.mix S.eq ?_ ?_ ?_
  · exact ⟨Int.le_refl _, Nat.zero_le _, rfl, rfl⟩
  · ((cbv; repeat (refine Later.mk ?_; cbv)); refine Less.to [] rfl rfl ?_ ?_ <;> repeat' (first | exact trivial | exact ⟨rfl, rfl⟩ | exact ⟨_, rfl, Nat.zero_le _, rfl⟩ | apply And.intro | exact rfl))
    all_goals first | exact noRefsNil | exact noRefsOP S _ | exact noRefsGC S.cx (fun x hx => by cases hx) | exact noRefsPC S.cx (fun x hx => by cases hx) | skip
  rintro ⟨i, m, k⟩ ⟨h1, h2, h3, h4⟩
  dsimp only at h1 h2 h3 h4
  have hml : m.length = i.toNat := by rw [h4]; simp; omega
  refine Rnd.mk ?_; (cbv; repeat (refine Later.mk ?_; cbv))
  refine LenR.nat S.cx (fun ng hng hmg => ?_); (cbv; repeat (refine Later.mk ?_; cbv))
  refine Test.lss (fun h => ?_) (fun h => ?_) <;> (cbv; repeat (refine Later.mk ?_; cbv))
  · skip
    (try (refine Drawn.mk ⟨by kernel_rfl, fun _ => ?_⟩)); (repeat (refine Later.mk ?_; cbv))
    refine ElemRo.enc S.cx (fun _ => rfl) (by lia) (by lia) (fun x hx => ?_); (cbv; repeat (refine Later.mk ?_; cbv))
    have hgb := hfew.groups.2 x (mem_at hx)
    obtain ⟨node, limit, active, waits, first⟩ := x
    (cbv; repeat (refine Later.mk ?_; cbv)); repeat (refine Later.mk ?_; (cbv; repeat (refine Later.mk ?_; cbv)))
    refine ACall.valN (r := rGr A) (os := fun _ => []) (dp := false) S.cx (groupCopy_c S node limit active waits first (Nat.le_trans hgb (by decide))) .go rfl (fun ln hln x0 hx => ⟨rfl, ?_⟩)
    cases hx
    (cbv; repeat (refine Later.mk ?_; cbv))
    have hq := hln cInt64 waits
    generalize ln (A.enc cInt64 waits) = q at hq ⊢
    refine Part.one ?_; (cbv; repeat (refine Later.mk ?_; cbv))
    refine AppRef.pushF S.cx (GC.ref ⟨node, limit, active, waits, first⟩ 6070003 q) h3 rfl rfl rfl (fun v hv => by simp only [cGC, List.mem_cons, List.not_mem_nil, or_false] at hv; rcases hv with rfl | rfl | rfl | rfl | rfl <;> rfl) (by simp only [maxBytes]; have := hfew.groups.1; dsimp only at this; omega) (fun n' m' hm' hn' => ?_); (cbv; repeat (refine Later.mk ?_; cbv))
    refine Arith.go (by omega) (fun i' hi' => ?_); (cbv; repeat (refine Later.mk ?_; cbv))
    replace hi' : i' = i + 1 := hi'
    obtain ⟨m2, hm2⟩ : ∃ m2, m2 = m'.set i.toNat (GC.own ⟨node, limit, active, waits, first⟩) := ⟨_, rfl⟩
    have hmx : m'[i.toNat]? = some (GC.ref ⟨node, limit, active, waits, first⟩ 6070003 q) := by rw [hm', <- hml]; simp
    have hm3 : m2 = (groups.take i'.toNat).map GC.own := by
      rw [hm2, hm', show i'.toNat = i.toNat + 1 by omega, take_next hx, List.map_append, <- h4, <- hml]
      simp
    refine Again.on (i', m2, n') (by dsimp only; omega) ⟨by dsimp only; omega, by dsimp only; have := lt_of_get hx; omega, by dsimp only; rw [hn', set_len hm2], hm3⟩ ?_
    refine Less.trans (Less.fold S.cx (id := 6090000) (L := 6070003) (i := i.toNat) (j := 3) (m := m') (GC.ref ⟨node, limit, active, waits, first⟩ 6070003 q) (GC.own ⟨node, limit, active, waits, first⟩) rfl hmx rfl rfl hq rfl rfl hm2) ?_
    ((cbv; repeat (refine Later.mk ?_; cbv)); refine Less.to [(999000000, (6090000, 0))] rfl rfl ?_ ?_ <;> repeat' (first | exact trivial | exact ⟨rfl, rfl⟩ | exact ⟨_, rfl, Nat.zero_le _, rfl⟩ | apply And.intro | exact rfl))
    all_goals first | exact noRefsNil | exact noRefsOP S _ | exact noRefsGC S.cx (fun c hc => by rw [hm3] at hc; obtain ⟨_, _, rfl⟩ := List.mem_map.1 hc; trivial) | skip
  · have e : m = groups.map GC.own := by rw [h4, take_all (by omega)]
    repeat (refine Later.mk ?_; (cbv; repeat (refine Later.mk ?_; cbv)))
    have hgk : k = groups.length := by rw [h3, e]; simp
    subst e
    exact Done.is (r := (fun x : World => .agg (ownWorld A x))) (x := ⟨now, progs, tree, events, ⟨told, work⟩, ⟨heap, list, next⟩, ⟨⟨ages, used⟩, alist⟩, tasks, groups, sights, began, rang⟩) (by repeat' (first | exact S.rf (by show some (Obj.arr 5 false (A.enc (cGC A) (groups.map GC.own))) = _; rw [encGC S.cx]) hgk | exact trivial | exact rfl | exact S.ra rfl ‹_› | exact S.rb rfl | exact S.rc rfl ‹_› | exact S.rd rfl ‹_› | exact S.gh | exact S.re rfl ‹_› | exact S.rg rfl ‹_› | refine ⟨?_, ?_⟩)) rfl rfl

end Go.Proofs.YtihfpbhalnedcaaGreat.AM
