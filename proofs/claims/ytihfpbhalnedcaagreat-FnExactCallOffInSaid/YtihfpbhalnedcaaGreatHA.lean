import Derived.Test.YtihfpbhalnedcaaGreatDA
import Derived.Test.YtihfpbhalnedcaaGreatBC
/- In one: H1 J1 M2 J2 K3 -/
set_option linter.unusedVariables false
set_option linter.unusedSimpArgs false
namespace Go.Proofs.YtihfpbhalnedcaaGreat.AM
open Go Go.Proofs

set_option maxRecDepth 100000
set_option maxHeartbeats 4000000

variable {P : Program} {A : Sy}

theorem within_c (S : Se P A) (n lo hi : Int) : Tests P 161 [.int .i64 n, .int .i64 lo, .int .i64 hi] (lo <= n /\ n <= hi) := by
  refine S.cx.by (S.prog ▸ Tryz.func161) rfl rfl rfl rfl (fun hv ho => ?_)
  cbv
  repeat' (first
    | (refine Test.eql (fun _ => ?_) (fun _ => ?_) <;> cbv)
    | (refine Test.neq (fun _ => ?_) (fun _ => ?_) <;> cbv)
    | (refine Test.lss (fun _ => ?_) (fun _ => ?_) <;> cbv)
    | (refine Test.leq (fun _ => ?_) (fun _ => ?_) <;> cbv)
    | (refine Test.gtr (fun _ => ?_) (fun _ => ?_) <;> cbv)
    | (refine Test.geq (fun _ => ?_) (fun _ => ?_) <;> cbv)
    | (refine ⟨⟨by kernel_rfl, fun _ => ?_⟩⟩)
    | (refine LenR.nat S.cx (fun N hN hm => ?_); cbv)
    | exact Done.yes (by omega)
    | exact Done.no (by omega))

theorem l1In_c (S : Se P A) (n lo hi : Int) : Tests P 147 [.int .i64 n, .int .i64 lo, .int .i64 hi] (lo <= n /\ n <= hi) := by
  refine S.cx.by (S.prog ▸ Tryz.func147) rfl rfl rfl rfl (fun hv ho => ?_)
  cbv
  repeat' (first
    | (refine Test.eql (fun _ => ?_) (fun _ => ?_) <;> cbv)
    | (refine Test.neq (fun _ => ?_) (fun _ => ?_) <;> cbv)
    | (refine Test.lss (fun _ => ?_) (fun _ => ?_) <;> cbv)
    | (refine Test.leq (fun _ => ?_) (fun _ => ?_) <;> cbv)
    | (refine Test.gtr (fun _ => ?_) (fun _ => ?_) <;> cbv)
    | (refine Test.geq (fun _ => ?_) (fun _ => ?_) <;> cbv)
    | (refine ⟨⟨by kernel_rfl, fun _ => ?_⟩⟩)
    | (refine LenR.nat S.cx (fun N hN hm => ?_); cbv)
    | exact Done.yes (by omega)
    | exact Done.no (by omega))

theorem l10Waits_c (S : Se P A) (prog pc state why what timer reg group err : Int) : Tests P 260 [.agg (cTask ⟨prog, pc, state, why, what, timer, reg, group, err⟩)]
    (((why = 1 ∨ why = 2) /\ 0 <= what /\ what <= 59 ∨ (why = 3 ∨ why = 4) /\ 0 <= what /\ what <= 7) /\ (why = 2 /\ 0 <= timer /\ timer <= 1000000 ∨ why ≠ 2 /\ timer = -1)) := by
  refine S.cx.by (S.prog ▸ Tryz.func260) rfl rfl rfl rfl (fun hv ho => ?_)
  cbv
  repeat' (first
    | (refine ACall.testD (dp := false) (l1In_c S _ _ _) ⟨rfl, (by repeat' (first | exact trivial | exact rfl | refine ⟨?_, ?_⟩)), trivial⟩ rfl (fun _ => ?_) (fun _ => ?_) <;> cbv)
    | (refine Test.eql (fun _ => ?_) (fun _ => ?_) <;> cbv)
    | (refine Test.neq (fun _ => ?_) (fun _ => ?_) <;> cbv)
    | (refine Test.lss (fun _ => ?_) (fun _ => ?_) <;> cbv)
    | (refine Test.leq (fun _ => ?_) (fun _ => ?_) <;> cbv)
    | (refine Test.gtr (fun _ => ?_) (fun _ => ?_) <;> cbv)
    | (refine Test.geq (fun _ => ?_) (fun _ => ?_) <;> cbv)
    | (refine ⟨⟨by kernel_rfl, fun _ => ?_⟩⟩)
    | (refine LenR.nat S.cx (fun N hN hm => ?_); cbv)
    | exact Done.yes (by omega)
    | exact Done.no (by omega))

theorem specTaskOk_c (S : Se P A) (prog pc state why what timer reg group err : Int) : Tests P 186 [.agg (cTask ⟨prog, pc, state, why, what, timer, reg, group, err⟩)] (TaskOk ⟨prog, pc, state, why, what, timer, reg, group, err⟩) := by
  refine S.cx.by (S.prog ▸ Tryz.func186) rfl rfl rfl rfl (fun hv ho => ?_)
  cbv
  clear hv ho
  repeat' (first
    | (refine ACall.testD (dp := false) (l1In_c S _ _ _) ⟨rfl, (by repeat' (first | exact trivial | exact rfl | refine ⟨?_, ?_⟩)), trivial⟩ rfl (fun _ => ?_) (fun _ => ?_) <;> cbv)
    | (refine ACall.testD (dp := false) (l10Waits_c S _ _ _ _ _ _ _ _ _) ⟨rfl, (by repeat' (first | exact trivial | exact rfl | refine ⟨?_, ?_⟩)), trivial⟩ rfl (fun _ => ?_) (fun _ => ?_) <;> cbv)
    | (refine Test.eql (fun _ => ?_) (fun _ => ?_) <;> cbv)
    | (refine Test.neq (fun _ => ?_) (fun _ => ?_) <;> cbv)
    | (refine Test.lss (fun _ => ?_) (fun _ => ?_) <;> cbv)
    | (refine Test.leq (fun _ => ?_) (fun _ => ?_) <;> cbv)
    | (refine Test.gtr (fun _ => ?_) (fun _ => ?_) <;> cbv)
    | (refine Test.geq (fun _ => ?_) (fun _ => ?_) <;> cbv)
    | (refine ⟨⟨by kernel_rfl, fun _ => ?_⟩⟩)
    | (refine LenR.nat S.cx (fun N hN hm => ?_); cbv)
    | exact Done.yes (by simp only [TaskOk]; grind)
    | exact Done.no (by simp only [TaskOk]; grind))

theorem implTaskOk_c (S : Se P A) (prog pc state why what timer reg group err : Int) : Tests P 261 [.agg (cTask ⟨prog, pc, state, why, what, timer, reg, group, err⟩)] (TaskOk ⟨prog, pc, state, why, what, timer, reg, group, err⟩) := by
  refine S.cx.by (S.prog ▸ Tryz.func261) rfl rfl rfl rfl (fun hv ho => ?_)
  cbv
  clear hv ho
  repeat' (first
    | (refine ACall.testD (dp := false) (within_c S _ _ _) ⟨rfl, (by repeat' (first | exact trivial | exact rfl | refine ⟨?_, ?_⟩)), trivial⟩ rfl (fun _ => ?_) (fun _ => ?_) <;> cbv)
    | (refine Test.eql (fun _ => ?_) (fun _ => ?_) <;> first | (exfalso; omega) | cbv)
    | (refine Test.neq (fun _ => ?_) (fun _ => ?_) <;> first | (exfalso; omega) | cbv)
    | (refine Test.lss (fun _ => ?_) (fun _ => ?_) <;> first | (exfalso; omega) | cbv)
    | (refine Test.leq (fun _ => ?_) (fun _ => ?_) <;> first | (exfalso; omega) | cbv)
    | (refine Test.gtr (fun _ => ?_) (fun _ => ?_) <;> first | (exfalso; omega) | cbv)
    | (refine Test.geq (fun _ => ?_) (fun _ => ?_) <;> first | (exfalso; omega) | cbv)
    | (refine ⟨⟨by kernel_rfl, fun _ => ?_⟩⟩)
    | (refine LenR.nat S.cx (fun N hN hm => ?_); cbv)
    | exact Done.yes (by simp only [TaskOk]; grind)
    | exact Done.no (by simp only [TaskOk]; grind))

end Go.Proofs.YtihfpbhalnedcaaGreat.AM

namespace Go.Proofs.YtihfpbhalnedcaaGreat.AM
open Go Go.Proofs

set_option maxRecDepth 100000
set_option maxHeartbeats 4000000

variable {P : Program} {A : Sy}

theorem l6In_c (S : Se P A) (l : List Int) (n : Int) : Tests P 287 [.ro (A.enc cInt64 l), .int .i64 n] (n ∈ l) := by
  refine S.cx.by (S.prog ▸ Tryz.func287) rfl rfl rfl rfl (fun hv ho => ?_)
  cbv
  refine ALoop.goS (ι := Int) (fun i => [(5, .int .i64 i)]) [] (fun i => []) (fun i => 0 <= i /\ n ∉ l.take i.toNat) (fun i => (l.length - i).toNat) (0) S.cx.tab S.cx.mix S.eq ?_ ?_ ?_
  · exact ⟨Int.le_refl _, by simp⟩
  · (cbv; exact Less.toA [])
  · rintro i ⟨h0, hn⟩
    refine Rnd.mk ?_; cbv
    refine LenR.nat S.cx (fun N hN hm => ?_); cbv
    refine Test.lss (fun h => ?_) (fun h => ?_) <;> cbv
    · refine ElemRo.enc S.cx (fun _ => rfl) (by lia) (by lia) (fun x hx => ?_); cbv
      refine Test.eql (fun h2 => ?_) (fun h2 => ?_) <;> cbv
      · exact Done.yes (h2 ▸ mem_at hx)
      · refine Arith.go (by lia) (fun i' hi' => ?_); cbv
        refine Again.on i' (by lia) ⟨by lia, not_mem_take_next hn h0 hx h2 hi'⟩ ?_
        (cbv; exact Less.toA [])
    · exact Done.no (by rw [take_all (by lia)] at hn; exact hn)

end Go.Proofs.YtihfpbhalnedcaaGreat.AM

namespace Go.Proofs.YtihfpbhalnedcaaGreat.AM
open Go Go.Proofs

def GroupOk (g : Group) : Prop :=
  (0 <= g.node /\ g.node <= 59) /\ (0 <= g.limit /\ g.limit <= 20) /\ (0 <= g.active /\ g.active <= 60) /\ ¬ (0 < g.limit /\ g.limit < g.active) /\ (0 <= g.first /\ g.first <= 99) /\
    (∀ t ∈ g.waits, 0 <= t /\ t <= 59) /\ g.waits.Nodup /\ (g.waits = [] ∨ 0 < g.limit /\ g.active = g.limit)

instance (g : Group) : Decidable (GroupOk g) := by unfold GroupOk; infer_instance

def Room (g : Group) : Prop := (g.limit = 0 ∨ g.active < g.limit) /\ g.active < 60

instance (g : Group) : Decidable (Room g) := by unfold Room; infer_instance

def group0 : Group := ⟨0, 0, 0, [], 0⟩

end Go.Proofs.YtihfpbhalnedcaaGreat.AM

namespace Go.Proofs.YtihfpbhalnedcaaGreat.AM
open Go Go.Proofs

set_option maxRecDepth 100000
set_option maxHeartbeats 4000000

variable {P : Program} {A : Sy}

theorem index_c (S : Se P A) (l : List Int) (n : Int) : Nums P 361 [.ro (A.enc cInt64 l), .int .i64 n] (fun r => 0 <= r /\ l[r.toNat]? = some n /\ n ∉ l.take r.toNat ∨ r = -1 /\ n ∉ l) := by
  refine S.cx.by (S.prog ▸ Tryz.func361) rfl rfl rfl rfl (fun hv ho => ?_)
  cbv
  refine LenR.nat S.cx (fun N hN hm => ?_); cbv
  refine ALoop.goS (ι := Int) (fun i => [(8, .int .i64 i)]) [] (fun i => []) (fun i => 0 <= i /\ n ∉ l.take i.toNat) (fun i => (l.length - i).toNat) (0) S.cx.tab S.cx.mix S.eq ?_ ?_ ?_
  · exact ⟨Int.le_refl _, by simp⟩
  · (cbv; exact Less.toA [])
  · rintro i ⟨h0, hn⟩
    refine Rnd.mk ?_; cbv
    refine Test.lss (fun h => ?_) (fun h => ?_) <;> cbv
    · refine ElemRo.enc S.cx (fun _ => rfl) (by lia) (by lia) (fun x hx => ?_); cbv
      refine Test.eql (fun h2 => ?_) (fun h2 => ?_) <;> cbv
      · exact Done.num (.inl ⟨h0, by rw [hx, h2], hn⟩)
      · refine Arith.go (by lia) (fun i' hi' => ?_); cbv
        refine Again.on i' (by lia) ⟨by lia, not_mem_take_next hn h0 hx (fun e => h2 e.symm) hi'⟩ ?_
        (cbv; exact Less.toA [])
    · exact Done.num (.inr ⟨rfl, by rw [take_all (by lia)] at hn; exact hn⟩)

theorem contains_c (S : Se P A) (l : List Int) (n : Int) : Tests P 330 [.ro (A.enc cInt64 l), .int .i64 n] (n ∈ l) := by
  refine S.cx.by (S.prog ▸ Tryz.func330) rfl rfl rfl rfl (fun hv ho => ?_)
  cbv
  refine ACall.num (dp := false) (index_c S _ _) .go (fun r hr => ?_); cbv
  refine Test.geq (fun h => ?_) (fun h => ?_) <;> cbv
  · refine Done.yes ?_
    rcases hr with ⟨_, hr, _⟩ | ⟨rfl, _⟩
    · exact mem_at hr
    · exact absurd h (by decide)
  · refine Done.no fun hx => ?_
    rcases hr with ⟨h0, _⟩ | ⟨_, hr⟩
    · lia
    · exact hr hx

theorem specGroupOk_c (S : Se P A) (node limit active : Int) (waits : List Int) (first : Int) : Tests P 217 [.agg [.int .i64 node, .int .i64 limit, .int .i64 active, .ro (A.enc cInt64 waits), .int .i64 first]] (GroupOk ⟨node, limit, active, waits, first⟩) := by
  refine S.cx.by (S.prog ▸ Tryz.func217) rfl rfl rfl rfl (fun hv ho => ?_)
  cbv
  repeat' (first
    | (refine ACall.testD (dp := false) (l1In_c S _ _ _) ⟨rfl, (by repeat' (first | exact trivial | exact rfl | refine ⟨?_, ?_⟩)), trivial⟩ rfl (fun _ => ?_) (fun _ => ?_) <;> cbv)
    | (refine Test.eql (fun _ => ?_) (fun _ => ?_) <;> cbv)
    | (refine Test.neq (fun _ => ?_) (fun _ => ?_) <;> cbv)
    | (refine Test.lss (fun _ => ?_) (fun _ => ?_) <;> cbv)
    | (refine Test.leq (fun _ => ?_) (fun _ => ?_) <;> cbv)
    | (refine Test.gtr (fun _ => ?_) (fun _ => ?_) <;> cbv)
    | (refine Test.geq (fun _ => ?_) (fun _ => ?_) <;> cbv)
    | (refine ⟨⟨by kernel_rfl, fun _ => ?_⟩⟩)
    | (refine LenR.nat S.cx (fun N hN hm => ?_); cbv)
    | exact Done.yes (by (intro hg; have := hg.1; have := hg.2.1; have := hg.2.2.1; have := hg.2.2.2.1; have := hg.2.2.2.2.1; dsimp only at *; omega))
    | exact Done.no (by (intro hg; have := hg.1; have := hg.2.1; have := hg.2.2.1; have := hg.2.2.2.1; have := hg.2.2.2.2.1; dsimp only at *; omega)))
  all_goals
    rename_i g1 g2 g3 g4 g5
    refine ALoop.goS (ι := Int) (fun i => [(3, .int .i64 i)]) [] (fun i => []) (fun i => 0 <= i /\ Upto (fun j x => (0 <= x /\ x <= 59) /\ x ∉ waits.take j) waits i) (fun i => (waits.length - i).toNat) (0) S.cx.tab S.cx.mix S.eq ?_ ?_ ?_
    · exact ⟨Int.le_refl _, .zero⟩
    · (cbv; exact Less.toA [])
    rintro i ⟨h0, hu⟩
    refine Rnd.mk ?_; cbv
    refine LenR.nat S.cx (fun N hN hm => ?_); cbv
    refine Test.lss (fun h => ?_) (fun h => ?_) <;> cbv
    · try (refine Drawn.mk ⟨by kernel_rfl, fun _ => ?_⟩)
      refine ElemRo.enc S.cx (fun _ => rfl) (by lia) (by lia) (fun x hx => ?_); cbv
      refine ACall.testD (dp := false) (l1In_c S _ _ _) .go rfl (fun h2 => ?_) (fun h2 => ?_) <;> cbv
      rotate_left
      · exact Done.no (fun hg => h2 (hg.2.2.2.2.2.1 _ (mem_at hx)))
      refine CutRo.enc S.cx (fun _ => rfl) (by lia) (by lia) (by lia) (fun l' hl' => ?_); cbv
      refine ElemRo.at S.cx (x := x) rfl (by lia) hx ?_; cbv
      refine ACall.testD (dp := false) (l6In_c S _ _) .go rfl (fun h3 => ?_) (fun h3 => ?_) <;> cbv
      · exact Done.no (fun hg => nodup_take.2 hg.2.2.2.2.2.2.1 _ _ hx (by simpa [hl'] using h3))
      refine Arith.go (by lia) (fun i' hi' => ?_); cbv
      refine Again.on i' (by lia) ⟨by lia, hu.next h0 hx ⟨h2, by simpa [hl'] using h3⟩ hi'⟩ ?_
      (cbv; exact Less.toA [])
    · have hu := hu.all (by lia)
      have w1 : ∀ t ∈ waits, 0 <= t /\ t <= 59 := fun t ht => by
        obtain ⟨j, hj⟩ := List.getElem?_of_mem ht
        exact (hu j t hj).1
      have w2 : waits.Nodup := nodup_take.1 fun j x hx => (hu j x hx).2
      refine LenR.nat S.cx (fun M hM hm2 => ?_); cbv
      have key : GroupOk ⟨node, limit, active, waits, first⟩ ↔ (M = 0 ∨ 0 < limit /\ active = limit) := by
        rw [show (M = 0) ↔ waits = [] from ⟨fun e => List.length_eq_zero_iff.1 (by omega), fun e => by rw [e] at hM; simp at hM; omega⟩]
        exact ⟨fun hg => hg.2.2.2.2.2.2.2, fun hw => ⟨by dsimp only; omega, by dsimp only; omega, by dsimp only; omega, by dsimp only; omega, by dsimp only; omega, w1, w2, hw⟩⟩
      repeat' (first
    | (refine Test.eql (fun _ => ?_) (fun _ => ?_) <;> cbv)
    | (refine Test.neq (fun _ => ?_) (fun _ => ?_) <;> cbv)
    | (refine Test.lss (fun _ => ?_) (fun _ => ?_) <;> cbv)
    | (refine Test.leq (fun _ => ?_) (fun _ => ?_) <;> cbv)
    | (refine Test.gtr (fun _ => ?_) (fun _ => ?_) <;> cbv)
    | (refine Test.geq (fun _ => ?_) (fun _ => ?_) <;> cbv)
    | (refine ⟨⟨by kernel_rfl, fun _ => ?_⟩⟩)
    | (refine LenR.nat S.cx (fun N hN hm => ?_); cbv)
    | exact Done.yes (by (rw [key]; omega))
    | exact Done.no (by (rw [key]; omega)))

theorem implGroupOk_c (S : Se P A) (node limit active : Int) (waits : List Int) (first : Int) : Tests P 317 [.agg [.int .i64 node, .int .i64 limit, .int .i64 active, .ro (A.enc cInt64 waits), .int .i64 first]] (GroupOk ⟨node, limit, active, waits, first⟩) := by
  refine S.cx.by (S.prog ▸ Tryz.func317) rfl rfl rfl rfl (fun hv ho => ?_)
  cbv
  have hw0 : waits.length = 0 ↔ waits = [] := by simp
  repeat' (first
    | (refine ACall.testD (dp := false) (within_c S _ _ _) ⟨rfl, (by repeat' (first | exact trivial | exact rfl | refine ⟨?_, ?_⟩)), trivial⟩ rfl (fun _ => ?_) (fun _ => ?_) <;> cbv)
    | (refine Test.eql (fun _ => ?_) (fun _ => ?_) <;> cbv)
    | (refine Test.neq (fun _ => ?_) (fun _ => ?_) <;> cbv)
    | (refine Test.lss (fun _ => ?_) (fun _ => ?_) <;> cbv)
    | (refine Test.leq (fun _ => ?_) (fun _ => ?_) <;> cbv)
    | (refine Test.gtr (fun _ => ?_) (fun _ => ?_) <;> cbv)
    | (refine Test.geq (fun _ => ?_) (fun _ => ?_) <;> cbv)
    | (refine ⟨⟨by kernel_rfl, fun _ => ?_⟩⟩)
    | (refine LenR.nat S.cx (fun N hN hm => ?_); cbv)
    | exact Done.yes (by (intro hg; have := hg.1; have := hg.2.1; have := hg.2.2.1; have := hg.2.2.2.1; have := hg.2.2.2.2.1; have := hg.2.2.2.2.2.2.2; rw [<- hw0] at this; dsimp only at *; omega))
    | exact Done.no (by (intro hg; have := hg.1; have := hg.2.1; have := hg.2.2.1; have := hg.2.2.2.1; have := hg.2.2.2.2.1; have := hg.2.2.2.2.2.2.2; rw [<- hw0] at this; dsimp only at *; omega)))
  all_goals
    rename_i M hM hm2
    refine ALoop.goS (ι := Int) (fun i => [(58, .int .i64 i)]) [] (fun i => []) (fun i => 0 <= i /\ Upto (fun j x => (0 <= x /\ x <= 59) /\ x ∉ waits.take j) waits i) (fun i => (waits.length - i).toNat) (0) S.cx.tab S.cx.mix S.eq ?_ ?_ ?_
    · exact ⟨Int.le_refl _, .zero⟩
    · (cbv; exact Less.toA [])
    rintro i ⟨h0, hu⟩
    refine Rnd.mk ?_; cbv
    refine Test.lss (fun h => ?_) (fun h => ?_) <;> cbv
    · refine ElemRo.enc S.cx (fun _ => rfl) (by lia) (by lia) (fun x hx => ?_); cbv
      refine ACall.testD (dp := false) (within_c S _ _ _) .go rfl (fun h2 => ?_) (fun h2 => ?_) <;> cbv
      rotate_left
      · exact Done.no (fun hg => h2 (hg.2.2.2.2.2.1 _ (mem_at hx)))
      refine CutRo.enc S.cx (fun _ => rfl) (by lia) (by lia) (by lia) (fun l' hl' => ?_); cbv
      refine ACall.testD (dp := false) (contains_c S _ _) .go rfl (fun h3 => ?_) (fun h3 => ?_) <;> cbv
      · exact Done.no (fun hg => nodup_take.2 hg.2.2.2.2.2.2.1 _ _ hx (by simpa [hl'] using h3))
      refine Arith.go (by lia) (fun i' hi' => ?_); cbv
      refine Again.on i' (by lia) ⟨by lia, hu.next h0 hx ⟨h2, by simpa [hl'] using h3⟩ hi'⟩ ?_
      (cbv; exact Less.toA [])
    · have hu := hu.all (by lia)
      have w1 : ∀ t ∈ waits, 0 <= t /\ t <= 59 := fun t ht => by
        obtain ⟨j, hj⟩ := List.getElem?_of_mem ht
        exact (hu j t hj).1
      have w2 : waits.Nodup := nodup_take.1 fun j x hx => (hu j x hx).2
      exact Done.yes ⟨by dsimp only; omega, by dsimp only; omega, by dsimp only; omega, by dsimp only; omega, by dsimp only; omega, w1, w2, by rw [<- hw0]; dsimp only; omega⟩

end Go.Proofs.YtihfpbhalnedcaaGreat.AM

namespace Go.Proofs.YtihfpbhalnedcaaGreat.AM
open Go Go.Proofs

set_option maxRecDepth 100000
set_option maxHeartbeats 4000000

variable {P : Program} {A : Sy}

theorem indexFuncTask_c (S : Se P A) (F : FuncId) (q : Task -> Prop) (hF : ∀ x : Task, Tests P F [.agg (cTask x)] (q x)) (l : List Task) : Nums P 357 [.ro (A.enc cTask l), .fn F [] []] (fun r => 0 <= r /\ (∃ x, l[r.toNat]? = some x /\ q x) /\ Upto (fun _ x => ¬ q x) l r ∨ r = -1 /\ ∀ x ∈ l, ¬ q x) := by
  refine S.cx.by (S.prog ▸ Tryz.func357) rfl rfl rfl rfl (fun hv ho => ?_)
  cbv
  refine LenR.nat S.cx (fun N hN hm => ?_); cbv
  refine ALoop.goD (ι := Int) (fun i => [(8, .int .i64 i)]) [] (fun i => []) (fun i => 0 <= i /\ Upto (fun _ x => ¬ q x) l i) (fun i => (l.length - i).toNat) (0) S.cx.tab S.cx.mix S.eq ?_ ?_ ?_
  · exact ⟨Int.le_refl _, .zero⟩
  · (cbv; exact Less.toA [])
  · rintro i ⟨h0, hu⟩
    cbv
    refine Test.lss (fun h => ?_) (fun h => ?_) <;> cbv
    · refine ElemRo.enc S.cx (fun _ => rfl) (by lia) (by lia) (fun x hx => ?_); cbv
      refine ACall.testD (dp := false) (hF x) .go rfl (fun h2 => ?_) (fun h2 => ?_) <;> cbv
      · exact Done.num (.inl ⟨h0, ⟨x, hx, h2⟩, hu⟩)
      · refine Arith.go (by lia) (fun i' hi' => ?_); cbv
        refine Again.on i' (by lia) ⟨by lia, hu.next h0 hx h2 hi'⟩ ?_
        (cbv; exact Less.toA [])
    · exact Done.num (.inr ⟨rfl, hu.mem (by lia)⟩)

theorem containsFuncTask_c (S : Se P A) (F : FuncId) (q : Task -> Prop) (hF : ∀ x : Task, Tests P F [.agg (cTask x)] (q x)) (l : List Task) : Tests P 310 [.ro (A.enc cTask l), .fn F [] []] (∃ x ∈ l, q x) := by
  refine S.cx.by (S.prog ▸ Tryz.func310) rfl rfl rfl rfl (fun hv ho => ?_)
  cbv
  refine ACall.num (dp := false) (indexFuncTask_c S F q hF l) .go (fun r hr => ?_); cbv
  refine Test.geq (fun h => ?_) (fun h => ?_) <;> cbv
  · refine Done.yes ?_
    rcases hr with ⟨_, ⟨x, hx, hq⟩, _⟩ | ⟨rfl, _⟩
    · exact ⟨x, mem_at hx, hq⟩
    · exact absurd h (by decide)
  · refine Done.no fun ⟨x, hx, hq⟩ => ?_
    rcases hr with ⟨h0, _⟩ | ⟨_, hr⟩
    · lia
    · exact hr x hx hq

def TasksOk (l : List Task) : Prop := l.length <= 60 /\ ∀ t ∈ l, TaskOk t

theorem implTasksOk1_c (S : Se P A) (x : Task) : Tests P 311 [.agg (cTask x)] (¬ TaskOk x) := by
  refine S.cx.by (S.prog ▸ Tryz.func311) rfl rfl rfl rfl (fun hv ho => ?_)
  cbv
  refine ACall.testD (dp := false) (implTaskOk_c S x.prog x.pc x.state x.why x.what x.timer x.reg x.group x.err) .go rfl (fun h => ?_) (fun h => ?_) <;> cbv
  · exact Done.no (fun e => e h)
  · exact Done.yes h

theorem implTasksOk_c (S : Se P A) (l : List Task) : Tests P 236 [.ro (A.enc cTask l)] (TasksOk l) := by
  refine S.cx.by (S.prog ▸ Tryz.func236) rfl rfl rfl rfl (fun hv ho => ?_)
  cbv
  refine LenR.nat S.cx (fun N hN hm => ?_); cbv
  refine Test.leq (fun h => ?_) (fun h => ?_) <;> cbv
  · refine ACall.testD (dp := false) (containsFuncTask_c S _ _ (implTasksOk1_c S) l) .go rfl (fun h2 => ?_) (fun h2 => ?_) <;> cbv
    · exact Done.no (fun e => by obtain ⟨x, hx, hn⟩ := h2; exact hn (e.2 x hx))
    · exact Done.yes ⟨by omega, fun x hx => Classical.byContradiction fun hn => h2 ⟨x, hx, hn⟩⟩
  · exact Done.no (fun e => by have := e.1; omega)

theorem specTasksOk_c (S : Se P A) (l : List Task) : Tests P 216 [.ro (A.enc cTask l)] (TasksOk l) := by
  refine S.cx.by (S.prog ▸ Tryz.func216) rfl rfl rfl rfl (fun hv ho => ?_)
  cbv
  refine ALoop.goD (ι := Int) (fun i => [(3, .int .i64 i)]) [] (fun i => []) (fun i => 0 <= i /\ Upto (fun _ x => TaskOk x) l i) (fun i => (l.length - i).toNat) (0) S.cx.tab S.cx.mix S.eq ?_ ?_ ?_
  · exact ⟨Int.le_refl _, .zero⟩
  · (cbv; exact Less.toA [])
  · rintro i ⟨h0, hu⟩
    cbv
    refine LenR.nat S.cx (fun N hN hm => ?_); cbv
    refine Test.lss (fun h => ?_) (fun h => ?_) <;> cbv
    · refine ElemRo.enc S.cx (fun _ => rfl) (by lia) (by lia) (fun x hx => ?_); cbv
      refine ACall.testD (dp := false) (specTaskOk_c S x.prog x.pc x.state x.why x.what x.timer x.reg x.group x.err) .go rfl (fun h2 => ?_) (fun h2 => ?_) <;> cbv
      · refine Arith.go (by lia) (fun i' hi' => ?_); cbv
        refine Again.on i' (by lia) ⟨by lia, hu.next h0 hx h2 hi'⟩ ?_
        (cbv; exact Less.toA [])
      · exact Done.no (fun e => h2 (e.2 x (mem_at hx)))
    · have hu := hu.mem (by lia)
      refine LenR.nat S.cx (fun M hM hm2 => ?_); cbv
      refine Test.leq (fun h2 => ?_) (fun h2 => ?_) <;> cbv
      · exact Done.yes ⟨by omega, hu⟩
      · exact Done.no (fun e => by have := e.1; omega)

end Go.Proofs.YtihfpbhalnedcaaGreat.AM
