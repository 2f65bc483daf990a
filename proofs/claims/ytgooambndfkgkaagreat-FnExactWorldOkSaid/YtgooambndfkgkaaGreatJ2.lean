/- Contracts: search; valid groups. -/
import Derived.Test.YtgooambndfkgkaaGreatJ1
import Derived.Test.YtgooambndfkgkaaGreatM2
namespace Go.Proofs.YtgooambndfkgkaaGreat.AM
open Go Go.Proofs

set_option maxRecDepth 100000
set_option maxHeartbeats 4000000
set_option linter.unusedVariables false
set_option linter.unusedSimpArgs false

variable {P : Program} {A : Sy}

theorem index_c (S : Se P A) (l : List Int) (n : Int) : Nums P 283 [.ro (A.enc cInt64 l), .int .i64 n] (fun r => 0 ≤ r ∧ l[r.toNat]? = some n ∧ n ∉ l.take r.toNat ∨ r = -1 ∧ n ∉ l) := by
  refine S.cx.by (S.prog ▸ Tryz.func283) rfl rfl rfl rfl (fun hv ho => ?_)
  cbv
  refine LenR.nat S.cx (fun N hN hm => ?_); cbv
  refine ALoop.goS (ι := Int) (fun i => [(8, .int .i64 i)]) [] (fun i => []) (fun i => 0 ≤ i ∧ n ∉ l.take i.toNat) (fun i => (l.length - i).toNat) (0) S.cx.tab S.cx.mix S.eq ?_ ?_ ?_
  · exact ⟨Int.le_refl _, by simp⟩
  · (cbv; refine Less.to [] rfl rfl ?_ ?_ <;> repeat' (first | exact trivial | exact ⟨rfl, rfl⟩ | exact ⟨_, rfl, Nat.zero_le _, rfl⟩ | apply And.intro | exact rfl))
  · rintro i ⟨h0, hn⟩
    refine Rnd.mk ?_; cbv
    refine Test.lss (fun h => ?_) (fun h => ?_) <;> cbv
    · refine ElemRo.enc S.cx (fun _ => rfl) (by lia) (by lia) (fun x hx => ?_); cbv
      refine Test.eql (fun h2 => ?_) (fun h2 => ?_) <;> cbv
      · exact Done.num (.inl ⟨h0, by rw [hx, h2], hn⟩)
      · refine Arith.go (by lia) (fun i' hi' => ?_); cbv
        refine Again.on i' (by lia) ⟨by lia, not_mem_take_next hn h0 hx (fun e => h2 e.symm) hi'⟩ ?_
        (cbv; refine Less.to [] rfl rfl ?_ ?_ <;> repeat' (first | exact trivial | exact ⟨rfl, rfl⟩ | exact ⟨_, rfl, Nat.zero_le _, rfl⟩ | apply And.intro | exact rfl))
    · exact Done.num (.inr ⟨rfl, by rw [take_all (by lia)] at hn; exact hn⟩)

theorem contains_c (S : Se P A) (l : List Int) (n : Int) : Tests P 248 [.ro (A.enc cInt64 l), .int .i64 n] (n ∈ l) := by
  refine S.cx.by (S.prog ▸ Tryz.func248) rfl rfl rfl rfl (fun hv ho => ?_)
  cbv
  refine ACall.num (dp := false) (index_c S _ _) ⟨rfl, (by repeat' (first | exact trivial | exact rfl | exact Nat.le_refl _ | exact S.cx.giveEq | exact S.cx.lendLe (by assumption) | exact S.cx.lendEq (by assumption) | exact S.cx.lendLe0 | exact S.cx.lendEq0 | exact S.cx.partLe (by assumption) | exact S.cx.partEq (by assumption) | exact S.cx.enc _ [] | exact .inl rfl | refine ⟨?_, ?_⟩)), (by repeat' (first | exact trivial | exact rfl | exact Nat.le_refl _ | exact S.cx.giveEq | exact S.cx.lendLe (by assumption) | exact S.cx.lendEq (by assumption) | exact S.cx.lendLe0 | exact S.cx.lendEq0 | exact S.cx.partLe (by assumption) | exact S.cx.partEq (by assumption) | exact S.cx.enc _ [] | exact .inl rfl | refine ⟨?_, ?_⟩))⟩ (fun r hr => ?_); cbv
  refine Test.geq (fun h => ?_) (fun h => ?_) <;> cbv
  · refine Done.yes ?_
    rcases hr with ⟨_, hr, _⟩ | ⟨rfl, _⟩
    · exact mem_at hr
    · exact absurd h (by decide)
  · refine Done.no fun hx => ?_
    rcases hr with ⟨h0, _⟩ | ⟨_, hr⟩
    · lia
    · exact hr hx

theorem specGroupOk_c (S : Se P A) (node limit active : Int) (waits : List Int) (first : Int) : Tests P 214 [.agg [.int .i64 node, .int .i64 limit, .int .i64 active, .ro (A.enc cInt64 waits), .int .i64 first]] (GroupOk ⟨node, limit, active, waits, first⟩) := by
  refine S.cx.by (S.prog ▸ Tryz.func214) rfl rfl rfl rfl (fun hv ho => ?_)
  cbv
  repeat' (first
    | (refine ACall.testD (dp := false) (l1In_c S _ _ _) ⟨rfl, (by repeat' (first | exact trivial | exact rfl | refine ⟨?_, ?_⟩)), trivial⟩ rfl (fun _ => ?_) (fun _ => ?_) <;> cbv)
    | (refine Test.eql (fun _ => ?_) (fun _ => ?_) <;> cbv)
    | (refine Test.neq (fun _ => ?_) (fun _ => ?_) <;> cbv)
    | (refine Test.lss (fun _ => ?_) (fun _ => ?_) <;> cbv)
    | (refine Test.leq (fun _ => ?_) (fun _ => ?_) <;> cbv)
    | (refine Test.gtr (fun _ => ?_) (fun _ => ?_) <;> cbv)
    | (refine Test.geq (fun _ => ?_) (fun _ => ?_) <;> cbv)
    | (refine ⟨⟨by kernel_rfl, fun _ => ?_⟩⟩)
    | (refine LenR.nat S.cx (fun N hN hm => ?_); cbv)
    | exact Done.yes (by (intro hg; have := hg.1; have := hg.2.1; have := hg.2.2.1; have := hg.2.2.2.1; have := hg.2.2.2.2.1; dsimp only at *; omega))
    | exact Done.no (by (intro hg; have := hg.1; have := hg.2.1; have := hg.2.2.1; have := hg.2.2.2.1; have := hg.2.2.2.2.1; dsimp only at *; omega)))
  all_goals
    rename_i g1 g2 g3 g4 g5
    refine ALoop.goS (ι := Int) (fun i => [(3, .int .i64 i)]) [] (fun i => []) (fun i => 0 ≤ i ∧ Upto (fun j x => (0 ≤ x ∧ x ≤ 59) ∧ x ∉ waits.take j) waits i) (fun i => (waits.length - i).toNat) (0) S.cx.tab S.cx.mix S.eq ?_ ?_ ?_
    · exact ⟨Int.le_refl _, .zero⟩
    · (cbv; refine Less.to [] rfl rfl ?_ ?_ <;> repeat' (first | exact trivial | exact ⟨rfl, rfl⟩ | exact ⟨_, rfl, Nat.zero_le _, rfl⟩ | apply And.intro | exact rfl))
    rintro i ⟨h0, hu⟩
    refine Rnd.mk ?_; cbv
    refine LenR.nat S.cx (fun N hN hm => ?_); cbv
    refine Test.lss (fun h => ?_) (fun h => ?_) <;> cbv
    · try (refine Drawn.mk ⟨by kernel_rfl, fun _ => ?_⟩)
      refine ElemRo.enc S.cx (fun _ => rfl) (by lia) (by lia) (fun x hx => ?_); cbv
      refine ACall.testD (dp := false) (l1In_c S _ _ _) ⟨rfl, (by repeat' (first | exact trivial | exact rfl | exact Nat.le_refl _ | exact S.cx.giveEq | exact S.cx.lendLe (by assumption) | exact S.cx.lendEq (by assumption) | exact S.cx.lendLe0 | exact S.cx.lendEq0 | exact S.cx.partLe (by assumption) | exact S.cx.partEq (by assumption) | exact S.cx.enc _ [] | exact .inl rfl | refine ⟨?_, ?_⟩)), (by repeat' (first | exact trivial | exact rfl | exact Nat.le_refl _ | exact S.cx.giveEq | exact S.cx.lendLe (by assumption) | exact S.cx.lendEq (by assumption) | exact S.cx.lendLe0 | exact S.cx.lendEq0 | exact S.cx.partLe (by assumption) | exact S.cx.partEq (by assumption) | exact S.cx.enc _ [] | exact .inl rfl | refine ⟨?_, ?_⟩))⟩ rfl (fun h2 => ?_) (fun h2 => ?_) <;> cbv
      rotate_left
      · exact Done.no (fun hg => h2 (hg.2.2.2.2.2.1 _ (mem_at hx)))
      refine CutRo.enc S.cx (fun _ => rfl) (by lia) (by lia) (by lia) (fun l' hl' => ?_); cbv
      refine ElemRo.at S.cx (x := x) rfl (by lia) hx ?_; cbv
      refine ACall.testD (dp := false) (l6In_c S _ _) ⟨rfl, (by repeat' (first | exact trivial | exact rfl | exact Nat.le_refl _ | exact S.cx.giveEq | exact S.cx.lendLe (by assumption) | exact S.cx.lendEq (by assumption) | exact S.cx.lendLe0 | exact S.cx.lendEq0 | exact S.cx.partLe (by assumption) | exact S.cx.partEq (by assumption) | exact S.cx.enc _ [] | exact .inl rfl | refine ⟨?_, ?_⟩)), (by repeat' (first | exact trivial | exact rfl | exact Nat.le_refl _ | exact S.cx.giveEq | exact S.cx.lendLe (by assumption) | exact S.cx.lendEq (by assumption) | exact S.cx.lendLe0 | exact S.cx.lendEq0 | exact S.cx.partLe (by assumption) | exact S.cx.partEq (by assumption) | exact S.cx.enc _ [] | exact .inl rfl | refine ⟨?_, ?_⟩))⟩ rfl (fun h3 => ?_) (fun h3 => ?_) <;> cbv
      · exact Done.no (fun hg => nodup_take.2 hg.2.2.2.2.2.2.1 _ _ hx (by simpa [hl'] using h3))
      refine Arith.go (by lia) (fun i' hi' => ?_); cbv
      refine Again.on i' (by lia) ⟨by lia, hu.next h0 hx ⟨h2, by simpa [hl'] using h3⟩ hi'⟩ ?_
      (cbv; refine Less.to [] rfl rfl ?_ ?_ <;> repeat' (first | exact trivial | exact ⟨rfl, rfl⟩ | exact ⟨_, rfl, Nat.zero_le _, rfl⟩ | apply And.intro | exact rfl))
    · have hu := hu.all (by lia)
      have w1 : ∀ t ∈ waits, 0 ≤ t ∧ t ≤ 59 := fun t ht => by
        obtain ⟨j, hj⟩ := List.getElem?_of_mem ht
        exact (hu j t hj).1
      have w2 : waits.Nodup := nodup_take.1 fun j x hx => (hu j x hx).2
      refine LenR.nat S.cx (fun M hM hm2 => ?_); cbv
      have key : GroupOk ⟨node, limit, active, waits, first⟩ ↔ (M = 0 ∨ 0 < limit ∧ active = limit) := by
        rw [show (M = 0) ↔ waits = [] from ⟨fun e => List.length_eq_zero_iff.1 (by omega), fun e => by rw [e] at hM; simp at hM; omega⟩]
        exact ⟨fun hg => hg.2.2.2.2.2.2.2, fun hw => ⟨by dsimp only; omega, by dsimp only; omega, by dsimp only; omega, by dsimp only; omega, by dsimp only; omega, w1, w2, hw⟩⟩
      repeat' (first
    | (refine Test.eql (fun _ => ?_) (fun _ => ?_) <;> cbv)
    | (refine Test.neq (fun _ => ?_) (fun _ => ?_) <;> cbv)
    | (refine Test.lss (fun _ => ?_) (fun _ => ?_) <;> cbv)
    | (refine Test.leq (fun _ => ?_) (fun _ => ?_) <;> cbv)
    | (refine Test.gtr (fun _ => ?_) (fun _ => ?_) <;> cbv)
    | (refine Test.geq (fun _ => ?_) (fun _ => ?_) <;> cbv)
    | (refine ⟨⟨by kernel_rfl, fun _ => ?_⟩⟩)
    | (refine LenR.nat S.cx (fun N hN hm => ?_); cbv)
    | exact Done.yes (by (rw [key]; omega))
    | exact Done.no (by (rw [key]; omega)))

theorem implGroupOk_c (S : Se P A) (node limit active : Int) (waits : List Int) (first : Int) : Tests P 164 [.agg [.int .i64 node, .int .i64 limit, .int .i64 active, .ro (A.enc cInt64 waits), .int .i64 first]] (GroupOk ⟨node, limit, active, waits, first⟩) := by
  refine S.cx.by (S.prog ▸ Tryz.func164) rfl rfl rfl rfl (fun hv ho => ?_)
  cbv
  have hw0 : waits.length = 0 ↔ waits = [] := by simp
  repeat' (first
    | (refine ACall.testD (dp := false) (within_c S _ _ _) ⟨rfl, (by repeat' (first | exact trivial | exact rfl | refine ⟨?_, ?_⟩)), trivial⟩ rfl (fun _ => ?_) (fun _ => ?_) <;> cbv)
    | (refine Test.eql (fun _ => ?_) (fun _ => ?_) <;> cbv)
    | (refine Test.neq (fun _ => ?_) (fun _ => ?_) <;> cbv)
    | (refine Test.lss (fun _ => ?_) (fun _ => ?_) <;> cbv)
    | (refine Test.leq (fun _ => ?_) (fun _ => ?_) <;> cbv)
    | (refine Test.gtr (fun _ => ?_) (fun _ => ?_) <;> cbv)
    | (refine Test.geq (fun _ => ?_) (fun _ => ?_) <;> cbv)
    | (refine ⟨⟨by kernel_rfl, fun _ => ?_⟩⟩)
    | (refine LenR.nat S.cx (fun N hN hm => ?_); cbv)
    | exact Done.yes (by (intro hg; have := hg.1; have := hg.2.1; have := hg.2.2.1; have := hg.2.2.2.1; have := hg.2.2.2.2.1; have := hg.2.2.2.2.2.2.2; rw [← hw0] at this; dsimp only at *; omega))
    | exact Done.no (by (intro hg; have := hg.1; have := hg.2.1; have := hg.2.2.1; have := hg.2.2.2.1; have := hg.2.2.2.2.1; have := hg.2.2.2.2.2.2.2; rw [← hw0] at this; dsimp only at *; omega)))
  all_goals
    rename_i M hM hm2
    refine ALoop.goS (ι := Int) (fun i => [(58, .int .i64 i)]) [] (fun i => []) (fun i => 0 ≤ i ∧ Upto (fun j x => (0 ≤ x ∧ x ≤ 59) ∧ x ∉ waits.take j) waits i) (fun i => (waits.length - i).toNat) (0) S.cx.tab S.cx.mix S.eq ?_ ?_ ?_
    · exact ⟨Int.le_refl _, .zero⟩
    · (cbv; refine Less.to [] rfl rfl ?_ ?_ <;> repeat' (first | exact trivial | exact ⟨rfl, rfl⟩ | exact ⟨_, rfl, Nat.zero_le _, rfl⟩ | apply And.intro | exact rfl))
    rintro i ⟨h0, hu⟩
    refine Rnd.mk ?_; cbv
    refine Test.lss (fun h => ?_) (fun h => ?_) <;> cbv
    · refine ElemRo.enc S.cx (fun _ => rfl) (by lia) (by lia) (fun x hx => ?_); cbv
      refine ACall.testD (dp := false) (within_c S _ _ _) ⟨rfl, (by repeat' (first | exact trivial | exact rfl | exact Nat.le_refl _ | exact S.cx.giveEq | exact S.cx.lendLe (by assumption) | exact S.cx.lendEq (by assumption) | exact S.cx.lendLe0 | exact S.cx.lendEq0 | exact S.cx.partLe (by assumption) | exact S.cx.partEq (by assumption) | exact S.cx.enc _ [] | exact .inl rfl | refine ⟨?_, ?_⟩)), (by repeat' (first | exact trivial | exact rfl | exact Nat.le_refl _ | exact S.cx.giveEq | exact S.cx.lendLe (by assumption) | exact S.cx.lendEq (by assumption) | exact S.cx.lendLe0 | exact S.cx.lendEq0 | exact S.cx.partLe (by assumption) | exact S.cx.partEq (by assumption) | exact S.cx.enc _ [] | exact .inl rfl | refine ⟨?_, ?_⟩))⟩ rfl (fun h2 => ?_) (fun h2 => ?_) <;> cbv
      rotate_left
      · exact Done.no (fun hg => h2 (hg.2.2.2.2.2.1 _ (mem_at hx)))
      refine CutRo.enc S.cx (fun _ => rfl) (by lia) (by lia) (by lia) (fun l' hl' => ?_); cbv
      refine ACall.testD (dp := false) (contains_c S _ _) ⟨rfl, (by repeat' (first | exact trivial | exact rfl | exact Nat.le_refl _ | exact S.cx.giveEq | exact S.cx.lendLe (by assumption) | exact S.cx.lendEq (by assumption) | exact S.cx.lendLe0 | exact S.cx.lendEq0 | exact S.cx.partLe (by assumption) | exact S.cx.partEq (by assumption) | exact S.cx.enc _ [] | exact .inl rfl | refine ⟨?_, ?_⟩)), (by repeat' (first | exact trivial | exact rfl | exact Nat.le_refl _ | exact S.cx.giveEq | exact S.cx.lendLe (by assumption) | exact S.cx.lendEq (by assumption) | exact S.cx.lendLe0 | exact S.cx.lendEq0 | exact S.cx.partLe (by assumption) | exact S.cx.partEq (by assumption) | exact S.cx.enc _ [] | exact .inl rfl | refine ⟨?_, ?_⟩))⟩ rfl (fun h3 => ?_) (fun h3 => ?_) <;> cbv
      · exact Done.no (fun hg => nodup_take.2 hg.2.2.2.2.2.2.1 _ _ hx (by simpa [hl'] using h3))
      refine Arith.go (by lia) (fun i' hi' => ?_); cbv
      refine Again.on i' (by lia) ⟨by lia, hu.next h0 hx ⟨h2, by simpa [hl'] using h3⟩ hi'⟩ ?_
      (cbv; refine Less.to [] rfl rfl ?_ ?_ <;> repeat' (first | exact trivial | exact ⟨rfl, rfl⟩ | exact ⟨_, rfl, Nat.zero_le _, rfl⟩ | apply And.intro | exact rfl))
    · have hu := hu.all (by lia)
      have w1 : ∀ t ∈ waits, 0 ≤ t ∧ t ≤ 59 := fun t ht => by
        obtain ⟨j, hj⟩ := List.getElem?_of_mem ht
        exact (hu j t hj).1
      have w2 : waits.Nodup := nodup_take.1 fun j x hx => (hu j x hx).2
      exact Done.yes ⟨by dsimp only; omega, by dsimp only; omega, by dsimp only; omega, by dsimp only; omega, by dsimp only; omega, w1, w2, by rw [← hw0]; dsimp only; omega⟩

end Go.Proofs.YtgooambndfkgkaaGreat.AM
