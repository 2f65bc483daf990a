/- Contracts: programs and groups converted. (printed by gw9.py) -/
import Derived.Test.YtihfpbhalnedcaaGreatW7
set_option linter.unusedVariables false
set_option linter.unusedSimpArgs false
namespace Go.Proofs.YtihfpbhalnedcaaGreat.AM
open Go Go.Proofs

set_option maxRecDepth 100000
set_option maxHeartbeats 4000000

variable {P : Program} {A : Sy}

theorem toInsSS_c (S : Se P A) (l : List (List Ins)) (hb : l.length <= 4294967296) (hb2 : ∀ p ∈ l, p.length <= 4294967296) : Is1 P 48 [.ro (A.enc (roProg A) l)] (.own 1 false (A.enc (ownProg A) l)) := by
  refine S.cx.by (S.prog ▸ Tryz.func48) rfl rfl rfl rfl (fun hv ho => ?_)
  cbv
  refine LenR.enc S.cx (fun n hn hm => ?_); cbv
  refine MakeS.enc S.cx (f := cPC A) PC.none rfl (by lia) (by simp only [maxBytes]; lia) (fun N z hN hz => ?_); cbv
  have hzl : z.length = N := by rw [hz]; simp
  have hzf : ∀ c ∈ z, c.fre := fun c hc => by rw [hz] at hc; rw [List.eq_of_mem_replicate hc]; trivial
  clear hz
  refine ALoop.goS (ι := Int × List PC) (fun i => [(4, .int .i64 i.1)]) [2020000] (fun i => [(2020000, .arr 1 false (A.enc (cPC A) i.2))]) (fun i => 0 <= i.1 /\ i.1 <= n /\ i.2.length = N /\ (∀ j : Nat, (j : Int) < i.1 -> i.2[j]? = (l[j]?).map PC.own) /\ ∀ c ∈ i.2, c.fre) (fun i => (n - i.1).toNat) ((0, z)) S.cx.tab S.cx.mix S.eq ?_ ?_ ?_
  · exact ⟨Int.le_refl _, by simp only; lia, hzl, fun j hj => by simp only at hj; lia, hzf⟩
  · (cbv; refine Less.to [] rfl rfl ?_ ?_ <;> repeat' (first | exact trivial | exact ⟨rfl, rfl⟩ | exact ⟨_, rfl, Nat.zero_le _, rfl⟩ | apply And.intro | exact rfl))
    exact noRefsPC S.cx hzf
  rintro ⟨i, m⟩ ⟨h1, h2, h3, h4, h5⟩
  dsimp only at h1 h2 h3 h4 h5
  refine Rnd.mk ?_; cbv
  refine LenR.enc S.cx (fun n' hn' hm' => ?_); cbv
  refine Test.lss (fun h => ?_) (fun h => ?_) <;> cbv
  · refine ElemRo.enc S.cx (fun _ => rfl) (by lia) (by lia) (fun x hx => ?_); cbv
    refine ACall.own (dp := false) S.cx (toInsS_c S x (hb2 x (mem_at hx))) ⟨rfl, (by repeat' (first | exact trivial | exact rfl | exact Nat.le_refl _ | exact S.ga | exact S.gb ‹_› | exact S.gc ‹_› | exact S.gd | exact S.ge | exact S.gf ‹_› | exact S.gg ‹_› | exact S.gh | exact .inl rfl | exact S.gi ‹_› | exact S.gj ‹_› | exact S.gk | exact S.gl | refine ⟨?_, ?_⟩)), trivial⟩ rfl rfl (fun x0 k e hk => ?_)
    subst e
    cbv
    refine ElemRef.go rfl (by lia) (by lia) (by rw [S.cx.lenE']; lia) (fun row hrow => ?_); cbv
    obtain ⟨y, hy⟩ := get_of_lt (l := m) (i := row) (by lia)
    refine RowSet.enc S.cx y (PC.ref 6060000 k) hy rfl (by rw [len_cPC]; exact Nat.le_refl _) (by cases y <;> rfl) (fun m' hm' => ?_); cbv
    refine Arith.go (by lia) (fun i' hi' => ?_); cbv
    replace hi' : i' = i + 1 := hi'
    have hrl : row < m.length := by lia
    obtain ⟨m2, hm2⟩ : ∃ m2, m2 = m'.set row (PC.own x0) := ⟨_, rfl⟩
    have hfre : ∀ c ∈ m2, c.fre := by
      rw [hm2, hm', List.set_set]
      exact mem_set_of rfl h5 trivial
    refine Again.on (i', m2) (by dsimp only; lia) ⟨by dsimp only; lia, by dsimp only; lia, by dsimp only; rw [set_len hm2, set_len hm', h3], fun j hj => ?_, hfre⟩ ?_
    · dsimp only at hj ⊢
      by_cases hjr : row = j
      · subst hjr
        rw [set_at hm2 (by rw [set_len hm']; exact hrl), show row = i.toNat by lia, hx]
        rfl
      · rw [set_ne hm2 hjr, set_ne hm' hjr]; exact h4 j (by lia)
    · refine Less.trans (Less.fold S.cx (id := 2020000) (L := 6060000) (i := row) (j := 0) (m := m') (PC.ref 6060000 k) (PC.own x0) rfl (set_at hm' hrl) rfl rfl hk rfl rfl hm2) ?_
      (cbv; refine Less.to [] rfl rfl ?_ ?_ <;> repeat' (first | exact trivial | exact ⟨rfl, rfl⟩ | exact ⟨_, rfl, Nat.zero_le _, rfl⟩ | apply And.intro | exact rfl))
      exact noRefsPC S.cx hfre
  · have e : m = l.map PC.own := ext_lt (by rw [List.length_map]; lia) (fun j hj => by rw [h4 j (by lia), List.getElem?_map])
    subst e
    exact Done.to _ [] rfl (resOwnF1 S.cx fre_ownProg (by show some (Obj.arr 1 false (A.enc (cPC A) (l.map PC.own))) = _; rw [encPC S.cx]) (by lia)) trivial ⟨rfl, rfl⟩

theorem toGroupS_c (S : Se P A) (l : List Group) (hb : l.length <= 4294967296) (hb2 : ∀ g ∈ l, g.waits.length <= 4294967296) : Is1 P 55 [.ro (A.enc (roGroup A) l)] (.own 5 false (A.enc (ownGroup A) l)) := by
  refine S.cx.by (S.prog ▸ Tryz.func55) rfl rfl rfl rfl (fun hv ho => ?_)
  cbv
  refine LenR.enc S.cx (fun n hn hm => ?_); cbv
  refine MakeS.enc S.cx (f := cGC A) (GC.own ⟨0, 0, 0, [], 0⟩) (by simp only [cGC]; rw [S.cx.enc]; rfl) (by lia) (by simp only [maxBytes]; lia) (fun N z hN hz => ?_); cbv
  have hzl : z.length = N := by rw [hz]; simp
  have hzf : ∀ c ∈ z, c.fre := fun c hc => by rw [hz] at hc; rw [List.eq_of_mem_replicate hc]; trivial
  clear hz
  refine ALoop.goS (ι := Int × List GC) (fun i => [(4, .int .i64 i.1)]) [2020000] (fun i => [(2020000, .arr 5 false (A.enc (cGC A) i.2))]) (fun i => 0 <= i.1 /\ i.1 <= n /\ i.2.length = N /\ (∀ j : Nat, (j : Int) < i.1 -> i.2[j]? = (l[j]?).map GC.own) /\ ∀ c ∈ i.2, c.fre) (fun i => (n - i.1).toNat) ((0, z)) S.cx.tab S.cx.mix S.eq ?_ ?_ ?_
  · exact ⟨Int.le_refl _, by simp only; lia, hzl, fun j hj => by simp only at hj; lia, hzf⟩
  · (cbv; refine Less.to [] rfl rfl ?_ ?_ <;> repeat' (first | exact trivial | exact ⟨rfl, rfl⟩ | exact ⟨_, rfl, Nat.zero_le _, rfl⟩ | apply And.intro | exact rfl))
    exact noRefsGC S.cx hzf
  rintro ⟨i, m⟩ ⟨h1, h2, h3, h4, h5⟩
  dsimp only at h1 h2 h3 h4 h5
  refine Rnd.mk ?_; cbv
  refine LenR.enc S.cx (fun n' hn' hm' => ?_); cbv
  refine Test.lss (fun h => ?_) (fun h => ?_) <;> cbv
  · refine ElemRo.enc S.cx (fun _ => rfl) (by lia) (by lia) (fun x hx => ?_)
    have hxb := hb2 x (mem_at hx)
    obtain ⟨node, limit, active, waits, first⟩ := x
    cbv
    refine ACall.valN (r := (fun x : Group => .agg (ownGroup A x))) (os := fun _ => []) (dp := false) S.cx (toGroup_c S ⟨node, limit, active, waits, first⟩ hxb) .go rfl (fun ln hln x hx => ⟨rfl, ?_⟩)
    obtain ⟨node0, limit0, active0, waits0, first0⟩ := x
    cases hx
    cbv
    have hk := hln cInt64 waits
    generalize ln (A.enc cInt64 waits) = k at hk ⊢
    refine ElemRef.go rfl (by lia) (by lia) (by rw [S.cx.lenE']; lia) (fun row hrow => ?_); cbv
    obtain ⟨y, hy⟩ := get_of_lt (l := m) (i := row) (by lia)
    refine RowSet.enc S.cx y (GC.ref ⟨node, limit, active, waits, first⟩ 6060003 k) hy rfl (by rw [len_cGC]; exact Nat.le_refl _) (by cases y <;> rfl) (fun m' hm' => ?_); cbv
    refine Arith.go (by lia) (fun i' hi' => ?_); cbv
    replace hi' : i' = i + 1 := hi'
    have hrl : row < m.length := by lia
    obtain ⟨m2, hm2⟩ : ∃ m2, m2 = m'.set row (GC.own ⟨node, limit, active, waits, first⟩) := ⟨_, rfl⟩
    have hfre : ∀ c ∈ m2, c.fre := by
      rw [hm2, hm', List.set_set]
      exact mem_set_of rfl h5 trivial
    refine Again.on (i', m2) (by dsimp only; lia) ⟨by dsimp only; lia, by dsimp only; lia, by dsimp only; rw [set_len hm2, set_len hm', h3], fun j hj => ?_, hfre⟩ ?_
    · dsimp only at hj ⊢
      by_cases hjr : row = j
      · subst hjr
        rw [set_at hm2 (by rw [set_len hm']; exact hrl), show row = i.toNat by lia, hx]
        rfl
      · rw [set_ne hm2 hjr, set_ne hm' hjr]; exact h4 j (by lia)
    · refine Less.trans (Less.fold S.cx (id := 2020000) (L := 6060003) (i := row) (j := 3) (m := m') (GC.ref ⟨node, limit, active, waits, first⟩ 6060003 k) (GC.own ⟨node, limit, active, waits, first⟩) rfl (set_at hm' hrl) rfl rfl hk rfl rfl hm2) ?_
      (cbv; refine Less.to [] rfl rfl ?_ ?_ <;> repeat' (first | exact trivial | exact ⟨rfl, rfl⟩ | exact ⟨_, rfl, Nat.zero_le _, rfl⟩ | apply And.intro | exact rfl))
      exact noRefsGC S.cx hfre
  · have e : m = l.map GC.own := ext_lt (by rw [List.length_map]; lia) (fun j hj => by rw [h4 j (by lia), List.getElem?_map])
    subst e
    exact Done.to _ [] rfl (resOwnF1 S.cx fre_ownGroup (by show some (Obj.arr 5 false (A.enc (cGC A) (l.map GC.own))) = _; rw [encGC S.cx]) (by lia)) trivial ⟨rfl, rfl⟩

end Go.Proofs.YtihfpbhalnedcaaGreat.AM
