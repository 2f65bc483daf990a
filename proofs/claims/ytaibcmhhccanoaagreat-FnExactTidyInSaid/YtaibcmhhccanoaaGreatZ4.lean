/- Contracts: a world is tidy, the model. (printed by gw50.py) -/
import Derived.Test.YtaibcmhhccanoaaGreatY1
import Derived.Test.YtaibcmhhccanoaaGreatP2W
import Derived.Test.YtaibcmhhccanoaaGreatT4
set_option linter.unusedVariables false
set_option linter.unusedSimpArgs false
namespace Go.Proofs.YtaibcmhhccanoaaGreat.AM
open Go Go.Proofs

set_option maxRecDepth 100000
set_option maxHeartbeats 4000000
set_option linter.unusedVariables false
set_option linter.unusedSimpArgs false

variable {P : Program} {A : Sy}

theorem Row.at {T : Nat → Option TI} (C : Cx P T A) {α : Type} {f : α → List AV} {l : List α} {row : Nat} {K : List AV → Prop} {x : α} (hx : l[row]? = some x) (h : K (f x)) : Row (A.enc f l) row K :=
  Row.enc C (lt_of_get hx) (fun y hy => by rw [hx] at hy; cases hy; exact h)

theorem l7BelowT_c (S : Se P A) (t : List Node) (n : Int) (hok : TreeOk t ∧ 0 ≤ n ∧ n.toNat < t.length) : Is1 P 63 [.ro (A.enc cNode t), .int .i64 n] (rInt64 A (Below t n)) := l7Below_c S t n hok

theorem parkT_c (S : Se P A) (l : List Task) (h : TasksOk l) (why what : Int) : Is1 P 62 [.ro (A.enc cTask l), .int .i64 why, .int .i64 what] (rI A (idxs (pPark why what) l)) := by
  have := specParkedOn_c S l why what
  rwa [show ParkedOn l why what = idxs (pPark why what) l from if_pos h] at this


theorem tidyNodes_c (S : Se P A) (w : World) (hok : WorldOk w) : Tests P 20 [.agg (roWorld A w)] (TidyNodes w) := by
  have htl : w.spread.told.length = w.tree.length := hok.2.2.2.1.1
  have ht := hok.2.2.1.1
  have ht60 := ht.1
  have htk := hok.2.2.2.2.2.2.2.1
  have haf := hok.2.2.2.2.2.2.1.2
  have hev : ∀ e ∈ w.events, 0 ≤ e.node ∧ e.node.toNat < w.tree.length := fun e he => by
    obtain ⟨j, hj⟩ := List.getElem?_of_mem he
    have g := (hok.2.2.1.get hj).1
    obtain ⟨x, hx, _⟩ := g.2
    exact ⟨g.1, lt_of_get hx⟩
  refine S.cx.byS [99999] (S.prog ▸ Tryz.func20) rfl rfl rfl rfl (fun ln hln hv ho => ?_)
  (cbv; repeat (refine Later.mk ?_; cbv))
  clear hv ho
  refine ALoop.goT (ι := Int) (fun i => [(3, .int .i64 i)]) [4] [] (fun i => []) (fun i => 0 ≤ i ∧ ∀ j : Nat, (j : Int) < i → j < w.tree.length → NodeTidyS w j) (fun i => (w.tree.length - i).toNat) (0) [99999] S.cx.tab S.cx.mix S.eq ?_ ?_ ?_
  · exact ⟨Int.le_refl _, fun j hj => by omega⟩
  · ((cbv; repeat (refine Later.mk ?_; cbv)); refine Less.to [] rfl rfl ?_ ?_ <;> repeat' (first | exact trivial | exact ⟨rfl, rfl⟩ | exact ⟨_, rfl, Nat.zero_le _, rfl⟩ | apply And.intro | exact rfl))
  rintro i ⟨h0, hu⟩
  refine Rnd.mk ?_; (cbv; repeat (refine Later.mk ?_; cbv))
  have hgo : NodeTidyS w i → ∀ i', i' = i + 1 → 0 ≤ i' ∧ ∀ j : Nat, (j : Int) < i' → j < w.tree.length → NodeTidyS w j := fun hs i' hi' => ⟨by omega, fun j hj hl => by
    by_cases e : (j : Int) < i
    · exact hu j e hl
    · rw [show (j : Int) = i by omega]; exact hs⟩
  refine LenR.nat S.cx (fun N hN hm => ?_); (cbv; repeat (refine Later.mk ?_; cbv))
  refine Test.lss (fun h1 => ?_) (fun h1 => ?_) <;> (cbv; repeat (refine Later.mk ?_; cbv))
  · have hi : 0 ≤ i ∧ i.toNat < w.tree.length := by omega
    have hno : ¬ NodeTidyS w i → ¬ TidyNodes w := fun hn e => hn (by have := e.1 i.toNat hi.2; rwa [show ((i.toNat : Nat) : Int) = i by omega] at this)
    obtain ⟨b, hb⟩ := get_of_lt (l := w.spread.told) (i := i.toNat) (by omega)
    (try (refine Drawn.mk ⟨by kernel_rfl, fun _ => ?_⟩)); (repeat (refine Later.mk ?_; cbv))
    refine ElemRo.at S.cx (x := b) rfl h0 hb ?_; (cbv; repeat (refine Later.mk ?_; cbv))
    cases b <;> (cbv; repeat (refine Later.mk ?_; cbv))
    · refine Arith.go (by lia) (fun i' hi' => ?_); (cbv; repeat (refine Later.mk ?_; cbv))
      refine Again.on i' (by lia) (hgo (fun e => by unfold ToldAt at e; rw [hb] at e; cases e) i' hi') ?_
      ((cbv; repeat (refine Later.mk ?_; cbv)); refine Less.to [] rfl rfl ?_ ?_ <;> repeat' (first | exact trivial | exact ⟨rfl, rfl⟩ | exact ⟨_, rfl, Nat.zero_le _, rfl⟩ | apply And.intro | exact rfl))
    refine ACall.int (dp := false) (l6First_c S w.tree w.events i ht hi) (.of rfl (by repeat' (first | exact trivial | exact rfl | exact Nat.le_refl _ | exact S.ga | exact S.gb ‹_› | exact S.gc ‹_› | exact S.gd | exact S.ge | exact S.gf ‹_› | exact S.gg ‹_› | exact S.gh | exact .inl rfl | exact S.gi ‹_› | exact S.gj ‹_› | exact S.gk | exact S.gl | refine ⟨?_, ?_⟩))) rfl (fun r hr => ?_); (cbv; repeat (refine Later.mk ?_; cbv))
    refine Test.lss (fun h2 => ?_) (fun h2 => ?_) <;> (cbv; repeat (refine Later.mk ?_; cbv))
    · exact Done.no (hno fun e => (e hb).1.1 (firstIdx_neg.1 (by rw [← hr]; exact h2)))
    have hev2 : ¬ NoEv w.tree w.events i := fun e => by have := firstIdx_neg.2 e; omega
    refine ACall.valN (r := rI A) (os := fun _ => []) (dp := false) S.cx (parkT_c S w.tasks htk.1 1 i) (.of rfl (by repeat' (first | exact trivial | exact rfl | exact Nat.le_refl _ | exact S.ga | exact S.gb ‹_› | exact S.gc ‹_› | exact S.gd | exact S.ge | exact S.gf ‹_› | exact S.gg ‹_› | exact S.gh | exact .inl rfl | exact S.gi ‹_› | exact S.gj ‹_› | exact S.gk | exact S.gl | refine ⟨?_, ?_⟩))) rfl (fun ln hln l1 hx => ⟨rfl, ?_⟩)
    (cbv; repeat (refine Later.mk ?_; cbv))
    have hn1 := hln cInt64 l1
    generalize ln (A.enc cInt64 l1) = n1 at hn1 ⊢
    have hl1 : idxs (pPark 1 i) w.tasks = l1 := hx.symm
    clear hx
    refine Len.nat (fun m1 hm1 hmm1 => ?_); (cbv; repeat (refine Later.mk ?_; cbv))
    refine Test.gtr (fun h3 => ?_) (fun h3 => ?_) <;> (cbv; repeat (refine Later.mk ?_; cbv))
    · exact Done.no (hno fun e => by have := (e hb).1.2.1; rw [hl1] at this; rw [this] at hn1; simp at hn1; omega)
    have e1 : l1 = [] := List.eq_nil_of_length_eq_zero (by omega)
    refine ACall.valN (r := rI A) (os := fun _ => []) (dp := false) S.cx (parkT_c S w.tasks htk.1 2 i) (.of rfl (by repeat' (first | exact trivial | exact rfl | exact Nat.le_refl _ | exact S.ga | exact S.gb ‹_› | exact S.gc ‹_› | exact S.gd | exact S.ge | exact S.gf ‹_› | exact S.gg ‹_› | exact S.gh | exact .inl rfl | exact S.gi ‹_› | exact S.gj ‹_› | exact S.gk | exact S.gl | refine ⟨?_, ?_⟩))) rfl (fun ln hln l2 hx => ⟨rfl, ?_⟩)
    (cbv; repeat (refine Later.mk ?_; cbv))
    have hn2 := hln cInt64 l2
    generalize ln (A.enc cInt64 l2) = n2 at hn2 ⊢
    have hl2 : idxs (pPark 2 i) w.tasks = l2 := hx.symm
    clear hx
    refine Len.nat (fun m2 hm2 hmm2 => ?_); (cbv; repeat (refine Later.mk ?_; cbv))
    refine Test.gtr (fun h4 => ?_) (fun h4 => ?_) <;> (cbv; repeat (refine Later.mk ?_; cbv))
    · exact Done.no (hno fun e => by have := (e hb).1.2.2; rw [hl2] at this; rw [this] at hn2; simp at hn2; omega)
    have e2 : l2 = [] := List.eq_nil_of_length_eq_zero (by omega)
    refine ACall.valN (r := rInt64 A) (os := fun _ => []) (dp := false) S.cx (l7BelowT_c S w.tree i ⟨ht, hi⟩) (.of rfl (by repeat' (first | exact trivial | exact rfl | exact Nat.le_refl _ | exact S.ga | exact S.gb ‹_› | exact S.gc ‹_› | exact S.gd | exact S.ge | exact S.gf ‹_› | exact S.gg ‹_› | exact S.gh | exact .inl rfl | exact S.gi ‹_› | exact S.gj ‹_› | exact S.gk | exact S.gl | refine ⟨?_, ?_⟩))) rfl (fun ln hln kids hx => ⟨rfl, ?_⟩)
    (cbv; repeat (refine Later.mk ?_; cbv))
    have hnk := hln cInt64 kids
    generalize ln (A.enc cInt64 kids) = nk at hnk ⊢
    have hkids : Below w.tree i = kids := hx.symm
    clear hx
    have hkin : ∀ k ∈ kids, 0 ≤ k ∧ k.toNat < w.tree.length := fun k hk => by
      rw [← hkids] at hk
      obtain ⟨g1, x, hx, _⟩ := idxs_mem.1 (List.mem_filter.1 hk).1
      exact ⟨g1, lt_of_get hx⟩
    refine ALoop.goT (ι := Int) (fun i => [(5, .int .i64 i)]) [] [] (fun i => []) (fun i => 0 ≤ i ∧ Upto (fun _ k => Heard w k) kids i) (fun i => (kids.length - i).toNat) (0) [99999] S.cx.tab S.cx.mix S.eq ?_ ?_ ?_
    · exact ⟨Int.le_refl _, .zero⟩
    · ((cbv; repeat (refine Later.mk ?_; cbv)); refine Less.to [] rfl rfl ?_ ?_ <;> repeat' (first | exact trivial | exact ⟨rfl, rfl⟩ | exact ⟨_, rfl, Nat.zero_le _, rfl⟩ | apply And.intro | exact rfl))
    rintro k ⟨k0, ku⟩
    refine Rnd.mk ?_; (cbv; repeat (refine Later.mk ?_; cbv))
    refine Len.nat (fun mk hmk hmmk => ?_); (cbv; repeat (refine Later.mk ?_; cbv))
    refine Test.lss (fun h5 => ?_) (fun h5 => ?_) <;> (cbv; repeat (refine Later.mk ?_; cbv))
    rotate_left
    · have hall := ku.mem (by omega)
      refine Arith.go (by lia) (fun i' hi' => ?_); (cbv; repeat (refine Later.mk ?_; cbv))
      refine Again.on i' (by clear ku; lia) (hgo (fun _ => ⟨⟨hev2, by rw [hl1, e1], by rw [hl2, e2]⟩, by rw [hkids]; exact hall⟩) i' hi') ?_
      ((cbv; repeat (refine Later.mk ?_; cbv)); refine Less.to [] rfl rfl ?_ ?_ <;> repeat' (first | exact trivial | exact ⟨rfl, rfl⟩ | exact ⟨_, rfl, Nat.zero_le _, rfl⟩ | apply And.intro | exact rfl))
    obtain ⟨x, hxk⟩ := get_of_lt (l := kids) (i := k.toNat) (by omega)
    have hxin := hkin x (mem_at hxk)
    obtain ⟨b2, hb2⟩ := get_of_lt (l := w.spread.told) (i := x.toNat) (by omega)
    (try (refine Drawn.mk ⟨by kernel_rfl, fun _ => ?_⟩)); (repeat (refine Later.mk ?_; cbv))
    refine ElemRef.go rfl k0 (by omega) (by rw [S.cx.lenE']; omega) (fun row hrow => ?_); (cbv; repeat (refine Later.mk ?_; cbv))
    obtain rfl : row = k.toNat := by omega
    refine Row.at S.cx hxk ?_; (cbv; repeat (refine Later.mk ?_; cbv)); repeat (refine Later.mk ?_; (cbv; repeat (refine Later.mk ?_; cbv)))
    refine ElemRo.at S.cx (x := b2) rfl hxin.1 hb2 ?_; (cbv; repeat (refine Later.mk ?_; cbv))
    cases b2 <;> (cbv; repeat (refine Later.mk ?_; cbv))
    rotate_left
    · refine Arith.go (by lia) (fun k' hk' => ?_); (cbv; repeat (refine Later.mk ?_; cbv))
      refine Again.on k' (by lia) ⟨by lia, ku.next k0 hxk (.inl hb2) hk'⟩ ?_
      ((cbv; repeat (refine Later.mk ?_; cbv)); refine Less.to [] rfl rfl ?_ ?_ <;> repeat' (first | exact trivial | exact ⟨rfl, rfl⟩ | exact ⟨_, rfl, Nat.zero_le _, rfl⟩ | apply And.intro | exact rfl))
    (try (refine Drawn.mk ⟨by kernel_rfl, fun _ => ?_⟩)); (repeat (refine Later.mk ?_; cbv))
    refine ElemRef.go rfl k0 (by omega) (by rw [S.cx.lenE']; omega) (fun row2 hrow2 => ?_); (cbv; repeat (refine Later.mk ?_; cbv))
    obtain rfl : row2 = k.toNat := by omega
    refine Row.at S.cx hxk ?_; (cbv; repeat (refine Later.mk ?_; cbv)); repeat (refine Later.mk ?_; (cbv; repeat (refine Later.mk ?_; cbv)))
    refine ACall.testD (dp := false) (l6In_c S w.spread.work x) (.of rfl (by repeat' (first | exact trivial | exact rfl | exact Nat.le_refl _ | exact S.ga | exact S.gb ‹_› | exact S.gc ‹_› | exact S.gd | exact S.ge | exact S.gf ‹_› | exact S.gg ‹_› | exact S.gh | exact .inl rfl | exact S.gi ‹_› | exact S.gj ‹_› | exact S.gk | exact S.gl | refine ⟨?_, ?_⟩))) rfl (fun h6 => ?_) (fun h6 => ?_) <;> (cbv; repeat (refine Later.mk ?_; cbv))
    · refine Arith.go (by lia) (fun k' hk' => ?_); (cbv; repeat (refine Later.mk ?_; cbv))
      refine Again.on k' (by lia) ⟨by lia, ku.next k0 hxk (.inr h6) hk'⟩ ?_
      ((cbv; repeat (refine Later.mk ?_; cbv)); refine Less.to [] rfl rfl ?_ ?_ <;> repeat' (first | exact trivial | exact ⟨rfl, rfl⟩ | exact ⟨_, rfl, Nat.zero_le _, rfl⟩ | apply And.intro | exact rfl))
    · exact Done.no (hno fun e => by
        rcases (e hb).2 x (by rw [hkids]; exact mem_at hxk) with e | e
        · unfold ToldAt at e; rw [hb2] at e; cases e
        · exact h6 e)
  have hnodes : ∀ i : Nat, i < w.tree.length → NodeTidyS w i := fun j hj => hu j (by lia) hj
  refine ALoop.goT (ι := Int) (fun i => [(6, .int .i64 i)]) [5, 7] [] (fun i => []) (fun i => 0 ≤ i ∧ Upto (fun _ e => Heard w e.node) w.events i) (fun i => (w.events.length - i).toNat) (0) [99999] S.cx.tab S.cx.mix S.eq ?_ ?_ ?_
  · exact ⟨Int.le_refl _, .zero⟩
  · ((cbv; repeat (refine Later.mk ?_; cbv)); refine Less.to [] rfl rfl ?_ ?_ <;> repeat' (first | exact trivial | exact ⟨rfl, rfl⟩ | exact ⟨_, rfl, Nat.zero_le _, rfl⟩ | apply And.intro | exact rfl))
  rintro k ⟨k0, ku⟩
  refine Rnd.mk ?_; (cbv; repeat (refine Later.mk ?_; cbv))
  refine LenR.nat S.cx (fun M hM hm2 => ?_); (cbv; repeat (refine Later.mk ?_; cbv))
  refine Test.lss (fun h2 => ?_) (fun h2 => ?_) <;> (cbv; repeat (refine Later.mk ?_; cbv))
  · (try (refine Drawn.mk ⟨by kernel_rfl, fun _ => ?_⟩)); (repeat (refine Later.mk ?_; cbv))
    refine ElemRo.enc S.cx (fun _ => rfl) (by lia) (by lia) (fun x hx => ?_); (cbv; repeat (refine Later.mk ?_; cbv))
    have hxin := hev x (mem_at hx)
    obtain ⟨b, hb⟩ := get_of_lt (l := w.spread.told) (i := x.node.toNat) (by omega)
    obtain ⟨en, ee, ec, et⟩ := x
    dsimp only at hxin hb
    (cbv; repeat (refine Later.mk ?_; cbv))
    refine ElemRo.at S.cx (x := b) rfl hxin.1 hb ?_; (cbv; repeat (refine Later.mk ?_; cbv))
    cases b <;> (cbv; repeat (refine Later.mk ?_; cbv))
    rotate_left
    · refine Arith.go (by lia) (fun k' hk' => ?_); (cbv; repeat (refine Later.mk ?_; cbv))
      refine Again.on k' (by lia) ⟨by lia, ku.next k0 hx (.inl hb) hk'⟩ ?_
      ((cbv; repeat (refine Later.mk ?_; cbv)); refine Less.to [] rfl rfl ?_ ?_ <;> repeat' (first | exact trivial | exact ⟨rfl, rfl⟩ | exact ⟨_, rfl, Nat.zero_le _, rfl⟩ | apply And.intro | exact rfl))
    refine ACall.testD (dp := false) (l6In_c S w.spread.work en) (.of rfl (by repeat' (first | exact trivial | exact rfl | exact Nat.le_refl _ | exact S.ga | exact S.gb ‹_› | exact S.gc ‹_› | exact S.gd | exact S.ge | exact S.gf ‹_› | exact S.gg ‹_› | exact S.gh | exact .inl rfl | exact S.gi ‹_› | exact S.gj ‹_› | exact S.gk | exact S.gl | refine ⟨?_, ?_⟩))) rfl (fun h6 => ?_) (fun h6 => ?_) <;> (cbv; repeat (refine Later.mk ?_; cbv))
    · refine Arith.go (by lia) (fun k' hk' => ?_); (cbv; repeat (refine Later.mk ?_; cbv))
      refine Again.on k' (by lia) ⟨by lia, ku.next k0 hx (.inr h6) hk'⟩ ?_
      ((cbv; repeat (refine Later.mk ?_; cbv)); refine Less.to [] rfl rfl ?_ ?_ <;> repeat' (first | exact trivial | exact ⟨rfl, rfl⟩ | exact ⟨_, rfl, Nat.zero_le _, rfl⟩ | apply And.intro | exact rfl))
    · exact Done.no (fun e => by
        rcases e.2.1 _ (mem_at hx) with e | e
        · unfold ToldAt at e; dsimp only at e; rw [hb] at e; cases e
        · exact h6 e)
  have hevs : ∀ e ∈ w.events, Heard w e.node := ku.mem (by omega)
  refine ALoop.goT (ι := Int) (fun i => [(8, .int .i64 i)]) [5, 7, 9] [] (fun i => []) (fun i => 0 ≤ i ∧ Upto (fun _ a => AfterTidyS w a) w.afters.list i) (fun i => (w.afters.list.length - i).toNat) (0) [99999] S.cx.tab S.cx.mix S.eq ?_ ?_ ?_
  · exact ⟨Int.le_refl _, .zero⟩
  · ((cbv; repeat (refine Later.mk ?_; cbv)); refine Less.to [] rfl rfl ?_ ?_ <;> repeat' (first | exact trivial | exact ⟨rfl, rfl⟩ | exact ⟨_, rfl, Nat.zero_le _, rfl⟩ | apply And.intro | exact rfl))
  rintro j ⟨j0, ju⟩
  refine Rnd.mk ?_; (cbv; repeat (refine Later.mk ?_; cbv))
  refine LenR.nat S.cx (fun K hK hm3 => ?_); (cbv; repeat (refine Later.mk ?_; cbv))
  refine Test.lss (fun h3 => ?_) (fun h3 => ?_) <;> (cbv; repeat (refine Later.mk ?_; cbv))
  · (try (refine Drawn.mk ⟨by kernel_rfl, fun _ => ?_⟩)); (repeat (refine Later.mk ?_; cbv))
    refine ElemRo.enc S.cx (fun _ => rfl) (by lia) (by lia) (fun x hx => ?_); (cbv; repeat (refine Later.mk ?_; cbv))
    have hxin := haf x (mem_at hx)
    obtain ⟨b, hb⟩ := get_of_lt (l := w.spread.told) (i := x.node.toNat) (by omega)
    obtain ⟨as0, aa, an, af, aq⟩ := x
    dsimp only at hxin hb
    (cbv; repeat (refine Later.mk ?_; cbv))
    refine ElemRo.at S.cx (x := b) rfl hxin.1 hb ?_; (cbv; repeat (refine Later.mk ?_; cbv))
    cases b <;> (cbv; repeat (refine Later.mk ?_; cbv))
    · refine Arith.go (by lia) (fun j' hj' => ?_); (cbv; repeat (refine Later.mk ?_; cbv))
      refine Again.on j' (by lia) ⟨by lia, ju.next j0 hx (fun e => by unfold ToldAt at e; dsimp only at e; rw [hb] at e; cases e) hj'⟩ ?_
      ((cbv; repeat (refine Later.mk ?_; cbv)); refine Less.to [] rfl rfl ?_ ?_ <;> repeat' (first | exact trivial | exact ⟨rfl, rfl⟩ | exact ⟨_, rfl, Nat.zero_le _, rfl⟩ | apply And.intro | exact rfl))
    cases aq <;> (cbv; repeat (refine Later.mk ?_; cbv))
    · exact Done.no (fun e => by have := e.2.2 _ (mem_at hx) hb; cases this)
    · refine Arith.go (by lia) (fun j' hj' => ?_); (cbv; repeat (refine Later.mk ?_; cbv))
      refine Again.on j' (by lia) ⟨by lia, ju.next j0 hx (fun _ => rfl) hj'⟩ ?_
      ((cbv; repeat (refine Later.mk ?_; cbv)); refine Less.to [] rfl rfl ?_ ?_ <;> repeat' (first | exact trivial | exact ⟨rfl, rfl⟩ | exact ⟨_, rfl, Nat.zero_le _, rfl⟩ | apply And.intro | exact rfl))
  · exact Done.yes ⟨hnodes, hevs, ju.mem (by omega)⟩

theorem tidyTasks_c (S : Se P A) (w : World) (hok : WorldOk w) : Tests P 21 [.agg (roWorld A w)] (TidyTasks w) := by
  have htk := hok.2.2.2.2.2.2.2.1
  refine S.cx.byS [99999] (S.prog ▸ Tryz.func21) rfl rfl rfl rfl (fun ln hln hv ho => ?_)
  (cbv; repeat (refine Later.mk ?_; cbv))
  clear hv ho
  refine ALoop.goT (ι := Int) (fun i => [(3, .int .i64 i)]) [4, 5, 6] [] (fun i => []) (fun i => 0 ≤ i ∧ Upto (fun j t => TaskTidyS w j t) w.tasks i) (fun i => (w.tasks.length - i).toNat) (0) [99999] S.cx.tab S.cx.mix S.eq ?_ ?_ ?_
  · exact ⟨Int.le_refl _, .zero⟩
  · ((cbv; repeat (refine Later.mk ?_; cbv)); refine Less.to [] rfl rfl ?_ ?_ <;> repeat' (first | exact trivial | exact ⟨rfl, rfl⟩ | exact ⟨_, rfl, Nat.zero_le _, rfl⟩ | apply And.intro | exact rfl))
  rintro i ⟨h0, hu⟩
  refine Rnd.mk ?_; (cbv; repeat (refine Later.mk ?_; cbv))
  refine LenR.nat S.cx (fun N hN hm => ?_); (cbv; repeat (refine Later.mk ?_; cbv))
  refine Test.lss (fun h1 => ?_) (fun h1 => ?_) <;> (cbv; repeat (refine Later.mk ?_; cbv))
  rotate_left
  · exact Done.yes (fun j t hj => hu.all (by omega) j t hj)
  (try (refine Drawn.mk ⟨by kernel_rfl, fun _ => ?_⟩)); (repeat (refine Later.mk ?_; cbv))
  refine ElemRo.enc S.cx (fun _ => rfl) (by lia) (by lia) (fun x hx => ?_); (cbv; repeat (refine Later.mk ?_; cbv))
  have hfit := (htk.2 x (mem_at hx)).2.2.2.2
  have hii : ((i.toNat : Nat) : Int) = i := by omega
  have hgo : TaskTidyS w i x → ∀ i', i' = i + 1 → 0 ≤ i' ∧ Upto (fun j t => TaskTidyS w j t) w.tasks i' := fun hs i' hi' => ⟨by omega, hu.next h0 hx (by show TaskTidyS w ((i.toNat : Nat) : Int) x; rw [hii]; exact hs) hi'⟩
  have hno : ¬ TaskTidyS w i x → ¬ TidyTasks w := fun hn e => hn (by have := e i.toNat x hx; rwa [hii] at this)
  obtain ⟨prog, pc, state, why, what, timer, reg, group, err⟩ := x
  dsimp only at hfit
  (cbv; repeat (refine Later.mk ?_; cbv))
  refine Test.eql (fun h2 => ?_) (fun h2 => ?_) <;> (cbv; repeat (refine Later.mk ?_; cbv))
  · refine ACall.int (dp := false) (l4At_c S w.timers.heap w.timers.list w.timers.next timer) (.of rfl (by repeat' (first | exact trivial | exact rfl | exact Nat.le_refl _ | exact S.ga | exact S.gb ‹_› | exact S.gc ‹_› | exact S.gd | exact S.ge | exact S.gf ‹_› | exact S.gg ‹_› | exact S.gh | exact .inl rfl | exact S.gi ‹_› | exact S.gj ‹_› | exact S.gk | exact S.gl | refine ⟨?_, ?_⟩))) rfl (fun r hr => ?_); (cbv; repeat (refine Later.mk ?_; cbv))
    refine Test.lss (fun h3 => ?_) (fun h3 => ?_) <;> (cbv; repeat (refine Later.mk ?_; cbv))
    · exact Done.no (hno fun e => by have := (e.1 h2).1; dsimp only at this; omega)
    have hso := @timIdx_some w.timers.list timer
    rw [← hr] at hso
    obtain ⟨⟨ys, yd, yw, yh, ya⟩, hy, he⟩ := hso (by omega)
    have hnos : ¬ (ya = true ∧ yw = 1 ∧ yh = i) → ¬ TaskTidyS w i ⟨prog, pc, state, why, what, timer, reg, group, err⟩ := fun hn e => by
      obtain ⟨_, x, hx, hq⟩ := e.1 h2
      dsimp only at hx
      rw [← hr] at hx
      have e3 := Option.some.inj (hy.symm.trans hx)
      rw [← e3] at hq
      exact hn hq
    (try (refine Drawn.mk ⟨by kernel_rfl, fun _ => ?_⟩)); (repeat (refine Later.mk ?_; cbv))
    refine ElemRo.at S.cx (x := (⟨ys, yd, yw, yh, ya⟩ : Timer)) rfl (by omega) hy ?_; (cbv; repeat (refine Later.mk ?_; cbv))
    cases ya <;> (cbv; repeat (refine Later.mk ?_; cbv))
    · exact Done.no (hno (hnos fun e => by cases e.1))
    refine Test.neq (fun h4 => ?_) (fun h4 => ?_) <;> (cbv; repeat (refine Later.mk ?_; cbv))
    · exact Done.no (hno (hnos fun e => h4 e.2.1))
    refine Test.neq (fun h5 => ?_) (fun h5 => ?_) <;> (cbv; repeat (refine Later.mk ?_; cbv))
    · exact Done.no (hno (hnos fun e => h5 e.2.2))
    refine Arith.go (by lia) (fun i' hi' => ?_); (cbv; repeat (refine Later.mk ?_; cbv))
    refine Again.on i' (by lia) (hgo ⟨fun _ => ⟨by dsimp only; omega, ⟨_, by dsimp only; rw [← hr]; exact hy, rfl, by dsimp only; omega, by dsimp only; omega⟩⟩, fun e => (by dsimp only at e; omega), fun e => (by dsimp only at e; omega)⟩ i' hi') ?_
    ((cbv; repeat (refine Later.mk ?_; cbv)); refine Less.to [] rfl rfl ?_ ?_ <;> repeat' (first | exact trivial | exact ⟨rfl, rfl⟩ | exact ⟨_, rfl, Nat.zero_le _, rfl⟩ | apply And.intro | exact rfl))
  refine Test.eql (fun h3 => ?_) (fun h3 => ?_) <;> (cbv; repeat (refine Later.mk ?_; cbv))
  · have hw := hfit (.inl h3)
    obtain ⟨⟨gn, gl, ga, gw, gf⟩, hg⟩ := get_of_lt hw.2
    (try (refine Drawn.mk ⟨by kernel_rfl, fun _ => ?_⟩)); (repeat (refine Later.mk ?_; cbv))
    refine ElemRo.at S.cx (x := (⟨gn, gl, ga, gw, gf⟩ : Group)) rfl hw.1 hg ?_; (cbv; repeat (refine Later.mk ?_; cbv))
    refine ACall.testD (dp := false) (l6In_c S gw i) (.of rfl (by repeat' (first | exact trivial | exact rfl | exact Nat.le_refl _ | exact S.ga | exact S.gb ‹_› | exact S.gc ‹_› | exact S.gd | exact S.ge | exact S.gf ‹_› | exact S.gg ‹_› | exact S.gh | exact .inl rfl | exact S.gi ‹_› | exact S.gj ‹_› | exact S.gk | exact S.gl | refine ⟨?_, ?_⟩))) rfl (fun h4 => ?_) (fun h4 => ?_) <;> (cbv; repeat (refine Later.mk ?_; cbv))
    · refine Arith.go (by lia) (fun i' hi' => ?_); (cbv; repeat (refine Later.mk ?_; cbv))
      refine Again.on i' (by lia) (hgo ⟨fun e => absurd e h2, fun _ => ⟨_, hg, h4⟩, fun e => (by dsimp only at e; omega)⟩ i' hi') ?_
      ((cbv; repeat (refine Later.mk ?_; cbv)); refine Less.to [] rfl rfl ?_ ?_ <;> repeat' (first | exact trivial | exact ⟨rfl, rfl⟩ | exact ⟨_, rfl, Nat.zero_le _, rfl⟩ | apply And.intro | exact rfl))
    · exact Done.no (hno fun e => by
        obtain ⟨g, hg2, hm⟩ := e.2.1 h3
        rw [← Option.some.inj (hg.symm.trans hg2)] at hm
        exact h4 hm)
  refine Test.eql (fun h4 => ?_) (fun h4 => ?_) <;> (cbv; repeat (refine Later.mk ?_; cbv))
  · have hw := hfit (.inr h4)
    obtain ⟨⟨gn, gl, ga, gw, gf⟩, hg⟩ := get_of_lt hw.2
    (try (refine Drawn.mk ⟨by kernel_rfl, fun _ => ?_⟩)); (repeat (refine Later.mk ?_; cbv))
    refine ElemRo.at S.cx (x := (⟨gn, gl, ga, gw, gf⟩ : Group)) rfl hw.1 hg ?_; (cbv; repeat (refine Later.mk ?_; cbv))
    refine Test.eql (fun h5 => ?_) (fun h5 => ?_) <;> (cbv; repeat (refine Later.mk ?_; cbv))
    · exact Done.no (hno fun e => by
        obtain ⟨g, hg2, hm⟩ := e.2.2 h4
        rw [← Option.some.inj (hg.symm.trans hg2)] at hm
        exact hm h5)
    · refine Arith.go (by lia) (fun i' hi' => ?_); (cbv; repeat (refine Later.mk ?_; cbv))
      refine Again.on i' (by lia) (hgo ⟨fun e => absurd e h2, fun e => absurd e h3, fun _ => ⟨_, hg, h5⟩⟩ i' hi') ?_
      ((cbv; repeat (refine Later.mk ?_; cbv)); refine Less.to [] rfl rfl ?_ ?_ <;> repeat' (first | exact trivial | exact ⟨rfl, rfl⟩ | exact ⟨_, rfl, Nat.zero_le _, rfl⟩ | apply And.intro | exact rfl))
  refine Arith.go (by lia) (fun i' hi' => ?_); (cbv; repeat (refine Later.mk ?_; cbv))
  refine Again.on i' (by lia) (hgo ⟨fun e => absurd e h2, fun e => absurd e h3, fun e => absurd e h4⟩ i' hi') ?_
  ((cbv; repeat (refine Later.mk ?_; cbv)); refine Less.to [] rfl rfl ?_ ?_ <;> repeat' (first | exact trivial | exact ⟨rfl, rfl⟩ | exact ⟨_, rfl, Nat.zero_le _, rfl⟩ | apply And.intro | exact rfl))

theorem runningS_next {l : List Task} {i : Int} {x : Task} {g : Int} (h0 : 0 ≤ i) (hx : l[i.toNat]? = some x) {i' : Int} (hi : i' = i + 1) : running (l.take i'.toNat) g = if runs g x = true then running (l.take i.toNat) g + 1 else running (l.take i.toNat) g := by
  rw [show i'.toNat = i.toNat + 1 by omega, take_next hx]
  unfold running
  rw [List.filter_append, List.length_append]
  cases hr : runs g x <;> simp [hr]

theorem tidyGroups_c (S : Se P A) (w : World) (hok : WorldOk w) : Tests P 22 [.agg (roWorld A w)] (TidyGroups w) := by
  have htk := hok.2.2.2.2.2.2.2.1
  have htk60 := htk.1.1
  have hgr := hok.2.2.2.2.2.2.2.2.1
  refine S.cx.byS [99999] (S.prog ▸ Tryz.func22) rfl rfl rfl rfl (fun ln hln hv ho => ?_)
  (cbv; repeat (refine Later.mk ?_; cbv))
  clear hv ho
  refine ALoop.goT (ι := Int) (fun i => [(3, .int .i64 i)]) [4, 5, 6, 7] [] (fun i => []) (fun i => 0 ≤ i ∧ Upto (fun j g => GroupTidyS w j g) w.groups i) (fun i => (w.groups.length - i).toNat) (0) [99999] S.cx.tab S.cx.mix S.eq ?_ ?_ ?_
  · exact ⟨Int.le_refl _, .zero⟩
  · ((cbv; repeat (refine Later.mk ?_; cbv)); refine Less.to [] rfl rfl ?_ ?_ <;> repeat' (first | exact trivial | exact ⟨rfl, rfl⟩ | exact ⟨_, rfl, Nat.zero_le _, rfl⟩ | apply And.intro | exact rfl))
  rintro q ⟨h0, hu⟩
  refine Rnd.mk ?_; (cbv; repeat (refine Later.mk ?_; cbv))
  refine LenR.nat S.cx (fun N hN hm => ?_); (cbv; repeat (refine Later.mk ?_; cbv))
  refine Test.lss (fun h1 => ?_) (fun h1 => ?_) <;> (cbv; repeat (refine Later.mk ?_; cbv))
  rotate_left
  · exact Done.yes (fun j t hj => hu.all (by omega) j t hj)
  obtain ⟨⟨gn, gl, ga, gw, gf⟩, hg⟩ := get_of_lt (l := w.groups) (i := q.toNat) (by omega)
  have hqq : ((q.toNat : Nat) : Int) = q := by omega
  have hgk := hgr.2 _ (mem_at hg)
  have hgo : GroupTidyS w q ⟨gn, gl, ga, gw, gf⟩ → ∀ i', i' = q + 1 → 0 ≤ i' ∧ Upto (fun j g => GroupTidyS w j g) w.groups i' := fun hs i' hi' => ⟨by omega, hu.next h0 hg (by show GroupTidyS w ((q.toNat : Nat) : Int) _; rw [hqq]; exact hs) hi'⟩
  have hno : ¬ GroupTidyS w q ⟨gn, gl, ga, gw, gf⟩ → ¬ TidyGroups w := fun hn e => hn (by have := e q.toNat _ hg; rwa [hqq] at this)
  refine ALoop.goT (ι := Int × Int) (fun i => [(5, .int .i64 i.1), (4, .int .i64 i.2)]) [] [] (fun i => []) (fun i => 0 ≤ i.1 ∧ i.1.toNat ≤ w.tasks.length ∧ i.2 = running (w.tasks.take i.1.toNat) q) (fun i => (w.tasks.length - i.1).toNat) ((0, 0)) [99999] S.cx.tab S.cx.mix S.eq ?_ ?_ ?_
  · exact ⟨Int.le_refl _, Nat.zero_le _, rfl⟩
  · ((cbv; repeat (refine Later.mk ?_; cbv)); refine Less.to [] rfl rfl ?_ ?_ <;> repeat' (first | exact trivial | exact ⟨rfl, rfl⟩ | exact ⟨_, rfl, Nat.zero_le _, rfl⟩ | apply And.intro | exact rfl))
  rintro ⟨k, a⟩ ⟨k0, k1, ka⟩
  dsimp only at k0 k1 ka
  refine Rnd.mk ?_; (cbv; repeat (refine Later.mk ?_; cbv))
  refine LenR.nat S.cx (fun M hM hm2 => ?_); (cbv; repeat (refine Later.mk ?_; cbv))
  refine Test.lss (fun h2 => ?_) (fun h2 => ?_) <;> (cbv; repeat (refine Later.mk ?_; cbv))
  · (try (refine Drawn.mk ⟨by kernel_rfl, fun _ => ?_⟩)); (repeat (refine Later.mk ?_; cbv))
    refine ElemRo.enc S.cx (fun _ => rfl) (by lia) (by lia) (fun x hx => ?_); (cbv; repeat (refine Later.mk ?_; cbv))
    have hnx := fun k' hk' => runningS_next (g := q) k0 hx (i' := k') hk'
    have ha : 0 ≤ a ∧ a ≤ 60 := by
      have h3 : (w.tasks.take k.toNat).length ≤ 60 := Nat.le_trans (List.length_take_le _ _) (by omega)
      have h4 := List.length_filter_le (runs q) (w.tasks.take k.toNat)
      rw [ka]
      unfold running
      omega
    obtain ⟨prog, pc, state, why, what, timer, reg, group, err⟩ := x
    (cbv; repeat (refine Later.mk ?_; cbv))
    have hgo2 : ∀ b, runs q ⟨prog, pc, state, why, what, timer, reg, group, err⟩ = b → ∀ k' a', k' = k + 1 → a' = (if b = true then a + 1 else a) → 0 ≤ k' ∧ k'.toNat ≤ w.tasks.length ∧ a' = running (w.tasks.take k'.toNat) q := fun b hb k' a' hk' ha' => ⟨by omega, by have := lt_of_get hx; omega, by rw [hnx k' hk', hb, ha', ka]⟩
    refine Test.eql (fun h3 => ?_) (fun h3 => ?_) <;> (cbv; repeat (refine Later.mk ?_; cbv))
    rotate_left
    · refine Arith.go (by lia) (fun k' hk' => ?_); (cbv; repeat (refine Later.mk ?_; cbv))
      refine Again.on (k', a) (by dsimp only; lia) (hgo2 false (decide_eq_false (fun e => h3 e.1)) k' a hk' rfl) ?_
      ((cbv; repeat (refine Later.mk ?_; cbv)); refine Less.to [] rfl rfl ?_ ?_ <;> repeat' (first | exact trivial | exact ⟨rfl, rfl⟩ | exact ⟨_, rfl, Nat.zero_le _, rfl⟩ | apply And.intro | exact rfl))
    refine ElemRo.at S.cx (x := (⟨prog, pc, state, why, what, timer, reg, group, err⟩ : Task)) rfl k0 hx ?_; (cbv; repeat (refine Later.mk ?_; cbv))
    refine Test.neq (fun h4 => ?_) (fun h4 => ?_) <;> (cbv; repeat (refine Later.mk ?_; cbv))
    · refine Arith.go (by lia) (fun a' ha' => ?_); replace ha' : a' = a + 1 := ha'; (cbv; repeat (refine Later.mk ?_; cbv))
      refine Arith.go (by lia) (fun k' hk' => ?_); (cbv; repeat (refine Later.mk ?_; cbv))
      refine Again.on (k', a') (by dsimp only; lia) (hgo2 true (decide_eq_true ⟨h3, h4⟩) k' a' hk' ha') ?_
      ((cbv; repeat (refine Later.mk ?_; cbv)); refine Less.to [] rfl rfl ?_ ?_ <;> repeat' (first | exact trivial | exact ⟨rfl, rfl⟩ | exact ⟨_, rfl, Nat.zero_le _, rfl⟩ | apply And.intro | exact rfl))
    · refine Arith.go (by lia) (fun k' hk' => ?_); (cbv; repeat (refine Later.mk ?_; cbv))
      refine Again.on (k', a) (by dsimp only; lia) (hgo2 false (decide_eq_false (fun e => e.2 h4)) k' a hk' rfl) ?_
      ((cbv; repeat (refine Later.mk ?_; cbv)); refine Less.to [] rfl rfl ?_ ?_ <;> repeat' (first | exact trivial | exact ⟨rfl, rfl⟩ | exact ⟨_, rfl, Nat.zero_le _, rfl⟩ | apply And.intro | exact rfl))
  have hka : a = running w.tasks q := by rw [ka, take_all (by omega)]
  (try (refine Drawn.mk ⟨by kernel_rfl, fun _ => ?_⟩)); (repeat (refine Later.mk ?_; cbv))
  refine ElemRo.at S.cx (x := (⟨gn, gl, ga, gw, gf⟩ : Group)) rfl h0 hg ?_; (cbv; repeat (refine Later.mk ?_; cbv))
  refine Test.neq (fun h3 => ?_) (fun h3 => ?_) <;> (cbv; repeat (refine Later.mk ?_; cbv))
  · exact Done.no (hno fun e => h3 (hka.trans e.1))
  refine ALoop.goT (ι := Int) (fun i => [(6, .int .i64 i)]) [] [] (fun i => []) (fun i => 0 ≤ i ∧ Upto (fun _ x => WaitsS w q x) gw i) (fun i => (gw.length - i).toNat) (0) [99999] S.cx.tab S.cx.mix S.eq ?_ ?_ ?_
  · exact ⟨Int.le_refl _, .zero⟩
  · ((cbv; repeat (refine Later.mk ?_; cbv)); refine Less.to [] rfl rfl ?_ ?_ <;> repeat' (first | exact trivial | exact ⟨rfl, rfl⟩ | exact ⟨_, rfl, Nat.zero_le _, rfl⟩ | apply And.intro | exact rfl))
  rintro j ⟨j0, ju⟩
  refine Rnd.mk ?_; (cbv; repeat (refine Later.mk ?_; cbv))
  (try (refine Drawn.mk ⟨by kernel_rfl, fun _ => ?_⟩)); (repeat (refine Later.mk ?_; cbv))
  refine ElemRo.at S.cx (x := (⟨gn, gl, ga, gw, gf⟩ : Group)) rfl h0 hg ?_; (cbv; repeat (refine Later.mk ?_; cbv))
  refine LenR.nat S.cx (fun J hJ hmJ => ?_); (cbv; repeat (refine Later.mk ?_; cbv))
  refine Test.lss (fun h4 => ?_) (fun h4 => ?_) <;> (cbv; repeat (refine Later.mk ?_; cbv))
  · (try (refine Drawn.mk ⟨by kernel_rfl, fun _ => ?_⟩)); (repeat (refine Later.mk ?_; cbv))
    obtain ⟨n, hn⟩ := get_of_lt (l := gw) (i := j.toNat) (by omega)
    have hnin := hgk.2.2.2 n (mem_at hn)
    obtain ⟨⟨prog, pc, state, why, what, timer, reg, group, err⟩, hx⟩ := get_of_lt hnin.2
    refine ElemRo.at S.cx (x := (⟨gn, gl, ga, gw, gf⟩ : Group)) rfl h0 hg ?_; (cbv; repeat (refine Later.mk ?_; cbv))
    refine ElemRo.at S.cx (x := n) rfl j0 hn ?_; (cbv; repeat (refine Later.mk ?_; cbv))
    refine ElemRo.at S.cx (x := (⟨prog, pc, state, why, what, timer, reg, group, err⟩ : Task)) rfl hnin.1 hx ?_; (cbv; repeat (refine Later.mk ?_; cbv))
    have hnow : ¬ (why = 3 ∧ what = q) → ¬ TidyGroups w := fun hq => hno fun e => by
      obtain ⟨t, ht, hw⟩ := e.2 n (mem_at hn)
      rw [← Option.some.inj (hx.symm.trans ht)] at hw
      exact hq hw
    refine Test.neq (fun h5 => ?_) (fun h5 => ?_) <;> (cbv; repeat (refine Later.mk ?_; cbv))
    · exact Done.no (hnow fun e => h5 e.1)
    refine Test.neq (fun h6 => ?_) (fun h6 => ?_) <;> (cbv; repeat (refine Later.mk ?_; cbv))
    · exact Done.no (hnow fun e => h6 e.2)
    refine Arith.go (by lia) (fun j' hj' => ?_); (cbv; repeat (refine Later.mk ?_; cbv))
    refine Again.on j' (by lia) ⟨by lia, ju.next j0 hn ⟨_, hx, by dsimp only; omega, by dsimp only; omega⟩ hj'⟩ ?_
    ((cbv; repeat (refine Later.mk ?_; cbv)); refine Less.to [] rfl rfl ?_ ?_ <;> repeat' (first | exact trivial | exact ⟨rfl, rfl⟩ | exact ⟨_, rfl, Nat.zero_le _, rfl⟩ | apply And.intro | exact rfl))
  have hall := ju.mem (by omega)
  refine Arith.go (by lia) (fun q' hq' => ?_); (cbv; repeat (refine Later.mk ?_; cbv))
  refine Again.on q' (by clear ju; lia) (hgo ⟨by dsimp only; omega, hall⟩ q' hq') ?_
  ((cbv; repeat (refine Later.mk ?_; cbv)); refine Less.to [] rfl rfl ?_ ?_ <;> repeat' (first | exact trivial | exact ⟨rfl, rfl⟩ | exact ⟨_, rfl, Nat.zero_le _, rfl⟩ | apply And.intro | exact rfl))

theorem specTidyIn_c (S : Se P A) (now : Int) (progs : List (List Ins)) (tree : List Node) (events : List Event) (told : List Bool) (work : List Int) (heap : List Twig) (list : List Timer) (next : Int) (ages : List Int) (used : List Bool) (alist : List After) (tasks : List Task) (groups : List Group) (sights : List Sight) (began rang : List Int) : Tests P 5 [.agg (roWorld A ⟨now, progs, tree, events, ⟨told, work⟩, ⟨heap, list, next⟩, ⟨⟨ages, used⟩, alist⟩, tasks, groups, sights, began, rang⟩)] (WorldOk (⟨now, progs, tree, events, ⟨told, work⟩, ⟨heap, list, next⟩, ⟨⟨ages, used⟩, alist⟩, tasks, groups, sights, began, rang⟩ : World) ∧ TidyS (⟨now, progs, tree, events, ⟨told, work⟩, ⟨heap, list, next⟩, ⟨⟨ages, used⟩, alist⟩, tasks, groups, sights, began, rang⟩ : World)) := by
  refine S.cx.byS [99999] (S.prog ▸ Tryz.func5) rfl rfl rfl rfl (fun ln hln hv ho => ?_)
  (cbv; repeat (refine Later.mk ?_; cbv))
  clear hv ho
  refine ACall.testD (dp := false) (specWorldOk_c S now progs tree events told work heap list next ages used alist tasks groups sights began rang) (.of rfl (by repeat' (first | exact trivial | exact rfl | exact Nat.le_refl _ | exact S.ga | exact S.gb ‹_› | exact S.gc ‹_› | exact S.gd | exact S.ge | exact S.gf ‹_› | exact S.gg ‹_› | exact S.gh | exact .inl rfl | exact S.gi ‹_› | exact S.gj ‹_› | exact S.gk | exact S.gl | refine ⟨?_, ?_⟩))) rfl (fun h => ?_) (fun h => ?_) <;> (cbv; repeat (refine Later.mk ?_; cbv))
  rotate_left
  · exact Done.no (fun e => h e.1)
  refine ACall.testD (dp := false) (tidyNodes_c S (⟨now, progs, tree, events, ⟨told, work⟩, ⟨heap, list, next⟩, ⟨⟨ages, used⟩, alist⟩, tasks, groups, sights, began, rang⟩ : World) h) (.of rfl (by repeat' (first | exact trivial | exact rfl | exact Nat.le_refl _ | exact S.ga | exact S.gb ‹_› | exact S.gc ‹_› | exact S.gd | exact S.ge | exact S.gf ‹_› | exact S.gg ‹_› | exact S.gh | exact .inl rfl | exact S.gi ‹_› | exact S.gj ‹_› | exact S.gk | exact S.gl | refine ⟨?_, ?_⟩))) rfl (fun h2 => ?_) (fun h2 => ?_) <;> (cbv; repeat (refine Later.mk ?_; cbv))
  rotate_left
  · exact Done.no (fun e => h2 e.2.1)
  refine ACall.testD (dp := false) (tidyTasks_c S (⟨now, progs, tree, events, ⟨told, work⟩, ⟨heap, list, next⟩, ⟨⟨ages, used⟩, alist⟩, tasks, groups, sights, began, rang⟩ : World) h) (.of rfl (by repeat' (first | exact trivial | exact rfl | exact Nat.le_refl _ | exact S.ga | exact S.gb ‹_› | exact S.gc ‹_› | exact S.gd | exact S.ge | exact S.gf ‹_› | exact S.gg ‹_› | exact S.gh | exact .inl rfl | exact S.gi ‹_› | exact S.gj ‹_› | exact S.gk | exact S.gl | refine ⟨?_, ?_⟩))) rfl (fun h3 => ?_) (fun h3 => ?_) <;> (cbv; repeat (refine Later.mk ?_; cbv))
  rotate_left
  · exact Done.no (fun e => h3 e.2.2.1)
  refine ACall.testD (dp := false) (tidyGroups_c S (⟨now, progs, tree, events, ⟨told, work⟩, ⟨heap, list, next⟩, ⟨⟨ages, used⟩, alist⟩, tasks, groups, sights, began, rang⟩ : World) h) (.of rfl (by repeat' (first | exact trivial | exact rfl | exact Nat.le_refl _ | exact S.ga | exact S.gb ‹_› | exact S.gc ‹_› | exact S.gd | exact S.ge | exact S.gf ‹_› | exact S.gg ‹_› | exact S.gh | exact .inl rfl | exact S.gi ‹_› | exact S.gj ‹_› | exact S.gk | exact S.gl | refine ⟨?_, ?_⟩))) rfl (fun h4 => ?_) (fun h4 => ?_) <;> (cbv; repeat (refine Later.mk ?_; cbv))
  · exact Done.yes ⟨h, h2, h3, h4⟩
  · exact Done.no (fun e => h4 e.2.2.2)

end Go.Proofs.YtaibcmhhccanoaaGreat.AM
