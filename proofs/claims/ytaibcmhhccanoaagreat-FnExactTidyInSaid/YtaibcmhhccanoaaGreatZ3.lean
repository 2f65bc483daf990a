/- Contracts: a world is tidy, the program. (printed by gw50.py) -/
import Derived.Test.YtaibcmhhccanoaaGreatZ2
import Derived.Test.YtaibcmhhccanoaaGreatP2W
set_option linter.unusedVariables false
set_option linter.unusedSimpArgs false
namespace Go.Proofs.YtaibcmhhccanoaaGreat.AM
open Go Go.Proofs

set_option maxRecDepth 100000
set_option maxHeartbeats 4000000
set_option linter.unusedVariables false
set_option linter.unusedSimpArgs false

variable {P : Program} {A : Sy}

theorem isHeard_c (S : Se P A) (w : World) (n : Int) (hn : 0 ≤ n ∧ n.toNat < w.spread.told.length) : Tests P 183 [.agg (roWorld A w), .int .i64 n] (Heard w n) := by
  obtain ⟨b, hb⟩ := get_of_lt hn.2
  refine S.cx.by (S.prog ▸ Tryz.func183) rfl rfl rfl rfl (fun hv ho => ?_)
  cbv
  clear hv ho
  refine ElemRo.at S.cx (x := b) rfl hn.1 hb ?_; cbv
  cases b <;> cbv
  · refine ACall.testD (dp := false) (contains_c S w.spread.work n) (.of rfl (by repeat' (first | exact trivial | exact rfl | exact Nat.le_refl _ | exact S.ga | exact S.gb ‹_› | exact S.gc ‹_› | exact S.gd | exact S.ge | exact S.gf ‹_› | exact S.gg ‹_› | exact S.gh | exact .inl rfl | exact S.gi ‹_› | exact S.gj ‹_› | exact S.gk | exact S.gl | refine ⟨?_, ?_⟩))) rfl (fun h => ?_) (fun h => ?_) <;> cbv
    · exact Done.yes (.inr h)
    · exact Done.no (fun e => by
        rcases e with e | e
        · unfold ToldAt at e; rw [hb] at e; cases e
        · exact h e)
  · exact Done.yes (.inl hb)

theorem tidySpread1_c (S : Se P A) (w : World) (k : Int) (hk : 0 ≤ k ∧ k.toNat < w.tree.length) (hl : w.spread.told.length = w.tree.length) : Tests P 182 [.int .i64 k, .rptr (roWorld A w)] (notCut w.tree k = false ∨ Heard w k) := by
  obtain ⟨⟨kind, up, due, key, value⟩, hx⟩ := get_of_lt hk.2
  have hc : notCut w.tree k = decide (kind ≠ 4) := by unfold notCut; rw [hx]
  refine S.cx.by (S.prog ▸ Tryz.func182) rfl rfl rfl rfl (fun hv ho => ?_)
  cbv
  clear hv ho
  refine ElemRo.at S.cx (x := (⟨kind, up, due, key, value⟩ : Node)) rfl hk.1 hx ?_; cbv
  refine Test.eql (fun h => ?_) (fun h => ?_) <;> cbv
  · exact Done.yes (.inl (by rw [hc]; simp [h]))
  refine ACall.testD (dp := false) (isHeard_c S w k ⟨hk.1, by omega⟩) (.of rfl (by repeat' (first | exact trivial | exact rfl | exact Nat.le_refl _ | exact S.ga | exact S.gb ‹_› | exact S.gc ‹_› | exact S.gd | exact S.ge | exact S.gf ‹_› | exact S.gg ‹_› | exact S.gh | exact .inl rfl | exact S.gi ‹_› | exact S.gj ‹_› | exact S.gk | exact S.gl | refine ⟨?_, ?_⟩))) rfl (fun h2 => ?_) (fun h2 => ?_) <;> cbv
  · exact Done.yes (.inr h2)
  · exact Done.no (fun e => by
      rcases e with e | e
      · rw [hc] at e; simp [h] at e
      · exact h2 e)

theorem tidySpread2_c (S : Se P A) (w : World) (node err cause time : Int) (hk : 0 ≤ node ∧ node.toNat < w.spread.told.length) : Tests P 184 [.agg (cEvent ⟨node, err, cause, time⟩), .rptr (roWorld A w)] (Heard w node) := by
  refine S.cx.by (S.prog ▸ Tryz.func184) rfl rfl rfl rfl (fun hv ho => ?_)
  cbv
  clear hv ho
  refine ACall.testD (dp := false) (isHeard_c S w node hk) (.of rfl (by repeat' (first | exact trivial | exact rfl | exact Nat.le_refl _ | exact S.ga | exact S.gb ‹_› | exact S.gc ‹_› | exact S.gd | exact S.ge | exact S.gf ‹_› | exact S.gg ‹_› | exact S.gh | exact .inl rfl | exact S.gi ‹_› | exact S.gj ‹_› | exact S.gk | exact S.gl | refine ⟨?_, ?_⟩))) rfl (fun h => ?_) (fun h => ?_) <;> cbv
  · exact Done.yes h
  · exact Done.no h

theorem tidyAfter1_c (S : Se P A) (w : World) (slot age node func : Int) (queued : Bool) (hk : 0 ≤ node ∧ node.toNat < w.spread.told.length) : Tests P 104 [.agg (cAfter ⟨slot, age, node, func, queued⟩), .rptr (roWorld A w)] (queued = true ∨ ¬ ToldAt w node) := by
  obtain ⟨b, hb⟩ := get_of_lt hk.2
  refine S.cx.by (S.prog ▸ Tryz.func104) rfl rfl rfl rfl (fun hv ho => ?_)
  cbv
  clear hv ho
  cases queued <;> cbv
  · refine ElemRo.at S.cx (x := b) rfl hk.1 hb ?_; cbv
    cases b <;> cbv
    · exact Done.yes (.inr (fun e => by unfold ToldAt at e; rw [hb] at e; cases e))
    · exact Done.no (fun e => by
        rcases e with e | e
        · cases e
        · exact e hb)
  · exact Done.yes (.inl rfl)

theorem sleeps_c (S : Se P A) (w : World) (i : Int) (t : Task) (h0 : 0 ≤ i) (ht : w.tasks[i.toNat]? = some t) : Tests P 101 [.agg (roWorld A w), .int .i64 i] (Sleeps w i t) := by
  refine S.cx.by (S.prog ▸ Tryz.func101) rfl rfl rfl rfl (fun hv ho => ?_)
  cbv
  clear hv ho
  try (refine Drawn.mk ⟨by kernel_rfl, fun _ => ?_⟩)
  refine ElemRo.at S.cx (x := t) rfl h0 ht ?_; cbv
  refine ACall.int (dp := false) (timAt_c S w.timers.heap w.timers.list w.timers.next t.timer) (.of rfl (by repeat' (first | exact trivial | exact rfl | exact Nat.le_refl _ | exact S.ga | exact S.gb ‹_› | exact S.gc ‹_› | exact S.gd | exact S.ge | exact S.gf ‹_› | exact S.gg ‹_› | exact S.gh | exact .inl rfl | exact S.gi ‹_› | exact S.gj ‹_› | exact S.gk | exact S.gl | refine ⟨?_, ?_⟩))) rfl (fun r hr => ?_); cbv
  refine Test.geq (fun h => ?_) (fun h => ?_) <;> cbv
  rotate_left
  · exact Done.no (fun e => by have h9 := e.1; omega)
  have hso := @timIdx_some w.timers.list t.timer
  rw [← hr] at hso
  obtain ⟨⟨ys, yd, yw, yh, ya⟩, hy, he⟩ := hso (by omega)
  have hno : ¬ (ya = true ∧ yw = 1 ∧ yh = i) → ¬ Sleeps w i t := fun hn e => by
    obtain ⟨_, x, hx, hq⟩ := e
    rw [← hr] at hx
    have e3 := Option.some.inj (hy.symm.trans hx)
    rw [← e3] at hq
    exact hn hq
  refine ElemRo.at S.cx (x := (⟨ys, yd, yw, yh, ya⟩ : Timer)) rfl h hy ?_; cbv
  cases ya <;> cbv
  · exact Done.no (hno fun e => by cases e.1)
  refine ElemRo.at S.cx (x := (⟨ys, yd, yw, yh, true⟩ : Timer)) rfl h hy ?_; cbv
  refine Test.eql (fun h2 => ?_) (fun h2 => ?_) <;> cbv
  rotate_left
  · exact Done.no (hno fun e => h2 e.2.1)
  refine ElemRo.at S.cx (x := (⟨ys, yd, yw, yh, true⟩ : Timer)) rfl h hy ?_; cbv
  refine Test.eql (fun h3 => ?_) (fun h3 => ?_) <;> cbv
  · exact Done.yes ⟨by rw [← hr]; exact h, ⟨_, by rw [← hr]; exact hy, rfl, h2, h3⟩⟩
  · exact Done.no (hno fun e => h3 e.2.2)

theorem equalInt64_c (S : Se P A) (l m : List Int) : Tests P 179 [.ro (A.enc cInt64 l), .ro (A.enc cInt64 m)] (l = m) := by
  refine S.cx.by (S.prog ▸ Tryz.func179) rfl rfl rfl rfl (fun hv ho => ?_)
  cbv
  clear hv ho
  refine LenR.nat S.cx (fun N hN hm => ?_); cbv
  refine LenR.nat S.cx (fun M hM hm2 => ?_); cbv
  refine Test.neq (fun h => ?_) (fun h => ?_) <;> cbv
  · exact Done.no (fun e => h (by rw [e] at hN; omega))
  have hlen : l.length = m.length := by omega
  refine LenR.nat S.cx (fun K hK hm3 => ?_); cbv
  refine ALoop.goF (ι := Int) (fun i => [(13, .int .i64 i)]) [] [] (fun i => []) (fun i => 0 ≤ i ∧ Upto (fun j x => m[j]? = some x) l i) (fun i => (l.length - i).toNat) (0) S.cx.tab S.cx.mix S.eq ?_ ?_ ?_
  · exact ⟨Int.le_refl _, .zero⟩
  · (cbv; refine Less.to [] rfl rfl ?_ ?_ <;> repeat' (first | exact trivial | exact ⟨rfl, rfl⟩ | exact ⟨_, rfl, Nat.zero_le _, rfl⟩ | apply And.intro | exact rfl))
  rintro i ⟨h0, hu⟩
  refine Rnd.mk ?_; cbv
  refine Test.lss (fun h1 => ?_) (fun h1 => ?_) <;> cbv
  · try (refine Drawn.mk ⟨by kernel_rfl, fun _ => ?_⟩)
    obtain ⟨x, hx⟩ := get_of_lt (l := l) (i := i.toNat) (by omega)
    obtain ⟨y, hy⟩ := get_of_lt (l := m) (i := i.toNat) (by omega)
    refine ElemRo.at S.cx (x := x) rfl h0 hx ?_; cbv
    refine ElemRo.at S.cx (x := y) rfl h0 hy ?_; cbv
    refine Test.neq (fun h2 => ?_) (fun h2 => ?_) <;> cbv
    · exact Done.no (fun e => h2 (by rw [e] at hx; exact Option.some.inj (hx.symm.trans hy)))
    have hxy : x = y := by omega
    refine Arith.go (by lia) (fun i' hi' => ?_); cbv
    refine Again.on i' (by lia) ⟨by lia, hu.next h0 hx (by rw [hxy]; exact hy) hi'⟩ ?_
    (cbv; refine Less.to [] rfl rfl ?_ ?_ <;> repeat' (first | exact trivial | exact ⟨rfl, rfl⟩ | exact ⟨_, rfl, Nat.zero_le _, rfl⟩ | apply And.intro | exact rfl))
  · refine Done.yes ?_
    apply List.ext_getElem?
    intro j
    by_cases hj : j < l.length
    · obtain ⟨x, hx⟩ := get_of_lt hj
      rw [hx, hu j x (by omega) hx]
    · rw [List.getElem?_eq_none (by omega), List.getElem?_eq_none (by omega)]

theorem running_next {l : List Task} {i : Int} {x : Task} {g : Int} (h0 : 0 ≤ i) (hx : l[i.toNat]? = some x) {i' : Int} (hi : i' = i + 1) : running (l.take i'.toNat) g = if runs g x = true then running (l.take i.toNat) g + 1 else running (l.take i.toNat) g := by
  rw [show i'.toNat = i.toNat + 1 by omega, take_next hx]
  unfold running
  rw [List.filter_append, List.length_append]
  cases hr : runs g x <;> simp [hr]
theorem running_le (l : List Task) (g : Int) : running l g ≤ l.length := by
  unfold running
  have := List.length_filter_le (runs g) l
  omega
theorem running_ge (l : List Task) (g : Int) : 0 ≤ running l g := by unfold running; omega


theorem isRunning_c (S : Se P A) (w : World) (q node limit active : Int) (waits : List Int) (first : Int) (h0 : 0 ≤ q) (hg : w.groups[q.toNat]? = some ⟨node, limit, active, waits, first⟩) (hb : w.tasks.length ≤ 60) (hw : waits.length ≤ 1000000) : Tests P 102 [.agg (roWorld A w), .int .i64 q] (RunningI w q ⟨node, limit, active, waits, first⟩) := by
  refine S.cx.byS [99999] (S.prog ▸ Tryz.func102) rfl rfl rfl rfl (fun ln hln hv ho => ?_)
  (cbv; repeat (refine Later.mk ?_; cbv))
  clear hv ho
  refine ElemRo.at S.cx (x := (⟨node, limit, active, waits, first⟩ : Group)) rfl h0 hg ?_; (cbv; repeat (refine Later.mk ?_; cbv))
  refine LenR.nat S.cx (fun N hN hm => ?_); (cbv; repeat (refine Later.mk ?_; cbv))
  refine ALoop.goT (ι := Int × Int) (fun i => [(19, .int .i64 i.1), (6, .int .i64 i.2)]) [8] [] (fun i => []) (fun i => 0 ≤ i.1 ∧ i.1.toNat ≤ w.tasks.length ∧ i.2 = running (w.tasks.take i.1.toNat) q) (fun i => (w.tasks.length - i.1).toNat) ((0, 0)) [99999] S.cx.tab S.cx.mix S.eq ?_ ?_ ?_
  · exact ⟨Int.le_refl _, Nat.zero_le _, rfl⟩
  · ((cbv; repeat (refine Later.mk ?_; cbv)); refine Less.to [] rfl rfl ?_ ?_ <;> repeat' (first | exact trivial | exact ⟨rfl, rfl⟩ | exact ⟨_, rfl, Nat.zero_le _, rfl⟩ | apply And.intro | exact rfl))
  rintro ⟨k, a⟩ ⟨k0, k1, ka⟩
  dsimp only at k0 k1 ka
  refine Rnd.mk ?_; (cbv; repeat (refine Later.mk ?_; cbv))
  refine Test.lss (fun h1 => ?_) (fun h1 => ?_) <;> (cbv; repeat (refine Later.mk ?_; cbv))
  · (try (refine Drawn.mk ⟨by kernel_rfl, fun _ => ?_⟩)); (repeat (refine Later.mk ?_; cbv))
    refine ElemRo.enc S.cx (fun _ => rfl) (by lia) (by lia) (fun x hx => ?_); (cbv; repeat (refine Later.mk ?_; cbv))
    have hnx := fun k' hk' => running_next (g := q) k0 hx (i' := k') hk'
    have ha1 := running_le (w.tasks.take k.toNat) q
    have ha2 := running_ge (w.tasks.take k.toNat) q
    have ha3 : (w.tasks.take k.toNat).length ≤ 60 := Nat.le_trans (List.length_take_le _ _) (by omega)
    obtain ⟨prog, pc, state, why, what, timer, reg, group, err⟩ := x
    (cbv; repeat (refine Later.mk ?_; cbv))
    have hgo : ∀ b, runs q ⟨prog, pc, state, why, what, timer, reg, group, err⟩ = b → ∀ k' a', k' = k + 1 → a' = (if b = true then a + 1 else a) → 0 ≤ k' ∧ k'.toNat ≤ w.tasks.length ∧ a' = running (w.tasks.take k'.toNat) q := fun b hb k' a' hk' ha' => ⟨by omega, by have := lt_of_get hx; omega, by rw [hnx k' hk', hb, ha', ka]⟩
    refine Test.eql (fun h2 => ?_) (fun h2 => ?_) <;> (cbv; repeat (refine Later.mk ?_; cbv))
    rotate_left
    · refine Arith.go (by lia) (fun k' hk' => ?_); (cbv; repeat (refine Later.mk ?_; cbv))
      refine Again.on (k', a) (by dsimp only; lia) (hgo false (decide_eq_false (fun e => h2 e.1)) k' a hk' rfl) ?_
      ((cbv; repeat (refine Later.mk ?_; cbv)); refine Less.to [] rfl rfl ?_ ?_ <;> repeat' (first | exact trivial | exact ⟨rfl, rfl⟩ | exact ⟨_, rfl, Nat.zero_le _, rfl⟩ | apply And.intro | exact rfl))
    refine Test.neq (fun h3 => ?_) (fun h3 => ?_) <;> (cbv; repeat (refine Later.mk ?_; cbv))
    · refine Arith.go (by lia) (fun a' ha' => ?_); replace ha' : a' = a + 1 := ha'; (cbv; repeat (refine Later.mk ?_; cbv))
      refine Arith.go (by lia) (fun k' hk' => ?_); (cbv; repeat (refine Later.mk ?_; cbv))
      refine Again.on (k', a') (by dsimp only; lia) (hgo true (decide_eq_true ⟨h2, h3⟩) k' a' hk' ha') ?_
      ((cbv; repeat (refine Later.mk ?_; cbv)); refine Less.to [] rfl rfl ?_ ?_ <;> repeat' (first | exact trivial | exact ⟨rfl, rfl⟩ | exact ⟨_, rfl, Nat.zero_le _, rfl⟩ | apply And.intro | exact rfl))
    · refine Arith.go (by lia) (fun k' hk' => ?_); (cbv; repeat (refine Later.mk ?_; cbv))
      refine Again.on (k', a) (by dsimp only; lia) (hgo false (decide_eq_false (fun e => e.2 h3)) k' a hk' rfl) ?_
      ((cbv; repeat (refine Later.mk ?_; cbv)); refine Less.to [] rfl rfl ?_ ?_ <;> repeat' (first | exact trivial | exact ⟨rfl, rfl⟩ | exact ⟨_, rfl, Nat.zero_le _, rfl⟩ | apply And.intro | exact rfl))
  have hka : a = running w.tasks q := by rw [ka, take_all (by omega)]
  (try (refine Drawn.mk ⟨by kernel_rfl, fun _ => ?_⟩)); (repeat (refine Later.mk ?_; cbv))
  refine ACall.val (r := fun _ : Unit => AV.fn 226 [] [.rptr [.ro (A.enc cInt64 waits)]]) (os := fun _ => []) (e := ()) (dp := false) (values_c S waits) (.of rfl (by repeat' (first | exact trivial | exact rfl | exact Nat.le_refl _ | exact S.ga | exact S.gb ‹_› | exact S.gc ‹_› | exact S.gd | exact S.ge | exact S.gf ‹_› | exact S.gg ‹_› | exact S.gh | exact .inl rfl | exact S.gi ‹_› | exact S.gj ‹_› | exact S.gk | exact S.gl | refine ⟨?_, ?_⟩))) rfl (fun u hu => ⟨rfl, ?_⟩); (cbv; repeat (refine Later.mk ?_; cbv))
  refine ACall.valN (r := rInt64 A) (os := fun _ => []) (dp := false) S.cx (sorted_c S waits hw) (.of rfl (by repeat' (first | exact trivial | exact rfl | exact Nat.le_refl _ | exact S.ga | exact S.gb ‹_› | exact S.gc ‹_› | exact S.gd | exact S.ge | exact S.gf ‹_› | exact S.gg ‹_› | exact S.gh | exact .inl rfl | exact S.gi ‹_› | exact S.gj ‹_› | exact S.gk | exact S.gl | refine ⟨?_, ?_⟩))) rfl (fun ln hln srt hx => ⟨rfl, ?_⟩)
  (cbv; repeat (refine Later.mk ?_; cbv))
  have hn_srt := hln cInt64 srt
  generalize ln (A.enc cInt64 srt) = n_srt at hn_srt ⊢
  have hsrt : sortI waits = srt := hx.symm
  clear hx
  (try (refine Drawn.mk ⟨by kernel_rfl, fun _ => ?_⟩)); (repeat (refine Later.mk ?_; cbv))
  refine ACall.valN (r := rI A) (os := fun _ => []) (dp := false) S.cx (parkedOn_c S w.tasks (by omega) 4 q) (.of rfl (by repeat' (first | exact trivial | exact rfl | exact Nat.le_refl _ | exact S.ga | exact S.gb ‹_› | exact S.gc ‹_› | exact S.gd | exact S.ge | exact S.gf ‹_› | exact S.gg ‹_› | exact S.gh | exact .inl rfl | exact S.gi ‹_› | exact S.gj ‹_› | exact S.gk | exact S.gl | refine ⟨?_, ?_⟩))) rfl (fun ln hln joins hx => ⟨rfl, ?_⟩)
  (cbv; repeat (refine Later.mk ?_; cbv))
  have hn_joins := hln cInt64 joins
  generalize ln (A.enc cInt64 joins) = n_joins at hn_joins ⊢
  have hjoins : idxs (pPark 4 q) w.tasks = joins := hx.symm
  clear hx
  have hno1 : ¬ a = active → ¬ RunningI w q ⟨node, limit, active, waits, first⟩ := fun hn e => hn (hka.trans e.1)
  refine Test.eql (fun h2 => ?_) (fun h2 => ?_) <;> (cbv; repeat (refine Later.mk ?_; cbv))
  rotate_left
  · exact Done.no (hno1 h2)
  refine ACall.valN (r := rI A) (os := fun _ => []) (dp := false) S.cx (parkedOn_c S w.tasks (by omega) 3 q) (.of rfl (by repeat' (first | exact trivial | exact rfl | exact Nat.le_refl _ | exact S.ga | exact S.gb ‹_› | exact S.gc ‹_› | exact S.gd | exact S.ge | exact S.gf ‹_› | exact S.gg ‹_› | exact S.gh | exact .inl rfl | exact S.gi ‹_› | exact S.gj ‹_› | exact S.gk | exact S.gl | refine ⟨?_, ?_⟩))) rfl (fun ln hln goes hx => ⟨rfl, ?_⟩)
  (cbv; repeat (refine Later.mk ?_; cbv))
  have hn_goes := hln cInt64 goes
  generalize ln (A.enc cInt64 goes) = n_goes at hn_goes ⊢
  have hgoes : idxs (pPark 3 q) w.tasks = goes := hx.symm
  clear hx
  refine ACall.testD (dp := false) (equalInt64_c S srt goes) (.of rfl (by repeat' (first | exact trivial | exact rfl | exact Nat.le_refl _ | exact S.ga | exact S.gb ‹_› | exact S.gc ‹_› | exact S.gd | exact S.ge | exact S.gf ‹_› | exact S.gg ‹_› | exact S.gh | exact .inl rfl | exact S.gi ‹_› | exact S.gj ‹_› | exact S.gk | exact S.gl | refine ⟨?_, ?_⟩))) rfl (fun h3 => ?_) (fun h3 => ?_) <;> (cbv; repeat (refine Later.mk ?_; cbv))
  rotate_left
  · exact Done.no (fun e => h3 (by rw [← hsrt, ← hgoes]; exact e.2.1))
  have hyes : 0 < active ∨ joins = [] → RunningI w q ⟨node, limit, active, waits, first⟩ := fun e => ⟨hka.symm.trans h2, by dsimp only; rw [hsrt, hgoes]; exact h3, by rw [hjoins]; exact e⟩
  refine Test.gtr (fun h4 => ?_) (fun h4 => ?_) <;> (cbv; repeat (refine Later.mk ?_; cbv))
  · exact Done.yes (hyes (.inl h4))
  refine Len.nat (fun J hJ hmJ => ?_); (cbv; repeat (refine Later.mk ?_; cbv))
  refine Test.eql (fun h5 => ?_) (fun h5 => ?_) <;> (cbv; repeat (refine Later.mk ?_; cbv))
  · exact Done.yes (hyes (.inr (List.eq_nil_of_length_eq_zero (by omega))))
  · exact Done.no (fun e => by
      rcases e.2.2 with e | e
      · have e9 : 0 < active := e
        omega
      · rw [hjoins] at e
        rw [e] at hn_joins
        simp only [List.length_nil] at hn_joins
        omega)

theorem tidySpread_c (S : Se P A) (w : World) (hok : WorldOk w) : Tests P 103 [.agg (roWorld A w)] ((∀ i : Nat, i < w.tree.length → SpreadTidyI w i) ∧ ∀ e ∈ w.events, Heard w e.node) := by
  have htl : w.spread.told.length = w.tree.length := hok.2.2.2.1.1
  have ht := hok.2.2.1.1
  have ht60 := ht.1
  have hev : ∀ e ∈ w.events, 0 ≤ e.node ∧ e.node.toNat < w.tree.length := fun e he => by
    obtain ⟨j, hj⟩ := List.getElem?_of_mem he
    have g := (hok.2.2.1.get hj).1
    obtain ⟨x, hx, _⟩ := g.2
    exact ⟨g.1, lt_of_get hx⟩
  refine S.cx.byS [99999] (S.prog ▸ Tryz.func103) rfl rfl rfl rfl (fun ln hln hv ho => ?_)
  (cbv; repeat (refine Later.mk ?_; cbv))
  clear hv ho
  refine ACall.num (dp := false) (sizeNode_c S w.tree) (.of rfl (by repeat' (first | exact trivial | exact rfl | exact Nat.le_refl _ | exact S.ga | exact S.gb ‹_› | exact S.gc ‹_› | exact S.gd | exact S.ge | exact S.gf ‹_› | exact S.gg ‹_› | exact S.gh | exact .inl rfl | exact S.gi ‹_› | exact S.gj ‹_› | exact S.gk | exact S.gl | refine ⟨?_, ?_⟩))) (fun N hN => ?_); (cbv; repeat (refine Later.mk ?_; cbv))
  refine ALoop.goT (ι := Int) (fun i => [(9, .int .i64 i)]) [4] [] (fun i => []) (fun i => 0 ≤ i ∧ ∀ j : Nat, (j : Int) < i → j < w.tree.length → SpreadTidyI w j) (fun i => (w.tree.length - i).toNat) (0) [99999] S.cx.tab S.cx.mix S.eq ?_ ?_ ?_
  · exact ⟨Int.le_refl _, fun j hj => by omega⟩
  · ((cbv; repeat (refine Later.mk ?_; cbv)); refine Less.to [] rfl rfl ?_ ?_ <;> repeat' (first | exact trivial | exact ⟨rfl, rfl⟩ | exact ⟨_, rfl, Nat.zero_le _, rfl⟩ | apply And.intro | exact rfl))
  rintro i ⟨h0, hu⟩
  refine Rnd.mk ?_; (cbv; repeat (refine Later.mk ?_; cbv))
  have hgo : SpreadTidyI w i → ∀ i', i' = i + 1 → 0 ≤ i' ∧ ∀ j : Nat, (j : Int) < i' → j < w.tree.length → SpreadTidyI w j := fun hs i' hi' => ⟨by omega, fun j hj hl => by
    by_cases e : (j : Int) < i
    · exact hu j e hl
    · rw [show (j : Int) = i by omega]; exact hs⟩
  refine Test.lss (fun h1 => ?_) (fun h1 => ?_) <;> (cbv; repeat (refine Later.mk ?_; cbv))
  · have hi : 0 ≤ i ∧ i.toNat < w.tree.length := by omega
    have hno : ¬ SpreadTidyI w i → ¬ ((∀ i : Nat, i < w.tree.length → SpreadTidyI w i) ∧ ∀ e ∈ w.events, Heard w e.node) := fun hn e => hn (by have := e.1 i.toNat hi.2; rwa [show ((i.toNat : Nat) : Int) = i by omega] at this)
    obtain ⟨b, hb⟩ := get_of_lt (l := w.spread.told) (i := i.toNat) (by omega)
    (try (refine Drawn.mk ⟨by kernel_rfl, fun _ => ?_⟩)); (repeat (refine Later.mk ?_; cbv))
    refine ElemRo.at S.cx (x := b) rfl h0 hb ?_; (cbv; repeat (refine Later.mk ?_; cbv))
    cases b <;> (cbv; repeat (refine Later.mk ?_; cbv))
    · refine Arith.go (by lia) (fun i' hi' => ?_); (cbv; repeat (refine Later.mk ?_; cbv))
      refine Again.on i' (by lia) (hgo (fun e => by unfold ToldAt at e; rw [hb] at e; cases e) i' hi') ?_
      ((cbv; repeat (refine Later.mk ?_; cbv)); refine Less.to [] rfl rfl ?_ ?_ <;> repeat' (first | exact trivial | exact ⟨rfl, rfl⟩ | exact ⟨_, rfl, Nat.zero_le _, rfl⟩ | apply And.intro | exact rfl))
    refine ACall.valN (r := rEB) (os := fun _ => []) (dp := false) S.cx (firstOf_c S w.tree w.events i ht hi) (.of rfl (by repeat' (first | exact trivial | exact rfl | exact Nat.le_refl _ | exact S.ga | exact S.gb ‹_› | exact S.gc ‹_› | exact S.gd | exact S.ge | exact S.gf ‹_› | exact S.gg ‹_› | exact S.gh | exact .inl rfl | exact S.gi ‹_› | exact S.gj ‹_› | exact S.gk | exact S.gl | refine ⟨?_, ?_⟩))) rfl (fun ln hln x hx => ⟨rfl, ?_⟩)
    obtain ⟨⟨en, ee, ec, et⟩, done⟩ := x
    (cbv; repeat (refine Later.mk ?_; cbv))
    have hdone : (FirstE w.tree w.events i).2 = done := by rw [← hx]
    clear hx
    cases done <;> (cbv; repeat (refine Later.mk ?_; cbv))
    · exact Done.no (hno fun e => (e hb).1 (firstE_false.1 hdone))
    have hev2 : ¬ NoEv w.tree w.events i := fun e => by rw [firstE_false.2 e] at hdone; cases hdone
    refine ACall.valN (r := rInt64 A) (os := fun _ => []) (dp := false) S.cx (children_c S w.tree (by omega) i) (.of rfl (by repeat' (first | exact trivial | exact rfl | exact Nat.le_refl _ | exact S.ga | exact S.gb ‹_› | exact S.gc ‹_› | exact S.gd | exact S.ge | exact S.gf ‹_› | exact S.gg ‹_› | exact S.gh | exact .inl rfl | exact S.gi ‹_› | exact S.gj ‹_› | exact S.gk | exact S.gl | refine ⟨?_, ?_⟩))) rfl (fun ln hln kids hx => ⟨rfl, ?_⟩)
    (cbv; repeat (refine Later.mk ?_; cbv))
    have hn_kids := hln cInt64 kids
    generalize ln (A.enc cInt64 kids) = n_kids at hn_kids ⊢
    have hkids : Kids w.tree i = kids := hx.symm
    clear hx
    have hkin : ∀ k ∈ kids, 0 ≤ k ∧ k.toNat < w.tree.length := fun k hk => by
      rw [← hkids] at hk
      obtain ⟨g1, x, hx, _⟩ := idxs_mem.1 hk
      exact ⟨g1, lt_of_get hx⟩
    refine ACall.testX (dp := false) (allInt64C_c S _ (roWorld A w) (fun k => notCut w.tree k = false ∨ Heard w k) kids (fun k hk => tidySpread1_c S w k (hkin k hk) htl)) (.of rfl (by repeat' (first | exact trivial | exact rfl | exact Nat.le_refl _ | exact S.ga | exact S.gb ‹_› | exact S.gc ‹_› | exact S.gd | exact S.ge | exact S.gf ‹_› | exact S.gg ‹_› | exact S.gh | exact .inl rfl | exact S.gi ‹_› | exact S.gj ‹_› | exact S.gk | exact S.gl | refine ⟨?_, ?_⟩))) rfl (fun h3 => ?_) (fun h3 => ?_) <;> (cbv; repeat (refine Later.mk ?_; cbv))
    · refine Arith.go (by lia) (fun i' hi' => ?_); (cbv; repeat (refine Later.mk ?_; cbv))
      refine Again.on i' (by lia) (hgo (fun _ => ⟨hev2, by rw [hkids]; exact h3⟩) i' hi') ?_
      ((cbv; repeat (refine Later.mk ?_; cbv)); refine Less.to [] rfl rfl ?_ ?_ <;> repeat' (first | exact trivial | exact ⟨rfl, rfl⟩ | exact ⟨_, rfl, Nat.zero_le _, rfl⟩ | apply And.intro | exact rfl))
    · exact Done.no (hno fun e => h3 (by rw [← hkids]; exact (e hb).2))
  · have hall : ∀ i : Nat, i < w.tree.length → SpreadTidyI w i := fun j hj => hu j (by lia) hj
    refine ACall.testX (dp := false) (allEventC_c S _ (roWorld A w) (fun e => Heard w e.node) w.events (fun x hx => by obtain ⟨a, b, c, d⟩ := x; exact tidySpread2_c S w a b c d ⟨(hev _ hx).1, by rw [htl]; exact (hev _ hx).2⟩)) (.of rfl (by repeat' (first | exact trivial | exact rfl | exact Nat.le_refl _ | exact S.ga | exact S.gb ‹_› | exact S.gc ‹_› | exact S.gd | exact S.ge | exact S.gf ‹_› | exact S.gg ‹_› | exact S.gh | exact .inl rfl | exact S.gi ‹_› | exact S.gj ‹_› | exact S.gk | exact S.gl | refine ⟨?_, ?_⟩))) rfl (fun h2 => ?_) (fun h2 => ?_) <;> (cbv; repeat (refine Later.mk ?_; cbv))
    · exact Done.yes ⟨hall, h2⟩
    · exact Done.no (fun e => h2 e.2)

theorem isTidy_c (S : Se P A) (w : World) (hok : WorldOk w) : Tests P 34 [.agg (roWorld A w)] (TidyI w) := by
  have htl : w.spread.told.length = w.tree.length := hok.2.2.2.1.1
  have htk := hok.2.2.2.2.2.2.2.1
  have hgr := hok.2.2.2.2.2.2.2.2.1
  have haf := hok.2.2.2.2.2.2.1.2
  refine S.cx.byS [99999] (S.prog ▸ Tryz.func34) rfl rfl rfl rfl (fun ln hln hv ho => ?_)
  (cbv; repeat (refine Later.mk ?_; cbv))
  clear hv ho
  refine LenR.nat S.cx (fun N hN hm => ?_); (cbv; repeat (refine Later.mk ?_; cbv))
  refine ALoop.goT (ι := Int) (fun i => [(9, .int .i64 i)]) [4] [] (fun i => []) (fun i => 0 ≤ i ∧ Upto (fun j t => TaskTidyI w j t) w.tasks i) (fun i => (w.tasks.length - i).toNat) (0) [99999] S.cx.tab S.cx.mix S.eq ?_ ?_ ?_
  · exact ⟨Int.le_refl _, .zero⟩
  · ((cbv; repeat (refine Later.mk ?_; cbv)); refine Less.to [] rfl rfl ?_ ?_ <;> repeat' (first | exact trivial | exact ⟨rfl, rfl⟩ | exact ⟨_, rfl, Nat.zero_le _, rfl⟩ | apply And.intro | exact rfl))
  rintro i ⟨h0, hu⟩
  refine Rnd.mk ?_; (cbv; repeat (refine Later.mk ?_; cbv))
  refine Test.lss (fun h1 => ?_) (fun h1 => ?_) <;> (cbv; repeat (refine Later.mk ?_; cbv))
  · (try (refine Drawn.mk ⟨by kernel_rfl, fun _ => ?_⟩)); (repeat (refine Later.mk ?_; cbv))
    refine ElemRo.enc S.cx (fun _ => rfl) (by lia) (by lia) (fun x hx => ?_); (cbv; repeat (refine Later.mk ?_; cbv))
    have hok1 := htk.1.2 x (mem_at hx)
    have hfit := htk.2 x (mem_at hx)
    have hsl := sleeps_c S w i x h0 hx
    have hii : ((i.toNat : Nat) : Int) = i := by omega
    have hgo : TaskTidyI w i x → ∀ i', i' = i + 1 → 0 ≤ i' ∧ Upto (fun j t => TaskTidyI w j t) w.tasks i' := fun hs i' hi' => ⟨by omega, hu.next h0 hx (by show TaskTidyI w ((i.toNat : Nat) : Int) x; rw [hii]; exact hs) hi'⟩
    have hno : ¬ TaskTidyI w i x → ¬ TidyI w := fun hn e => hn (by have := e.1 i.toNat x hx; rwa [hii] at this)
    have hwhat := hfit.2.2.2.1
    obtain ⟨prog, pc, state, why, what, timer, reg, group, err⟩ := x
    dsimp only at hwhat
    (cbv; repeat (refine Later.mk ?_; cbv))
    (try (refine Drawn.mk ⟨by kernel_rfl, fun _ => ?_⟩)); (repeat (refine Later.mk ?_; cbv))
    have hrest : ¬ why = 2 → TaskTidyI w i ⟨prog, pc, state, why, what, timer, reg, group, err⟩ ∨ True := fun _ => .inr trivial
    refine Test.eql (fun h2 => ?_) (fun h2 => ?_) <;> (cbv; repeat (refine Later.mk ?_; cbv))
    · obtain ⟨b, hb⟩ := get_of_lt (l := w.spread.told) (i := what.toNat) (by have := hwhat (.inl h2); omega)
      refine ElemRo.at S.cx (x := b) rfl (hwhat (.inl h2)).1 hb ?_; (cbv; repeat (refine Later.mk ?_; cbv))
      cases b <;> (cbv; repeat (refine Later.mk ?_; cbv))
      · refine Test.eql (fun h3 => ?_) (fun h3 => ?_) <;> (cbv; repeat (refine Later.mk ?_; cbv))
        · exfalso; omega
        refine Arith.go (by lia) (fun i' hi' => ?_); (cbv; repeat (refine Later.mk ?_; cbv))
        refine Again.on i' (by lia) (hgo ⟨fun e => (by have := e.2; unfold ToldAt at this; dsimp only at this; rw [hb] at this; cases this), fun e => absurd e h3⟩ i' hi') ?_
        ((cbv; repeat (refine Later.mk ?_; cbv)); refine Less.to [] rfl rfl ?_ ?_ <;> repeat' (first | exact trivial | exact ⟨rfl, rfl⟩ | exact ⟨_, rfl, Nat.zero_le _, rfl⟩ | apply And.intro | exact rfl))
      · exact Done.no (hno fun e => e.1 ⟨.inl h2, hb⟩)
    refine Test.eql (fun h3 => ?_) (fun h3 => ?_) <;> (cbv; repeat (refine Later.mk ?_; cbv))
    · obtain ⟨b, hb⟩ := get_of_lt (l := w.spread.told) (i := what.toNat) (by have := hwhat (.inr h3); omega)
      refine ElemRo.at S.cx (x := b) rfl (hwhat (.inr h3)).1 hb ?_; (cbv; repeat (refine Later.mk ?_; cbv))
      cases b <;> (cbv; repeat (refine Later.mk ?_; cbv))
      · refine Test.eql (fun h4 => ?_) (fun h4 => ?_) <;> (cbv; repeat (refine Later.mk ?_; cbv))
        rotate_left
        · exfalso; omega
        refine ACall.testD (dp := false) (hsl) (.of rfl (by repeat' (first | exact trivial | exact rfl | exact Nat.le_refl _ | exact S.ga | exact S.gb ‹_› | exact S.gc ‹_› | exact S.gd | exact S.ge | exact S.gf ‹_› | exact S.gg ‹_› | exact S.gh | exact .inl rfl | exact S.gi ‹_› | exact S.gj ‹_› | exact S.gk | exact S.gl | refine ⟨?_, ?_⟩))) rfl (fun h5 => ?_) (fun h5 => ?_) <;> (cbv; repeat (refine Later.mk ?_; cbv))
        · refine Arith.go (by lia) (fun i' hi' => ?_); (cbv; repeat (refine Later.mk ?_; cbv))
          refine Again.on i' (by lia) (hgo ⟨fun e => (by have := e.2; unfold ToldAt at this; dsimp only at this; rw [hb] at this; cases this), fun _ => h5⟩ i' hi') ?_
          ((cbv; repeat (refine Later.mk ?_; cbv)); refine Less.to [] rfl rfl ?_ ?_ <;> repeat' (first | exact trivial | exact ⟨rfl, rfl⟩ | exact ⟨_, rfl, Nat.zero_le _, rfl⟩ | apply And.intro | exact rfl))
        · exact Done.no (hno fun e => h5 (e.2 h3))
      · exact Done.no (hno fun e => e.1 ⟨.inr h3, hb⟩)
    refine Test.eql (fun h4 => ?_) (fun h4 => ?_) <;> (cbv; repeat (refine Later.mk ?_; cbv))
    · exfalso; omega
    refine Arith.go (by lia) (fun i' hi' => ?_); (cbv; repeat (refine Later.mk ?_; cbv))
    refine Again.on i' (by lia) (hgo ⟨fun e => by rcases e.1 with e | e; exact h2 e; exact h3 e, fun e => absurd e h3⟩ i' hi') ?_
    ((cbv; repeat (refine Later.mk ?_; cbv)); refine Less.to [] rfl rfl ?_ ?_ <;> repeat' (first | exact trivial | exact ⟨rfl, rfl⟩ | exact ⟨_, rfl, Nat.zero_le _, rfl⟩ | apply And.intro | exact rfl))
  have htasks : ∀ (i : Nat) (t : Task), w.tasks[i]? = some t → TaskTidyI w i t := fun j t hj => hu.all (by omega) j t hj
  refine LenR.nat S.cx (fun G hG hmG => ?_); (cbv; repeat (refine Later.mk ?_; cbv))
  refine ALoop.goT (ι := Int) (fun i => [(46, .int .i64 i)]) [5] [] (fun i => []) (fun i => 0 ≤ i ∧ Upto (fun j g => RunningI w j g) w.groups i) (fun i => (w.groups.length - i).toNat) (0) [99999] S.cx.tab S.cx.mix S.eq ?_ ?_ ?_
  · exact ⟨Int.le_refl _, .zero⟩
  · ((cbv; repeat (refine Later.mk ?_; cbv)); refine Less.to [] rfl rfl ?_ ?_ <;> repeat' (first | exact trivial | exact ⟨rfl, rfl⟩ | exact ⟨_, rfl, Nat.zero_le _, rfl⟩ | apply And.intro | exact rfl))
  rintro k ⟨k0, ku⟩
  refine Rnd.mk ?_; (cbv; repeat (refine Later.mk ?_; cbv))
  refine Test.lss (fun h2 => ?_) (fun h2 => ?_) <;> (cbv; repeat (refine Later.mk ?_; cbv))
  · obtain ⟨⟨node, limit, active, waits, first⟩, hx⟩ := get_of_lt (l := w.groups) (i := k.toNat) (by omega)
    have hgk := hgr.2 _ (mem_at hx)
    have hwl : waits.length ≤ 1000000 := by
      have h1 : (∀ t ∈ waits, 0 ≤ t ∧ t ≤ 59) ∧ waits.Nodup := ⟨hgk.1.2.2.2.2.2.1, hgk.1.2.2.2.2.2.2.1⟩
      have := nodup_len (a := (List.range 60).map (fun n : Nat => (n : Int))) h1.2 (fun t ht => List.mem_map.2 ⟨t.toNat, List.mem_range.2 (by have := h1.1 t ht; omega), by have := h1.1 t ht; omega⟩)
      simp at this
      omega
    have hkk : ((k.toNat : Nat) : Int) = k := by omega
    refine ACall.testD (dp := false) (isRunning_c S w k node limit active waits first k0 hx htk.1.1 hwl) (.of rfl (by repeat' (first | exact trivial | exact rfl | exact Nat.le_refl _ | exact S.ga | exact S.gb ‹_› | exact S.gc ‹_› | exact S.gd | exact S.ge | exact S.gf ‹_› | exact S.gg ‹_› | exact S.gh | exact .inl rfl | exact S.gi ‹_› | exact S.gj ‹_› | exact S.gk | exact S.gl | refine ⟨?_, ?_⟩))) rfl (fun h3 => ?_) (fun h3 => ?_) <;> (cbv; repeat (refine Later.mk ?_; cbv))
    · refine Arith.go (by lia) (fun k' hk' => ?_); (cbv; repeat (refine Later.mk ?_; cbv))
      refine Again.on k' (by lia) ⟨by omega, ku.next k0 hx (by show RunningI w ((k.toNat : Nat) : Int) _; rw [show ((k.toNat : Nat) : Int) = k by lia]; exact h3) hk'⟩ ?_
      ((cbv; repeat (refine Later.mk ?_; cbv)); refine Less.to [] rfl rfl ?_ ?_ <;> repeat' (first | exact trivial | exact ⟨rfl, rfl⟩ | exact ⟨_, rfl, Nat.zero_le _, rfl⟩ | apply And.intro | exact rfl))
    · exact Done.no (fun e => h3 (by have := e.2.1 k.toNat _ hx; rwa [show ((k.toNat : Nat) : Int) = k by lia] at this))
  have hgroups : ∀ (i : Nat) (g : Group), w.groups[i]? = some g → RunningI w i g := fun j t hj => ku.all (by omega) j t hj
  refine ACall.testD (dp := false) (tidySpread_c S w hok) (.of rfl (by repeat' (first | exact trivial | exact rfl | exact Nat.le_refl _ | exact S.ga | exact S.gb ‹_› | exact S.gc ‹_› | exact S.gd | exact S.ge | exact S.gf ‹_› | exact S.gg ‹_› | exact S.gh | exact .inl rfl | exact S.gi ‹_› | exact S.gj ‹_› | exact S.gk | exact S.gl | refine ⟨?_, ?_⟩))) rfl (fun h3 => ?_) (fun h3 => ?_) <;> (cbv; repeat (refine Later.mk ?_; cbv))
  rotate_left
  · exact Done.no (fun e => h3 e.2.2.1)
  refine ACall.testX (dp := false) (allAfterC_c S _ (roWorld A w) (fun a => a.queued = true ∨ ¬ ToldAt w a.node) w.afters.list (fun x hx => by obtain ⟨a, b, c, d, e⟩ := x; exact tidyAfter1_c S w a b c d e ⟨(haf _ hx).1, by rw [htl]; exact (haf _ hx).2⟩)) (.of rfl (by repeat' (first | exact trivial | exact rfl | exact Nat.le_refl _ | exact S.ga | exact S.gb ‹_› | exact S.gc ‹_› | exact S.gd | exact S.ge | exact S.gf ‹_› | exact S.gg ‹_› | exact S.gh | exact .inl rfl | exact S.gi ‹_› | exact S.gj ‹_› | exact S.gk | exact S.gl | refine ⟨?_, ?_⟩))) rfl (fun h4 => ?_) (fun h4 => ?_) <;> (cbv; repeat (refine Later.mk ?_; cbv))
  · exact Done.yes ⟨htasks, hgroups, h3, h4⟩
  · exact Done.no (fun e => h4 e.2.2.2)

theorem implTidyIn_c (S : Se P A) (now : Int) (progs : List (List Ins)) (tree : List Node) (events : List Event) (told : List Bool) (work : List Int) (heap : List Twig) (list : List Timer) (next : Int) (ages : List Int) (used : List Bool) (alist : List After) (tasks : List Task) (groups : List Group) (sights : List Sight) (began rang : List Int) : Tests P 7 [.agg (roWorld A ⟨now, progs, tree, events, ⟨told, work⟩, ⟨heap, list, next⟩, ⟨⟨ages, used⟩, alist⟩, tasks, groups, sights, began, rang⟩)] (WorldOk (⟨now, progs, tree, events, ⟨told, work⟩, ⟨heap, list, next⟩, ⟨⟨ages, used⟩, alist⟩, tasks, groups, sights, began, rang⟩ : World) ∧ TidyS (⟨now, progs, tree, events, ⟨told, work⟩, ⟨heap, list, next⟩, ⟨⟨ages, used⟩, alist⟩, tasks, groups, sights, began, rang⟩ : World)) := by
  refine S.cx.byS [99999] (S.prog ▸ Tryz.func7) rfl rfl rfl rfl (fun ln hln hv ho => ?_)
  (cbv; repeat (refine Later.mk ?_; cbv))
  clear hv ho
  refine ACall.testD (dp := false) (implWorldOk_c S now progs tree events told work heap list next ages used alist tasks groups sights began rang) (.of rfl (by repeat' (first | exact trivial | exact rfl | exact Nat.le_refl _ | exact S.ga | exact S.gb ‹_› | exact S.gc ‹_› | exact S.gd | exact S.ge | exact S.gf ‹_› | exact S.gg ‹_› | exact S.gh | exact .inl rfl | exact S.gi ‹_› | exact S.gj ‹_› | exact S.gk | exact S.gl | refine ⟨?_, ?_⟩))) rfl (fun h => ?_) (fun h => ?_) <;> (cbv; repeat (refine Later.mk ?_; cbv))
  rotate_left
  · exact Done.no (fun e => h e.1)
  refine ACall.testD (dp := false) (isTidy_c S (⟨now, progs, tree, events, ⟨told, work⟩, ⟨heap, list, next⟩, ⟨⟨ages, used⟩, alist⟩, tasks, groups, sights, began, rang⟩ : World) h) (.of rfl (by repeat' (first | exact trivial | exact rfl | exact Nat.le_refl _ | exact S.ga | exact S.gb ‹_› | exact S.gc ‹_› | exact S.gd | exact S.ge | exact S.gf ‹_› | exact S.gg ‹_› | exact S.gh | exact .inl rfl | exact S.gi ‹_› | exact S.gj ‹_› | exact S.gk | exact S.gl | refine ⟨?_, ?_⟩))) rfl (fun h2 => ?_) (fun h2 => ?_) <;> (cbv; repeat (refine Later.mk ?_; cbv))
  · exact Done.yes ⟨h, (tidy_same h).1 h2⟩
  · exact Done.no (fun e => h2 ((tidy_same h).2 e.2))

end Go.Proofs.YtaibcmhhccanoaaGreat.AM
