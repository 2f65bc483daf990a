/- Contracts: valid timers. (printed by ge8.py) -/
import Derived.Test.YtgooambndfkgkaaGreatE7
namespace Go.Proofs.YtgooambndfkgkaaGreat.AM
open Go Go.Proofs

set_option maxRecDepth 100000
set_option maxHeartbeats 4000000
set_option linter.unusedVariables false
set_option linter.unusedSimpArgs false

variable {P : Program} {A : Sy}

theorem containsFuncTwig1_c (S : Se P A) (F : FuncId) (c1 : List AV) (q : Twig → Prop) (hF : ∀ x : Twig, Tests P F [.agg (cTwig x), .rptr c1] (q x)) (l : List Twig) : Tests P 141 [.ro (A.enc cTwig l), .fn F [] [.rptr c1]] (∃ x ∈ l, q x) := by
  refine S.cx.by (S.prog ▸ Tryz.func141) rfl rfl rfl rfl (fun hv ho => ?_)
  cbv
  refine ACall.num (dp := false) (indexFuncTwig1_c S F c1 q hF l) ⟨rfl, (by repeat' (first | exact trivial | exact rfl | exact Nat.le_refl _ | exact S.cx.giveEq | exact S.cx.lendLe (by assumption) | exact S.cx.lendEq (by assumption) | exact S.cx.lendLe0 | exact S.cx.lendEq0 | exact S.cx.partLe (by assumption) | exact S.cx.partEq (by assumption) | exact S.cx.enc _ [] | exact .inl rfl | refine ⟨?_, ?_⟩)), (by repeat' (first | exact trivial | exact rfl | exact Nat.le_refl _ | exact S.cx.giveEq | exact S.cx.lendLe (by assumption) | exact S.cx.lendEq (by assumption) | exact S.cx.lendLe0 | exact S.cx.lendEq0 | exact S.cx.partLe (by assumption) | exact S.cx.partEq (by assumption) | exact S.cx.enc _ [] | exact .inl rfl | refine ⟨?_, ?_⟩))⟩ (fun r hr => ?_); cbv
  refine Test.geq (fun h => ?_) (fun h => ?_) <;> cbv
  · refine Done.yes ?_
    rcases hr with ⟨_, ⟨x, hx, hq⟩, _⟩ | ⟨rfl, _⟩
    · exact ⟨x, mem_at hx, hq⟩
    · exact absurd h (by decide)
  · refine Done.no fun ⟨x, hx, hq⟩ => ?_
    rcases hr with ⟨h0, _⟩ | ⟨_, hr⟩
    · lia
    · exact hr x hx hq

theorem indexFuncTimer1_c (S : Se P A) (F : FuncId) (c1 : List AV) (q : Timer → Prop) (hF : ∀ x : Timer, Tests P F [.agg (cTimer x), .rptr c1] (q x)) (l : List Timer) : Nums P 239 [.ro (A.enc cTimer l), .fn F [] [.rptr c1]] (fun r => 0 ≤ r ∧ (∃ x, l[r.toNat]? = some x ∧ q x) ∧ Upto (fun _ x => ¬ q x) l r ∨ r = -1 ∧ ∀ x ∈ l, ¬ q x) := by
  refine S.cx.by (S.prog ▸ Tryz.func239) rfl rfl rfl rfl (fun hv ho => ?_)
  cbv
  refine LenR.nat S.cx (fun N hN hm => ?_); cbv
  refine ALoop.goD (ι := Int) (fun i => [(8, .int .i64 i)]) [] (fun i => []) (fun i => 0 ≤ i ∧ Upto (fun _ x => ¬ q x) l i) (fun i => (l.length - i).toNat) (0) S.cx.tab S.cx.mix S.eq ?_ ?_ ?_
  · exact ⟨Int.le_refl _, .zero⟩
  · (cbv; refine Less.to [] rfl rfl ?_ ?_ <;> repeat' (first | exact trivial | exact ⟨rfl, rfl⟩ | exact ⟨_, rfl, Nat.zero_le _, rfl⟩ | apply And.intro | exact rfl))
  · rintro i ⟨h0, hu⟩
    cbv
    refine Test.lss (fun h => ?_) (fun h => ?_) <;> cbv
    · refine ElemRo.enc S.cx (fun _ => rfl) (by lia) (by lia) (fun x hx => ?_); cbv
      refine ACall.testX (dp := false) (hF x) ⟨rfl, (by repeat' (first | exact trivial | exact rfl | exact Nat.le_refl _ | exact S.cx.giveEq | exact S.cx.lendLe (by assumption) | exact S.cx.lendEq (by assumption) | exact S.cx.lendLe0 | exact S.cx.lendEq0 | exact S.cx.partLe (by assumption) | exact S.cx.partEq (by assumption) | exact S.cx.enc _ [] | exact .inl rfl | refine ⟨?_, ?_⟩)), (by repeat' (first | exact trivial | exact rfl | exact Nat.le_refl _ | exact S.cx.giveEq | exact S.cx.lendLe (by assumption) | exact S.cx.lendEq (by assumption) | exact S.cx.lendLe0 | exact S.cx.lendEq0 | exact S.cx.partLe (by assumption) | exact S.cx.partEq (by assumption) | exact S.cx.enc _ [] | exact .inl rfl | refine ⟨?_, ?_⟩))⟩ rfl (fun h2 => ?_) (fun h2 => ?_) <;> cbv
      · exact Done.num (.inl ⟨h0, ⟨x, hx, h2⟩, hu⟩)
      · refine Arith.go (by lia) (fun i' hi' => ?_); cbv
        refine Again.on i' (by lia) ⟨by lia, hu.next h0 hx h2 hi'⟩ ?_
        (cbv; refine Less.to [] rfl rfl ?_ ?_ <;> repeat' (first | exact trivial | exact ⟨rfl, rfl⟩ | exact ⟨_, rfl, Nat.zero_le _, rfl⟩ | apply And.intro | exact rfl))
    · exact Done.num (.inr ⟨rfl, hu.mem (by lia)⟩)

theorem timAt1_c (S : Se P A) (q : Int) (x : Timer) : Tests P 240 [.agg (cTimer x), .rptr [.int .i64 q]] (x.seq = q) := by
  refine S.cx.by (S.prog ▸ Tryz.func240) rfl rfl rfl rfl (fun hv ho => ?_)
  cbv
  refine Test.eql (fun h => ?_) (fun h => ?_) <;> cbv
  · exact Done.yes h
  · exact Done.no h

def timIdx (l : List Timer) (q : Int) : Int := match l.findIdx? (fun x => decide (x.seq = q)) with
  | some k => (k : Int)
  | none => -1

theorem timIdx_none {l : List Timer} {q : Int} (h : timIdx l q < 0) : ∀ x ∈ l, x.seq ≠ q := by
  unfold timIdx at h
  split at h
  · omega
  · rename_i hk
    exact fun x hx e => absurd e (of_decide_eq_false (List.findIdx?_eq_none_iff.1 hk x hx))

theorem timIdx_some {l : List Timer} {q : Int} (h : 0 ≤ timIdx l q) : ∃ x, l[(timIdx l q).toNat]? = some x ∧ x.seq = q := by
  unfold timIdx at h ⊢
  split at h
  · rename_i k hk
    obtain ⟨hl, h1, _⟩ := List.findIdx?_eq_some_iff_getElem.1 hk
    exact ⟨l[k], List.getElem?_eq_getElem hl, of_decide_eq_true h1⟩
  · exact absurd h (by decide)

theorem timIdx_mem {l : List Timer} {x : Timer} (hx : x ∈ l) : 0 ≤ timIdx l x.seq := by
  rcases Int.lt_or_le (timIdx l x.seq) 0 with h | h
  · exact absurd rfl (timIdx_none h x hx)
  · exact h

theorem timAt_c (S : Se P A) (heap : List Twig) (list : List Timer) (next q : Int) : Is1 P 143 [.agg (roTimers A ⟨heap, list, next⟩), .int .i64 q] (.int .i64 (timIdx list q)) := by
  refine SoundM.knownH (p := fun r => 0 ≤ r ∧ (∃ x, list[r.toNat]? = some x ∧ x.seq = q) ∧ Upto (fun _ x => ¬ x.seq = q) list r ∨ r = -1 ∧ ∀ x ∈ list, ¬ x.seq = q) ?_ (fun n h => ?_)
  rotate_left
  · rcases h with ⟨h0, ⟨x, hx, hq⟩, hu⟩ | ⟨rfl, h⟩
    · have : list.findIdx? (fun x => decide (x.seq = q)) = some n.toNat := by
        obtain ⟨hl, hg⟩ := List.getElem?_eq_some_iff.1 hx
        refine List.findIdx?_eq_some_iff_getElem.2 ⟨hl, by simp [hg, hq], fun j hj => ?_⟩
        have := hu j list[j] (by omega) (List.getElem?_eq_getElem (by omega))
        simpa using this
      unfold timIdx; rw [this]; dsimp only; omega
    · have : list.findIdx? (fun x => decide (x.seq = q)) = none := List.findIdx?_eq_none_iff.2 fun x hx => decide_eq_false (h x hx)
      unfold timIdx; rw [this]
  refine S.cx.by (S.prog ▸ Tryz.func143) rfl rfl rfl rfl (fun hv ho => ?_)
  cbv
  refine ACall.num (dp := false) (indexFuncTimer1_c S _ _ _ (timAt1_c S q) list) ⟨rfl, (by repeat' (first | exact trivial | exact rfl | exact Nat.le_refl _ | exact S.cx.giveEq | exact S.cx.lendLe (by assumption) | exact S.cx.lendEq (by assumption) | exact S.cx.lendLe0 | exact S.cx.lendEq0 | exact S.cx.partLe (by assumption) | exact S.cx.partEq (by assumption) | exact S.cx.enc _ [] | exact .inl rfl | refine ⟨?_, ?_⟩)), (by repeat' (first | exact trivial | exact rfl | exact Nat.le_refl _ | exact S.cx.giveEq | exact S.cx.lendLe (by assumption) | exact S.cx.lendEq (by assumption) | exact S.cx.lendLe0 | exact S.cx.lendEq0 | exact S.cx.partLe (by assumption) | exact S.cx.partEq (by assumption) | exact S.cx.enc _ [] | exact .inl rfl | refine ⟨?_, ?_⟩))⟩ (fun r hr => ?_); cbv
  exact Done.num hr

def Timer.ok (x : Timer) (next : Int) : Prop := (0 ≤ x.seq ∧ x.seq < next) ∧ (0 ≤ x.what ∧ x.what ≤ 2) ∧ (0 ≤ x.whom ∧ x.whom ≤ 99)
instance (x : Timer) (n : Int) : Decidable (x.ok n) := by unfold Timer.ok; infer_instance

def armedN (l : List Timer) : Nat := (l.filter (·.armed)).length

def Held (list : List Timer) (h : Twig) : Prop := ∃ x ∈ list, x.seq = h.seq ∧ x.armed = true ∧ x.due = h.due
instance (l : List Timer) (h : Twig) : Decidable (Held l h) := by unfold Held; infer_instance

def TimersOk (t : Timers) : Prop :=
  (0 ≤ t.next ∧ t.next ≤ 1000000) ∧ t.list.length ≤ 64 ∧ HeapOk t.heap ∧ (∀ x ∈ t.list, x.ok t.next) ∧ t.list.Pairwise (fun x y => x.seq < y.seq) ∧ armedN t.list = t.heap.length ∧ ∀ h ∈ t.heap, Held t.list h
instance (t : Timers) : Decidable (TimersOk t) := by unfold TimersOk; infer_instance

theorem armedN_next {l : List Timer} {i i' : Int} {x : Timer} (h0 : 0 ≤ i) (hx : l[i.toNat]? = some x) (hi : i' = i + 1) : armedN (l.take i'.toNat) = armedN (l.take i.toNat) + (if x.armed then 1 else 0) := by
  rw [show i'.toNat = i.toNat + 1 by omega, take_next hx, armedN, List.filter_append]
  cases h : x.armed <;> simp [armedN, h]

theorem armedN_le (l : List Timer) : armedN l ≤ l.length := List.length_filter_le _ _

theorem asc_eq {l : List Timer} (hd : l.Pairwise (fun x y => x.seq < y.seq)) {x y : Timer} (hx : x ∈ l) (hy : y ∈ l) (e : x.seq = y.seq) : x = y := by
  induction hd with
  | nil => cases hx
  | cons h _ ih =>
    rcases List.mem_cons.1 hx with rfl | hx'
    · rcases List.mem_cons.1 hy with rfl | hy'
      · rfl
      · have := h _ hy'; omega
    · rcases List.mem_cons.1 hy with rfl | hy'
      · have := h _ hx'; omega
      · exact ih hx' hy'

theorem asc_at {l : List Timer} (hd : l.Pairwise (fun x y => x.seq < y.seq)) {i : Nat} {x y : Timer} (hx : x ∈ l.take i) (hy : l[i]? = some y) : x.seq < y.seq := by
  have h1 := hd.sublist (List.take_sublist (i + 1) l)
  rw [take_next hy] at h1
  exact (List.pairwise_append.1 h1).2.2 x hx y (List.mem_singleton.2 rfl)

theorem timersOk1_c (S : Se P A) (heap : List Twig) (list : List Timer) (next : Int) (hd : list.Pairwise (fun x y => x.seq < y.seq)) (x : Twig) : Tests P 142 [.agg (cTwig x), .rptr (roTimers A ⟨heap, list, next⟩)] (¬ Held list x) := by
  obtain ⟨d, q, n⟩ := x
  refine S.cx.by (S.prog ▸ Tryz.func142) rfl rfl rfl rfl (fun hv ho => ?_)
  cbv
  refine ACall.int (dp := false) (timAt_c S heap list next q) ⟨rfl, (by repeat' (first | exact trivial | exact rfl | exact Nat.le_refl _ | exact S.cx.giveEq | exact S.cx.lendLe (by assumption) | exact S.cx.lendEq (by assumption) | exact S.cx.lendLe0 | exact S.cx.lendEq0 | exact S.cx.partLe (by assumption) | exact S.cx.partEq (by assumption) | exact S.cx.enc _ [] | exact .inl rfl | refine ⟨?_, ?_⟩)), (by repeat' (first | exact trivial | exact rfl | exact Nat.le_refl _ | exact S.cx.giveEq | exact S.cx.lendLe (by assumption) | exact S.cx.lendEq (by assumption) | exact S.cx.lendLe0 | exact S.cx.lendEq0 | exact S.cx.partLe (by assumption) | exact S.cx.partEq (by assumption) | exact S.cx.enc _ [] | exact .inl rfl | refine ⟨?_, ?_⟩))⟩ rfl (fun r hr => ?_); cbv
  have hne := @timIdx_none list q
  have hso := @timIdx_some list q
  rw [← hr] at hne hso
  try (refine Drawn.mk ⟨by kernel_rfl, fun _ => ?_⟩)
  refine Test.lss (fun h1 => ?_) (fun h1 => ?_) <;> cbv
  · exact Done.yes fun ⟨y, hy, e, _⟩ => hne h1 y hy e
  obtain ⟨⟨ys, yd, yw, yh, ya⟩, hy, he⟩ := hso (by omega)
  have hym := mem_at hy
  dsimp only at he
  refine ElemRo.at S.cx (x := (⟨ys, yd, yw, yh, ya⟩ : Timer)) rfl (by omega) hy ?_; cbv
  cases ya <;> cbv
  · refine Done.yes fun ⟨z, hz, e, ha, _⟩ => ?_
    rw [asc_eq hd hz hym (e.trans he.symm)] at ha
    cases ha
  refine ElemRo.at S.cx (x := (⟨ys, yd, yw, yh, true⟩ : Timer)) rfl (by omega) hy ?_; cbv
  refine Test.neq (fun h2 => ?_) (fun h2 => ?_) <;> cbv
  · refine Done.yes fun ⟨z, hz, e, ha, hd2⟩ => ?_
    rw [asc_eq hd hz hym (e.trans he.symm)] at hd2
    exact h2 hd2
  · exact Done.no fun e => e ⟨_, hym, he, rfl, h2⟩

theorem implTimersOk_c (S : Se P A) (heap : List Twig) (list : List Timer) (next : Int) : Tests P 41 [.agg (roTimers A ⟨heap, list, next⟩)] (TimersOk ⟨heap, list, next⟩) := by
  refine S.cx.by (S.prog ▸ Tryz.func41) rfl rfl rfl rfl (fun hv ho => ?_)
  cbv
  refine ACall.testD (dp := false) (within_c S next 0 1000000) ⟨rfl, (by repeat' (first | exact trivial | exact rfl | exact Nat.le_refl _ | exact S.cx.giveEq | exact S.cx.lendLe (by assumption) | exact S.cx.lendEq (by assumption) | exact S.cx.lendLe0 | exact S.cx.lendEq0 | exact S.cx.partLe (by assumption) | exact S.cx.partEq (by assumption) | exact S.cx.enc _ [] | exact .inl rfl | refine ⟨?_, ?_⟩)), (by repeat' (first | exact trivial | exact rfl | exact Nat.le_refl _ | exact S.cx.giveEq | exact S.cx.lendLe (by assumption) | exact S.cx.lendEq (by assumption) | exact S.cx.lendLe0 | exact S.cx.lendEq0 | exact S.cx.partLe (by assumption) | exact S.cx.partEq (by assumption) | exact S.cx.enc _ [] | exact .inl rfl | refine ⟨?_, ?_⟩))⟩ rfl (fun h1 => ?_) (fun h1 => ?_) <;> cbv
  rotate_left
  · exact Done.no fun e => h1 e.1
  refine LenR.nat S.cx (fun N hN hm => ?_); cbv
  refine Test.gtr (fun h2 => ?_) (fun h2 => ?_) <;> cbv
  · exact Done.no fun e => by have := e.2.1; dsimp only at this; lia
  have hl64 : list.length ≤ 64 := by lia
  refine ACall.testD (dp := false) (implHeapOk_c S heap) ⟨rfl, (by repeat' (first | exact trivial | exact rfl | exact Nat.le_refl _ | exact S.cx.giveEq | exact S.cx.lendLe (by assumption) | exact S.cx.lendEq (by assumption) | exact S.cx.lendLe0 | exact S.cx.lendEq0 | exact S.cx.partLe (by assumption) | exact S.cx.partEq (by assumption) | exact S.cx.enc _ [] | exact .inl rfl | refine ⟨?_, ?_⟩)), (by repeat' (first | exact trivial | exact rfl | exact Nat.le_refl _ | exact S.cx.giveEq | exact S.cx.lendLe (by assumption) | exact S.cx.lendEq (by assumption) | exact S.cx.lendLe0 | exact S.cx.lendEq0 | exact S.cx.partLe (by assumption) | exact S.cx.partEq (by assumption) | exact S.cx.enc _ [] | exact .inl rfl | refine ⟨?_, ?_⟩))⟩ rfl (fun h3 => ?_) (fun h3 => ?_) <;> cbv
  rotate_left
  · exact Done.no fun e => h3 e.2.2.1
  refine LenR.nat S.cx (fun M hM hm2 => ?_); cbv
  refine ALoop.goS (ι := Int × Int × Int) (fun i => [(26, .int .i64 i.1), (3, .int .i64 i.2.1), (4, .int .i64 i.2.2)]) [] (fun i => []) (fun i => 0 ≤ i.1 ∧ (∀ x ∈ list.take i.1.toNat, x.ok next ∧ x.seq ≤ i.2.1) ∧ (list.take i.1.toNat).Pairwise (fun x y => x.seq < y.seq) ∧ -1 ≤ i.2.1 ∧ (i.2.1 = -1 ∨ ∃ y ∈ list.take i.1.toNat, y.seq = i.2.1) ∧ 0 ≤ i.2.2 ∧ i.2.2.toNat = armedN (list.take i.1.toNat)) (fun i => (list.length - i.1).toNat) (0, -1, 0) S.cx.tab S.cx.mix S.eq ?_ ?_ ?_
  · exact ⟨Int.le_refl _, by simp, by simp, Int.le_refl _, .inl rfl, Int.le_refl _, rfl⟩
  · (cbv; refine Less.to [] rfl rfl ?_ ?_ <;> repeat' (first | exact trivial | exact ⟨rfl, rfl⟩ | exact ⟨_, rfl, Nat.zero_le _, rfl⟩ | apply And.intro | exact rfl))
  intro i hk
  obtain ⟨i, last, n⟩ := i
  dsimp only at hk
  refine Rnd.mk ?_; cbv
  refine Test.lss (fun h4 => ?_) (fun h4 => ?_) <;> cbv
  rotate_left
  · obtain ⟨h0, hall, hpw, hl1, hl2, hn0, hn⟩ := hk
    rw [take_all (by lia)] at hall hpw hn
    refine LenR.nat S.cx (fun H hH hHm => ?_); cbv
    refine Test.eql (fun h5 => ?_) (fun h5 => ?_) <;> cbv
    rotate_left
    · exact Done.no fun e => by have := e.2.2.2.2.2.1; dsimp only at this; lia
    refine ACall.testX (dp := false) (containsFuncTwig1_c S _ _ _ (fun x => timersOk1_c S heap list next hpw x) heap) ⟨rfl, (by repeat' (first | exact trivial | exact rfl | exact Nat.le_refl _ | exact S.cx.giveEq | exact S.cx.lendLe (by assumption) | exact S.cx.lendEq (by assumption) | exact S.cx.lendLe0 | exact S.cx.lendEq0 | exact S.cx.partLe (by assumption) | exact S.cx.partEq (by assumption) | exact S.cx.enc _ [] | exact .inl rfl | refine ⟨?_, ?_⟩)), (by repeat' (first | exact trivial | exact rfl | exact Nat.le_refl _ | exact S.cx.giveEq | exact S.cx.lendLe (by assumption) | exact S.cx.lendEq (by assumption) | exact S.cx.lendLe0 | exact S.cx.lendEq0 | exact S.cx.partLe (by assumption) | exact S.cx.partEq (by assumption) | exact S.cx.enc _ [] | exact .inl rfl | refine ⟨?_, ?_⟩))⟩ rfl (fun h6 => ?_) (fun h6 => ?_) <;> cbv
    · exact Done.no fun e => by obtain ⟨x, hx, hh⟩ := h6; exact hh (e.2.2.2.2.2.2 x hx)
    · refine Done.yes ⟨h1, hl64, h3, fun x hx => (hall x hx).1, hpw, by dsimp only; lia, fun x hx => ?_⟩
      exact Classical.byContradiction fun hh => h6 ⟨x, hx, hh⟩
  obtain ⟨h0, hall, hpw, hl1, hl2, hn0, hn⟩ := hk
  refine ElemRo.enc S.cx (fun _ => rfl) (by lia) (by lia) (fun y hy => ?_)
  obtain ⟨ys, yd, yw, yh, ya⟩ := y
  have hym := mem_at hy
  cbv
  refine Test.leq (fun h5 => ?_) (fun h5 => ?_) <;> cbv
  · refine Done.no fun e => ?_
    have h6 := (e.2.2.2.1 _ hym).1.1
    dsimp only at h6
    rcases hl2 with hl2 | ⟨z, hz, hzl⟩
    · omega
    · have := asc_at e.2.2.2.2.1 hz hy
      dsimp only at this
      omega
  refine Test.geq (fun h6 => ?_) (fun h6 => ?_) <;> cbv
  · refine Done.no fun e => ?_
    have h7 := (e.2.2.2.1 _ hym).1.2
    dsimp only at h7
    omega
  refine ACall.testD (dp := false) (within_c S yw 0 2) ⟨rfl, (by repeat' (first | exact trivial | exact rfl | exact Nat.le_refl _ | exact S.cx.giveEq | exact S.cx.lendLe (by assumption) | exact S.cx.lendEq (by assumption) | exact S.cx.lendLe0 | exact S.cx.lendEq0 | exact S.cx.partLe (by assumption) | exact S.cx.partEq (by assumption) | exact S.cx.enc _ [] | exact .inl rfl | refine ⟨?_, ?_⟩)), (by repeat' (first | exact trivial | exact rfl | exact Nat.le_refl _ | exact S.cx.giveEq | exact S.cx.lendLe (by assumption) | exact S.cx.lendEq (by assumption) | exact S.cx.lendLe0 | exact S.cx.lendEq0 | exact S.cx.partLe (by assumption) | exact S.cx.partEq (by assumption) | exact S.cx.enc _ [] | exact .inl rfl | refine ⟨?_, ?_⟩))⟩ rfl (fun h7 => ?_) (fun h7 => ?_) <;> cbv
  rotate_left
  · exact Done.no fun e => h7 (e.2.2.2.1 _ hym).2.1
  refine ACall.testD (dp := false) (within_c S yh 0 99) ⟨rfl, (by repeat' (first | exact trivial | exact rfl | exact Nat.le_refl _ | exact S.cx.giveEq | exact S.cx.lendLe (by assumption) | exact S.cx.lendEq (by assumption) | exact S.cx.lendLe0 | exact S.cx.lendEq0 | exact S.cx.partLe (by assumption) | exact S.cx.partEq (by assumption) | exact S.cx.enc _ [] | exact .inl rfl | refine ⟨?_, ?_⟩)), (by repeat' (first | exact trivial | exact rfl | exact Nat.le_refl _ | exact S.cx.giveEq | exact S.cx.lendLe (by assumption) | exact S.cx.lendEq (by assumption) | exact S.cx.lendLe0 | exact S.cx.lendEq0 | exact S.cx.partLe (by assumption) | exact S.cx.partEq (by assumption) | exact S.cx.enc _ [] | exact .inl rfl | refine ⟨?_, ?_⟩))⟩ rfl (fun h8 => ?_) (fun h8 => ?_) <;> cbv
  rotate_left
  · exact Done.no fun e => h8 (e.2.2.2.1 _ hym).2.2
  have htn := take_next hy
  have hnext : ∀ i', i' = i + 1 → (∀ x ∈ list.take i'.toNat, x.ok next ∧ x.seq ≤ ys) ∧ (list.take i'.toNat).Pairwise (fun x y => x.seq < y.seq) ∧ -1 ≤ ys ∧ (ys = -1 ∨ ∃ y ∈ list.take i'.toNat, y.seq = ys) := fun i' hi' => by
    rw [show i'.toNat = i.toNat + 1 by omega, htn]
    refine ⟨fun x hx => ?_, ?_, by omega, .inr ⟨_, List.mem_append_right _ (List.mem_singleton.2 rfl), rfl⟩⟩
    · rcases List.mem_append.1 hx with hx | hx
      · exact ⟨(hall x hx).1, by have := (hall x hx).2; omega⟩
      · rw [List.mem_singleton.1 hx]
        exact ⟨⟨⟨by dsimp only; omega, by dsimp only; omega⟩, h7, h8⟩, Int.le_refl _⟩
    · refine List.pairwise_append.2 ⟨hpw, by simp, fun a ha b hb => ?_⟩
      rw [List.mem_singleton.1 hb]
      have := (hall a ha).2
      dsimp only
      omega
  have han := armedN_le (list.take i.toNat)
  rw [List.length_take] at han
  cases ya <;> cbv
  · refine Arith.go (by lia) (fun i' hi' => ?_); cbv
    have hx := hnext i' hi'
    refine Again.on (i', ys, n) (by dsimp only; lia) ⟨by dsimp only; lia, hx.1, hx.2.1, hx.2.2.1, hx.2.2.2, hn0, ?_⟩ ?_
    · dsimp only
      rw [armedN_next h0 hy hi']; simpa using hn
    · (cbv; refine Less.to [] rfl rfl ?_ ?_ <;> repeat' (first | exact trivial | exact ⟨rfl, rfl⟩ | exact ⟨_, rfl, Nat.zero_le _, rfl⟩ | apply And.intro | exact rfl))
  · refine Arith.go (by lia) (fun n' hn' => ?_); replace hn' : n' = n + 1 := hn'; cbv
    refine Arith.go (by lia) (fun i' hi' => ?_); cbv
    have hx := hnext i' hi'
    refine Again.on (i', ys, n') (by dsimp only; lia) ⟨by dsimp only; lia, hx.1, hx.2.1, hx.2.2.1, hx.2.2.2, by dsimp only; lia, ?_⟩ ?_
    · dsimp only
      rw [armedN_next h0 hy hi']; show n'.toNat = armedN (list.take i.toNat) + 1; lia
    · (cbv; refine Less.to [] rfl rfl ?_ ?_ <;> repeat' (first | exact trivial | exact ⟨rfl, rfl⟩ | exact ⟨_, rfl, Nat.zero_le _, rfl⟩ | apply And.intro | exact rfl))

end Go.Proofs.YtgooambndfkgkaaGreat.AM
