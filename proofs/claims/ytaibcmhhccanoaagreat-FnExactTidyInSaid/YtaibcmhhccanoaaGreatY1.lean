/- A world is tidy, as both say it: plain. -/
import Derived.Test.YtaibcmhhccanoaaGreatW8
import Derived.Test.YtaibcmhhccanoaaGreatP1
set_option linter.unusedVariables false
set_option linter.unusedSimpArgs false
namespace Go.Proofs.YtaibcmhhccanoaaGreat.AM
open Go Go.Proofs

set_option linter.unusedVariables false
set_option linter.unusedSimpArgs false

def ToldAt (w : World) (n : Int) : Prop := w.spread.told[n.toNat]? = some true
def Heard (w : World) (n : Int) : Prop := ToldAt w n ∨ n ∈ w.spread.work
def Sleeps (w : World) (i : Int) (t : Task) : Prop := 0 ≤ timIdx w.timers.list t.timer ∧ ∃ x ∈ w.timers.list[(timIdx w.timers.list t.timer).toNat]?, x.armed = true ∧ x.what = 1 ∧ x.whom = i
def runs (g : Int) (t : Task) : Bool := decide (t.group = g ∧ t.state ≠ 2)
def running (l : List Task) (g : Int) : Int := ((l.filter (runs g)).length : Int)
def sortI (l : List Int) : List Int := l.mergeSort (fun a b => decide (a ≤ b))

/-- As the program says it. -/
def TaskTidyI (w : World) (i : Int) (t : Task) : Prop := ¬ ((t.why = 1 ∨ t.why = 2) ∧ ToldAt w t.what) ∧ (t.why = 2 → Sleeps w i t)
def RunningI (w : World) (i : Int) (g : Group) : Prop := running w.tasks i = g.active ∧ sortI g.waits = idxs (pPark 3 i) w.tasks ∧ (0 < g.active ∨ idxs (pPark 4 i) w.tasks = [])
def SpreadTidyI (w : World) (i : Int) : Prop := ToldAt w i → ¬ NoEv w.tree w.events i ∧ ∀ k ∈ Kids w.tree i, notCut w.tree k = false ∨ Heard w k
def TidyI (w : World) : Prop :=
  (∀ (i : Nat) (t : Task), w.tasks[i]? = some t → TaskTidyI w i t) ∧ (∀ (i : Nat) (g : Group), w.groups[i]? = some g → RunningI w i g) ∧
  ((∀ i : Nat, i < w.tree.length → SpreadTidyI w i) ∧ ∀ e ∈ w.events, Heard w e.node) ∧ ∀ a ∈ w.afters.list, a.queued = true ∨ ¬ ToldAt w a.node

/-- As the model says it. -/
def NodeTidyS (w : World) (i : Int) : Prop := ToldAt w i → (¬ NoEv w.tree w.events i ∧ idxs (pPark 1 i) w.tasks = [] ∧ idxs (pPark 2 i) w.tasks = []) ∧ ∀ k ∈ Below w.tree i, Heard w k
def AfterTidyS (w : World) (a : After) : Prop := ToldAt w a.node → a.queued = true
def TidyNodes (w : World) : Prop := (∀ i : Nat, i < w.tree.length → NodeTidyS w i) ∧ (∀ e ∈ w.events, Heard w e.node) ∧ ∀ a ∈ w.afters.list, AfterTidyS w a
def TaskTidyS (w : World) (i : Int) (t : Task) : Prop := (t.why = 2 → Sleeps w i t) ∧ (t.why = 3 → ∃ g ∈ w.groups[t.what.toNat]?, i ∈ g.waits) ∧ (t.why = 4 → ∃ g ∈ w.groups[t.what.toNat]?, g.active ≠ 0)
def TidyTasks (w : World) : Prop := ∀ (i : Nat) (t : Task), w.tasks[i]? = some t → TaskTidyS w i t
def WaitsS (w : World) (i : Int) (x : Int) : Prop := ∃ t ∈ w.tasks[x.toNat]?, t.why = 3 ∧ t.what = i
def GroupTidyS (w : World) (i : Int) (g : Group) : Prop := running w.tasks i = g.active ∧ ∀ x ∈ g.waits, WaitsS w i x
def TidyGroups (w : World) : Prop := ∀ (i : Nat) (g : Group), w.groups[i]? = some g → GroupTidyS w i g
def TidyS (w : World) : Prop := TidyNodes w ∧ TidyTasks w ∧ TidyGroups w

theorem idxFrom_lt {α : Type} (p : α → Bool) : ∀ (l : List α) (i : Int), (idxFrom p l i).Pairwise (· < ·)
  | [], _ => .nil
  | x :: r, i => by
    have ih := idxFrom_lt p r (i + 1)
    simp only [idxFrom]
    split
    · exact .cons (fun n hn => by have := idxFrom_ge hn; omega) ih
    · exact ih

theorem same_of_lt : ∀ {l m : List Int}, l.Pairwise (· < ·) → m.Pairwise (· < ·) → (∀ x, x ∈ l ↔ x ∈ m) → l = m
  | [], [], _, _, _ => rfl
  | [], y :: m, _, _, h => absurd ((h y).2 (.head _)) (by simp)
  | x :: l, [], _, _, h => absurd ((h x).1 (.head _)) (by simp)
  | x :: l, y :: m, hl, hm, h => by
    cases hl with
    | cons h1 hl =>
      cases hm with
      | cons h2 hm =>
        have e : x = y := by
          rcases List.mem_cons.1 ((h x).1 (.head _)) with e | e
          · exact e
          · rcases List.mem_cons.1 ((h y).2 (.head _)) with e' | e'
            · exact e'.symm
            · have a := h1 _ e'
              have b := h2 _ e
              omega
        subst e
        refine congrArg _ (same_of_lt hl hm fun z => ⟨fun hz => ?_, fun hz => ?_⟩)
        · rcases List.mem_cons.1 ((h z).1 (.tail _ hz)) with e | e
          · have := h1 z hz; omega
          · exact e
        · rcases List.mem_cons.1 ((h z).2 (.tail _ hz)) with e | e
          · have := h2 z hz; omega
          · exact e

theorem sortI_perm (l : List Int) : (sortI l).Perm l := List.mergeSort_perm l _
theorem sortI_lt {l : List Int} (h : l.Nodup) : (sortI l).Pairwise (· < ·) := by
  have h1 : (sortI l).Pairwise (fun a b => decide (a ≤ b) = true) := List.pairwise_mergeSort (le := fun a b : Int => decide (a ≤ b)) (fun a b c x y => by simp only [decide_eq_true_eq] at x y ⊢; omega) (fun a b => by simp only [Bool.or_eq_true, decide_eq_true_eq]; omega) l
  have h2 : (sortI l).Nodup := (sortI_perm l).nodup_iff.2 h
  exact (h1.and h2).imp fun {a b} x => by have := x.1; have := x.2; simp only [decide_eq_true_eq] at *; omega
theorem sortI_idxs {l : List Int} {α : Type} {p : α → Bool} {m : List α} (h : l.Nodup) : sortI l = idxs p m ↔ ∀ x, x ∈ l ↔ x ∈ idxs p m := by
  constructor
  · intro e x
    rw [← e]; exact ((sortI_perm l).mem_iff).symm
  · intro e
    exact same_of_lt (sortI_lt h) (idxFrom_lt p m 0) fun x => ((sortI_perm l).mem_iff).trans (e x)

theorem taskOk_why {t : Task} (h : TaskOk t) : (t.state = 1 ↔ t.why ≠ 0) := by
  rcases h.2.2.2.2.2 with h | h <;> grind
theorem idxs_nil {α : Type} {p : α → Bool} {l : List α} : idxs p l = [] ↔ ∀ (i : Nat) (x : α), l[i]? = some x → p x = false := by
  constructor
  · intro h i x hx
    cases hp : p x with
    | false => rfl
    | true =>
      have : (i : Int) ∈ idxs p l := idxs_mem.2 ⟨Int.natCast_nonneg i, x, by simpa using hx, hp⟩
      rw [h] at this; cases this
  · intro h
    refine List.eq_nil_iff_forall_not_mem.2 fun n hn => ?_
    obtain ⟨_, x, hx, hp⟩ := idxs_mem.1 hn
    rw [h _ x hx] at hp; cases hp
theorem park_is {t : Task} (h : TaskOk t) {y q : Int} (hy : y ≠ 0) : pPark y q t = true ↔ t.why = y ∧ t.what = q := by
  unfold pPark
  simp only [decide_eq_true_eq]
  constructor
  · exact fun e => e.2
  · intro e
    exact ⟨(taskOk_why h).2 (by rw [e.1]; exact hy), e⟩

theorem tidy_same {w : World} (hok : WorldOk w) : TidyI w ↔ TidyS w := by
  obtain ⟨_, _, _, hsp, _, htim, haft, ⟨htk, htf⟩, ⟨_, hgf⟩, _⟩ := hok
  have tk : ∀ {i : Nat} {t : Task}, w.tasks[i]? = some t → TaskOk t ∧ TaskFits w.progs w.tree w.groups t := fun h => ⟨htk.2 _ (mem_at h), htf _ (mem_at h)⟩
  have hnil : ∀ {y : Int} (q : Int), y ≠ 0 → (idxs (pPark y q) w.tasks = [] ↔ ∀ (i : Nat) (t : Task), w.tasks[i]? = some t → ¬ (t.why = y ∧ t.what = q)) := fun q hy => by
    rw [idxs_nil]
    refine forall_congr' fun i => forall_congr' fun t => forall_congr' fun ht => ?_
    rw [← park_is (tk ht).1 hy]
    simp
  have hbelow : ∀ i k : Int, k ∈ Below w.tree i ↔ k ∈ Kids w.tree i ∧ notCut w.tree k = true := fun i k => List.mem_filter
  constructor
  · rintro ⟨h1, h2, ⟨h3, h4⟩, h5⟩
    refine ⟨⟨fun i hi ht => ?_, h4, fun a ha ht => ?_⟩, fun i t ht => ⟨fun e => (h1 i t ht).2 e, fun e => ?_, fun e => ?_⟩, fun i g hg => ⟨(h2 i g hg).1, fun x hx => ?_⟩⟩
    · obtain ⟨g1, g2⟩ := h3 i hi ht
      refine ⟨⟨g1, (hnil i (by decide)).2 fun j t hj e => ?_, (hnil i (by decide)).2 fun j t hj e => ?_⟩, fun k hk => ?_⟩
      · exact (h1 j t hj).1 ⟨.inl e.1, by rw [e.2]; exact ht⟩
      · exact (h1 j t hj).1 ⟨.inr e.1, by rw [e.2]; exact ht⟩
      · obtain ⟨k1, k2⟩ := (hbelow _ _).1 hk
        rcases g2 k k1 with e | e
        · rw [k2] at e; cases e
        · exact e
    · rcases h5 a ha with e | e
      · exact e
      · exact absurd ht e
    · have hw := (tk ht).2.2.2.2.2 (.inl e)
      obtain ⟨g, hg⟩ := get_of_lt hw.2
      refine ⟨g, hg, ?_⟩
      have hgk := hgf _ (mem_at hg)
      have := (h2 _ g hg).2.1
      rw [show ((t.what.toNat : Nat) : Int) = t.what by omega] at this
      refine ((sortI_idxs hgk.1.2.2.2.2.2.2.1).1 this i).2 (idxs_mem.2 ⟨Int.natCast_nonneg i, t, by simpa using ht, (park_is (tk ht).1 (by decide)).2 ⟨e, rfl⟩⟩)
    · have hw := (tk ht).2.2.2.2.2 (.inr e)
      obtain ⟨g, hg⟩ := get_of_lt hw.2
      refine ⟨g, hg, ?_⟩
      rcases (h2 _ g hg).2.2 with h | h
      · omega
      · rw [show ((t.what.toNat : Nat) : Int) = t.what by omega] at h
        exact absurd ⟨e, rfl⟩ ((hnil t.what (by decide)).1 h i t ht)
    · have hgk := hgf _ (mem_at hg)
      obtain ⟨_, t, ht, hp⟩ := idxs_mem.1 (((sortI_idxs hgk.1.2.2.2.2.2.2.1).1 (h2 i g hg).2.1 x).1 hx)
      have := (park_is (tk ht).1 (by decide)).1 hp
      exact ⟨t, ht, this⟩
  · rintro ⟨⟨h1, h2, h3⟩, h4, h5⟩
    refine ⟨fun i t ht => ⟨fun e => ?_, (h4 i t ht).1⟩, fun i g hg => ⟨(h5 i g hg).1, ?_, ?_⟩, ⟨fun i hi ht => ?_, h2⟩, fun a ha => ?_⟩
    · have hw := (tk ht).2.2.2.2.1 e.1
      have e2 : ((t.what.toNat : Nat) : Int) = t.what := by omega
      obtain ⟨⟨_, g1, g2⟩, _⟩ := h1 t.what.toNat hw.2 (by rw [e2]; exact e.2)
      rw [e2] at g1 g2
      rcases e.1 with h | h
      · exact (hnil _ (by decide)).1 g1 i t ht ⟨h, rfl⟩
      · exact (hnil _ (by decide)).1 g2 i t ht ⟨h, rfl⟩
    · have hgk := hgf _ (mem_at hg)
      refine (sortI_idxs hgk.1.2.2.2.2.2.2.1).2 fun x => ⟨fun hx => ?_, fun hx => ?_⟩
      · obtain ⟨t, ht, hw⟩ := (h5 i g hg).2 x hx
        have h0 := (hgk.2.2.2 x hx).1
        exact idxs_mem.2 ⟨h0, t, ht, (park_is (tk ht).1 (by decide)).2 hw⟩
      · obtain ⟨h0, t, ht, hp⟩ := idxs_mem.1 hx
        have hw := (park_is (tk ht).1 (by decide)).1 hp
        obtain ⟨g', hg', hm⟩ := (h4 _ t ht).2.1 hw.1
        rw [hw.2] at hg'
        have : g' = g := by
          have e := hg
          simp only [Int.toNat_natCast] at hg'
          exact Option.some.inj ((hg'.symm.trans e))
        rw [this, show ((x.toNat : Nat) : Int) = x by omega] at hm
        exact hm
    · by_cases ha : 0 < g.active
      · exact .inl ha
      · refine .inr ((hnil _ (by decide)).2 fun j t hj e => ?_)
        obtain ⟨g', hg', hm⟩ := (h4 _ t hj).2.2 e.1
        rw [e.2] at hg'
        have : g' = g := by
          simp only [Int.toNat_natCast] at hg'
          exact Option.some.inj (hg'.symm.trans hg)
        rw [this] at hm
        have := (hgf _ (mem_at hg)).1.2.2.1
        omega
    · obtain ⟨⟨g1, _, _⟩, g2⟩ := h1 i hi ht
      refine ⟨g1, fun k hk => ?_⟩
      cases hc : notCut w.tree k with
      | false => exact .inl rfl
      | true => exact .inr (g2 k ((hbelow _ _).2 ⟨hk, hc⟩))
    · by_cases ht : ToldAt w a.node
      · exact .inl (h3 a ha ht)
      · exact .inr ht

end Go.Proofs.YtaibcmhhccanoaaGreat.AM
