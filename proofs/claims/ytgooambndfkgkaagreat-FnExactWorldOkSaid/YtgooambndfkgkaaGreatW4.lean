/- Chains, first events: plain. -/
import Derived.Test.YtgooambndfkgkaaGreatT1
namespace Go.Proofs.YtgooambndfkgkaaGreat.AM
open Go Go.Proofs

set_option linter.unusedVariables false
set_option linter.unusedSimpArgs false

/-- The chain of a node, up to a root or a cut. -/
def chain (t : List Node) : Nat → Int → List Int
  | 0, _ => []
  | f + 1, m => match t[m.toNat]? with
    | some x => if x.kind = 0 ∨ x.kind = 4 then [m] else m :: chain t f x.up
    | none => []

theorem up_less {t : List Node} (h : TreeOk t) {m : Int} {x : Node} (h0 : 0 ≤ m) (hx : t[m.toNat]? = some x) (hk : x.kind ≠ 0) : 0 ≤ x.up ∧ x.up < m := by
  have h1 := (h.get hx).2.2.1
  rcases h1 with h1 | h1
  · exact absurd h1.1 hk
  · omega

theorem chain_fuel {t : List Node} (h : TreeOk t) : ∀ (f : Nat) (m : Int), 0 ≤ m → m.toNat < f → chain t f m = chain t (m.toNat + 1) m
  | 0, m, h0, hf => by omega
  | f + 1, m, h0, hf => by
    simp only [chain]
    cases hx : t[m.toNat]? with
    | none => rfl
    | some x =>
      dsimp only
      split
      · rfl
      · rename_i hk
        have hu := up_less h h0 hx (fun e => hk (.inl e))
        rw [chain_fuel h f x.up hu.1 (by omega), ← chain_fuel h m.toNat x.up hu.1 (by omega)]
termination_by f => f
decreasing_by all_goals omega

theorem chain_one {t : List Node} (h : TreeOk t) {m : Int} {x : Node} (h0 : 0 ≤ m) (hx : t[m.toNat]? = some x) :
    chain t (m.toNat + 1) m = if x.kind = 0 ∨ x.kind = 4 then [m] else m :: chain t (x.up.toNat + 1) x.up := by
  have e : chain t (m.toNat + 1) m = if x.kind = 0 ∨ x.kind = 4 then [m] else m :: chain t m.toNat x.up := by
    conv => lhs; unfold chain
    rw [hx]
  rw [e]
  split
  · rfl
  · rename_i hk
    have hu := up_less h h0 hx (fun e => hk (.inl e))
    rw [chain_fuel h m.toNat x.up hu.1 (by omega)]

/-- Chains look at older nodes alone. -/
theorem chain_grow {t u : List Node} : ∀ (f : Nat) (m : Int), 0 ≤ m → m.toNat < t.length → TreeOk t → m.toNat < f → chain (t ++ u) f m = chain t f m
  | 0, m, h0, hm, ht, hf => by omega
  | f + 1, m, h0, hm, ht, hf => by
    simp only [chain]
    rw [List.getElem?_append_left hm]
    cases hx : t[m.toNat]? with
    | none => rfl
    | some x =>
      dsimp only
      split
      · rfl
      · rename_i hk
        have hu := up_less ht h0 hx (fun e => hk (.inl e))
        rw [chain_grow f x.up hu.1 (by omega) ht (by omega)]

def chainL (t : List Node) (m : Int) : List Int := chain t (m.toNat + 1) m

theorem chain_len {t : List Node} : ∀ (f : Nat) (m : Int), (chain t f m).length ≤ f
  | 0, _ => Nat.le_refl _
  | f + 1, m => by
    simp only [chain]
    split
    · split
      · simp
      · rename_i x _ _
        have := chain_len (t := t) f x.up
        simp; omega
    · simp

/-- No event of a node. -/
def NoEv (t : List Node) (l : List Event) (n : Int) : Prop := ∀ e ∈ l, e.node ∉ chainL t n
instance (t : List Node) (l : List Event) (n : Int) : Decidable (NoEv t l n) := by unfold NoEv; infer_instance

def firstIdx (t : List Node) (l : List Event) (n : Int) : Int := match l.findIdx? (fun e => decide (e.node ∈ chainL t n)) with
  | some k => (k : Int)
  | none => -1

theorem firstIdx_known {t : List Node} {l : List Event} {n r : Int} (h : 0 ≤ r ∧ (∃ x, l[r.toNat]? = some x ∧ x.node ∈ chainL t n) ∧ Upto (fun _ x => ¬ x.node ∈ chainL t n) l r ∨ r = -1 ∧ ∀ x ∈ l, ¬ x.node ∈ chainL t n) : r = firstIdx t l n := by
  rcases h with ⟨h0, ⟨x, hx, hq⟩, hu⟩ | ⟨rfl, h⟩
  · have : l.findIdx? (fun e => decide (e.node ∈ chainL t n)) = some r.toNat := by
      obtain ⟨hl, hg⟩ := List.getElem?_eq_some_iff.1 hx
      refine List.findIdx?_eq_some_iff_getElem.2 ⟨hl, by simp [hg, hq], fun j hj => ?_⟩
      have := hu j l[j] (by omega) (List.getElem?_eq_getElem (by omega))
      simpa using this
    unfold firstIdx; rw [this]; dsimp only; omega
  · have : l.findIdx? (fun e => decide (e.node ∈ chainL t n)) = none := List.findIdx?_eq_none_iff.2 fun x hx => decide_eq_false (h x hx)
    unfold firstIdx; rw [this]

theorem firstIdx_neg {t : List Node} {l : List Event} {n : Int} : firstIdx t l n < 0 ↔ NoEv t l n := by
  unfold firstIdx
  split
  · rename_i k hk
    obtain ⟨hl, h1, _⟩ := List.findIdx?_eq_some_iff_getElem.1 hk
    exact ⟨fun h => by omega, fun h => absurd (of_decide_eq_true h1) (h _ (List.getElem_mem hl))⟩
  · rename_i hk
    exact ⟨fun _ e he => of_decide_eq_false (List.findIdx?_eq_none_iff.1 hk e he), fun _ => by decide⟩

theorem firstIdx_some {t : List Node} {l : List Event} {n : Int} (h : 0 ≤ firstIdx t l n) : ∃ e, l[(firstIdx t l n).toNat]? = some e ∧ e.node ∈ chainL t n := by
  unfold firstIdx at h ⊢
  split at h
  · rename_i k hk
    obtain ⟨hl, h1, _⟩ := List.findIdx?_eq_some_iff_getElem.1 hk
    exact ⟨l[k], List.getElem?_eq_getElem hl, of_decide_eq_true h1⟩
  · exact absurd h (by decide)

/-- What of an event hangs on its node. -/
def EventAt (x : Node) (e : Event) : Prop := (e.err = 1 ∧ (x.kind = 1 ∨ x.kind = 2) ∧ 0 ≤ e.cause ∧ e.cause ≤ 999) ∨ (e.err = 2 ∧ x.kind = 2 ∧ (x.due ≤ e.time ∧ x.due ≠ 9223372036854775807) ∧ e.cause = 0)
instance (x : Node) (e : Event) : Decidable (EventAt x e) := by unfold EventAt; infer_instance
def EventIs (t : List Node) (e : Event) : Prop := 0 ≤ e.node ∧ ∃ x ∈ t[e.node.toNat]?, EventAt x e
instance (t : List Node) (e : Event) : Decidable (EventIs t e) := by
  unfold EventIs
  cases h : t[e.node.toNat]? with
  | none => exact isFalse fun ⟨_, x, hx, _⟩ => by cases hx
  | some x => exact decidable_of_iff (0 ≤ e.node ∧ EventAt x e) ⟨fun h => ⟨h.1, x, rfl, h.2⟩, fun ⟨h1, y, hy, h2⟩ => ⟨h1, by cases hy; exact h2⟩⟩
theorem EventIs.lt {t : List Node} {e : Event} (h : EventIs t e) : 0 ≤ e.node ∧ e.node.toNat < t.length := by
  obtain ⟨h0, x, hx, _⟩ := h
  exact ⟨h0, lt_of_get hx⟩
theorem EventIs.at {t : List Node} {e : Event} {x : Node} (hx : t[e.node.toNat]? = some x) (h0 : 0 ≤ e.node) : EventIs t e ↔ EventAt x e :=
  ⟨fun ⟨_, y, hy, h⟩ => by rw [hx] at hy; cases hy; exact h, fun h => ⟨h0, x, hx, h⟩⟩

def lastTime (l : List Event) (n : Int) : Prop := ∀ y ∈ l.getLast?, y.time ≤ n
instance (l : List Event) (n : Int) : Decidable (lastTime l n) := by
  unfold lastTime
  cases l.getLast? with
  | none => exact isTrue fun y hy => by cases hy
  | some y => exact decidable_of_iff (y.time ≤ n) ⟨fun h z hz => by cases hz; exact h, fun h => h y rfl⟩

/-- An event may stand behind others. -/
def EvFits (t : List Node) (l : List Event) (e : Event) : Prop := EventIs t e ∧ lastTime l e.time ∧ NoEv t l e.node
instance (t : List Node) (l : List Event) (e : Event) : Decidable (EvFits t l e) := by unfold EvFits; infer_instance
def EventsOk (t : List Node) (l : List Event) : Prop := TreeOk t ∧ ∀ p ∈ l.zipIdx, EvFits t (l.take p.2) p.1
instance (t : List Node) (l : List Event) : Decidable (EventsOk t l) := by unfold EventsOk; infer_instance
theorem EventsOk.get {t : List Node} {l : List Event} (h : EventsOk t l) {j : Nat} {x : Event} (hx : l[j]? = some x) : EvFits t (l.take j) x := h.2 (x, j) (List.mem_zipIdx_iff_getElem?.2 hx)
theorem EventsOk.of {t : List Node} {l : List Event} (h1 : TreeOk t) (h2 : ∀ (j : Nat) (x : Event), l[j]? = some x → EvFits t (l.take j) x) : EventsOk t l := ⟨h1, fun p hp => h2 p.2 p.1 (List.mem_zipIdx_iff_getElem?.1 hp)⟩

theorem lastTime_take {l : List Event} {i : Nat} {y : Event} (hy : l[i]? = some y) {n : Int} : lastTime (l.take (i + 1)) n ↔ y.time ≤ n := by
  rw [take_next hy]
  unfold lastTime
  simp

/-- The times of events rise. -/
theorem times_rise {t : List Node} {l : List Event} (h : EventsOk t l) {i : Nat} : ∀ {j : Nat} {x y : Event}, i ≤ j → l[i]? = some x → l[j]? = some y → x.time ≤ y.time
  | 0, x, y, hij, hx, hy => by
    obtain rfl : i = 0 := by omega
    rw [hx] at hy; cases hy; exact Int.le_refl _
  | j + 1, x, y, hij, hx, hy => by
    by_cases e : i = j + 1
    · subst e; rw [hx] at hy; cases hy; exact Int.le_refl _
    · obtain ⟨z, hz⟩ : ∃ z, l[j]? = some z := get_of_lt (by have := lt_of_get hy; omega)
      have h1 := times_rise h (j := j) (by omega) hx hz
      have h2 := (lastTime_take (n := y.time) hz).1 (h.get hy).2.1
      omega

theorem times_in {t : List Node} {l : List Event} (h : EventsOk t l) {now : Int} {a b : Event} (ha : l[0]? = some a) (hb : l[l.length - 1]? = some b) : (0 ≤ a.time ∧ b.time ≤ now) ↔ ∀ e ∈ l, 0 ≤ e.time ∧ e.time ≤ now := by
  constructor
  · intro ⟨h1, h2⟩ e he
    obtain ⟨j, hj⟩ := List.getElem?_of_mem he
    have h3 := times_rise h (Nat.zero_le j) ha hj
    have h4 := times_rise h (i := j) (j := l.length - 1) (by have := lt_of_get hj; omega) hj hb
    omega
  · intro hh
    exact ⟨(hh a (mem_at ha)).1, (hh b (mem_at hb)).2⟩

end Go.Proofs.YtgooambndfkgkaaGreat.AM
