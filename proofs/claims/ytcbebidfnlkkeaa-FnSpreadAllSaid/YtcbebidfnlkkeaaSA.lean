/- Who is told at the end: plain law. (printed by gsa.py) -/
import Derived.Test.YtcbebidfnlkkeaaSPA
namespace Go.Proofs.Ytcbebidfnlkkeaa.AM
open Go Go.Proofs

set_option linter.unusedVariables false
set_option linter.unusedSimpArgs false

/-- The chain of a node, up to a root or a cut. -/
def chain (t : List Node) : Nat → Int → List Int
  | 0, _ => []
  | f + 1, m => match t[m.toNat]? with
    | some x => if x.kind = 0 ∨ x.kind = 4 then [m] else m :: chain t f x.up
    | none => []

theorem up_less {t : List Node} (h : TreeOk t) {m : Int} {x : Node} (h0 : 0 ≤ m) (hx : t[m.toNat]? = some x) (hk : x.kind ≠ 0) : 0 ≤ x.up ∧ x.up < m := by
  have h1 := (h.get hx).2.2.1
  rcases h1 with h1 | h1
  · exact absurd h1.1 hk
  · omega

theorem chain_fuel {t : List Node} (h : TreeOk t) : ∀ (f : Nat) (m : Int), 0 ≤ m → m.toNat < f → chain t f m = chain t (m.toNat + 1) m
  | 0, m, h0, hf => by omega
  | f + 1, m, h0, hf => by
    simp only [chain]
    cases hx : t[m.toNat]? with
    | none => rfl
    | some x =>
      dsimp only
      split
      · rfl
      · rename_i hk
        have hu := up_less h h0 hx (fun e => hk (.inl e))
        rw [chain_fuel h f x.up hu.1 (by omega), ← chain_fuel h m.toNat x.up hu.1 (by omega)]
termination_by f => f
decreasing_by all_goals omega

theorem chain_one {t : List Node} (h : TreeOk t) {m : Int} {x : Node} (h0 : 0 ≤ m) (hx : t[m.toNat]? = some x) :
    chain t (m.toNat + 1) m = if x.kind = 0 ∨ x.kind = 4 then [m] else m :: chain t (x.up.toNat + 1) x.up := by
  have e : chain t (m.toNat + 1) m = if x.kind = 0 ∨ x.kind = 4 then [m] else m :: chain t m.toNat x.up := by
    conv => lhs; unfold chain
    rw [hx]
  rw [e]
  split
  · rfl
  · rename_i hk
    have hu := up_less h h0 hx (fun e => hk (.inl e))
    rw [chain_fuel h m.toNat x.up hu.1 (by omega)]

def On (t : List Node) (n m : Int) : Prop := n ∈ chain t (m.toNat + 1) m

theorem on_iff {t : List Node} (h : TreeOk t) {n m : Int} {x : Node} (h0 : 0 ≤ m) (hx : t[m.toNat]? = some x) : On t n m ↔ n = m ∨ (¬ (x.kind = 0 ∨ x.kind = 4) ∧ On t n x.up) := by
  unfold On
  rw [chain_one h h0 hx]
  split
  · rename_i hk
    simp [hk]
  · rename_i hk
    simp [hk]

theorem below_mem {t : List Node} {k i : Int} : i ∈ Below t k ↔ 0 ≤ i ∧ ∃ x, t[i.toNat]? = some x ∧ x.up = k ∧ x.kind ≠ 4 := by
  unfold Below Kids
  rw [List.mem_filter, idxs_mem]
  constructor
  · rintro ⟨⟨h0, x, hx, hu⟩, hc⟩
    refine ⟨h0, x, hx, of_decide_eq_true hu, ?_⟩
    unfold notCut at hc
    rw [hx] at hc
    simpa using hc
  · rintro ⟨h0, x, hx, hu, hc⟩
    refine ⟨⟨h0, x, hx, decide_eq_true hu⟩, ?_⟩
    unfold notCut
    rw [hx]
    simpa using hc

structure InvA (t : List Node) (n : Int) (s : Spread) : Prop where
  ok : SpreadOk t s
  few : phi t s ≤ 100
  on : ∀ k : Int, 0 ≤ k → s.told[k.toNat]? = some true ∨ k ∈ s.work → On t n k
  first : n ∈ s.work ∨ s.told[n.toNat]? = some true
  shut : ∀ k : Int, 0 ≤ k → s.told[k.toNat]? = some true → ∀ i ∈ Below t k, s.told[i.toNat]? = some true ∨ i ∈ s.work

theorem invA_step {t : List Node} {n : Int} {s : Spread} (h : InvA t n s) (hw : s.work ≠ []) : (Step t s).2.2 = true ∧ InvA t n (Step t s).1 := by
  have hok := h.ok
  have hfew := h.few
  obtain ⟨ht, h1, h2, h3⟩ := h.ok
  obtain ⟨m, w, hmw⟩ : ∃ m w, s.work = m :: w := by
    cases hs : s.work with
    | nil => exact absurd hs hw
    | cons m w => exact ⟨m, w, rfl⟩
  obtain ⟨hm0, hmt⟩ := h3 m (by rw [hmw]; simp)
  have hmOn : On t n m := h.on m hm0 (.inr (by rw [hmw]; simp))
  have hso := step_ok hok
  by_cases htold : s.told[m.toNat]? = some true
  · have e : Step t s = (⟨s.told, w⟩, -1, true) := by unfold Step; rw [hmw]; dsimp only; rw [if_pos htold]
    have hph := phi_step hok (by rw [e])
    rw [e] at hso hph ⊢
    refine ⟨rfl, hso, by omega, fun k hk hc => h.on k hk ?_, ?_, fun k hk hc i hi => ?_⟩
    · rcases hc with hc | hc
      · exact .inl hc
      · exact .inr (by rw [hmw]; exact List.mem_cons_of_mem _ hc)
    · rcases h.first with hc | hc
      · rw [hmw] at hc
        rcases List.mem_cons.1 hc with rfl | hc
        · exact .inr htold
        · exact .inl hc
      · exact .inr hc
    · rcases h.shut k hk hc i hi with q | q
      · exact .inl q
      · rw [hmw] at q
        rcases List.mem_cons.1 q with rfl | q
        · exact .inl htold
        · exact .inr q
  · obtain ⟨b, hb⟩ : ∃ b, s.told[m.toNat]? = some b := get_of_lt (by omega)
    have hbf : b = false := by cases b <;> simp_all
    subst hbf
    have hl := load_set t s.told 0 m.toNat hb
    rw [show (0 : Int) + (m.toNat : Int) = m by omega] at hl
    have hle : ¬ w.length + (Below t m).length > 240 := by
      have : phi t s = s.work.length + loadFrom t s.told 0 := rfl
      rw [hmw] at this
      simp only [List.length_cons] at this
      omega
    have e : Step t s = (⟨s.told.set m.toNat true, w ++ Below t m⟩, m, true) := by unfold Step; rw [hmw]; dsimp only; rw [if_neg htold, if_neg hle]
    have hph := phi_step hok (by rw [e])
    rw [e] at hso hph ⊢
    have hset : ∀ k : Int, 0 ≤ k → s.told[k.toNat]? = some true → (s.told.set m.toNat true)[k.toNat]? = some true := fun k hk hc => by
      rw [List.getElem?_set]
      split
      · rw [if_pos (by omega)]
      · exact hc
    refine ⟨rfl, hso, by omega, fun k hk hc => ?_, ?_, fun k hk hc i hi => ?_⟩
    · by_cases hkm : k = m
      · rw [hkm]; exact hmOn
      · rcases hc with hc | hc
        · dsimp only at hc
          rw [List.getElem?_set_ne (by omega)] at hc
          exact h.on k hk (.inl hc)
        · rcases List.mem_append.1 hc with hc | hc
          · exact h.on k hk (.inr (by rw [hmw]; exact List.mem_cons_of_mem _ hc))
          · obtain ⟨_, x, hx, hu, hkc⟩ := below_mem.1 hc
            refine (on_iff ht hk hx).2 (.inr ⟨fun q => ?_, by rw [hu]; exact hmOn⟩)
            rcases q with q | q
            · have := (ht.get hx).2.2.1
              rcases this with this | this
              · omega
              · exact this.1 q
            · exact hkc q
    · rcases h.first with hc | hc
      · rw [hmw] at hc
        rcases List.mem_cons.1 hc with rfl | hc
        · exact .inr (by dsimp only; rw [List.getElem?_set_self (by omega)])
        · exact .inl (List.mem_append_left _ hc)
      · by_cases hn0 : 0 ≤ n
        · exact .inr (hset n hn0 hc)
        · refine .inr ?_
          dsimp only
          rw [List.getElem?_set]
          split
          · rw [if_pos (by omega)]
          · exact hc
    · by_cases hkm : k = m
      · subst hkm
        exact .inr (List.mem_append_right _ hi)
      · dsimp only at hc
        rw [List.getElem?_set_ne (by omega)] at hc
        rcases h.shut k hk hc i hi with q | q
        · exact .inl (hset i (below_mem.1 hi).1 q)
        · rw [hmw] at q
          rcases List.mem_cons.1 q with rfl | q
          · exact .inl (by dsimp only; rw [List.getElem?_set_self (by omega)])
          · exact .inr (List.mem_append_left _ q)

theorem invA_last {t : List Node} {n : Int} : ∀ (f : Nat) (s : Spread), weigh s ≤ f → InvA t n s → InvA t n (last t s) ∧ (last t s).work = []
  | f, s, hf, h => by
    by_cases hw : s.work = []
    · have hg : (Step t s).2.2 = false := by unfold Step; rw [hw]
      rw [last_stay hg]
      exact ⟨h, hw⟩
    · obtain ⟨hg, hn⟩ := invA_step h hw
      rw [← last_step h.ok hg]
      have hl := step_less h.ok hg
      exact invA_last (f - 1) _ (by omega) hn
termination_by f => f
decreasing_by
  have := step_less h.ok (invA_step h hw).1
  omega

theorem told_on {t : List Node} {n : Int} {s : Spread} (h : InvA t n s) (hw : s.work = []) : ∀ (f : Nat) (m : Int), m.toNat ≤ f → 0 ≤ m → m.toNat < t.length → On t n m → s.told[m.toNat]? = some true
  | f, m, hf, h0, hm, ho => by
    obtain ⟨x, hx⟩ := get_of_lt hm
    rcases (on_iff h.ok.1 h0 hx).1 ho with e | ⟨hk, hu⟩
    · rcases h.first with q | q
      · rw [hw] at q; cases q
      · rw [← e]; exact q
    · have hlt := up_less h.ok.1 h0 hx (fun e => hk (.inl e))
      have hf0 : f ≠ 0 := by omega
      have ih := told_on h hw (f - 1) x.up (by omega) hlt.1 (by omega) hu
      rcases h.shut x.up hlt.1 ih m (below_mem.2 ⟨h0, x, hx, rfl, fun e => hk (.inr e)⟩) with q | q
      · exact q
      · rw [hw] at q; cases q
termination_by f => f
decreasing_by all_goals omega

/-- From one node, exactly those whose chain contains it are told. -/
theorem all_law {t : List Node} (ht : TreeOk t) {n : Int} (h0 : 0 ≤ n) (hn : n.toNat < t.length) :
    Begun t ⟨List.replicate t.length false, []⟩ n = (⟨List.replicate t.length false, [n]⟩, true) ∧
    (SpreadAll t ⟨List.replicate t.length false, [n]⟩).told.length = t.length ∧ (SpreadAll t ⟨List.replicate t.length false, [n]⟩).work = [] ∧
    ∀ m : Int, 0 ≤ m → m.toNat < t.length → ∃ b, (SpreadAll t ⟨List.replicate t.length false, [n]⟩).told[m.toNat]? = some b ∧ (b = true ↔ On t n m) := by
  have hok0 : SpreadOk t ⟨List.replicate t.length false, []⟩ := ⟨ht, by simp, Nat.zero_le _, by simp⟩
  have hok : SpreadOk t ⟨List.replicate t.length false, [n]⟩ := ⟨ht, by simp, by simp, fun m hm => by rw [List.mem_singleton.1 hm]; exact ⟨h0, hn⟩⟩
  have hno : ∀ k : Nat, (List.replicate t.length false)[k]? ≠ some true := fun k e => by
    have := List.eq_of_mem_replicate (List.mem_of_getElem? e)
    cases this
  have hinv : InvA t n ⟨List.replicate t.length false, [n]⟩ := by
    refine ⟨hok, ?_, fun k hk hc => ?_, .inl (by simp), fun k hk hc => absurd hc (hno _)⟩
    · have h1 := load_le t (List.replicate t.length false) 0
      have h2 := List.countP_le_length (p := fun x : Node => decide ((0 : Int) ≤ x.up)) (l := t)
      have h3 := ht.1
      unfold phi
      simp only [List.length_cons, List.length_nil]
      omega
    · rcases hc with hc | hc
      · exact absurd hc (hno _)
      · rw [List.mem_singleton.1 hc]
        obtain ⟨x, hx⟩ := get_of_lt hn
        exact (on_iff ht h0 hx).2 (.inl rfl)
  have e : SpreadAll t ⟨List.replicate t.length false, [n]⟩ = last t ⟨List.replicate t.length false, [n]⟩ := if_pos hok
  obtain ⟨hl, hw⟩ := invA_last (weigh ⟨List.replicate t.length false, [n]⟩) _ (Nat.le_refl _) hinv
  refine ⟨?_, by rw [e]; exact hl.ok.2.1, by rw [e]; exact hw, fun m hm0 hm => ?_⟩
  · unfold Begun
    rw [if_pos hok0]
    unfold Begin
    rw [if_pos ⟨⟨h0, by simpa using hn⟩, by simp⟩]
    rfl
  · rw [e]
    obtain ⟨b, hb⟩ : ∃ b, (last t ⟨List.replicate t.length false, [n]⟩).told[m.toNat]? = some b := get_of_lt (by rw [hl.ok.2.1]; exact hm)
    refine ⟨b, hb, fun q => hl.on m hm0 (.inl (by rw [hb, q])), fun q => ?_⟩
    have := told_on hl hw m.toNat m (Nat.le_refl _) hm0 hm q
    rw [hb] at this
    exact Option.some.inj this

theorem begun_not {t : List Node} {n : Int} (h : ¬ (TreeOk t ∧ 0 ≤ n ∧ n.toNat < t.length)) : (Begun t ⟨List.replicate t.length false, []⟩ n).2 = false := by
  unfold Begun
  split
  · rename_i hok
    unfold Begin
    rw [if_neg (fun hc => h ⟨hok.1, hc.1.1, by simpa using hc.1.2⟩)]
  · rfl

end Go.Proofs.Ytcbebidfnlkkeaa.AM
