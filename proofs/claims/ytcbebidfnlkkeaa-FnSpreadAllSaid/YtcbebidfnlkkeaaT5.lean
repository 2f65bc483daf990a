/- Contracts: a spread run to its end. (printed by gt6.py) -/
import Derived.Test.YtcbebidfnlkkeaaT4
import Derived.Test.YtcbebidfnlkkeaaBC
namespace Go.Proofs.Ytcbebidfnlkkeaa.AM
open Go Go.Proofs

set_option maxRecDepth 100000
set_option maxHeartbeats 4000000
set_option linter.unusedVariables false
set_option linter.unusedSimpArgs false

variable {P : Program} {A : Sy}

theorem step_ok {t : List Node} {s : Spread} (h : SpreadOk t s) : SpreadOk t (Step t s).1 := by
  obtain ⟨ht, h1, h2, h3⟩ := h
  unfold Step
  split
  · exact ⟨ht, h1, h2, h3⟩
  · rename_i n w hw
    rw [hw] at h2 h3
    split
    · exact ⟨ht, h1, by simp at h2; dsimp only; omega, fun m hm => h3 m (List.mem_cons_of_mem _ hm)⟩
    · split
      · exact ⟨ht, h1, by rw [hw]; exact h2, by rw [hw]; exact h3⟩
      · rename_i hle
        refine ⟨ht, by simpa using h1, by simp only [List.length_append]; omega, fun m hm => ?_⟩
        dsimp only at hm
        rcases List.mem_append.1 hm with hm | hm
        · exact h3 m (List.mem_cons_of_mem _ hm)
        · exact kids_in (List.mem_filter.1 hm).1

/-- What remains to be told, weighed. -/
def weigh (s : Spread) : Nat := (s.told.filter fun b => !b).length * 100 + s.work.length

theorem filter_set {l : List Bool} {i : Nat} (h : l[i]? = some false) : ((l.set i true).filter fun b => !b).length + 1 = (l.filter fun b => !b).length := by
  induction l generalizing i with
  | nil => simp at h
  | cons b r ih =>
    cases i with
    | zero => simp at h; subst h; simp
    | succ i =>
      have := ih (i := i) (by simpa using h)
      cases b <;> simp [List.filter_cons] <;> omega

theorem step_less {t : List Node} {s : Spread} (h : SpreadOk t s) (hg : (Step t s).2.2 = true) : weigh (Step t s).1 < weigh s := by
  obtain ⟨ht, h1, h2, h3⟩ := h
  have ht60 := ht.1
  unfold Step at hg ⊢
  split at hg
  · cases hg
  · rename_i n w hw
    obtain ⟨hn0, hnt⟩ := h3 n (by rw [hw]; simp)
    obtain ⟨b, hb⟩ : ∃ b, s.told[n.toNat]? = some b := get_of_lt (by omega)
    split at hg
    · rename_i htold
      rw [if_pos htold]
      simp [weigh, hw]
    · rename_i htold
      split at hg
      · cases hg
      · rename_i hle
        rw [if_neg htold, if_neg hle]
        have hbf : b = false := by cases b <;> simp_all
        subst hbf
        have hf := filter_set hb
        have hk := below_len t n
        simp only [weigh, hw, List.length_append, List.length_cons]
        omega

theorem step_stay {t : List Node} {s : Spread} (hg : (Step t s).2.2 = false) : (Step t s).1 = s := by
  unfold Step at hg ⊢
  split at hg
  · rfl
  · rename_i n w hw
    split at hg
    · cases hg
    · rename_i htold
      rw [if_neg htold]
      split at hg
      · rename_i hle; rw [if_pos hle]
      · cases hg

def runs (t : List Node) : Nat → Spread → Spread
  | 0, s => s
  | n + 1, s => if (Step t s).2.2 = true then runs t n (Step t s).1 else s

theorem runs_enough (t : List Node) : ∀ (n m : Nat) (s : Spread), SpreadOk t s → weigh s ≤ n → weigh s ≤ m → runs t n s = runs t m s
  | 0, m, s, hok, hn, hm => by
    cases m with
    | zero => rfl
    | succ m =>
      have : ¬ (Step t s).2.2 = true := fun hg => by have := step_less hok hg; omega
      simp only [runs, if_neg this]
  | n + 1, m, s, hok, hn, hm => by
    cases m with
    | zero =>
      have : ¬ (Step t s).2.2 = true := fun hg => by have := step_less hok hg; omega
      simp only [runs, if_neg this]
    | succ m =>
      simp only [runs]
      split
      · rename_i hg
        have := step_less hok hg
        exact runs_enough t n m _ (step_ok hok) (by omega) (by omega)
      · rfl

/-- The end of the run. -/
def last (t : List Node) (s : Spread) : Spread := runs t (weigh s) s

theorem last_step {t : List Node} {s : Spread} (hok : SpreadOk t s) (hg : (Step t s).2.2 = true) : last t (Step t s).1 = last t s := by
  have h := step_less hok hg
  have h1 : last t s = runs t (weigh s + 1) s := runs_enough t _ _ s hok (Nat.le_refl _) (by omega)
  have h2 : runs t (weigh s + 1) s = runs t (weigh s) (Step t s).1 := by simp only [runs, if_pos hg]
  rw [h1, h2]
  exact runs_enough t _ _ _ (step_ok hok) (Nat.le_refl _) (by omega)

theorem last_stay {t : List Node} {s : Spread} (hg : (Step t s).2.2 = false) : last t s = s := by
  unfold last
  cases weigh s with
  | zero => rfl
  | succ n => simp only [runs, hg]; rfl

def SpreadAll (t : List Node) (s : Spread) : Spread := if SpreadOk t s then last t s else spread0

theorem implSpreadAll_c (S : Se P A) (t : List Node) (told : List Bool) (work : List Int) : Is1 P 59 [.ro (A.enc cNode t), .agg (roSpread A ⟨told, work⟩)] (rSp A (SpreadAll t ⟨told, work⟩)) := by
  refine S.cx.by (S.prog ▸ Try.func59) rfl rfl rfl rfl (fun hv ho => ?_)
  cbv
  refine ACall.testD (dp := false) (implSpreadOk_c S t told work) ⟨rfl, (by repeat' (first | exact trivial | exact rfl | exact Nat.le_refl _ | exact S.cx.giveEq | exact S.cx.lendLe (by assumption) | exact S.cx.lendEq (by assumption) | exact S.cx.lendLe0 | exact S.cx.lendEq0 | exact S.cx.partLe (by assumption) | exact S.cx.partEq (by assumption) | exact .inl rfl | refine ⟨?_, ?_⟩)), (by repeat' (first | exact trivial | exact rfl | exact Nat.le_refl _ | exact S.cx.giveEq | exact S.cx.lendLe (by assumption) | exact S.cx.lendEq (by assumption) | exact S.cx.lendLe0 | exact S.cx.lendEq0 | exact S.cx.partLe (by assumption) | exact S.cx.partEq (by assumption) | exact .inl rfl | refine ⟨?_, ?_⟩))⟩ rfl (fun hok => ?_) (fun hok => ?_) <;> cbv
  rotate_left
  · exact Done.is (r := rSp A) (x := spread0) (by repeat' (first | exact trivial | exact rfl | exact resOwn S.cx rfl (by assumption) | exact resOwn S.cx rfl (S.cx.lenE _ _) | exact resOwn1 S.cx rfl (by assumption) | exact resOwnT S.cx rfl (by assumption) | exact S.cx.enc _ [] | refine ⟨?_, ?_⟩)) rfl (if_neg hok)
  have b0 := hok.1.1
  have b1 : told.length ≤ 4294967296 := by have := hok.2.1; dsimp only at this; omega
  have b2 : work.length ≤ 4294967296 := by have := hok.2.2.1; dsimp only at this; omega
  refine ACall.valN (r := rSp A) (os := fun _ => []) (dp := false) S.cx (clonedSpread_c S told work b1 b2) ⟨rfl, (by repeat' (first | exact trivial | exact rfl | exact Nat.le_refl _ | exact S.cx.giveEq | exact S.cx.lendLe (by assumption) | exact S.cx.lendEq (by assumption) | exact S.cx.lendLe0 | exact S.cx.lendEq0 | exact S.cx.partLe (by assumption) | exact S.cx.partEq (by assumption) | exact .inl rfl | refine ⟨?_, ?_⟩)), (by repeat' (first | exact trivial | exact rfl | exact Nat.le_refl _ | exact S.cx.giveEq | exact S.cx.lendLe (by assumption) | exact S.cx.lendEq (by assumption) | exact S.cx.lendLe0 | exact S.cx.lendEq0 | exact S.cx.partLe (by assumption) | exact S.cx.partEq (by assumption) | exact .inl rfl | refine ⟨?_, ?_⟩))⟩ rfl (fun ln hln x hx => ⟨rfl, ?_⟩)
  obtain ⟨told', work'⟩ := x
  cases hx
  cbv
  have hN := hln cBool told
  generalize ln (A.enc cBool told) = N at hN ⊢
  have hM := hln cInt64 work
  generalize ln (A.enc cInt64 work) = M at hM ⊢
  refine ALoop.goF (ι := Bool × (Nat × Nat) × Spread) (fun i => [(6, .bool i.1)]) [13] [4020000, 4010000, 4010001] (fun i => [(4020000, .box [.ref false 4010000 0 i.2.1.1, .ref false 4010001 0 i.2.1.2]), (4010000, .arr 1 true (A.enc cBool i.2.2.told)), (4010001, .arr 1 true (A.enc cInt64 i.2.2.work))]) (fun i => (i.2.1.1 = i.2.2.told.length ∧ i.2.1.2 = i.2.2.work.length) ∧ SpreadOk t i.2.2 ∧ last t i.2.2 = last t ⟨told, work⟩ ∧ (i.1 = false → last t i.2.2 = i.2.2)) (fun i => weigh i.2.2 * 2 + (if i.1 then 1 else 0)) (true, (N, M), ⟨told, work⟩) S.cx.tab S.cx.mix S.eq ?_ ?_ ?_
  · exact ⟨⟨hN, hM⟩, hok, rfl, fun h => by cases h⟩
  · (cbv; refine Less.to [] rfl rfl ?_ ?_ <;> repeat' (first | exact trivial | exact ⟨rfl, rfl⟩ | exact ⟨_, rfl, Nat.zero_le _, rfl⟩ | apply And.intro | exact rfl))
  rintro ⟨g, ⟨n, m⟩, ⟨told2, work2⟩⟩ ⟨⟨hn, hm⟩, hok2, hl, hg⟩
  dsimp only at hn hm hok2 hl hg
  refine Rnd.mk ?_; cbv
  cases g <;> cbv
  · exact Done.is (r := rSp A) (x := ⟨told2, work2⟩) (by repeat' (first | exact trivial | exact rfl | exact resOwn S.cx rfl (by assumption) | exact resOwn S.cx rfl (S.cx.lenE _ _) | exact resOwn1 S.cx rfl (by assumption) | exact resOwnT S.cx rfl (by assumption) | exact S.cx.enc _ [] | refine ⟨?_, ?_⟩)) rfl ((if_pos hok).trans (hl.symm.trans (hg rfl)))
  refine ACall.valN (r := rIB) (os := oSpI A) (dp := false) S.cx (step_c S t told2 work2 hok2) ⟨rfl, (by repeat' (first | exact trivial | exact rfl | exact Nat.le_refl _ | exact S.cx.giveEq | exact S.cx.lendLe (by assumption) | exact S.cx.lendEq (by assumption) | exact S.cx.lendLe0 | exact S.cx.lendEq0 | exact S.cx.partLe (by assumption) | exact S.cx.partEq (by assumption) | exact .inl rfl | refine ⟨?_, ?_⟩)), (by repeat' (first | exact trivial | exact rfl | exact Nat.le_refl _ | exact S.cx.giveEq | exact S.cx.lendLe (by assumption) | exact S.cx.lendEq (by assumption) | exact S.cx.lendLe0 | exact S.cx.lendEq0 | exact S.cx.partLe (by assumption) | exact S.cx.partEq (by assumption) | exact .inl rfl | refine ⟨?_, ?_⟩))⟩ rfl (fun ln hln x hx => ⟨rfl, ?_⟩)
  obtain ⟨⟨told3, work3⟩, k, b⟩ := x
  cbv
  have hN3 := hln cBool told3
  generalize ln (A.enc cBool told3) = N3 at hN3 ⊢
  have hM3 := hln cInt64 work3
  generalize ln (A.enc cInt64 work3) = M3 at hM3 ⊢
  have h1 : (⟨told3, work3⟩ : Spread) = (Step t ⟨told2, work2⟩).1 := congrArg (·.1) hx
  have h2 : b = (Step t ⟨told2, work2⟩).2.2 := congrArg (·.2.2) hx
  refine Again.on (b, (N3, M3), ⟨told3, work3⟩) ?_ ⟨⟨hN3, hM3⟩, by dsimp only; rw [h1]; exact step_ok hok2, ?_, fun hb => ?_⟩ ?_
  · dsimp only
    rw [h1]
    cases hb : b with
    | false => rw [step_stay (by rw [← h2, hb])]; simp
    | true => have := step_less hok2 (by rw [← h2, hb]); simp; omega
  · dsimp only
    rw [h1]
    cases hb : b with
    | false => rw [step_stay (by rw [← h2, hb])]; exact hl
    | true => rw [last_step hok2 (by rw [← h2, hb])]; exact hl
  · dsimp only at hb ⊢
    rw [h1, step_stay (by rw [← h2, hb])]
    exact last_stay (by rw [← h2, hb])
  · (cbv; refine Less.to [(4010000, (7015000, 0)), (4010001, (7015001, 0))] rfl rfl ?_ ?_ <;> repeat' (first | exact trivial | exact ⟨rfl, rfl⟩ | exact ⟨_, rfl, Nat.zero_le _, rfl⟩ | apply And.intro | exact rfl))

end Go.Proofs.Ytcbebidfnlkkeaa.AM
