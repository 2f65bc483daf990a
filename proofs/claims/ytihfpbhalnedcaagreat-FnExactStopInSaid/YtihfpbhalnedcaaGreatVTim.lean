/- Requests about timers: plain. (printed by split_v.py) -/
import Derived.Test.YtihfpbhalnedcaaGreatV0
import Derived.Test.YtihfpbhalnedcaaGreatE16
set_option linter.unusedVariables false
set_option linter.unusedSimpArgs false
namespace Go.Proofs.YtihfpbhalnedcaaGreat.AM
open Go Go.Proofs

def laterT (t d : Int) : Int := if t + d > 9223372036854775807 then 9223372036854775807 else if t + d < -9223372036854775808 then -9223372036854775808 else t + d

def TimerD (d whom : Int) (w : World) : World × Bool := ({ w with timers := (armT w.timers (laterT w.now d) 2 whom).1 }, decide (0 <= (armT w.timers (laterT w.now d) 2 whom).2))

def TimerIn (w : World) (d whom : Int) : World × Int := if WorldOk w then ({ w with timers := (armT w.timers (laterT w.now d) 2 whom).1 }, (armT w.timers (laterT w.now d) 2 whom).2) else (world0, -1)

theorem armT_list (t : Timers) (due what whom : Int) : ∀ x ∈ (armT t due what whom).1.list, x ∈ t.list ∨ x.what = what := by
  unfold armT
  split
  · exact fun x hx => .inl hx
  · intro x hx
    rcases List.mem_append.1 hx with hx | hx
    · exact .inl hx
    · rw [List.mem_singleton.1 hx]; exact .inr rfl

theorem armT_not {t : Timers} {due what whom : Int} (h : 0 <= t.next) (hn : ¬ 0 <= (armT t due what whom).2) : armT t due what whom = (t, -1) := by
  unfold armT at hn ⊢
  split
  · rfl
  · rename_i hc
    rw [if_neg hc] at hn
    exact absurd h hn

theorem timerIn_asked (w : World) (d whom : Int) : TimerIn w d whom = if (Asked w (TimerD d whom)).2 = true then ((Asked w (TimerD d whom)).1, (armT w.timers (laterT w.now d) 2 whom).2) else ((Asked w (TimerD d whom)).1, -1) := by
  rw [asked_kept (fun h e => ?_)]
  · unfold TimerIn
    by_cases h : WorldOk w
    · have ht := h.2.2.2.2.2.1
      simp only [if_pos h, TimerD, decide_eq_true_eq]
      by_cases hc : 0 <= (armT w.timers (laterT w.now d) 2 whom).2
      · simp only [if_pos hc, if_true]
      · simp only [if_neg hc, Bool.false_eq_true, if_false]
        rw [armT_not ht.1.1.1 hc]
    · simp only [if_neg h, Bool.false_eq_true, if_false]
  · have ht := h.2.2.2.2.2.1
    refine h.withTimers (armT_ok _ _ _ ht.1) (fun x hx => ?_)
    rcases armT_list _ _ _ _ x hx with hx | hx
    · exact ht.2 x hx
    · exact ⟨fun e => (by rw [hx] at e; cases e), fun e => (by rw [hx] at e; cases e)⟩

def PlainT (t : Timers) (q : Int) : Prop := 0 <= timIdx t.list q /\ ∃ x ∈ t.list[(timIdx t.list q).toNat]?, x.what = 2

instance (t : Timers) (q : Int) : Decidable (PlainT t q) := by unfold PlainT; infer_instance

def StopD (q : Int) (w : World) : World × Bool := if PlainT w.timers q then ({ w with timers := (stopT w.timers q).1 }, (stopT w.timers q).2) else (w, false)

def StopIn (w : World) (q : Int) : World × Bool := if WorldOk w then StopD q w else (world0, false)

theorem stopIn_asked (w : World) (q : Int) : StopIn w q = Asked w (StopD q) := by
  rw [asked_kept (fun h e => ?_)]
  · unfold StopIn
    by_cases h : WorldOk w
    · simp only [if_pos h, StopD]
      by_cases hp : PlainT w.timers q
      · simp only [if_pos hp]
        rcases stop_cases w.timers q with e | ⟨x, h0, hx, hq, ha, e⟩ <;> rw [e] <;> rfl
      · simp only [if_neg hp, Bool.false_eq_true, if_false]
    · simp only [if_neg h]
  · unfold StopD at e ⊢
    split at e
    · rename_i hp
      rw [if_pos hp]
      have ht := h.2.2.2.2.2.1
      refine h.withTimers (stopT_ok _ ht.1) (fun y hy => ?_)
      rcases stop_cases w.timers q with e2 | ⟨x, h0, hx, hq, ha, e2⟩
      · rw [e2] at hy; exact ht.2 y hy
      · rw [e2] at hy
        rcases List.mem_or_eq_of_mem_set hy with hy | hy
        · exact ht.2 y hy
        · rw [hy]; exact ht.2 x (mem_at hx)
    · cases e

theorem timers_total {t : Timers} (h : TimersOk t) : t.total <= 128 := by
  have h1 := h.2.1
  have h2 := h.2.2.1.1
  simp only [Timers.total]
  omega

theorem withTimers_total {w : World} {t : Timers} (h0 : 0 <= w.timers.total) (h : TimersOk t) : ({ w with timers := t } : World).total <= w.total + 200 := by
  have := timers_total h
  simp only [World.total]
  omega

theorem timers_ge (t : Timers) : 0 <= t.total := by
  simp only [Timers.total]
  omega

theorem timerD_total (w : World) (d whom : Int) (h : WorldOk w) : (TimerD d whom w).1.total <= w.total + 200 := withTimers_total (timers_ge _) (armT_ok _ _ _ h.2.2.2.2.2.1.1)

theorem stopD_total (w : World) (q : Int) (h : WorldOk w) : (StopD q w).1.total <= w.total + 200 := by
  unfold StopD
  split
  · exact withTimers_total (timers_ge _) (stopT_ok _ h.2.2.2.2.2.1.1)
  · show w.total <= w.total + 200
    omega

theorem timerIn_one (w : World) (d whom : Int) : (TimerIn w d whom).1 = (Asked w (TimerD d whom)).1 := by
  rw [timerIn_asked]
  split <;> rfl

end Go.Proofs.YtihfpbhalnedcaaGreat.AM
