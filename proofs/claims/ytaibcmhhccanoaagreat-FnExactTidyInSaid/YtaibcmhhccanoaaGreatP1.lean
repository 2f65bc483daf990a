/- Contracts: tasks that wait, tasks that are ready. -/
import Derived.Test.YtaibcmhhccanoaaGreatHA
set_option linter.unusedVariables false
set_option linter.unusedSimpArgs false
namespace Go.Proofs.YtaibcmhhccanoaaGreat.AM
open Go Go.Proofs

set_option maxRecDepth 100000
set_option maxHeartbeats 4000000
set_option linter.unusedVariables false
set_option linter.unusedSimpArgs false

variable {P : Program} {A : Sy}

theorem plainInt64 : Plain cInt64 := fun _ => rfl
theorem plainTask : Plain cTask := fun _ => rfl

def pPark (why what : Int) (t : Task) : Bool := decide (t.state = 1 ∧ t.why = why ∧ t.what = what)
def pReady (t : Task) : Bool := decide (t.state = 0)

theorem parkedOn_c (S : Se P A) (l : List Task) (hb : l.length ≤ 4294967296) (why what : Int) : Is1 P 178 [.ro (A.enc cTask l), .int .i64 why, .int .i64 what] (.own 1 true (A.enc cInt64 (idxs (pPark why what) l))) := by
  refine S.cx.by (S.prog ▸ Tryz.func178) rfl rfl rfl rfl (fun hv ho => ?_)
  cbv
  refine LenR.nat S.cx (fun N hN hm => ?_); cbv
  refine ALoop.pre (Less.initE S.cx cInt64 999000000 1 true (t := 7) rfl (by first | exact .inr rfl | exact .inl rfl) rfl) ?_
  refine ALoop.goD (ι := Int × Nat × List Int) (fun i => [(13, .int .i64 i.1), (7, .ref false 999000000 0 i.2.1)]) [999000000] (fun i => [(999000000, .arr 1 true (A.enc cInt64 i.2.2))]) (fun i => 0 ≤ i.1 ∧ i.2.1 = i.2.2.length ∧ i.2.2 = idxs (pPark why what) (l.take i.1.toNat)) (fun i => (l.length - i.1).toNat) (0, 0, []) S.cx.tab S.cx.mix S.eq ?_ ?_ ?_
  · exact ⟨Int.le_refl _, rfl, by simp [idxs, idxFrom]⟩
  · (cbv; refine Less.to [] rfl rfl ?_ ?_ <;> repeat' (first | exact trivial | exact ⟨rfl, rfl⟩ | exact ⟨_, rfl, Nat.zero_le _, rfl⟩ | apply And.intro | exact rfl))
  rintro ⟨i, n, out⟩ ⟨h0, hn, ho⟩
  dsimp only at h0 hn ho
  have hlen : out.length ≤ l.length := by rw [ho]; exact Nat.le_trans (idxs_len _ _) (by simp; omega)
  cbv
  refine Test.lss (fun h => ?_) (fun h => ?_) <;> cbv
  · refine ElemRo.enc S.cx (fun _ => rfl) (by lia) (by lia) (fun x hx => ?_); cbv
    have step : ∀ i', i' = i + 1 → idxs (pPark why what) (l.take i'.toNat) = if pPark why what x then out ++ [i] else out := fun i' hi' => by rw [ho]; exact idxs_next h0 hx hi'
    have skip : pPark why what x = false → ∀ i', i' = i + 1 → 0 ≤ i' ∧ n = out.length ∧ out = idxs (pPark why what) (l.take i'.toNat) := fun hp i' hi' => ⟨by omega, hn, by rw [step i' hi', hp]; rfl⟩
    refine Test.eql (fun h1 => ?_) (fun h1 => ?_) <;> cbv
    rotate_left
    · refine Arith.go (by lia) (fun i' hi' => ?_); cbv
      refine Again.on (i', n, out) (by dsimp only; lia) (skip (decide_eq_false (fun e => h1 e.1)) i' hi') ?_
      (cbv; refine Less.to [] rfl rfl ?_ ?_ <;> repeat' (first | exact trivial | exact ⟨rfl, rfl⟩ | exact ⟨_, rfl, Nat.zero_le _, rfl⟩ | apply And.intro | exact rfl))
    refine Test.eql (fun h2 => ?_) (fun h2 => ?_) <;> cbv
    rotate_left
    · refine Arith.go (by lia) (fun i' hi' => ?_); cbv
      refine Again.on (i', n, out) (by dsimp only; lia) (skip (decide_eq_false (fun e => h2 e.2.1)) i' hi') ?_
      (cbv; refine Less.to [] rfl rfl ?_ ?_ <;> repeat' (first | exact trivial | exact ⟨rfl, rfl⟩ | exact ⟨_, rfl, Nat.zero_le _, rfl⟩ | apply And.intro | exact rfl))
    refine Test.eql (fun h3 => ?_) (fun h3 => ?_) <;> cbv
    rotate_left
    · refine Arith.go (by lia) (fun i' hi' => ?_); cbv
      refine Again.on (i', n, out) (by dsimp only; lia) (skip (decide_eq_false (fun e => h3 e.2.2)) i' hi') ?_
      (cbv; refine Less.to [] rfl rfl ?_ ?_ <;> repeat' (first | exact trivial | exact ⟨rfl, rfl⟩ | exact ⟨_, rfl, Nat.zero_le _, rfl⟩ | apply And.intro | exact rfl))
    refine Part.one ?_; cbv
    refine AppRef.push S.cx i (by assumption) rfl rfl plainInt64 (fun _ => rfl) (by simp only [maxBytes]; omega) (fun m w hw hml => ?_); cbv
    refine Arith.go (by lia) (fun i' hi' => ?_); cbv
    refine Again.on (i', m, w) (by dsimp only; lia) ⟨by dsimp only; lia, hml, by dsimp only; rw [step i' hi', show pPark why what x = true from decide_eq_true ⟨h1, h2, h3⟩, hw]; rfl⟩ ?_
    (cbv; refine Less.to [(999000000, (7030000, 0))] rfl rfl ?_ ?_ <;> repeat' (first | exact trivial | exact ⟨rfl, rfl⟩ | exact ⟨_, rfl, Nat.zero_le _, rfl⟩ | apply And.intro | exact rfl))
  · have hall : out = idxs (pPark why what) l := by rw [ho, take_all (by omega)]
    exact Done.own S.cx rfl rfl hn hall

end Go.Proofs.YtaibcmhhccanoaaGreat.AM
