/- Contracts: tasks that wait (P2 for the texts of worlds). -/
import Derived.Test.YtaibcmhhccanoaaGreatP1
import Derived.Test.YtaibcmhhccanoaaGreatW6
set_option linter.unusedVariables false
set_option linter.unusedSimpArgs false
namespace Go.Proofs.YtaibcmhhccanoaaGreat.AM
open Go Go.Proofs

set_option maxRecDepth 100000
set_option maxHeartbeats 4000000
set_option linter.unusedVariables false
set_option linter.unusedSimpArgs false

variable {P : Program} {A : Sy}

def ParkedOn (l : List Task) (why what : Int) : List Int := if TasksOk l then idxs (pPark why what) l else []
def ReadyIn (l : List Task) : List Int := if TasksOk l then idxs pReady l else []
def rI (A : Sy) (l : List Int) : AV := .own 1 true (A.enc cInt64 l)
def rTask (A : Sy) (l : List Task) : AV := .own 9 true (A.enc cTask l)

theorem specParkedOn_c (S : Se P A) (l : List Task) (why what : Int) : Is1 P 62 [.ro (A.enc cTask l), .int .i64 why, .int .i64 what] (rI A (ParkedOn l why what)) := by
  refine S.cx.by (S.prog ▸ Tryz.func62) rfl rfl rfl rfl (fun hv ho => ?_)
  cbv
  refine ACall.testD (dp := false) (specTasksOk_c S l) (.of rfl (by repeat' (first | exact trivial | exact rfl | exact Nat.le_refl _ | exact S.ga | exact S.gb ‹_› | exact S.gc ‹_› | exact S.gd | exact S.ge | exact S.gf ‹_› | exact S.gg ‹_› | exact S.gh | exact .inl rfl | exact S.gi ‹_› | exact S.gj ‹_› | exact S.gk | exact S.gl | refine ⟨?_, ?_⟩))) rfl (fun h => ?_) (fun h => ?_) <;> cbv
  rotate_left
  · exact Done.is (r := rI A) (x := []) (by repeat' (first | exact trivial | exact rfl | exact S.ra rfl ‹_› | exact S.rb rfl | exact S.rc rfl ‹_› | exact S.rd rfl ‹_› | exact S.gh | exact S.re rfl ‹_› | exact S.rf rfl ‹_› | exact S.rg rfl ‹_› | refine ⟨?_, ?_⟩)) rfl (if_neg h)
  have hb : l.length ≤ 4294967296 := Nat.le_trans h.1 (by decide)
  have hfin : idxs (pPark why what) l = ParkedOn l why what := (if_pos h).symm
  refine ALoop.pre (Less.initE S.cx cInt64 999000000 1 true (t := 7) rfl (by first | exact .inr rfl | exact .inl rfl) rfl) ?_
  refine ALoop.goD (ι := Int × Nat × List Int) (fun i => [(8, .int .i64 i.1), (7, .ref false 999000000 0 i.2.1)]) [999000000] (fun i => [(999000000, .arr 1 true (A.enc cInt64 i.2.2))]) (fun i => 0 ≤ i.1 ∧ i.2.1 = i.2.2.length ∧ i.2.2 = idxs (pPark why what) (l.take i.1.toNat)) (fun i => (l.length - i.1).toNat) (0, 0, []) S.cx.tab S.cx.mix S.eq ?_ ?_ ?_
  · exact ⟨Int.le_refl _, rfl, by simp [idxs, idxFrom]⟩
  · (cbv; refine Less.to [] rfl rfl ?_ ?_ <;> repeat' (first | exact trivial | exact ⟨rfl, rfl⟩ | exact ⟨_, rfl, Nat.zero_le _, rfl⟩ | apply And.intro | exact rfl))
  rintro ⟨i, n, out⟩ ⟨h0, hn, ho⟩
  dsimp only at h0 hn ho
  have hlen : out.length ≤ l.length := by rw [ho]; exact Nat.le_trans (idxs_len _ _) (by simp; omega)
  cbv
  refine LenR.nat S.cx (fun N hN hm => ?_); cbv
  refine Test.lss (fun h => ?_) (fun h => ?_) <;> cbv
  · refine ElemRo.enc S.cx (fun _ => rfl) (by lia) (by lia) (fun x hx => ?_); cbv
    have step : ∀ i', i' = i + 1 → idxs (pPark why what) (l.take i'.toNat) = if (pPark why what) x then out ++ [i] else out := fun i' hi' => by rw [ho]; exact idxs_next h0 hx hi'
    have skip : (pPark why what) x = false → ∀ i', i' = i + 1 → 0 ≤ i' ∧ n = out.length ∧ out = idxs (pPark why what) (l.take i'.toNat) := fun hp i' hi' => ⟨by omega, hn, by rw [step i' hi', hp]; rfl⟩
    refine Test.eql (fun h1 => ?_) (fun h1 => ?_) <;> cbv
    rotate_left
    · refine Arith.go (by lia) (fun i' hi' => ?_); cbv
      refine Again.on (i', n, out) (by dsimp only; lia) (skip (decide_eq_false (fun e => h1 e.1)) i' hi') ?_
      (cbv; refine Less.to [] rfl rfl ?_ ?_ <;> repeat' (first | exact trivial | exact ⟨rfl, rfl⟩ | exact ⟨_, rfl, Nat.zero_le _, rfl⟩ | apply And.intro | exact rfl))
    refine ElemRo.at S.cx (x := x) rfl (by lia) hx ?_; cbv
    refine Test.eql (fun h2 => ?_) (fun h2 => ?_) <;> cbv
    rotate_left
    · refine Arith.go (by lia) (fun i' hi' => ?_); cbv
      refine Again.on (i', n, out) (by dsimp only; lia) (skip (decide_eq_false (fun e => h2 e.2.1)) i' hi') ?_
      (cbv; refine Less.to [] rfl rfl ?_ ?_ <;> repeat' (first | exact trivial | exact ⟨rfl, rfl⟩ | exact ⟨_, rfl, Nat.zero_le _, rfl⟩ | apply And.intro | exact rfl))
    refine ElemRo.at S.cx (x := x) rfl (by lia) hx ?_; cbv
    refine Test.eql (fun h3 => ?_) (fun h3 => ?_) <;> cbv
    rotate_left
    · refine Arith.go (by lia) (fun i' hi' => ?_); cbv
      refine Again.on (i', n, out) (by dsimp only; lia) (skip (decide_eq_false (fun e => h3 e.2.2)) i' hi') ?_
      (cbv; refine Less.to [] rfl rfl ?_ ?_ <;> repeat' (first | exact trivial | exact ⟨rfl, rfl⟩ | exact ⟨_, rfl, Nat.zero_le _, rfl⟩ | apply And.intro | exact rfl))
    refine Part.one ?_; cbv
    refine AppRef.push S.cx i (by assumption) rfl rfl plainInt64 (fun _ => rfl) (by simp only [maxBytes]; omega) (fun m w hw hml => ?_); cbv
    refine Arith.go (by lia) (fun i' hi' => ?_); cbv
    refine Again.on (i', m, w) (by dsimp only; lia) ⟨by dsimp only; lia, hml, by dsimp only; rw [step i' hi', show (pPark why what) x = true from decide_eq_true ⟨h1, h2, h3⟩, hw]; rfl⟩ ?_
    (cbv; refine Less.to [(999000000, (9030000, 0))] rfl rfl ?_ ?_ <;> repeat' (first | exact trivial | exact ⟨rfl, rfl⟩ | exact ⟨_, rfl, Nat.zero_le _, rfl⟩ | apply And.intro | exact rfl))
  · have hall : out = idxs (pPark why what) l := by rw [ho, take_all (by omega)]
    exact Done.own S.cx rfl rfl hn (hall.trans hfin)

end Go.Proofs.YtaibcmhhccanoaaGreat.AM
