/- Contracts: the laws' own helpers: flat types. (printed by gen.py) -/
import Derived.Test.YtihfpbhalnedcaaGreatDA
set_option linter.unusedVariables false
set_option linter.unusedSimpArgs false
namespace Go.Proofs.YtihfpbhalnedcaaGreat.AM
open Go Go.Proofs

set_option maxRecDepth 100000

variable {P : Program} {A : Sy}

theorem heldInt64S_c (S : Se P A) (l : List Int) (k : Int) (h0 : 0 <= k) (hk : k + 1 * l.length <= 4611686018427387904) (hl : ∀ (j : Nat) (x : Int), l[j]? = some x -> x = mInt64 (k + 1 * j)) : Is1 P 90 [.ro (A.enc cInt64 l), .int .i64 k] (.int .i64 (k + 1 * l.length)) := by
  refine S.cx.by (S.prog ▸ Tryz.func90) rfl rfl rfl rfl (fun hv ho => ?_)
  cbv
  refine ALoop.go (ι := Int × Int) (fun i => [(5, .int .i64 i.1), (1, .int .i64 i.2)]) [] (fun i => [])
    (fun i => 0 <= i.1 /\ i.1 <= l.length /\ i.2 = k + 1 * i.1) (fun i => ((l.length : Int) - i.1).toNat) (0, k) S.cx.tab S.cx.mix S.eq ?_ ?_ ?_
  · exact ⟨by simp, by simp, by simp⟩
  · cbv
    refine Less.to [] rfl rfl ?_ ?_
    · repeat' (first | exact trivial | exact ⟨rfl, rfl⟩ | apply And.intro)
    · repeat' (first | exact trivial | exact ⟨_, rfl, Nat.zero_le _, rfl⟩ | apply And.intro)
  · rintro ⟨i, q⟩ ⟨h1, h2, h3⟩
    dsimp only at h1 h2 h3
    cbv
    refine LenR.enc S.cx (fun n hn hm => ?_); cbv
    refine Test.lss (fun h => ?_) (fun h => ?_) <;> cbv
    · obtain ⟨x, hx⟩ := get_of_lt (l := l) (i := i.toNat) (by lia)
      have hxe := hl _ x hx
      simp only [mInt64] at hxe
      refine ElemRo.at S.cx (x := (x : Int)) rfl (by lia) hx ?_; cbv
      refine Test.neq (fun h => ?_) (fun h => ?_) <;> cbv
      · lia
      refine Arith.go (by lia) (fun q1 hq1 => ?_); cbv
      refine Arith.go (by lia) (fun i' hi' => ?_); cbv
      refine Again.on (i', q1) ?_ ?_ ?_
      · show ((l.length : Int) - i').toNat < ((l.length : Int) - i).toNat
        lia
      · exact ⟨by show 0 <= i'; lia, by show i' <= l.length; lia, by show q1 = k + 1 * i'; lia⟩
      · cbv
        refine Less.to [] rfl rfl ?_ ?_
        · repeat' (first | exact trivial | exact ⟨rfl, rfl⟩ | apply And.intro)
        · repeat' (first | exact trivial | exact ⟨_, rfl, Nat.zero_le _, rfl⟩ | apply And.intro)
    · exact Done.to (.int .i64 q) [] rfl rfl trivial ⟨by congr 1; lia, rfl⟩

theorem heldBoolS_c (S : Se P A) (l : List Bool) (k : Int) (h0 : 0 <= k) (hk : k + 1 * l.length <= 4611686018427387904) (hl : ∀ (j : Nat) (x : Bool), l[j]? = some x -> x = mBool (k + 1 * j)) : Is1 P 181 [.ro (A.enc cBool l), .int .i64 k] (.int .i64 (k + 1 * l.length)) := by
  refine S.cx.by (S.prog ▸ Tryz.func181) rfl rfl rfl rfl (fun hv ho => ?_)
  cbv
  refine ALoop.go (ι := Int × Int) (fun i => [(5, .int .i64 i.1), (1, .int .i64 i.2)]) [] (fun i => [])
    (fun i => 0 <= i.1 /\ i.1 <= l.length /\ i.2 = k + 1 * i.1) (fun i => ((l.length : Int) - i.1).toNat) (0, k) S.cx.tab S.cx.mix S.eq ?_ ?_ ?_
  · exact ⟨by simp, by simp, by simp⟩
  · cbv
    refine Less.to [] rfl rfl ?_ ?_
    · repeat' (first | exact trivial | exact ⟨rfl, rfl⟩ | apply And.intro)
    · repeat' (first | exact trivial | exact ⟨_, rfl, Nat.zero_le _, rfl⟩ | apply And.intro)
  · rintro ⟨i, q⟩ ⟨h1, h2, h3⟩
    dsimp only at h1 h2 h3
    cbv
    refine LenR.enc S.cx (fun n hn hm => ?_); cbv
    refine Test.lss (fun h => ?_) (fun h => ?_) <;> cbv
    · obtain ⟨x, hx⟩ := get_of_lt (l := l) (i := i.toNat) (by lia)
      have hxe := hl _ x hx
      simp only [mBool] at hxe
      refine ElemRo.at S.cx (x := (x : Bool)) rfl (by lia) hx ?_; cbv
      refine RemA.go (by decide) (fun r hr => ?_); cbv
      refine Test.eqB (fun b hb => ?_); cbv
      have hqq : q = k + 1 * (i.toNat : Int) := by lia
      obtain rfl : b = x := by rw [hb, hr, hqq, hxe]
      clear hb hr hxe
      cases b <;> cbv
      all_goals
        refine Arith.go (by lia) (fun q1 hq1 => ?_); cbv
        refine Arith.go (by lia) (fun i' hi' => ?_); cbv
        refine Again.on (i', q1) ?_ ?_ ?_
        · show ((l.length : Int) - i').toNat < ((l.length : Int) - i).toNat
          lia
        · exact ⟨by show 0 <= i'; lia, by show i' <= l.length; lia, by show q1 = k + 1 * i'; lia⟩
        · cbv
          refine Less.to [] rfl rfl ?_ ?_
          · repeat' (first | exact trivial | exact ⟨rfl, rfl⟩ | apply And.intro)
          · repeat' (first | exact trivial | exact ⟨_, rfl, Nat.zero_le _, rfl⟩ | apply And.intro)
    · exact Done.to (.int .i64 q) [] rfl rfl trivial ⟨by congr 1; lia, rfl⟩

theorem heldTwigS_c (S : Se P A) (l : List Twig) (k : Int) (h0 : 0 <= k) (hk : k + 3 * l.length <= 4611686018427387904) (hl : ∀ (j : Nat) (x : Twig), l[j]? = some x -> x = mTwig (k + 3 * j)) : Is1 P 182 [.ro (A.enc cTwig l), .int .i64 k] (.int .i64 (k + 3 * l.length)) := by
  refine S.cx.by (S.prog ▸ Tryz.func182) rfl rfl rfl rfl (fun hv ho => ?_)
  cbv
  refine ALoop.go (ι := Int × Int) (fun i => [(5, .int .i64 i.1), (1, .int .i64 i.2)]) [] (fun i => [])
    (fun i => 0 <= i.1 /\ i.1 <= l.length /\ i.2 = k + 3 * i.1) (fun i => ((l.length : Int) - i.1).toNat) (0, k) S.cx.tab S.cx.mix S.eq ?_ ?_ ?_
  · exact ⟨by simp, by simp, by simp⟩
  · cbv
    refine Less.to [] rfl rfl ?_ ?_
    · repeat' (first | exact trivial | exact ⟨rfl, rfl⟩ | apply And.intro)
    · repeat' (first | exact trivial | exact ⟨_, rfl, Nat.zero_le _, rfl⟩ | apply And.intro)
  · rintro ⟨i, q⟩ ⟨h1, h2, h3⟩
    dsimp only at h1 h2 h3
    cbv
    refine LenR.enc S.cx (fun n hn hm => ?_); cbv
    refine Test.lss (fun h => ?_) (fun h => ?_) <;> cbv
    · obtain ⟨x, hx⟩ := get_of_lt (l := l) (i := i.toNat) (by lia)
      have hxe := hl _ x hx
      obtain ⟨due, seq, lefts⟩ := x
      simp only [mTwig, Twig.mk.injEq] at hxe
      obtain ⟨edue, eseq, elefts⟩ := hxe
      refine ElemRo.at S.cx (x := (⟨due, seq, lefts⟩ : Twig)) rfl (by lia) hx ?_; cbv
      refine Test.neq (fun h => ?_) (fun h => ?_) <;> cbv
      · lia
      refine Arith.go (by lia) (fun q1 hq1 => ?_); cbv
      refine ElemRo.at S.cx (x := (⟨due, seq, lefts⟩ : Twig)) rfl (by lia) hx ?_; cbv
      refine Test.neq (fun h => ?_) (fun h => ?_) <;> cbv
      · lia
      refine Arith.go (by lia) (fun q2 hq2 => ?_); cbv
      refine ElemRo.at S.cx (x := (⟨due, seq, lefts⟩ : Twig)) rfl (by lia) hx ?_; cbv
      refine Test.neq (fun h => ?_) (fun h => ?_) <;> cbv
      · lia
      refine Arith.go (by lia) (fun q3 hq3 => ?_); cbv
      refine Arith.go (by lia) (fun i' hi' => ?_); cbv
      refine Again.on (i', q3) ?_ ?_ ?_
      · show ((l.length : Int) - i').toNat < ((l.length : Int) - i).toNat
        lia
      · exact ⟨by show 0 <= i'; lia, by show i' <= l.length; lia, by show q3 = k + 3 * i'; lia⟩
      · cbv
        refine Less.to [] rfl rfl ?_ ?_
        · repeat' (first | exact trivial | exact ⟨rfl, rfl⟩ | apply And.intro)
        · repeat' (first | exact trivial | exact ⟨_, rfl, Nat.zero_le _, rfl⟩ | apply And.intro)
    · exact Done.to (.int .i64 q) [] rfl rfl trivial ⟨by congr 1; lia, rfl⟩

theorem heldTimerS_c (S : Se P A) (l : List Timer) (k : Int) (h0 : 0 <= k) (hk : k + 5 * l.length <= 4611686018427387904) (hl : ∀ (j : Nat) (x : Timer), l[j]? = some x -> x = mTimer (k + 5 * j)) : Is1 P 183 [.ro (A.enc cTimer l), .int .i64 k] (.int .i64 (k + 5 * l.length)) := by
  refine S.cx.by (S.prog ▸ Tryz.func183) rfl rfl rfl rfl (fun hv ho => ?_)
  cbv
  refine ALoop.go (ι := Int × Int) (fun i => [(5, .int .i64 i.1), (1, .int .i64 i.2)]) [] (fun i => [])
    (fun i => 0 <= i.1 /\ i.1 <= l.length /\ i.2 = k + 5 * i.1) (fun i => ((l.length : Int) - i.1).toNat) (0, k) S.cx.tab S.cx.mix S.eq ?_ ?_ ?_
  · exact ⟨by simp, by simp, by simp⟩
  · cbv
    refine Less.to [] rfl rfl ?_ ?_
    · repeat' (first | exact trivial | exact ⟨rfl, rfl⟩ | apply And.intro)
    · repeat' (first | exact trivial | exact ⟨_, rfl, Nat.zero_le _, rfl⟩ | apply And.intro)
  · rintro ⟨i, q⟩ ⟨h1, h2, h3⟩
    dsimp only at h1 h2 h3
    cbv
    refine LenR.enc S.cx (fun n hn hm => ?_); cbv
    refine Test.lss (fun h => ?_) (fun h => ?_) <;> cbv
    · obtain ⟨x, hx⟩ := get_of_lt (l := l) (i := i.toNat) (by lia)
      have hxe := hl _ x hx
      obtain ⟨seq, due, what, whom, armed⟩ := x
      simp only [mTimer, Timer.mk.injEq] at hxe
      obtain ⟨eseq, edue, ewhat, ewhom, earmed⟩ := hxe
      refine ElemRo.at S.cx (x := (⟨seq, due, what, whom, armed⟩ : Timer)) rfl (by lia) hx ?_; cbv
      refine Test.neq (fun h => ?_) (fun h => ?_) <;> cbv
      · lia
      refine Arith.go (by lia) (fun q1 hq1 => ?_); cbv
      refine ElemRo.at S.cx (x := (⟨seq, due, what, whom, armed⟩ : Timer)) rfl (by lia) hx ?_; cbv
      refine Test.neq (fun h => ?_) (fun h => ?_) <;> cbv
      · lia
      refine Arith.go (by lia) (fun q2 hq2 => ?_); cbv
      refine ElemRo.at S.cx (x := (⟨seq, due, what, whom, armed⟩ : Timer)) rfl (by lia) hx ?_; cbv
      refine Test.neq (fun h => ?_) (fun h => ?_) <;> cbv
      · lia
      refine Arith.go (by lia) (fun q3 hq3 => ?_); cbv
      refine ElemRo.at S.cx (x := (⟨seq, due, what, whom, armed⟩ : Timer)) rfl (by lia) hx ?_; cbv
      refine Test.neq (fun h => ?_) (fun h => ?_) <;> cbv
      · lia
      refine Arith.go (by lia) (fun q4 hq4 => ?_); cbv
      refine ElemRo.at S.cx (x := (⟨seq, due, what, whom, armed⟩ : Timer)) rfl (by lia) hx ?_; cbv
      refine RemA.go (by decide) (fun r hr => ?_); cbv
      refine Test.eqB (fun b hb => ?_); cbv
      have hqq : q4 = k + 5 * (i.toNat : Int) + 4 := by lia
      obtain rfl : b = armed := by rw [hb, hr, hqq, earmed]
      clear hb hr earmed
      cases b <;> cbv
      all_goals
        refine Arith.go (by lia) (fun q5 hq5 => ?_); cbv
        refine Arith.go (by lia) (fun i' hi' => ?_); cbv
        refine Again.on (i', q5) ?_ ?_ ?_
        · show ((l.length : Int) - i').toNat < ((l.length : Int) - i).toNat
          lia
        · exact ⟨by show 0 <= i'; lia, by show i' <= l.length; lia, by show q5 = k + 5 * i'; lia⟩
        · cbv
          refine Less.to [] rfl rfl ?_ ?_
          · repeat' (first | exact trivial | exact ⟨rfl, rfl⟩ | apply And.intro)
          · repeat' (first | exact trivial | exact ⟨_, rfl, Nat.zero_le _, rfl⟩ | apply And.intro)
    · exact Done.to (.int .i64 q) [] rfl rfl trivial ⟨by congr 1; lia, rfl⟩

theorem heldNodeS_c (S : Se P A) (l : List Node) (k : Int) (h0 : 0 <= k) (hk : k + 5 * l.length <= 4611686018427387904) (hl : ∀ (j : Nat) (x : Node), l[j]? = some x -> x = mNode (k + 5 * j)) : Is1 P 82 [.ro (A.enc cNode l), .int .i64 k] (.int .i64 (k + 5 * l.length)) := by
  refine S.cx.by (S.prog ▸ Tryz.func82) rfl rfl rfl rfl (fun hv ho => ?_)
  cbv
  refine ALoop.go (ι := Int × Int) (fun i => [(5, .int .i64 i.1), (1, .int .i64 i.2)]) [] (fun i => [])
    (fun i => 0 <= i.1 /\ i.1 <= l.length /\ i.2 = k + 5 * i.1) (fun i => ((l.length : Int) - i.1).toNat) (0, k) S.cx.tab S.cx.mix S.eq ?_ ?_ ?_
  · exact ⟨by simp, by simp, by simp⟩
  · cbv
    refine Less.to [] rfl rfl ?_ ?_
    · repeat' (first | exact trivial | exact ⟨rfl, rfl⟩ | apply And.intro)
    · repeat' (first | exact trivial | exact ⟨_, rfl, Nat.zero_le _, rfl⟩ | apply And.intro)
  · rintro ⟨i, q⟩ ⟨h1, h2, h3⟩
    dsimp only at h1 h2 h3
    cbv
    refine LenR.enc S.cx (fun n hn hm => ?_); cbv
    refine Test.lss (fun h => ?_) (fun h => ?_) <;> cbv
    · obtain ⟨x, hx⟩ := get_of_lt (l := l) (i := i.toNat) (by lia)
      have hxe := hl _ x hx
      obtain ⟨kind, up, due, key, value⟩ := x
      simp only [mNode, Node.mk.injEq] at hxe
      obtain ⟨ekind, eup, edue, ekey, evalue⟩ := hxe
      refine ElemRo.at S.cx (x := (⟨kind, up, due, key, value⟩ : Node)) rfl (by lia) hx ?_; cbv
      refine Test.neq (fun h => ?_) (fun h => ?_) <;> cbv
      · lia
      refine Arith.go (by lia) (fun q1 hq1 => ?_); cbv
      refine ElemRo.at S.cx (x := (⟨kind, up, due, key, value⟩ : Node)) rfl (by lia) hx ?_; cbv
      refine Test.neq (fun h => ?_) (fun h => ?_) <;> cbv
      · lia
      refine Arith.go (by lia) (fun q2 hq2 => ?_); cbv
      refine ElemRo.at S.cx (x := (⟨kind, up, due, key, value⟩ : Node)) rfl (by lia) hx ?_; cbv
      refine Test.neq (fun h => ?_) (fun h => ?_) <;> cbv
      · lia
      refine Arith.go (by lia) (fun q3 hq3 => ?_); cbv
      refine ElemRo.at S.cx (x := (⟨kind, up, due, key, value⟩ : Node)) rfl (by lia) hx ?_; cbv
      refine Test.neq (fun h => ?_) (fun h => ?_) <;> cbv
      · lia
      refine Arith.go (by lia) (fun q4 hq4 => ?_); cbv
      refine ElemRo.at S.cx (x := (⟨kind, up, due, key, value⟩ : Node)) rfl (by lia) hx ?_; cbv
      refine Test.neq (fun h => ?_) (fun h => ?_) <;> cbv
      · lia
      refine Arith.go (by lia) (fun q5 hq5 => ?_); cbv
      refine Arith.go (by lia) (fun i' hi' => ?_); cbv
      refine Again.on (i', q5) ?_ ?_ ?_
      · show ((l.length : Int) - i').toNat < ((l.length : Int) - i).toNat
        lia
      · exact ⟨by show 0 <= i'; lia, by show i' <= l.length; lia, by show q5 = k + 5 * i'; lia⟩
      · cbv
        refine Less.to [] rfl rfl ?_ ?_
        · repeat' (first | exact trivial | exact ⟨rfl, rfl⟩ | apply And.intro)
        · repeat' (first | exact trivial | exact ⟨_, rfl, Nat.zero_le _, rfl⟩ | apply And.intro)
    · exact Done.to (.int .i64 q) [] rfl rfl trivial ⟨by congr 1; lia, rfl⟩

theorem heldEventS_c (S : Se P A) (l : List Event) (k : Int) (h0 : 0 <= k) (hk : k + 4 * l.length <= 4611686018427387904) (hl : ∀ (j : Nat) (x : Event), l[j]? = some x -> x = mEvent (k + 4 * j)) : Is1 P 83 [.ro (A.enc cEvent l), .int .i64 k] (.int .i64 (k + 4 * l.length)) := by
  refine S.cx.by (S.prog ▸ Tryz.func83) rfl rfl rfl rfl (fun hv ho => ?_)
  cbv
  refine ALoop.go (ι := Int × Int) (fun i => [(5, .int .i64 i.1), (1, .int .i64 i.2)]) [] (fun i => [])
    (fun i => 0 <= i.1 /\ i.1 <= l.length /\ i.2 = k + 4 * i.1) (fun i => ((l.length : Int) - i.1).toNat) (0, k) S.cx.tab S.cx.mix S.eq ?_ ?_ ?_
  · exact ⟨by simp, by simp, by simp⟩
  · cbv
    refine Less.to [] rfl rfl ?_ ?_
    · repeat' (first | exact trivial | exact ⟨rfl, rfl⟩ | apply And.intro)
    · repeat' (first | exact trivial | exact ⟨_, rfl, Nat.zero_le _, rfl⟩ | apply And.intro)
  · rintro ⟨i, q⟩ ⟨h1, h2, h3⟩
    dsimp only at h1 h2 h3
    cbv
    refine LenR.enc S.cx (fun n hn hm => ?_); cbv
    refine Test.lss (fun h => ?_) (fun h => ?_) <;> cbv
    · obtain ⟨x, hx⟩ := get_of_lt (l := l) (i := i.toNat) (by lia)
      have hxe := hl _ x hx
      obtain ⟨node, err, cause, time⟩ := x
      simp only [mEvent, Event.mk.injEq] at hxe
      obtain ⟨enode, eerr, ecause, etime⟩ := hxe
      refine ElemRo.at S.cx (x := (⟨node, err, cause, time⟩ : Event)) rfl (by lia) hx ?_; cbv
      refine Test.neq (fun h => ?_) (fun h => ?_) <;> cbv
      · lia
      refine Arith.go (by lia) (fun q1 hq1 => ?_); cbv
      refine ElemRo.at S.cx (x := (⟨node, err, cause, time⟩ : Event)) rfl (by lia) hx ?_; cbv
      refine Test.neq (fun h => ?_) (fun h => ?_) <;> cbv
      · lia
      refine Arith.go (by lia) (fun q2 hq2 => ?_); cbv
      refine ElemRo.at S.cx (x := (⟨node, err, cause, time⟩ : Event)) rfl (by lia) hx ?_; cbv
      refine Test.neq (fun h => ?_) (fun h => ?_) <;> cbv
      · lia
      refine Arith.go (by lia) (fun q3 hq3 => ?_); cbv
      refine ElemRo.at S.cx (x := (⟨node, err, cause, time⟩ : Event)) rfl (by lia) hx ?_; cbv
      refine Test.neq (fun h => ?_) (fun h => ?_) <;> cbv
      · lia
      refine Arith.go (by lia) (fun q4 hq4 => ?_); cbv
      refine Arith.go (by lia) (fun i' hi' => ?_); cbv
      refine Again.on (i', q4) ?_ ?_ ?_
      · show ((l.length : Int) - i').toNat < ((l.length : Int) - i).toNat
        lia
      · exact ⟨by show 0 <= i'; lia, by show i' <= l.length; lia, by show q4 = k + 4 * i'; lia⟩
      · cbv
        refine Less.to [] rfl rfl ?_ ?_
        · repeat' (first | exact trivial | exact ⟨rfl, rfl⟩ | apply And.intro)
        · repeat' (first | exact trivial | exact ⟨_, rfl, Nat.zero_le _, rfl⟩ | apply And.intro)
    · exact Done.to (.int .i64 q) [] rfl rfl trivial ⟨by congr 1; lia, rfl⟩

theorem heldAfterS_c (S : Se P A) (l : List After) (k : Int) (h0 : 0 <= k) (hk : k + 5 * l.length <= 4611686018427387904) (hl : ∀ (j : Nat) (x : After), l[j]? = some x -> x = mAfter (k + 5 * j)) : Is1 P 185 [.ro (A.enc cAfter l), .int .i64 k] (.int .i64 (k + 5 * l.length)) := by
  refine S.cx.by (S.prog ▸ Tryz.func185) rfl rfl rfl rfl (fun hv ho => ?_)
  cbv
  refine ALoop.go (ι := Int × Int) (fun i => [(5, .int .i64 i.1), (1, .int .i64 i.2)]) [] (fun i => [])
    (fun i => 0 <= i.1 /\ i.1 <= l.length /\ i.2 = k + 5 * i.1) (fun i => ((l.length : Int) - i.1).toNat) (0, k) S.cx.tab S.cx.mix S.eq ?_ ?_ ?_
  · exact ⟨by simp, by simp, by simp⟩
  · cbv
    refine Less.to [] rfl rfl ?_ ?_
    · repeat' (first | exact trivial | exact ⟨rfl, rfl⟩ | apply And.intro)
    · repeat' (first | exact trivial | exact ⟨_, rfl, Nat.zero_le _, rfl⟩ | apply And.intro)
  · rintro ⟨i, q⟩ ⟨h1, h2, h3⟩
    dsimp only at h1 h2 h3
    cbv
    refine LenR.enc S.cx (fun n hn hm => ?_); cbv
    refine Test.lss (fun h => ?_) (fun h => ?_) <;> cbv
    · obtain ⟨x, hx⟩ := get_of_lt (l := l) (i := i.toNat) (by lia)
      have hxe := hl _ x hx
      obtain ⟨slot, age, node, func, queued⟩ := x
      simp only [mAfter, After.mk.injEq] at hxe
      obtain ⟨eslot, eage, enode, efunc, equeued⟩ := hxe
      refine ElemRo.at S.cx (x := (⟨slot, age, node, func, queued⟩ : After)) rfl (by lia) hx ?_; cbv
      refine Test.neq (fun h => ?_) (fun h => ?_) <;> cbv
      · lia
      refine Arith.go (by lia) (fun q1 hq1 => ?_); cbv
      refine ElemRo.at S.cx (x := (⟨slot, age, node, func, queued⟩ : After)) rfl (by lia) hx ?_; cbv
      refine Test.neq (fun h => ?_) (fun h => ?_) <;> cbv
      · lia
      refine Arith.go (by lia) (fun q2 hq2 => ?_); cbv
      refine ElemRo.at S.cx (x := (⟨slot, age, node, func, queued⟩ : After)) rfl (by lia) hx ?_; cbv
      refine Test.neq (fun h => ?_) (fun h => ?_) <;> cbv
      · lia
      refine Arith.go (by lia) (fun q3 hq3 => ?_); cbv
      refine ElemRo.at S.cx (x := (⟨slot, age, node, func, queued⟩ : After)) rfl (by lia) hx ?_; cbv
      refine Test.neq (fun h => ?_) (fun h => ?_) <;> cbv
      · lia
      refine Arith.go (by lia) (fun q4 hq4 => ?_); cbv
      refine ElemRo.at S.cx (x := (⟨slot, age, node, func, queued⟩ : After)) rfl (by lia) hx ?_; cbv
      refine RemA.go (by decide) (fun r hr => ?_); cbv
      refine Test.eqB (fun b hb => ?_); cbv
      have hqq : q4 = k + 5 * (i.toNat : Int) + 4 := by lia
      obtain rfl : b = queued := by rw [hb, hr, hqq, equeued]
      clear hb hr equeued
      cases b <;> cbv
      all_goals
        refine Arith.go (by lia) (fun q5 hq5 => ?_); cbv
        refine Arith.go (by lia) (fun i' hi' => ?_); cbv
        refine Again.on (i', q5) ?_ ?_ ?_
        · show ((l.length : Int) - i').toNat < ((l.length : Int) - i).toNat
          lia
        · exact ⟨by show 0 <= i'; lia, by show i' <= l.length; lia, by show q5 = k + 5 * i'; lia⟩
        · cbv
          refine Less.to [] rfl rfl ?_ ?_
          · repeat' (first | exact trivial | exact ⟨rfl, rfl⟩ | apply And.intro)
          · repeat' (first | exact trivial | exact ⟨_, rfl, Nat.zero_le _, rfl⟩ | apply And.intro)
    · exact Done.to (.int .i64 q) [] rfl rfl trivial ⟨by congr 1; lia, rfl⟩

theorem heldInsS_c (S : Se P A) (l : List Ins) (k : Int) (h0 : 0 <= k) (hk : k + 3 * l.length <= 4611686018427387904) (hl : ∀ (j : Nat) (x : Ins), l[j]? = some x -> x = mIns (k + 3 * j)) : Is1 P 180 [.ro (A.enc cIns l), .int .i64 k] (.int .i64 (k + 3 * l.length)) := by
  refine S.cx.by (S.prog ▸ Tryz.func180) rfl rfl rfl rfl (fun hv ho => ?_)
  cbv
  refine ALoop.go (ι := Int × Int) (fun i => [(5, .int .i64 i.1), (1, .int .i64 i.2)]) [] (fun i => [])
    (fun i => 0 <= i.1 /\ i.1 <= l.length /\ i.2 = k + 3 * i.1) (fun i => ((l.length : Int) - i.1).toNat) (0, k) S.cx.tab S.cx.mix S.eq ?_ ?_ ?_
  · exact ⟨by simp, by simp, by simp⟩
  · cbv
    refine Less.to [] rfl rfl ?_ ?_
    · repeat' (first | exact trivial | exact ⟨rfl, rfl⟩ | apply And.intro)
    · repeat' (first | exact trivial | exact ⟨_, rfl, Nat.zero_le _, rfl⟩ | apply And.intro)
  · rintro ⟨i, q⟩ ⟨h1, h2, h3⟩
    dsimp only at h1 h2 h3
    cbv
    refine LenR.enc S.cx (fun n hn hm => ?_); cbv
    refine Test.lss (fun h => ?_) (fun h => ?_) <;> cbv
    · obtain ⟨x, hx⟩ := get_of_lt (l := l) (i := i.toNat) (by lia)
      have hxe := hl _ x hx
      obtain ⟨op, a, b⟩ := x
      simp only [mIns, Ins.mk.injEq] at hxe
      obtain ⟨eop, ea, eb⟩ := hxe
      refine ElemRo.at S.cx (x := (⟨op, a, b⟩ : Ins)) rfl (by lia) hx ?_; cbv
      refine Test.neq (fun h => ?_) (fun h => ?_) <;> cbv
      · lia
      refine Arith.go (by lia) (fun q1 hq1 => ?_); cbv
      refine ElemRo.at S.cx (x := (⟨op, a, b⟩ : Ins)) rfl (by lia) hx ?_; cbv
      refine Test.neq (fun h => ?_) (fun h => ?_) <;> cbv
      · lia
      refine Arith.go (by lia) (fun q2 hq2 => ?_); cbv
      refine ElemRo.at S.cx (x := (⟨op, a, b⟩ : Ins)) rfl (by lia) hx ?_; cbv
      refine Test.neq (fun h => ?_) (fun h => ?_) <;> cbv
      · lia
      refine Arith.go (by lia) (fun q3 hq3 => ?_); cbv
      refine Arith.go (by lia) (fun i' hi' => ?_); cbv
      refine Again.on (i', q3) ?_ ?_ ?_
      · show ((l.length : Int) - i').toNat < ((l.length : Int) - i).toNat
        lia
      · exact ⟨by show 0 <= i'; lia, by show i' <= l.length; lia, by show q3 = k + 3 * i'; lia⟩
      · cbv
        refine Less.to [] rfl rfl ?_ ?_
        · repeat' (first | exact trivial | exact ⟨rfl, rfl⟩ | apply And.intro)
        · repeat' (first | exact trivial | exact ⟨_, rfl, Nat.zero_le _, rfl⟩ | apply And.intro)
    · exact Done.to (.int .i64 q) [] rfl rfl trivial ⟨by congr 1; lia, rfl⟩

theorem heldTaskS_c (S : Se P A) (l : List Task) (k : Int) (h0 : 0 <= k) (hk : k + 9 * l.length <= 4611686018427387904) (hl : ∀ (j : Nat) (x : Task), l[j]? = some x -> x = mTask (k + 9 * j)) : Is1 P 87 [.ro (A.enc cTask l), .int .i64 k] (.int .i64 (k + 9 * l.length)) := by
  refine S.cx.by (S.prog ▸ Tryz.func87) rfl rfl rfl rfl (fun hv ho => ?_)
  cbv
  refine ALoop.go (ι := Int × Int) (fun i => [(5, .int .i64 i.1), (1, .int .i64 i.2)]) [] (fun i => [])
    (fun i => 0 <= i.1 /\ i.1 <= l.length /\ i.2 = k + 9 * i.1) (fun i => ((l.length : Int) - i.1).toNat) (0, k) S.cx.tab S.cx.mix S.eq ?_ ?_ ?_
  · exact ⟨by simp, by simp, by simp⟩
  · cbv
    refine Less.to [] rfl rfl ?_ ?_
    · repeat' (first | exact trivial | exact ⟨rfl, rfl⟩ | apply And.intro)
    · repeat' (first | exact trivial | exact ⟨_, rfl, Nat.zero_le _, rfl⟩ | apply And.intro)
  · rintro ⟨i, q⟩ ⟨h1, h2, h3⟩
    dsimp only at h1 h2 h3
    cbv
    refine LenR.enc S.cx (fun n hn hm => ?_); cbv
    refine Test.lss (fun h => ?_) (fun h => ?_) <;> cbv
    · obtain ⟨x, hx⟩ := get_of_lt (l := l) (i := i.toNat) (by lia)
      have hxe := hl _ x hx
      obtain ⟨prog, pc, state, why, what, timer, reg, group, err⟩ := x
      simp only [mTask, Task.mk.injEq] at hxe
      obtain ⟨eprog, epc, estate, ewhy, ewhat, etimer, ereg, egroup, eerr⟩ := hxe
      refine ElemRo.at S.cx (x := (⟨prog, pc, state, why, what, timer, reg, group, err⟩ : Task)) rfl (by lia) hx ?_; cbv
      refine Test.neq (fun h => ?_) (fun h => ?_) <;> cbv
      · lia
      refine Arith.go (by lia) (fun q1 hq1 => ?_); cbv
      refine ElemRo.at S.cx (x := (⟨prog, pc, state, why, what, timer, reg, group, err⟩ : Task)) rfl (by lia) hx ?_; cbv
      refine Test.neq (fun h => ?_) (fun h => ?_) <;> cbv
      · lia
      refine Arith.go (by lia) (fun q2 hq2 => ?_); cbv
      refine ElemRo.at S.cx (x := (⟨prog, pc, state, why, what, timer, reg, group, err⟩ : Task)) rfl (by lia) hx ?_; cbv
      refine Test.neq (fun h => ?_) (fun h => ?_) <;> cbv
      · lia
      refine Arith.go (by lia) (fun q3 hq3 => ?_); cbv
      refine ElemRo.at S.cx (x := (⟨prog, pc, state, why, what, timer, reg, group, err⟩ : Task)) rfl (by lia) hx ?_; cbv
      refine Test.neq (fun h => ?_) (fun h => ?_) <;> cbv
      · lia
      refine Arith.go (by lia) (fun q4 hq4 => ?_); cbv
      refine ElemRo.at S.cx (x := (⟨prog, pc, state, why, what, timer, reg, group, err⟩ : Task)) rfl (by lia) hx ?_; cbv
      refine Test.neq (fun h => ?_) (fun h => ?_) <;> cbv
      · lia
      refine Arith.go (by lia) (fun q5 hq5 => ?_); cbv
      refine ElemRo.at S.cx (x := (⟨prog, pc, state, why, what, timer, reg, group, err⟩ : Task)) rfl (by lia) hx ?_; cbv
      refine Test.neq (fun h => ?_) (fun h => ?_) <;> cbv
      · lia
      refine Arith.go (by lia) (fun q6 hq6 => ?_); cbv
      refine ElemRo.at S.cx (x := (⟨prog, pc, state, why, what, timer, reg, group, err⟩ : Task)) rfl (by lia) hx ?_; cbv
      refine Test.neq (fun h => ?_) (fun h => ?_) <;> cbv
      · lia
      refine Arith.go (by lia) (fun q7 hq7 => ?_); cbv
      refine ElemRo.at S.cx (x := (⟨prog, pc, state, why, what, timer, reg, group, err⟩ : Task)) rfl (by lia) hx ?_; cbv
      refine Test.neq (fun h => ?_) (fun h => ?_) <;> cbv
      · lia
      refine Arith.go (by lia) (fun q8 hq8 => ?_); cbv
      refine ElemRo.at S.cx (x := (⟨prog, pc, state, why, what, timer, reg, group, err⟩ : Task)) rfl (by lia) hx ?_; cbv
      refine Test.neq (fun h => ?_) (fun h => ?_) <;> cbv
      · lia
      refine Arith.go (by lia) (fun q9 hq9 => ?_); cbv
      refine Arith.go (by lia) (fun i' hi' => ?_); cbv
      refine Again.on (i', q9) ?_ ?_ ?_
      · show ((l.length : Int) - i').toNat < ((l.length : Int) - i).toNat
        lia
      · exact ⟨by show 0 <= i'; lia, by show i' <= l.length; lia, by show q9 = k + 9 * i'; lia⟩
      · cbv
        refine Less.to [] rfl rfl ?_ ?_
        · repeat' (first | exact trivial | exact ⟨rfl, rfl⟩ | apply And.intro)
        · repeat' (first | exact trivial | exact ⟨_, rfl, Nat.zero_le _, rfl⟩ | apply And.intro)
    · exact Done.to (.int .i64 q) [] rfl rfl trivial ⟨by congr 1; lia, rfl⟩

theorem heldSightS_c (S : Se P A) (l : List Sight) (k : Int) (h0 : 0 <= k) (hk : k + 4 * l.length <= 4611686018427387904) (hl : ∀ (j : Nat) (x : Sight), l[j]? = some x -> x = mSight (k + 4 * j)) : Is1 P 89 [.ro (A.enc cSight l), .int .i64 k] (.int .i64 (k + 4 * l.length)) := by
  refine S.cx.by (S.prog ▸ Tryz.func89) rfl rfl rfl rfl (fun hv ho => ?_)
  cbv
  refine ALoop.go (ι := Int × Int) (fun i => [(5, .int .i64 i.1), (1, .int .i64 i.2)]) [] (fun i => [])
    (fun i => 0 <= i.1 /\ i.1 <= l.length /\ i.2 = k + 4 * i.1) (fun i => ((l.length : Int) - i.1).toNat) (0, k) S.cx.tab S.cx.mix S.eq ?_ ?_ ?_
  · exact ⟨by simp, by simp, by simp⟩
  · cbv
    refine Less.to [] rfl rfl ?_ ?_
    · repeat' (first | exact trivial | exact ⟨rfl, rfl⟩ | apply And.intro)
    · repeat' (first | exact trivial | exact ⟨_, rfl, Nat.zero_le _, rfl⟩ | apply And.intro)
  · rintro ⟨i, q⟩ ⟨h1, h2, h3⟩
    dsimp only at h1 h2 h3
    cbv
    refine LenR.enc S.cx (fun n hn hm => ?_); cbv
    refine Test.lss (fun h => ?_) (fun h => ?_) <;> cbv
    · obtain ⟨x, hx⟩ := get_of_lt (l := l) (i := i.toNat) (by lia)
      have hxe := hl _ x hx
      obtain ⟨node, err, cause, at_⟩ := x
      simp only [mSight, Sight.mk.injEq] at hxe
      obtain ⟨enode, eerr, ecause, eat_⟩ := hxe
      refine ElemRo.at S.cx (x := (⟨node, err, cause, at_⟩ : Sight)) rfl (by lia) hx ?_; cbv
      refine Test.neq (fun h => ?_) (fun h => ?_) <;> cbv
      · lia
      refine Arith.go (by lia) (fun q1 hq1 => ?_); cbv
      refine ElemRo.at S.cx (x := (⟨node, err, cause, at_⟩ : Sight)) rfl (by lia) hx ?_; cbv
      refine Test.neq (fun h => ?_) (fun h => ?_) <;> cbv
      · lia
      refine Arith.go (by lia) (fun q2 hq2 => ?_); cbv
      refine ElemRo.at S.cx (x := (⟨node, err, cause, at_⟩ : Sight)) rfl (by lia) hx ?_; cbv
      refine Test.neq (fun h => ?_) (fun h => ?_) <;> cbv
      · lia
      refine Arith.go (by lia) (fun q3 hq3 => ?_); cbv
      refine ElemRo.at S.cx (x := (⟨node, err, cause, at_⟩ : Sight)) rfl (by lia) hx ?_; cbv
      refine Test.neq (fun h => ?_) (fun h => ?_) <;> cbv
      · lia
      refine Arith.go (by lia) (fun q4 hq4 => ?_); cbv
      refine Arith.go (by lia) (fun i' hi' => ?_); cbv
      refine Again.on (i', q4) ?_ ?_ ?_
      · show ((l.length : Int) - i').toNat < ((l.length : Int) - i).toNat
        lia
      · exact ⟨by show 0 <= i'; lia, by show i' <= l.length; lia, by show q4 = k + 4 * i'; lia⟩
      · cbv
        refine Less.to [] rfl rfl ?_ ?_
        · repeat' (first | exact trivial | exact ⟨rfl, rfl⟩ | apply And.intro)
        · repeat' (first | exact trivial | exact ⟨_, rfl, Nat.zero_le _, rfl⟩ | apply And.intro)
    · exact Done.to (.int .i64 q) [] rfl rfl trivial ⟨by congr 1; lia, rfl⟩

end Go.Proofs.YtihfpbhalnedcaaGreat.AM
