/- Contracts: the laws' own helpers: flat types. (printed by gen.py) -/
import Derived.Test.YtihfpbhalnedcaaGreatG2
set_option linter.unusedVariables false
set_option linter.unusedSimpArgs false
namespace Go.Proofs.YtihfpbhalnedcaaGreat.AM
open Go Go.Proofs

set_option maxRecDepth 100000

variable {P : Program} {A : Sy}

theorem eqInt64S_c (S : Se P A) (l l' : List Int) : Tests P 70 [.ro (A.enc cInt64 l), .ro (A.enc cInt64 l')] (l = l') := by
  refine S.cx.by (S.prog ▸ Tryz.func70) rfl rfl rfl rfl (fun hv ho => ?_)
  cbv
  refine LenR.enc S.cx (fun n hn hm => ?_); cbv
  refine LenR.enc S.cx (fun n' hn' hm' => ?_); cbv
  refine Test.neq (fun h => ?_) (fun h => ?_) <;> cbv
  · exact Done.no fun e => h (by subst e; lia)
  refine ALoop.go (ι := Int) (fun i => [(5, .int .i64 i)]) [] (fun i => []) (fun i => 0 <= i /\ i <= n /\ ∀ j : Nat, (j : Int) < i -> l[j]? = l'[j]?) (fun i => (n - i).toNat) 0 S.cx.tab S.cx.mix S.eq ?_ ?_ ?_
  · exact ⟨by simp, by lia, fun j hj => by lia⟩
  · cbv
    refine Less.to [] rfl rfl ?_ ?_
    · repeat' (first | exact trivial | exact ⟨rfl, rfl⟩ | apply And.intro)
    · repeat' (first | exact trivial | exact ⟨_, rfl, Nat.zero_le _, rfl⟩ | apply And.intro)
  · rintro i ⟨h1, h2, h3⟩
    cbv
    refine LenR.enc S.cx (fun q hq hmq => ?_); cbv
    refine Test.lss (fun h => ?_) (fun h => ?_) <;> cbv
    rotate_left
    · exact Done.yes (ext_lt (by lia) fun j hj => h3 j (by lia))
    · skip
      refine ⟨⟨by kernel_rfl, fun hreal => ?_⟩⟩
      refine ElemRo.enc S.cx len_cInt64 (by lia) (by lia) (fun x hx => ?_); cbv
      refine ElemRo.enc S.cx len_cInt64 (by lia) (by lia) (fun y hy => ?_); cbv
      refine Test.neq (fun h => ?_) (fun h => ?_) <;> cbv
      · exact Done.no fun e => h (by subst e; rw [hx] at hy; exact Option.some.inj hy)
      have hxy : l[i.toNat]? = l'[i.toNat]? := by rw [hx, hy, h]
      refine Arith.go (by simp only [maxLen] at hmq; lia) (fun i' hi' => ?_); cbv
      refine Again.on i' ?_ ?_ ?_
      · show (n - i').toNat < (n - i).toNat
        lia
      · refine ⟨by show 0 <= i'; lia, by show i' <= n; lia, fun j hj => ?_⟩
        by_cases hji : (j : Int) = i
        · have : j = i.toNat := by lia
          rw [this]; exact hxy
        · exact h3 j (by lia)
      · cbv
        refine Less.to [] rfl rfl ?_ ?_
        · repeat' (first | exact trivial | exact ⟨rfl, rfl⟩ | apply And.intro)
        · repeat' (first | exact trivial | exact ⟨_, rfl, Nat.zero_le _, rfl⟩ | apply And.intro)

theorem eqBoolS_c (S : Se P A) (l l' : List Bool) : Tests P 166 [.ro (A.enc cBool l), .ro (A.enc cBool l')] (l = l') := by
  refine S.cx.by (S.prog ▸ Tryz.func166) rfl rfl rfl rfl (fun hv ho => ?_)
  cbv
  refine LenR.enc S.cx (fun n hn hm => ?_); cbv
  refine LenR.enc S.cx (fun n' hn' hm' => ?_); cbv
  refine Test.neq (fun h => ?_) (fun h => ?_) <;> cbv
  · exact Done.no fun e => h (by subst e; lia)
  refine ALoop.go (ι := Int) (fun i => [(5, .int .i64 i)]) [] (fun i => []) (fun i => 0 <= i /\ i <= n /\ ∀ j : Nat, (j : Int) < i -> l[j]? = l'[j]?) (fun i => (n - i).toNat) 0 S.cx.tab S.cx.mix S.eq ?_ ?_ ?_
  · exact ⟨by simp, by lia, fun j hj => by lia⟩
  · cbv
    refine Less.to [] rfl rfl ?_ ?_
    · repeat' (first | exact trivial | exact ⟨rfl, rfl⟩ | apply And.intro)
    · repeat' (first | exact trivial | exact ⟨_, rfl, Nat.zero_le _, rfl⟩ | apply And.intro)
  · rintro i ⟨h1, h2, h3⟩
    cbv
    refine LenR.enc S.cx (fun q hq hmq => ?_); cbv
    refine Test.lss (fun h => ?_) (fun h => ?_) <;> cbv
    rotate_left
    · exact Done.yes (ext_lt (by lia) fun j hj => h3 j (by lia))
    · skip
      refine ⟨⟨by kernel_rfl, fun hreal => ?_⟩⟩
      refine ElemRo.enc S.cx len_cBool (by lia) (by lia) (fun x hx => ?_); cbv
      refine ElemRo.enc S.cx len_cBool (by lia) (by lia) (fun y hy => ?_); cbv
      by_cases h : x = y
      rotate_left
      · cases x <;> cases y <;> first | exact absurd rfl h | (cbv; exact Done.no fun e => by subst e; rw [hx] at hy; exact h (Option.some.inj hy))
      have hxy : l[i.toNat]? = l'[i.toNat]? := by rw [hx, hy, h]
      subst h
      cases x
      all_goals
        cbv
        refine Arith.go (by simp only [maxLen] at hmq; lia) (fun i' hi' => ?_); cbv
        refine Again.on i' ?_ ?_ ?_
        · show (n - i').toNat < (n - i).toNat
          lia
        · refine ⟨by show 0 <= i'; lia, by show i' <= n; lia, fun j hj => ?_⟩
          by_cases hji : (j : Int) = i
          · have : j = i.toNat := by lia
            rw [this]; exact hxy
          · exact h3 j (by lia)
        · cbv
          refine Less.to [] rfl rfl ?_ ?_
          · repeat' (first | exact trivial | exact ⟨rfl, rfl⟩ | apply And.intro)
          · repeat' (first | exact trivial | exact ⟨_, rfl, Nat.zero_le _, rfl⟩ | apply And.intro)

theorem eqTwigS_c (S : Se P A) (l l' : List Twig) : Tests P 167 [.ro (A.enc cTwig l), .ro (A.enc cTwig l')] (l = l') := by
  refine S.cx.by (S.prog ▸ Tryz.func167) rfl rfl rfl rfl (fun hv ho => ?_)
  cbv
  refine LenR.enc S.cx (fun n hn hm => ?_); cbv
  refine LenR.enc S.cx (fun n' hn' hm' => ?_); cbv
  refine Test.neq (fun h => ?_) (fun h => ?_) <;> cbv
  · exact Done.no fun e => h (by subst e; lia)
  refine ALoop.go (ι := Int) (fun i => [(5, .int .i64 i)]) [] (fun i => []) (fun i => 0 <= i /\ i <= n /\ ∀ j : Nat, (j : Int) < i -> l[j]? = l'[j]?) (fun i => (n - i).toNat) 0 S.cx.tab S.cx.mix S.eq ?_ ?_ ?_
  · exact ⟨by simp, by lia, fun j hj => by lia⟩
  · cbv
    refine Less.to [] rfl rfl ?_ ?_
    · repeat' (first | exact trivial | exact ⟨rfl, rfl⟩ | apply And.intro)
    · repeat' (first | exact trivial | exact ⟨_, rfl, Nat.zero_le _, rfl⟩ | apply And.intro)
  · rintro i ⟨h1, h2, h3⟩
    cbv
    refine LenR.enc S.cx (fun q hq hmq => ?_); cbv
    refine Test.lss (fun h => ?_) (fun h => ?_) <;> cbv
    rotate_left
    · exact Done.yes (ext_lt (by lia) fun j hj => h3 j (by lia))
    · skip
      refine ⟨⟨by kernel_rfl, fun hreal => ?_⟩⟩
      refine ElemRo.enc S.cx len_cTwig (by lia) (by lia) (fun x hx => ?_)
      obtain ⟨due, seq, lefts⟩ := x
      cbv
      refine ElemRo.enc S.cx len_cTwig (by lia) (by lia) (fun y hy => ?_)
      obtain ⟨due', seq', lefts'⟩ := y
      cbv
      refine ACall.testD (dp := false) (eqTwig_c S ⟨due, seq, lefts⟩ ⟨due', seq', lefts'⟩) ⟨rfl, ?_, trivial⟩ rfl (fun h => ?_) (fun h => ?_)
      · repeat' (first | exact trivial | exact rfl | refine ⟨?_, ?_⟩)
      rotate_left
      · cbv
        exact Done.no fun e => h (by subst e; rw [hx] at hy; exact Option.some.inj hy)
      have hxy : l[i.toNat]? = l'[i.toNat]? := by rw [hx, hy, h]
      cbv
      refine Arith.go (by simp only [maxLen] at hmq; lia) (fun i' hi' => ?_); cbv
      refine Again.on i' ?_ ?_ ?_
      · show (n - i').toNat < (n - i).toNat
        lia
      · refine ⟨by show 0 <= i'; lia, by show i' <= n; lia, fun j hj => ?_⟩
        by_cases hji : (j : Int) = i
        · have : j = i.toNat := by lia
          rw [this]; exact hxy
        · exact h3 j (by lia)
      · cbv
        refine Less.to [] rfl rfl ?_ ?_
        · repeat' (first | exact trivial | exact ⟨rfl, rfl⟩ | apply And.intro)
        · repeat' (first | exact trivial | exact ⟨_, rfl, Nat.zero_le _, rfl⟩ | apply And.intro)

theorem eqTimerS_c (S : Se P A) (l l' : List Timer) : Tests P 168 [.ro (A.enc cTimer l), .ro (A.enc cTimer l')] (l = l') := by
  refine S.cx.by (S.prog ▸ Tryz.func168) rfl rfl rfl rfl (fun hv ho => ?_)
  cbv
  refine LenR.enc S.cx (fun n hn hm => ?_); cbv
  refine LenR.enc S.cx (fun n' hn' hm' => ?_); cbv
  refine Test.neq (fun h => ?_) (fun h => ?_) <;> cbv
  · exact Done.no fun e => h (by subst e; lia)
  refine ALoop.go (ι := Int) (fun i => [(5, .int .i64 i)]) [] (fun i => []) (fun i => 0 <= i /\ i <= n /\ ∀ j : Nat, (j : Int) < i -> l[j]? = l'[j]?) (fun i => (n - i).toNat) 0 S.cx.tab S.cx.mix S.eq ?_ ?_ ?_
  · exact ⟨by simp, by lia, fun j hj => by lia⟩
  · cbv
    refine Less.to [] rfl rfl ?_ ?_
    · repeat' (first | exact trivial | exact ⟨rfl, rfl⟩ | apply And.intro)
    · repeat' (first | exact trivial | exact ⟨_, rfl, Nat.zero_le _, rfl⟩ | apply And.intro)
  · rintro i ⟨h1, h2, h3⟩
    cbv
    refine LenR.enc S.cx (fun q hq hmq => ?_); cbv
    refine Test.lss (fun h => ?_) (fun h => ?_) <;> cbv
    rotate_left
    · exact Done.yes (ext_lt (by lia) fun j hj => h3 j (by lia))
    · skip
      refine ⟨⟨by kernel_rfl, fun hreal => ?_⟩⟩
      refine ElemRo.enc S.cx len_cTimer (by lia) (by lia) (fun x hx => ?_)
      obtain ⟨seq, due, what, whom, armed⟩ := x
      cbv
      refine ElemRo.enc S.cx len_cTimer (by lia) (by lia) (fun y hy => ?_)
      obtain ⟨seq', due', what', whom', armed'⟩ := y
      cbv
      refine ACall.testD (dp := false) (eqTimer_c S ⟨seq, due, what, whom, armed⟩ ⟨seq', due', what', whom', armed'⟩) ⟨rfl, ?_, trivial⟩ rfl (fun h => ?_) (fun h => ?_)
      · repeat' (first | exact trivial | exact rfl | refine ⟨?_, ?_⟩)
      rotate_left
      · cbv
        exact Done.no fun e => h (by subst e; rw [hx] at hy; exact Option.some.inj hy)
      have hxy : l[i.toNat]? = l'[i.toNat]? := by rw [hx, hy, h]
      cbv
      refine Arith.go (by simp only [maxLen] at hmq; lia) (fun i' hi' => ?_); cbv
      refine Again.on i' ?_ ?_ ?_
      · show (n - i').toNat < (n - i).toNat
        lia
      · refine ⟨by show 0 <= i'; lia, by show i' <= n; lia, fun j hj => ?_⟩
        by_cases hji : (j : Int) = i
        · have : j = i.toNat := by lia
          rw [this]; exact hxy
        · exact h3 j (by lia)
      · cbv
        refine Less.to [] rfl rfl ?_ ?_
        · repeat' (first | exact trivial | exact ⟨rfl, rfl⟩ | apply And.intro)
        · repeat' (first | exact trivial | exact ⟨_, rfl, Nat.zero_le _, rfl⟩ | apply And.intro)

theorem eqNodeS_c (S : Se P A) (l l' : List Node) : Tests P 62 [.ro (A.enc cNode l), .ro (A.enc cNode l')] (l = l') := by
  refine S.cx.by (S.prog ▸ Tryz.func62) rfl rfl rfl rfl (fun hv ho => ?_)
  cbv
  refine LenR.enc S.cx (fun n hn hm => ?_); cbv
  refine LenR.enc S.cx (fun n' hn' hm' => ?_); cbv
  refine Test.neq (fun h => ?_) (fun h => ?_) <;> cbv
  · exact Done.no fun e => h (by subst e; lia)
  refine ALoop.go (ι := Int) (fun i => [(5, .int .i64 i)]) [] (fun i => []) (fun i => 0 <= i /\ i <= n /\ ∀ j : Nat, (j : Int) < i -> l[j]? = l'[j]?) (fun i => (n - i).toNat) 0 S.cx.tab S.cx.mix S.eq ?_ ?_ ?_
  · exact ⟨by simp, by lia, fun j hj => by lia⟩
  · cbv
    refine Less.to [] rfl rfl ?_ ?_
    · repeat' (first | exact trivial | exact ⟨rfl, rfl⟩ | apply And.intro)
    · repeat' (first | exact trivial | exact ⟨_, rfl, Nat.zero_le _, rfl⟩ | apply And.intro)
  · rintro i ⟨h1, h2, h3⟩
    cbv
    refine LenR.enc S.cx (fun q hq hmq => ?_); cbv
    refine Test.lss (fun h => ?_) (fun h => ?_) <;> cbv
    rotate_left
    · exact Done.yes (ext_lt (by lia) fun j hj => h3 j (by lia))
    · skip
      refine ⟨⟨by kernel_rfl, fun hreal => ?_⟩⟩
      refine ElemRo.enc S.cx len_cNode (by lia) (by lia) (fun x hx => ?_)
      obtain ⟨kind, up, due, key, value⟩ := x
      cbv
      refine ElemRo.enc S.cx len_cNode (by lia) (by lia) (fun y hy => ?_)
      obtain ⟨kind', up', due', key', value'⟩ := y
      cbv
      refine ACall.testD (dp := false) (eqNode_c S ⟨kind, up, due, key, value⟩ ⟨kind', up', due', key', value'⟩) ⟨rfl, ?_, trivial⟩ rfl (fun h => ?_) (fun h => ?_)
      · repeat' (first | exact trivial | exact rfl | refine ⟨?_, ?_⟩)
      rotate_left
      · cbv
        exact Done.no fun e => h (by subst e; rw [hx] at hy; exact Option.some.inj hy)
      have hxy : l[i.toNat]? = l'[i.toNat]? := by rw [hx, hy, h]
      cbv
      refine Arith.go (by simp only [maxLen] at hmq; lia) (fun i' hi' => ?_); cbv
      refine Again.on i' ?_ ?_ ?_
      · show (n - i').toNat < (n - i).toNat
        lia
      · refine ⟨by show 0 <= i'; lia, by show i' <= n; lia, fun j hj => ?_⟩
        by_cases hji : (j : Int) = i
        · have : j = i.toNat := by lia
          rw [this]; exact hxy
        · exact h3 j (by lia)
      · cbv
        refine Less.to [] rfl rfl ?_ ?_
        · repeat' (first | exact trivial | exact ⟨rfl, rfl⟩ | apply And.intro)
        · repeat' (first | exact trivial | exact ⟨_, rfl, Nat.zero_le _, rfl⟩ | apply And.intro)

theorem eqEventS_c (S : Se P A) (l l' : List Event) : Tests P 63 [.ro (A.enc cEvent l), .ro (A.enc cEvent l')] (l = l') := by
  refine S.cx.by (S.prog ▸ Tryz.func63) rfl rfl rfl rfl (fun hv ho => ?_)
  cbv
  refine LenR.enc S.cx (fun n hn hm => ?_); cbv
  refine LenR.enc S.cx (fun n' hn' hm' => ?_); cbv
  refine Test.neq (fun h => ?_) (fun h => ?_) <;> cbv
  · exact Done.no fun e => h (by subst e; lia)
  refine ALoop.go (ι := Int) (fun i => [(5, .int .i64 i)]) [] (fun i => []) (fun i => 0 <= i /\ i <= n /\ ∀ j : Nat, (j : Int) < i -> l[j]? = l'[j]?) (fun i => (n - i).toNat) 0 S.cx.tab S.cx.mix S.eq ?_ ?_ ?_
  · exact ⟨by simp, by lia, fun j hj => by lia⟩
  · cbv
    refine Less.to [] rfl rfl ?_ ?_
    · repeat' (first | exact trivial | exact ⟨rfl, rfl⟩ | apply And.intro)
    · repeat' (first | exact trivial | exact ⟨_, rfl, Nat.zero_le _, rfl⟩ | apply And.intro)
  · rintro i ⟨h1, h2, h3⟩
    cbv
    refine LenR.enc S.cx (fun q hq hmq => ?_); cbv
    refine Test.lss (fun h => ?_) (fun h => ?_) <;> cbv
    rotate_left
    · exact Done.yes (ext_lt (by lia) fun j hj => h3 j (by lia))
    · skip
      refine ⟨⟨by kernel_rfl, fun hreal => ?_⟩⟩
      refine ElemRo.enc S.cx len_cEvent (by lia) (by lia) (fun x hx => ?_)
      obtain ⟨node, err, cause, time⟩ := x
      cbv
      refine ElemRo.enc S.cx len_cEvent (by lia) (by lia) (fun y hy => ?_)
      obtain ⟨node', err', cause', time'⟩ := y
      cbv
      refine ACall.testD (dp := false) (eqEvent_c S ⟨node, err, cause, time⟩ ⟨node', err', cause', time'⟩) ⟨rfl, ?_, trivial⟩ rfl (fun h => ?_) (fun h => ?_)
      · repeat' (first | exact trivial | exact rfl | refine ⟨?_, ?_⟩)
      rotate_left
      · cbv
        exact Done.no fun e => h (by subst e; rw [hx] at hy; exact Option.some.inj hy)
      have hxy : l[i.toNat]? = l'[i.toNat]? := by rw [hx, hy, h]
      cbv
      refine Arith.go (by simp only [maxLen] at hmq; lia) (fun i' hi' => ?_); cbv
      refine Again.on i' ?_ ?_ ?_
      · show (n - i').toNat < (n - i).toNat
        lia
      · refine ⟨by show 0 <= i'; lia, by show i' <= n; lia, fun j hj => ?_⟩
        by_cases hji : (j : Int) = i
        · have : j = i.toNat := by lia
          rw [this]; exact hxy
        · exact h3 j (by lia)
      · cbv
        refine Less.to [] rfl rfl ?_ ?_
        · repeat' (first | exact trivial | exact ⟨rfl, rfl⟩ | apply And.intro)
        · repeat' (first | exact trivial | exact ⟨_, rfl, Nat.zero_le _, rfl⟩ | apply And.intro)

theorem eqAfterS_c (S : Se P A) (l l' : List After) : Tests P 170 [.ro (A.enc cAfter l), .ro (A.enc cAfter l')] (l = l') := by
  refine S.cx.by (S.prog ▸ Tryz.func170) rfl rfl rfl rfl (fun hv ho => ?_)
  cbv
  refine LenR.enc S.cx (fun n hn hm => ?_); cbv
  refine LenR.enc S.cx (fun n' hn' hm' => ?_); cbv
  refine Test.neq (fun h => ?_) (fun h => ?_) <;> cbv
  · exact Done.no fun e => h (by subst e; lia)
  refine ALoop.go (ι := Int) (fun i => [(5, .int .i64 i)]) [] (fun i => []) (fun i => 0 <= i /\ i <= n /\ ∀ j : Nat, (j : Int) < i -> l[j]? = l'[j]?) (fun i => (n - i).toNat) 0 S.cx.tab S.cx.mix S.eq ?_ ?_ ?_
  · exact ⟨by simp, by lia, fun j hj => by lia⟩
  · cbv
    refine Less.to [] rfl rfl ?_ ?_
    · repeat' (first | exact trivial | exact ⟨rfl, rfl⟩ | apply And.intro)
    · repeat' (first | exact trivial | exact ⟨_, rfl, Nat.zero_le _, rfl⟩ | apply And.intro)
  · rintro i ⟨h1, h2, h3⟩
    cbv
    refine LenR.enc S.cx (fun q hq hmq => ?_); cbv
    refine Test.lss (fun h => ?_) (fun h => ?_) <;> cbv
    rotate_left
    · exact Done.yes (ext_lt (by lia) fun j hj => h3 j (by lia))
    · skip
      refine ⟨⟨by kernel_rfl, fun hreal => ?_⟩⟩
      refine ElemRo.enc S.cx len_cAfter (by lia) (by lia) (fun x hx => ?_)
      obtain ⟨slot, age, node, func, queued⟩ := x
      cbv
      refine ElemRo.enc S.cx len_cAfter (by lia) (by lia) (fun y hy => ?_)
      obtain ⟨slot', age', node', func', queued'⟩ := y
      cbv
      refine ACall.testD (dp := false) (eqAfter_c S ⟨slot, age, node, func, queued⟩ ⟨slot', age', node', func', queued'⟩) ⟨rfl, ?_, trivial⟩ rfl (fun h => ?_) (fun h => ?_)
      · repeat' (first | exact trivial | exact rfl | refine ⟨?_, ?_⟩)
      rotate_left
      · cbv
        exact Done.no fun e => h (by subst e; rw [hx] at hy; exact Option.some.inj hy)
      have hxy : l[i.toNat]? = l'[i.toNat]? := by rw [hx, hy, h]
      cbv
      refine Arith.go (by simp only [maxLen] at hmq; lia) (fun i' hi' => ?_); cbv
      refine Again.on i' ?_ ?_ ?_
      · show (n - i').toNat < (n - i).toNat
        lia
      · refine ⟨by show 0 <= i'; lia, by show i' <= n; lia, fun j hj => ?_⟩
        by_cases hji : (j : Int) = i
        · have : j = i.toNat := by lia
          rw [this]; exact hxy
        · exact h3 j (by lia)
      · cbv
        refine Less.to [] rfl rfl ?_ ?_
        · repeat' (first | exact trivial | exact ⟨rfl, rfl⟩ | apply And.intro)
        · repeat' (first | exact trivial | exact ⟨_, rfl, Nat.zero_le _, rfl⟩ | apply And.intro)

theorem eqInsS_c (S : Se P A) (l l' : List Ins) : Tests P 163 [.ro (A.enc cIns l), .ro (A.enc cIns l')] (l = l') := by
  refine S.cx.by (S.prog ▸ Tryz.func163) rfl rfl rfl rfl (fun hv ho => ?_)
  cbv
  refine LenR.enc S.cx (fun n hn hm => ?_); cbv
  refine LenR.enc S.cx (fun n' hn' hm' => ?_); cbv
  refine Test.neq (fun h => ?_) (fun h => ?_) <;> cbv
  · exact Done.no fun e => h (by subst e; lia)
  refine ALoop.go (ι := Int) (fun i => [(5, .int .i64 i)]) [] (fun i => []) (fun i => 0 <= i /\ i <= n /\ ∀ j : Nat, (j : Int) < i -> l[j]? = l'[j]?) (fun i => (n - i).toNat) 0 S.cx.tab S.cx.mix S.eq ?_ ?_ ?_
  · exact ⟨by simp, by lia, fun j hj => by lia⟩
  · cbv
    refine Less.to [] rfl rfl ?_ ?_
    · repeat' (first | exact trivial | exact ⟨rfl, rfl⟩ | apply And.intro)
    · repeat' (first | exact trivial | exact ⟨_, rfl, Nat.zero_le _, rfl⟩ | apply And.intro)
  · rintro i ⟨h1, h2, h3⟩
    cbv
    refine LenR.enc S.cx (fun q hq hmq => ?_); cbv
    refine Test.lss (fun h => ?_) (fun h => ?_) <;> cbv
    rotate_left
    · exact Done.yes (ext_lt (by lia) fun j hj => h3 j (by lia))
    · skip
      refine ⟨⟨by kernel_rfl, fun hreal => ?_⟩⟩
      refine ElemRo.enc S.cx len_cIns (by lia) (by lia) (fun x hx => ?_)
      obtain ⟨op, a, b⟩ := x
      cbv
      refine ElemRo.enc S.cx len_cIns (by lia) (by lia) (fun y hy => ?_)
      obtain ⟨op', a', b'⟩ := y
      cbv
      refine ACall.testD (dp := false) (eqIns_c S ⟨op, a, b⟩ ⟨op', a', b'⟩) ⟨rfl, ?_, trivial⟩ rfl (fun h => ?_) (fun h => ?_)
      · repeat' (first | exact trivial | exact rfl | refine ⟨?_, ?_⟩)
      rotate_left
      · cbv
        exact Done.no fun e => h (by subst e; rw [hx] at hy; exact Option.some.inj hy)
      have hxy : l[i.toNat]? = l'[i.toNat]? := by rw [hx, hy, h]
      cbv
      refine Arith.go (by simp only [maxLen] at hmq; lia) (fun i' hi' => ?_); cbv
      refine Again.on i' ?_ ?_ ?_
      · show (n - i').toNat < (n - i).toNat
        lia
      · refine ⟨by show 0 <= i'; lia, by show i' <= n; lia, fun j hj => ?_⟩
        by_cases hji : (j : Int) = i
        · have : j = i.toNat := by lia
          rw [this]; exact hxy
        · exact h3 j (by lia)
      · cbv
        refine Less.to [] rfl rfl ?_ ?_
        · repeat' (first | exact trivial | exact ⟨rfl, rfl⟩ | apply And.intro)
        · repeat' (first | exact trivial | exact ⟨_, rfl, Nat.zero_le _, rfl⟩ | apply And.intro)

theorem eqTaskS_c (S : Se P A) (l l' : List Task) : Tests P 67 [.ro (A.enc cTask l), .ro (A.enc cTask l')] (l = l') := by
  refine S.cx.by (S.prog ▸ Tryz.func67) rfl rfl rfl rfl (fun hv ho => ?_)
  cbv
  refine LenR.enc S.cx (fun n hn hm => ?_); cbv
  refine LenR.enc S.cx (fun n' hn' hm' => ?_); cbv
  refine Test.neq (fun h => ?_) (fun h => ?_) <;> cbv
  · exact Done.no fun e => h (by subst e; lia)
  refine ALoop.go (ι := Int) (fun i => [(5, .int .i64 i)]) [] (fun i => []) (fun i => 0 <= i /\ i <= n /\ ∀ j : Nat, (j : Int) < i -> l[j]? = l'[j]?) (fun i => (n - i).toNat) 0 S.cx.tab S.cx.mix S.eq ?_ ?_ ?_
  · exact ⟨by simp, by lia, fun j hj => by lia⟩
  · cbv
    refine Less.to [] rfl rfl ?_ ?_
    · repeat' (first | exact trivial | exact ⟨rfl, rfl⟩ | apply And.intro)
    · repeat' (first | exact trivial | exact ⟨_, rfl, Nat.zero_le _, rfl⟩ | apply And.intro)
  · rintro i ⟨h1, h2, h3⟩
    cbv
    refine LenR.enc S.cx (fun q hq hmq => ?_); cbv
    refine Test.lss (fun h => ?_) (fun h => ?_) <;> cbv
    rotate_left
    · exact Done.yes (ext_lt (by lia) fun j hj => h3 j (by lia))
    · skip
      refine ⟨⟨by kernel_rfl, fun hreal => ?_⟩⟩
      refine ElemRo.enc S.cx len_cTask (by lia) (by lia) (fun x hx => ?_)
      obtain ⟨prog, pc, state, why, what, timer, reg, group, err⟩ := x
      cbv
      refine ElemRo.enc S.cx len_cTask (by lia) (by lia) (fun y hy => ?_)
      obtain ⟨prog', pc', state', why', what', timer', reg', group', err'⟩ := y
      cbv
      refine ACall.testD (dp := false) (eqTask_c S ⟨prog, pc, state, why, what, timer, reg, group, err⟩ ⟨prog', pc', state', why', what', timer', reg', group', err'⟩) ⟨rfl, ?_, trivial⟩ rfl (fun h => ?_) (fun h => ?_)
      · repeat' (first | exact trivial | exact rfl | refine ⟨?_, ?_⟩)
      rotate_left
      · cbv
        exact Done.no fun e => h (by subst e; rw [hx] at hy; exact Option.some.inj hy)
      have hxy : l[i.toNat]? = l'[i.toNat]? := by rw [hx, hy, h]
      cbv
      refine Arith.go (by simp only [maxLen] at hmq; lia) (fun i' hi' => ?_); cbv
      refine Again.on i' ?_ ?_ ?_
      · show (n - i').toNat < (n - i).toNat
        lia
      · refine ⟨by show 0 <= i'; lia, by show i' <= n; lia, fun j hj => ?_⟩
        by_cases hji : (j : Int) = i
        · have : j = i.toNat := by lia
          rw [this]; exact hxy
        · exact h3 j (by lia)
      · cbv
        refine Less.to [] rfl rfl ?_ ?_
        · repeat' (first | exact trivial | exact ⟨rfl, rfl⟩ | apply And.intro)
        · repeat' (first | exact trivial | exact ⟨_, rfl, Nat.zero_le _, rfl⟩ | apply And.intro)

theorem eqSightS_c (S : Se P A) (l l' : List Sight) : Tests P 69 [.ro (A.enc cSight l), .ro (A.enc cSight l')] (l = l') := by
  refine S.cx.by (S.prog ▸ Tryz.func69) rfl rfl rfl rfl (fun hv ho => ?_)
  cbv
  refine LenR.enc S.cx (fun n hn hm => ?_); cbv
  refine LenR.enc S.cx (fun n' hn' hm' => ?_); cbv
  refine Test.neq (fun h => ?_) (fun h => ?_) <;> cbv
  · exact Done.no fun e => h (by subst e; lia)
  refine ALoop.go (ι := Int) (fun i => [(5, .int .i64 i)]) [] (fun i => []) (fun i => 0 <= i /\ i <= n /\ ∀ j : Nat, (j : Int) < i -> l[j]? = l'[j]?) (fun i => (n - i).toNat) 0 S.cx.tab S.cx.mix S.eq ?_ ?_ ?_
  · exact ⟨by simp, by lia, fun j hj => by lia⟩
  · cbv
    refine Less.to [] rfl rfl ?_ ?_
    · repeat' (first | exact trivial | exact ⟨rfl, rfl⟩ | apply And.intro)
    · repeat' (first | exact trivial | exact ⟨_, rfl, Nat.zero_le _, rfl⟩ | apply And.intro)
  · rintro i ⟨h1, h2, h3⟩
    cbv
    refine LenR.enc S.cx (fun q hq hmq => ?_); cbv
    refine Test.lss (fun h => ?_) (fun h => ?_) <;> cbv
    rotate_left
    · exact Done.yes (ext_lt (by lia) fun j hj => h3 j (by lia))
    · skip
      refine ⟨⟨by kernel_rfl, fun hreal => ?_⟩⟩
      refine ElemRo.enc S.cx len_cSight (by lia) (by lia) (fun x hx => ?_)
      obtain ⟨node, err, cause, at_⟩ := x
      cbv
      refine ElemRo.enc S.cx len_cSight (by lia) (by lia) (fun y hy => ?_)
      obtain ⟨node', err', cause', at_'⟩ := y
      cbv
      refine ACall.testD (dp := false) (eqSight_c S ⟨node, err, cause, at_⟩ ⟨node', err', cause', at_'⟩) ⟨rfl, ?_, trivial⟩ rfl (fun h => ?_) (fun h => ?_)
      · repeat' (first | exact trivial | exact rfl | refine ⟨?_, ?_⟩)
      rotate_left
      · cbv
        exact Done.no fun e => h (by subst e; rw [hx] at hy; exact Option.some.inj hy)
      have hxy : l[i.toNat]? = l'[i.toNat]? := by rw [hx, hy, h]
      cbv
      refine Arith.go (by simp only [maxLen] at hmq; lia) (fun i' hi' => ?_); cbv
      refine Again.on i' ?_ ?_ ?_
      · show (n - i').toNat < (n - i).toNat
        lia
      · refine ⟨by show 0 <= i'; lia, by show i' <= n; lia, fun j hj => ?_⟩
        by_cases hji : (j : Int) = i
        · have : j = i.toNat := by lia
          rw [this]; exact hxy
        · exact h3 j (by lia)
      · cbv
        refine Less.to [] rfl rfl ?_ ?_
        · repeat' (first | exact trivial | exact ⟨rfl, rfl⟩ | apply And.intro)
        · repeat' (first | exact trivial | exact ⟨_, rfl, Nat.zero_le _, rfl⟩ | apply And.intro)

end Go.Proofs.YtihfpbhalnedcaaGreat.AM
