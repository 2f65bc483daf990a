/- Contracts: the laws' own helpers: flat types. (printed by gen.py) -/
import Derived.Test.YtihfpbhalnedcaaGreatDA
set_option linter.unusedVariables false
set_option linter.unusedSimpArgs false
namespace Go.Proofs.YtihfpbhalnedcaaGreat.AM
open Go Go.Proofs

set_option maxRecDepth 100000

variable {P : Program} {A : Sy}

theorem toHandle_c (S : Se P A) (x : Handle) : Is1 P 25 [.agg (cHandle x)] (.agg (cHandle x)) := by
  obtain ⟨slot, age⟩ := x
  refine S.cx.by (S.prog ▸ Tryz.func25) rfl rfl rfl rfl (fun hv ho => ?_)
  cbv
  refine Done.to _ [] rfl ?_ trivial ⟨rfl, rfl⟩
  repeat' (first | exact trivial | exact rfl | refine ⟨?_, ?_⟩)

theorem eqHandle_c (S : Se P A) (x y : Handle) : Tests P 29 [.agg (cHandle x), .agg (cHandle y)] (x = y) := by
  obtain ⟨slot, age⟩ := x
  obtain ⟨slot', age'⟩ := y
  refine S.cx.by (S.prog ▸ Tryz.func29) rfl rfl rfl rfl (fun hv ho => ?_)
  cbv
  refine Test.neq (fun h => ?_) (fun h => ?_) <;> cbv
  · exact Done.no fun e => h (by cases e; rfl)
  subst h
  refine Test.neq (fun h => ?_) (fun h => ?_) <;> cbv
  · exact Done.no fun e => h (by cases e; rfl)
  subst h
  exact Done.yes rfl

theorem szInt64S_c (S : Se P A) (l : List Int) (left : Int) (h0 : 0 <= left) : Is1 P 43 [.ro (A.enc cInt64 l), .int .i64 left] (.int .i64 (if left < l.length then -1 else left - l.length)) := by
  refine S.cx.by (S.prog ▸ Tryz.func43) rfl rfl rfl rfl (fun hv ho => ?_)
  cbv
  refine LenR.enc S.cx (fun n hn hm => ?_); cbv
  have hl := (hv (.int .i64 left) (by simp)).i64
  refine Arith.go (by simp only [maxLen] at hm; lia) (fun x hx => ?_); cbv
  refine Test.lss (fun h => ?_) (fun h => ?_) <;> cbv
  · refine Done.to _ [] rfl rfl trivial ⟨?_, rfl⟩
    rw [if_pos (by lia)]
  · refine Done.to _ [] rfl rfl trivial ⟨?_, rfl⟩
    rw [if_neg (by lia)]
    congr 1
    lia

theorem toInt64S_c (S : Se P A) (l : List Int) (hb : l.length <= 4294967296) : Is1 P 57 [.ro (A.enc cInt64 l)] (.own 1 true (A.enc cInt64 l)) := by
  refine S.cx.by (S.prog ▸ Tryz.func57) rfl rfl rfl rfl (fun hv ho => ?_)
  cbv
  refine LenR.enc S.cx (fun n hn hm => ?_); cbv
  refine MakeS.enc S.cx (f := cInt64) (0 : Int) rfl (by lia) (by simp only [maxBytes]; lia) (fun N z hN hz => ?_); cbv
  have hzl : z.length = N := by rw [hz]; simp
  refine ALoop.go (ι := Int × List Int) (fun i => [(4, .int .i64 i.1)]) [2020000] (fun i => [(2020000, .arr 1 true (A.enc cInt64 i.2))])
    (fun i => 0 <= i.1 /\ i.1 <= n /\ i.2.length = N /\ ∀ j : Nat, (j : Int) < i.1 -> i.2[j]? = l[j]?) (fun i => (n - i.1).toNat) (0, z) S.cx.tab S.cx.mix S.eq ?_ ?_ ?_
  · exact ⟨by simp, by simp only; lia, hzl, fun j hj => by simp only at hj; lia⟩
  · cbv
    refine Less.to [] rfl rfl ?_ ?_
    · repeat' (first | exact trivial | exact ⟨rfl, rfl⟩ | apply And.intro)
    · repeat' (first | exact trivial | exact ⟨_, rfl, Nat.zero_le _, rfl⟩ | apply And.intro)
  · rintro ⟨i, m⟩ ⟨h1, h2, h3, h4⟩
    dsimp only at h1 h2 h3 h4
    cbv
    refine LenR.enc S.cx (fun n' hn' hm' => ?_); cbv
    refine Test.lss (fun h => ?_) (fun h => ?_) <;> cbv
    · refine ElemRo.enc S.cx len_cInt64 (by lia) (by lia) (fun x hx => ?_)
      cbv
      refine ElemRef.go rfl (by lia) (by lia) (by rw [S.cx.lenE']; lia) (fun row hrow => ?_); cbv
      obtain ⟨y, hy⟩ := get_of_lt (l := m) (i := row) (by lia)
      refine RowSet.enc S.cx y x hy rfl (Nat.le_refl _) rfl (fun m' hm' => ?_); cbv
      refine Arith.go (by lia) (fun i' hi' => ?_); cbv
      refine Again.on (i', m') ?_ ?_ ?_
      · show (n - i').toNat < (n - i).toNat
        lia
      · refine ⟨by show 0 <= i'; lia, by show i' <= n; lia, by show m'.length = N; rw [set_len hm', h3], fun j hj => ?_⟩
        show m'[j]? = l[j]?
        replace hj : (j : Int) < i' := hj
        by_cases hjr : row = j
        · subst hjr
          rw [set_at hm' (by lia), <- hx]
          congr 1
          lia
        · rw [set_ne hm' hjr]; exact h4 j (by lia)
      · cbv
        refine Less.to [] rfl rfl ?_ ?_
        · repeat' (first | exact trivial | exact ⟨rfl, rfl⟩ | apply And.intro)
        · repeat' (first | exact trivial | exact ⟨_, rfl, Nat.zero_le _, rfl⟩ | apply And.intro)
    · exact Done.own S.cx rfl rfl h3.symm (ext_lt (l := m) (m := l) (by lia) (fun j hj => h4 j (by lia)))

theorem szBoolS_c (S : Se P A) (l : List Bool) (left : Int) (h0 : 0 <= left) : Is1 P 124 [.ro (A.enc cBool l), .int .i64 left] (.int .i64 (if left < l.length then -1 else left - l.length)) := by
  refine S.cx.by (S.prog ▸ Tryz.func124) rfl rfl rfl rfl (fun hv ho => ?_)
  cbv
  refine LenR.enc S.cx (fun n hn hm => ?_); cbv
  have hl := (hv (.int .i64 left) (by simp)).i64
  refine Arith.go (by simp only [maxLen] at hm; lia) (fun x hx => ?_); cbv
  refine Test.lss (fun h => ?_) (fun h => ?_) <;> cbv
  · refine Done.to _ [] rfl rfl trivial ⟨?_, rfl⟩
    rw [if_pos (by lia)]
  · refine Done.to _ [] rfl rfl trivial ⟨?_, rfl⟩
    rw [if_neg (by lia)]
    congr 1
    lia

theorem toBoolS_c (S : Se P A) (l : List Bool) (hb : l.length <= 4294967296) : Is1 P 151 [.ro (A.enc cBool l)] (.own 1 true (A.enc cBool l)) := by
  refine S.cx.by (S.prog ▸ Tryz.func151) rfl rfl rfl rfl (fun hv ho => ?_)
  cbv
  refine LenR.enc S.cx (fun n hn hm => ?_); cbv
  refine MakeS.enc S.cx (f := cBool) (false : Bool) rfl (by lia) (by simp only [maxBytes]; lia) (fun N z hN hz => ?_); cbv
  have hzl : z.length = N := by rw [hz]; simp
  refine ALoop.go (ι := Int × List Bool) (fun i => [(4, .int .i64 i.1)]) [2020000] (fun i => [(2020000, .arr 1 true (A.enc cBool i.2))])
    (fun i => 0 <= i.1 /\ i.1 <= n /\ i.2.length = N /\ ∀ j : Nat, (j : Int) < i.1 -> i.2[j]? = l[j]?) (fun i => (n - i.1).toNat) (0, z) S.cx.tab S.cx.mix S.eq ?_ ?_ ?_
  · exact ⟨by simp, by simp only; lia, hzl, fun j hj => by simp only at hj; lia⟩
  · cbv
    refine Less.to [] rfl rfl ?_ ?_
    · repeat' (first | exact trivial | exact ⟨rfl, rfl⟩ | apply And.intro)
    · repeat' (first | exact trivial | exact ⟨_, rfl, Nat.zero_le _, rfl⟩ | apply And.intro)
  · rintro ⟨i, m⟩ ⟨h1, h2, h3, h4⟩
    dsimp only at h1 h2 h3 h4
    cbv
    refine LenR.enc S.cx (fun n' hn' hm' => ?_); cbv
    refine Test.lss (fun h => ?_) (fun h => ?_) <;> cbv
    · refine ElemRo.enc S.cx len_cBool (by lia) (by lia) (fun x hx => ?_)
      cbv
      refine ElemRef.go rfl (by lia) (by lia) (by rw [S.cx.lenE']; lia) (fun row hrow => ?_); cbv
      obtain ⟨y, hy⟩ := get_of_lt (l := m) (i := row) (by lia)
      refine RowSet.enc S.cx y x hy rfl (Nat.le_refl _) rfl (fun m' hm' => ?_); cbv
      refine Arith.go (by lia) (fun i' hi' => ?_); cbv
      refine Again.on (i', m') ?_ ?_ ?_
      · show (n - i').toNat < (n - i).toNat
        lia
      · refine ⟨by show 0 <= i'; lia, by show i' <= n; lia, by show m'.length = N; rw [set_len hm', h3], fun j hj => ?_⟩
        show m'[j]? = l[j]?
        replace hj : (j : Int) < i' := hj
        by_cases hjr : row = j
        · subst hjr
          rw [set_at hm' (by lia), <- hx]
          congr 1
          lia
        · rw [set_ne hm' hjr]; exact h4 j (by lia)
      · cbv
        refine Less.to [] rfl rfl ?_ ?_
        · repeat' (first | exact trivial | exact ⟨rfl, rfl⟩ | apply And.intro)
        · repeat' (first | exact trivial | exact ⟨_, rfl, Nat.zero_le _, rfl⟩ | apply And.intro)
    · exact Done.own S.cx rfl rfl h3.symm (ext_lt (l := m) (m := l) (by lia) (fun j hj => h4 j (by lia)))

theorem toTwig_c (S : Se P A) (x : Twig) : Is1 P 221 [.agg (cTwig x)] (.agg (cTwig x)) := by
  obtain ⟨due, seq, lefts⟩ := x
  refine S.cx.by (S.prog ▸ Tryz.func221) rfl rfl rfl rfl (fun hv ho => ?_)
  cbv
  refine Done.to _ [] rfl ?_ trivial ⟨rfl, rfl⟩
  repeat' (first | exact trivial | exact rfl | refine ⟨?_, ?_⟩)

theorem eqTwig_c (S : Se P A) (x y : Twig) : Tests P 257 [.agg (cTwig x), .agg (cTwig y)] (x = y) := by
  obtain ⟨due, seq, lefts⟩ := x
  obtain ⟨due', seq', lefts'⟩ := y
  refine S.cx.by (S.prog ▸ Tryz.func257) rfl rfl rfl rfl (fun hv ho => ?_)
  cbv
  refine Test.neq (fun h => ?_) (fun h => ?_) <;> cbv
  · exact Done.no fun e => h (by cases e; rfl)
  subst h
  refine Test.neq (fun h => ?_) (fun h => ?_) <;> cbv
  · exact Done.no fun e => h (by cases e; rfl)
  subst h
  refine Test.neq (fun h => ?_) (fun h => ?_) <;> cbv
  · exact Done.no fun e => h (by cases e; rfl)
  subst h
  exact Done.yes rfl

theorem szTwigS_c (S : Se P A) (l : List Twig) (left : Int) (h0 : 0 <= left) : Is1 P 125 [.ro (A.enc cTwig l), .int .i64 left] (.int .i64 (if left < l.length then -1 else left - l.length)) := by
  refine S.cx.by (S.prog ▸ Tryz.func125) rfl rfl rfl rfl (fun hv ho => ?_)
  cbv
  refine LenR.enc S.cx (fun n hn hm => ?_); cbv
  have hl := (hv (.int .i64 left) (by simp)).i64
  refine Arith.go (by simp only [maxLen] at hm; lia) (fun x hx => ?_); cbv
  refine Test.lss (fun h => ?_) (fun h => ?_) <;> cbv
  · refine Done.to _ [] rfl rfl trivial ⟨?_, rfl⟩
    rw [if_pos (by lia)]
  · refine Done.to _ [] rfl rfl trivial ⟨?_, rfl⟩
    rw [if_neg (by lia)]
    congr 1
    lia

theorem toTwigS_c (S : Se P A) (l : List Twig) (hb : l.length <= 4294967296) : Is1 P 152 [.ro (A.enc cTwig l)] (.own 3 true (A.enc cTwig l)) := by
  refine S.cx.by (S.prog ▸ Tryz.func152) rfl rfl rfl rfl (fun hv ho => ?_)
  cbv
  refine LenR.enc S.cx (fun n hn hm => ?_); cbv
  refine MakeS.enc S.cx (f := cTwig) (⟨0, 0, 0⟩ : Twig) rfl (by lia) (by simp only [maxBytes]; lia) (fun N z hN hz => ?_); cbv
  have hzl : z.length = N := by rw [hz]; simp
  refine ALoop.go (ι := Int × List Twig) (fun i => [(4, .int .i64 i.1)]) [2020000] (fun i => [(2020000, .arr 3 true (A.enc cTwig i.2))])
    (fun i => 0 <= i.1 /\ i.1 <= n /\ i.2.length = N /\ ∀ j : Nat, (j : Int) < i.1 -> i.2[j]? = l[j]?) (fun i => (n - i.1).toNat) (0, z) S.cx.tab S.cx.mix S.eq ?_ ?_ ?_
  · exact ⟨by simp, by simp only; lia, hzl, fun j hj => by simp only at hj; lia⟩
  · cbv
    refine Less.to [] rfl rfl ?_ ?_
    · repeat' (first | exact trivial | exact ⟨rfl, rfl⟩ | apply And.intro)
    · repeat' (first | exact trivial | exact ⟨_, rfl, Nat.zero_le _, rfl⟩ | apply And.intro)
  · rintro ⟨i, m⟩ ⟨h1, h2, h3, h4⟩
    dsimp only at h1 h2 h3 h4
    cbv
    refine LenR.enc S.cx (fun n' hn' hm' => ?_); cbv
    refine Test.lss (fun h => ?_) (fun h => ?_) <;> cbv
    · refine ElemRo.enc S.cx len_cTwig (by lia) (by lia) (fun x hx => ?_)
      obtain ⟨due, seq, lefts⟩ := x
      cbv
      refine ACall.fn (dp := false) (toTwig_c S ⟨due, seq, lefts⟩) ⟨rfl, ?_, trivial⟩ ⟨rfl, ?_⟩
      · repeat' (first | exact trivial | exact rfl | refine ⟨?_, ?_⟩)
      cbv
      refine ElemRef.go rfl (by lia) (by lia) (by rw [S.cx.lenE']; lia) (fun row hrow => ?_); cbv
      obtain ⟨y, hy⟩ := get_of_lt (l := m) (i := row) (by lia)
      refine RowSet.enc S.cx y ⟨due, seq, lefts⟩ hy rfl (Nat.le_refl _) rfl (fun m' hm' => ?_); cbv
      refine Arith.go (by lia) (fun i' hi' => ?_); cbv
      refine Again.on (i', m') ?_ ?_ ?_
      · show (n - i').toNat < (n - i).toNat
        lia
      · refine ⟨by show 0 <= i'; lia, by show i' <= n; lia, by show m'.length = N; rw [set_len hm', h3], fun j hj => ?_⟩
        show m'[j]? = l[j]?
        replace hj : (j : Int) < i' := hj
        by_cases hjr : row = j
        · subst hjr
          rw [set_at hm' (by lia), <- hx]
          congr 1
          lia
        · rw [set_ne hm' hjr]; exact h4 j (by lia)
      · cbv
        refine Less.to [] rfl rfl ?_ ?_
        · repeat' (first | exact trivial | exact ⟨rfl, rfl⟩ | apply And.intro)
        · repeat' (first | exact trivial | exact ⟨_, rfl, Nat.zero_le _, rfl⟩ | apply And.intro)
    · exact Done.own S.cx rfl rfl h3.symm (ext_lt (l := m) (m := l) (by lia) (fun j hj => h4 j (by lia)))

theorem toTimer_c (S : Se P A) (x : Timer) : Is1 P 222 [.agg (cTimer x)] (.agg (cTimer x)) := by
  obtain ⟨seq, due, what, whom, armed⟩ := x
  refine S.cx.by (S.prog ▸ Tryz.func222) rfl rfl rfl rfl (fun hv ho => ?_)
  cbv
  refine Done.to _ [] rfl ?_ trivial ⟨rfl, rfl⟩
  repeat' (first | exact trivial | exact rfl | refine ⟨?_, ?_⟩)

theorem eqTimer_c (S : Se P A) (x y : Timer) : Tests P 258 [.agg (cTimer x), .agg (cTimer y)] (x = y) := by
  obtain ⟨seq, due, what, whom, armed⟩ := x
  obtain ⟨seq', due', what', whom', armed'⟩ := y
  refine S.cx.by (S.prog ▸ Tryz.func258) rfl rfl rfl rfl (fun hv ho => ?_)
  cbv
  refine Test.neq (fun h => ?_) (fun h => ?_) <;> cbv
  · exact Done.no fun e => h (by cases e; rfl)
  subst h
  refine Test.neq (fun h => ?_) (fun h => ?_) <;> cbv
  · exact Done.no fun e => h (by cases e; rfl)
  subst h
  refine Test.neq (fun h => ?_) (fun h => ?_) <;> cbv
  · exact Done.no fun e => h (by cases e; rfl)
  subst h
  refine Test.neq (fun h => ?_) (fun h => ?_) <;> cbv
  · exact Done.no fun e => h (by cases e; rfl)
  subst h
  cases armed <;> cases armed' <;> cbv
  · exact Done.yes rfl
  · exact Done.no fun e => by cases e
  · exact Done.no fun e => by cases e
  · exact Done.yes rfl

theorem szTimerS_c (S : Se P A) (l : List Timer) (left : Int) (h0 : 0 <= left) : Is1 P 126 [.ro (A.enc cTimer l), .int .i64 left] (.int .i64 (if left < l.length then -1 else left - l.length)) := by
  refine S.cx.by (S.prog ▸ Tryz.func126) rfl rfl rfl rfl (fun hv ho => ?_)
  cbv
  refine LenR.enc S.cx (fun n hn hm => ?_); cbv
  have hl := (hv (.int .i64 left) (by simp)).i64
  refine Arith.go (by simp only [maxLen] at hm; lia) (fun x hx => ?_); cbv
  refine Test.lss (fun h => ?_) (fun h => ?_) <;> cbv
  · refine Done.to _ [] rfl rfl trivial ⟨?_, rfl⟩
    rw [if_pos (by lia)]
  · refine Done.to _ [] rfl rfl trivial ⟨?_, rfl⟩
    rw [if_neg (by lia)]
    congr 1
    lia

theorem toTimerS_c (S : Se P A) (l : List Timer) (hb : l.length <= 4294967296) : Is1 P 153 [.ro (A.enc cTimer l)] (.own 5 true (A.enc cTimer l)) := by
  refine S.cx.by (S.prog ▸ Tryz.func153) rfl rfl rfl rfl (fun hv ho => ?_)
  cbv
  refine LenR.enc S.cx (fun n hn hm => ?_); cbv
  refine MakeS.enc S.cx (f := cTimer) (⟨0, 0, 0, 0, false⟩ : Timer) rfl (by lia) (by simp only [maxBytes]; lia) (fun N z hN hz => ?_); cbv
  have hzl : z.length = N := by rw [hz]; simp
  refine ALoop.go (ι := Int × List Timer) (fun i => [(4, .int .i64 i.1)]) [2020000] (fun i => [(2020000, .arr 5 true (A.enc cTimer i.2))])
    (fun i => 0 <= i.1 /\ i.1 <= n /\ i.2.length = N /\ ∀ j : Nat, (j : Int) < i.1 -> i.2[j]? = l[j]?) (fun i => (n - i.1).toNat) (0, z) S.cx.tab S.cx.mix S.eq ?_ ?_ ?_
  · exact ⟨by simp, by simp only; lia, hzl, fun j hj => by simp only at hj; lia⟩
  · cbv
    refine Less.to [] rfl rfl ?_ ?_
    · repeat' (first | exact trivial | exact ⟨rfl, rfl⟩ | apply And.intro)
    · repeat' (first | exact trivial | exact ⟨_, rfl, Nat.zero_le _, rfl⟩ | apply And.intro)
  · rintro ⟨i, m⟩ ⟨h1, h2, h3, h4⟩
    dsimp only at h1 h2 h3 h4
    cbv
    refine LenR.enc S.cx (fun n' hn' hm' => ?_); cbv
    refine Test.lss (fun h => ?_) (fun h => ?_) <;> cbv
    · refine ElemRo.enc S.cx len_cTimer (by lia) (by lia) (fun x hx => ?_)
      obtain ⟨seq, due, what, whom, armed⟩ := x
      cbv
      refine ACall.fn (dp := false) (toTimer_c S ⟨seq, due, what, whom, armed⟩) ⟨rfl, ?_, trivial⟩ ⟨rfl, ?_⟩
      · repeat' (first | exact trivial | exact rfl | refine ⟨?_, ?_⟩)
      cbv
      refine ElemRef.go rfl (by lia) (by lia) (by rw [S.cx.lenE']; lia) (fun row hrow => ?_); cbv
      obtain ⟨y, hy⟩ := get_of_lt (l := m) (i := row) (by lia)
      refine RowSet.enc S.cx y ⟨seq, due, what, whom, armed⟩ hy rfl (Nat.le_refl _) rfl (fun m' hm' => ?_); cbv
      refine Arith.go (by lia) (fun i' hi' => ?_); cbv
      refine Again.on (i', m') ?_ ?_ ?_
      · show (n - i').toNat < (n - i).toNat
        lia
      · refine ⟨by show 0 <= i'; lia, by show i' <= n; lia, by show m'.length = N; rw [set_len hm', h3], fun j hj => ?_⟩
        show m'[j]? = l[j]?
        replace hj : (j : Int) < i' := hj
        by_cases hjr : row = j
        · subst hjr
          rw [set_at hm' (by lia), <- hx]
          congr 1
          lia
        · rw [set_ne hm' hjr]; exact h4 j (by lia)
      · cbv
        refine Less.to [] rfl rfl ?_ ?_
        · repeat' (first | exact trivial | exact ⟨rfl, rfl⟩ | apply And.intro)
        · repeat' (first | exact trivial | exact ⟨_, rfl, Nat.zero_le _, rfl⟩ | apply And.intro)
    · exact Done.own S.cx rfl rfl h3.symm (ext_lt (l := m) (m := l) (by lia) (fun j hj => h4 j (by lia)))

theorem toNode_c (S : Se P A) (x : Node) : Is1 P 149 [.agg (cNode x)] (.agg (cNode x)) := by
  obtain ⟨kind, up, due, key, value⟩ := x
  refine S.cx.by (S.prog ▸ Tryz.func149) rfl rfl rfl rfl (fun hv ho => ?_)
  cbv
  refine Done.to _ [] rfl ?_ trivial ⟨rfl, rfl⟩
  repeat' (first | exact trivial | exact rfl | refine ⟨?_, ?_⟩)

theorem eqNode_c (S : Se P A) (x y : Node) : Tests P 164 [.agg (cNode x), .agg (cNode y)] (x = y) := by
  obtain ⟨kind, up, due, key, value⟩ := x
  obtain ⟨kind', up', due', key', value'⟩ := y
  refine S.cx.by (S.prog ▸ Tryz.func164) rfl rfl rfl rfl (fun hv ho => ?_)
  cbv
  refine Test.neq (fun h => ?_) (fun h => ?_) <;> cbv
  · exact Done.no fun e => h (by cases e; rfl)
  subst h
  refine Test.neq (fun h => ?_) (fun h => ?_) <;> cbv
  · exact Done.no fun e => h (by cases e; rfl)
  subst h
  refine Test.neq (fun h => ?_) (fun h => ?_) <;> cbv
  · exact Done.no fun e => h (by cases e; rfl)
  subst h
  refine Test.neq (fun h => ?_) (fun h => ?_) <;> cbv
  · exact Done.no fun e => h (by cases e; rfl)
  subst h
  refine Test.neq (fun h => ?_) (fun h => ?_) <;> cbv
  · exact Done.no fun e => h (by cases e; rfl)
  subst h
  exact Done.yes rfl

theorem szNodeS_c (S : Se P A) (l : List Node) (left : Int) (h0 : 0 <= left) : Is1 P 35 [.ro (A.enc cNode l), .int .i64 left] (.int .i64 (if left < l.length then -1 else left - l.length)) := by
  refine S.cx.by (S.prog ▸ Tryz.func35) rfl rfl rfl rfl (fun hv ho => ?_)
  cbv
  refine LenR.enc S.cx (fun n hn hm => ?_); cbv
  have hl := (hv (.int .i64 left) (by simp)).i64
  refine Arith.go (by simp only [maxLen] at hm; lia) (fun x hx => ?_); cbv
  refine Test.lss (fun h => ?_) (fun h => ?_) <;> cbv
  · refine Done.to _ [] rfl rfl trivial ⟨?_, rfl⟩
    rw [if_pos (by lia)]
  · refine Done.to _ [] rfl rfl trivial ⟨?_, rfl⟩
    rw [if_neg (by lia)]
    congr 1
    lia

theorem toNodeS_c (S : Se P A) (l : List Node) (hb : l.length <= 4294967296) : Is1 P 49 [.ro (A.enc cNode l)] (.own 5 true (A.enc cNode l)) := by
  refine S.cx.by (S.prog ▸ Tryz.func49) rfl rfl rfl rfl (fun hv ho => ?_)
  cbv
  refine LenR.enc S.cx (fun n hn hm => ?_); cbv
  refine MakeS.enc S.cx (f := cNode) (⟨0, 0, 0, 0, 0⟩ : Node) rfl (by lia) (by simp only [maxBytes]; lia) (fun N z hN hz => ?_); cbv
  have hzl : z.length = N := by rw [hz]; simp
  refine ALoop.go (ι := Int × List Node) (fun i => [(4, .int .i64 i.1)]) [2020000] (fun i => [(2020000, .arr 5 true (A.enc cNode i.2))])
    (fun i => 0 <= i.1 /\ i.1 <= n /\ i.2.length = N /\ ∀ j : Nat, (j : Int) < i.1 -> i.2[j]? = l[j]?) (fun i => (n - i.1).toNat) (0, z) S.cx.tab S.cx.mix S.eq ?_ ?_ ?_
  · exact ⟨by simp, by simp only; lia, hzl, fun j hj => by simp only at hj; lia⟩
  · cbv
    refine Less.to [] rfl rfl ?_ ?_
    · repeat' (first | exact trivial | exact ⟨rfl, rfl⟩ | apply And.intro)
    · repeat' (first | exact trivial | exact ⟨_, rfl, Nat.zero_le _, rfl⟩ | apply And.intro)
  · rintro ⟨i, m⟩ ⟨h1, h2, h3, h4⟩
    dsimp only at h1 h2 h3 h4
    cbv
    refine LenR.enc S.cx (fun n' hn' hm' => ?_); cbv
    refine Test.lss (fun h => ?_) (fun h => ?_) <;> cbv
    · refine ElemRo.enc S.cx len_cNode (by lia) (by lia) (fun x hx => ?_)
      obtain ⟨kind, up, due, key, value⟩ := x
      cbv
      refine ACall.fn (dp := false) (toNode_c S ⟨kind, up, due, key, value⟩) ⟨rfl, ?_, trivial⟩ ⟨rfl, ?_⟩
      · repeat' (first | exact trivial | exact rfl | refine ⟨?_, ?_⟩)
      cbv
      refine ElemRef.go rfl (by lia) (by lia) (by rw [S.cx.lenE']; lia) (fun row hrow => ?_); cbv
      obtain ⟨y, hy⟩ := get_of_lt (l := m) (i := row) (by lia)
      refine RowSet.enc S.cx y ⟨kind, up, due, key, value⟩ hy rfl (Nat.le_refl _) rfl (fun m' hm' => ?_); cbv
      refine Arith.go (by lia) (fun i' hi' => ?_); cbv
      refine Again.on (i', m') ?_ ?_ ?_
      · show (n - i').toNat < (n - i).toNat
        lia
      · refine ⟨by show 0 <= i'; lia, by show i' <= n; lia, by show m'.length = N; rw [set_len hm', h3], fun j hj => ?_⟩
        show m'[j]? = l[j]?
        replace hj : (j : Int) < i' := hj
        by_cases hjr : row = j
        · subst hjr
          rw [set_at hm' (by lia), <- hx]
          congr 1
          lia
        · rw [set_ne hm' hjr]; exact h4 j (by lia)
      · cbv
        refine Less.to [] rfl rfl ?_ ?_
        · repeat' (first | exact trivial | exact ⟨rfl, rfl⟩ | apply And.intro)
        · repeat' (first | exact trivial | exact ⟨_, rfl, Nat.zero_le _, rfl⟩ | apply And.intro)
    · exact Done.own S.cx rfl rfl h3.symm (ext_lt (l := m) (m := l) (by lia) (fun j hj => h4 j (by lia)))

theorem toEvent_c (S : Se P A) (x : Event) : Is1 P 150 [.agg (cEvent x)] (.agg (cEvent x)) := by
  obtain ⟨node, err, cause, time⟩ := x
  refine S.cx.by (S.prog ▸ Tryz.func150) rfl rfl rfl rfl (fun hv ho => ?_)
  cbv
  refine Done.to _ [] rfl ?_ trivial ⟨rfl, rfl⟩
  repeat' (first | exact trivial | exact rfl | refine ⟨?_, ?_⟩)

theorem eqEvent_c (S : Se P A) (x y : Event) : Tests P 165 [.agg (cEvent x), .agg (cEvent y)] (x = y) := by
  obtain ⟨node, err, cause, time⟩ := x
  obtain ⟨node', err', cause', time'⟩ := y
  refine S.cx.by (S.prog ▸ Tryz.func165) rfl rfl rfl rfl (fun hv ho => ?_)
  cbv
  refine Test.neq (fun h => ?_) (fun h => ?_) <;> cbv
  · exact Done.no fun e => h (by cases e; rfl)
  subst h
  refine Test.neq (fun h => ?_) (fun h => ?_) <;> cbv
  · exact Done.no fun e => h (by cases e; rfl)
  subst h
  refine Test.neq (fun h => ?_) (fun h => ?_) <;> cbv
  · exact Done.no fun e => h (by cases e; rfl)
  subst h
  refine Test.neq (fun h => ?_) (fun h => ?_) <;> cbv
  · exact Done.no fun e => h (by cases e; rfl)
  subst h
  exact Done.yes rfl

theorem szEventS_c (S : Se P A) (l : List Event) (left : Int) (h0 : 0 <= left) : Is1 P 36 [.ro (A.enc cEvent l), .int .i64 left] (.int .i64 (if left < l.length then -1 else left - l.length)) := by
  refine S.cx.by (S.prog ▸ Tryz.func36) rfl rfl rfl rfl (fun hv ho => ?_)
  cbv
  refine LenR.enc S.cx (fun n hn hm => ?_); cbv
  have hl := (hv (.int .i64 left) (by simp)).i64
  refine Arith.go (by simp only [maxLen] at hm; lia) (fun x hx => ?_); cbv
  refine Test.lss (fun h => ?_) (fun h => ?_) <;> cbv
  · refine Done.to _ [] rfl rfl trivial ⟨?_, rfl⟩
    rw [if_pos (by lia)]
  · refine Done.to _ [] rfl rfl trivial ⟨?_, rfl⟩
    rw [if_neg (by lia)]
    congr 1
    lia

theorem toEventS_c (S : Se P A) (l : List Event) (hb : l.length <= 4294967296) : Is1 P 50 [.ro (A.enc cEvent l)] (.own 4 true (A.enc cEvent l)) := by
  refine S.cx.by (S.prog ▸ Tryz.func50) rfl rfl rfl rfl (fun hv ho => ?_)
  cbv
  refine LenR.enc S.cx (fun n hn hm => ?_); cbv
  refine MakeS.enc S.cx (f := cEvent) (⟨0, 0, 0, 0⟩ : Event) rfl (by lia) (by simp only [maxBytes]; lia) (fun N z hN hz => ?_); cbv
  have hzl : z.length = N := by rw [hz]; simp
  refine ALoop.go (ι := Int × List Event) (fun i => [(4, .int .i64 i.1)]) [2020000] (fun i => [(2020000, .arr 4 true (A.enc cEvent i.2))])
    (fun i => 0 <= i.1 /\ i.1 <= n /\ i.2.length = N /\ ∀ j : Nat, (j : Int) < i.1 -> i.2[j]? = l[j]?) (fun i => (n - i.1).toNat) (0, z) S.cx.tab S.cx.mix S.eq ?_ ?_ ?_
  · exact ⟨by simp, by simp only; lia, hzl, fun j hj => by simp only at hj; lia⟩
  · cbv
    refine Less.to [] rfl rfl ?_ ?_
    · repeat' (first | exact trivial | exact ⟨rfl, rfl⟩ | apply And.intro)
    · repeat' (first | exact trivial | exact ⟨_, rfl, Nat.zero_le _, rfl⟩ | apply And.intro)
  · rintro ⟨i, m⟩ ⟨h1, h2, h3, h4⟩
    dsimp only at h1 h2 h3 h4
    cbv
    refine LenR.enc S.cx (fun n' hn' hm' => ?_); cbv
    refine Test.lss (fun h => ?_) (fun h => ?_) <;> cbv
    · refine ElemRo.enc S.cx len_cEvent (by lia) (by lia) (fun x hx => ?_)
      obtain ⟨node, err, cause, time⟩ := x
      cbv
      refine ACall.fn (dp := false) (toEvent_c S ⟨node, err, cause, time⟩) ⟨rfl, ?_, trivial⟩ ⟨rfl, ?_⟩
      · repeat' (first | exact trivial | exact rfl | refine ⟨?_, ?_⟩)
      cbv
      refine ElemRef.go rfl (by lia) (by lia) (by rw [S.cx.lenE']; lia) (fun row hrow => ?_); cbv
      obtain ⟨y, hy⟩ := get_of_lt (l := m) (i := row) (by lia)
      refine RowSet.enc S.cx y ⟨node, err, cause, time⟩ hy rfl (Nat.le_refl _) rfl (fun m' hm' => ?_); cbv
      refine Arith.go (by lia) (fun i' hi' => ?_); cbv
      refine Again.on (i', m') ?_ ?_ ?_
      · show (n - i').toNat < (n - i).toNat
        lia
      · refine ⟨by show 0 <= i'; lia, by show i' <= n; lia, by show m'.length = N; rw [set_len hm', h3], fun j hj => ?_⟩
        show m'[j]? = l[j]?
        replace hj : (j : Int) < i' := hj
        by_cases hjr : row = j
        · subst hjr
          rw [set_at hm' (by lia), <- hx]
          congr 1
          lia
        · rw [set_ne hm' hjr]; exact h4 j (by lia)
      · cbv
        refine Less.to [] rfl rfl ?_ ?_
        · repeat' (first | exact trivial | exact ⟨rfl, rfl⟩ | apply And.intro)
        · repeat' (first | exact trivial | exact ⟨_, rfl, Nat.zero_le _, rfl⟩ | apply And.intro)
    · exact Done.own S.cx rfl rfl h3.symm (ext_lt (l := m) (m := l) (by lia) (fun j hj => h4 j (by lia)))

theorem toAfter_c (S : Se P A) (x : After) : Is1 P 223 [.agg (cAfter x)] (.agg (cAfter x)) := by
  obtain ⟨slot, age, node, func, queued⟩ := x
  refine S.cx.by (S.prog ▸ Tryz.func223) rfl rfl rfl rfl (fun hv ho => ?_)
  cbv
  refine ACall.fn (dp := false) (toHandle_c S ⟨slot, age⟩) ⟨rfl, ?_, trivial⟩ ⟨rfl, ?_⟩
  · repeat' (first | exact trivial | exact rfl | refine ⟨?_, ?_⟩)
  cbv
  refine Done.to _ [] rfl ?_ trivial ⟨rfl, rfl⟩
  repeat' (first | exact trivial | exact rfl | refine ⟨?_, ?_⟩)

theorem eqAfter_c (S : Se P A) (x y : After) : Tests P 259 [.agg (cAfter x), .agg (cAfter y)] (x = y) := by
  obtain ⟨slot, age, node, func, queued⟩ := x
  obtain ⟨slot', age', node', func', queued'⟩ := y
  refine S.cx.by (S.prog ▸ Tryz.func259) rfl rfl rfl rfl (fun hv ho => ?_)
  cbv
  refine ACall.testD (dp := false) (eqHandle_c S ⟨slot, age⟩ ⟨slot', age'⟩) ⟨rfl, ?_, trivial⟩ rfl (fun h => ?_) (fun h => ?_)
  · repeat' (first | exact trivial | exact rfl | refine ⟨?_, ?_⟩)
  rotate_left
  · cbv
    exact Done.no fun e => h (by cases e; rfl)
  cases h
  cbv
  refine Test.neq (fun h => ?_) (fun h => ?_) <;> cbv
  · exact Done.no fun e => h (by cases e; rfl)
  subst h
  refine Test.neq (fun h => ?_) (fun h => ?_) <;> cbv
  · exact Done.no fun e => h (by cases e; rfl)
  subst h
  cases queued <;> cases queued' <;> cbv
  · exact Done.yes rfl
  · exact Done.no fun e => by cases e
  · exact Done.no fun e => by cases e
  · exact Done.yes rfl

theorem szAfterS_c (S : Se P A) (l : List After) (left : Int) (h0 : 0 <= left) : Is1 P 128 [.ro (A.enc cAfter l), .int .i64 left] (.int .i64 (if left < l.length then -1 else left - l.length)) := by
  refine S.cx.by (S.prog ▸ Tryz.func128) rfl rfl rfl rfl (fun hv ho => ?_)
  cbv
  refine LenR.enc S.cx (fun n hn hm => ?_); cbv
  have hl := (hv (.int .i64 left) (by simp)).i64
  refine Arith.go (by simp only [maxLen] at hm; lia) (fun x hx => ?_); cbv
  refine Test.lss (fun h => ?_) (fun h => ?_) <;> cbv
  · refine Done.to _ [] rfl rfl trivial ⟨?_, rfl⟩
    rw [if_pos (by lia)]
  · refine Done.to _ [] rfl rfl trivial ⟨?_, rfl⟩
    rw [if_neg (by lia)]
    congr 1
    lia

theorem toAfterS_c (S : Se P A) (l : List After) (hb : l.length <= 4294967296) : Is1 P 155 [.ro (A.enc cAfter l)] (.own 5 true (A.enc cAfter l)) := by
  refine S.cx.by (S.prog ▸ Tryz.func155) rfl rfl rfl rfl (fun hv ho => ?_)
  cbv
  refine LenR.enc S.cx (fun n hn hm => ?_); cbv
  refine MakeS.enc S.cx (f := cAfter) (⟨0, 0, 0, 0, false⟩ : After) rfl (by lia) (by simp only [maxBytes]; lia) (fun N z hN hz => ?_); cbv
  have hzl : z.length = N := by rw [hz]; simp
  refine ALoop.go (ι := Int × List After) (fun i => [(4, .int .i64 i.1)]) [2020000] (fun i => [(2020000, .arr 5 true (A.enc cAfter i.2))])
    (fun i => 0 <= i.1 /\ i.1 <= n /\ i.2.length = N /\ ∀ j : Nat, (j : Int) < i.1 -> i.2[j]? = l[j]?) (fun i => (n - i.1).toNat) (0, z) S.cx.tab S.cx.mix S.eq ?_ ?_ ?_
  · exact ⟨by simp, by simp only; lia, hzl, fun j hj => by simp only at hj; lia⟩
  · cbv
    refine Less.to [] rfl rfl ?_ ?_
    · repeat' (first | exact trivial | exact ⟨rfl, rfl⟩ | apply And.intro)
    · repeat' (first | exact trivial | exact ⟨_, rfl, Nat.zero_le _, rfl⟩ | apply And.intro)
  · rintro ⟨i, m⟩ ⟨h1, h2, h3, h4⟩
    dsimp only at h1 h2 h3 h4
    cbv
    refine LenR.enc S.cx (fun n' hn' hm' => ?_); cbv
    refine Test.lss (fun h => ?_) (fun h => ?_) <;> cbv
    · refine ElemRo.enc S.cx len_cAfter (by lia) (by lia) (fun x hx => ?_)
      obtain ⟨slot, age, node, func, queued⟩ := x
      cbv
      refine ACall.fn (dp := false) (toAfter_c S ⟨slot, age, node, func, queued⟩) ⟨rfl, ?_, trivial⟩ ⟨rfl, ?_⟩
      · repeat' (first | exact trivial | exact rfl | refine ⟨?_, ?_⟩)
      cbv
      refine ElemRef.go rfl (by lia) (by lia) (by rw [S.cx.lenE']; lia) (fun row hrow => ?_); cbv
      obtain ⟨y, hy⟩ := get_of_lt (l := m) (i := row) (by lia)
      refine RowSet.enc S.cx y ⟨slot, age, node, func, queued⟩ hy rfl (Nat.le_refl _) rfl (fun m' hm' => ?_); cbv
      refine Arith.go (by lia) (fun i' hi' => ?_); cbv
      refine Again.on (i', m') ?_ ?_ ?_
      · show (n - i').toNat < (n - i).toNat
        lia
      · refine ⟨by show 0 <= i'; lia, by show i' <= n; lia, by show m'.length = N; rw [set_len hm', h3], fun j hj => ?_⟩
        show m'[j]? = l[j]?
        replace hj : (j : Int) < i' := hj
        by_cases hjr : row = j
        · subst hjr
          rw [set_at hm' (by lia), <- hx]
          congr 1
          lia
        · rw [set_ne hm' hjr]; exact h4 j (by lia)
      · cbv
        refine Less.to [] rfl rfl ?_ ?_
        · repeat' (first | exact trivial | exact ⟨rfl, rfl⟩ | apply And.intro)
        · repeat' (first | exact trivial | exact ⟨_, rfl, Nat.zero_le _, rfl⟩ | apply And.intro)
    · exact Done.own S.cx rfl rfl h3.symm (ext_lt (l := m) (m := l) (by lia) (fun j hj => h4 j (by lia)))

theorem toIns_c (S : Se P A) (x : Ins) : Is1 P 220 [.agg (cIns x)] (.agg (cIns x)) := by
  obtain ⟨op, a, b⟩ := x
  refine S.cx.by (S.prog ▸ Tryz.func220) rfl rfl rfl rfl (fun hv ho => ?_)
  cbv
  refine Done.to _ [] rfl ?_ trivial ⟨rfl, rfl⟩
  repeat' (first | exact trivial | exact rfl | refine ⟨?_, ?_⟩)

theorem eqIns_c (S : Se P A) (x y : Ins) : Tests P 256 [.agg (cIns x), .agg (cIns y)] (x = y) := by
  obtain ⟨op, a, b⟩ := x
  obtain ⟨op', a', b'⟩ := y
  refine S.cx.by (S.prog ▸ Tryz.func256) rfl rfl rfl rfl (fun hv ho => ?_)
  cbv
  refine Test.neq (fun h => ?_) (fun h => ?_) <;> cbv
  · exact Done.no fun e => h (by cases e; rfl)
  subst h
  refine Test.neq (fun h => ?_) (fun h => ?_) <;> cbv
  · exact Done.no fun e => h (by cases e; rfl)
  subst h
  refine Test.neq (fun h => ?_) (fun h => ?_) <;> cbv
  · exact Done.no fun e => h (by cases e; rfl)
  subst h
  exact Done.yes rfl

theorem szInsS_c (S : Se P A) (l : List Ins) (left : Int) (h0 : 0 <= left) : Is1 P 123 [.ro (A.enc cIns l), .int .i64 left] (.int .i64 (if left < l.length then -1 else left - l.length)) := by
  refine S.cx.by (S.prog ▸ Tryz.func123) rfl rfl rfl rfl (fun hv ho => ?_)
  cbv
  refine LenR.enc S.cx (fun n hn hm => ?_); cbv
  have hl := (hv (.int .i64 left) (by simp)).i64
  refine Arith.go (by simp only [maxLen] at hm; lia) (fun x hx => ?_); cbv
  refine Test.lss (fun h => ?_) (fun h => ?_) <;> cbv
  · refine Done.to _ [] rfl rfl trivial ⟨?_, rfl⟩
    rw [if_pos (by lia)]
  · refine Done.to _ [] rfl rfl trivial ⟨?_, rfl⟩
    rw [if_neg (by lia)]
    congr 1
    lia

theorem toInsS_c (S : Se P A) (l : List Ins) (hb : l.length <= 4294967296) : Is1 P 148 [.ro (A.enc cIns l)] (.own 3 true (A.enc cIns l)) := by
  refine S.cx.by (S.prog ▸ Tryz.func148) rfl rfl rfl rfl (fun hv ho => ?_)
  cbv
  refine LenR.enc S.cx (fun n hn hm => ?_); cbv
  refine MakeS.enc S.cx (f := cIns) (⟨0, 0, 0⟩ : Ins) rfl (by lia) (by simp only [maxBytes]; lia) (fun N z hN hz => ?_); cbv
  have hzl : z.length = N := by rw [hz]; simp
  refine ALoop.go (ι := Int × List Ins) (fun i => [(4, .int .i64 i.1)]) [2020000] (fun i => [(2020000, .arr 3 true (A.enc cIns i.2))])
    (fun i => 0 <= i.1 /\ i.1 <= n /\ i.2.length = N /\ ∀ j : Nat, (j : Int) < i.1 -> i.2[j]? = l[j]?) (fun i => (n - i.1).toNat) (0, z) S.cx.tab S.cx.mix S.eq ?_ ?_ ?_
  · exact ⟨by simp, by simp only; lia, hzl, fun j hj => by simp only at hj; lia⟩
  · cbv
    refine Less.to [] rfl rfl ?_ ?_
    · repeat' (first | exact trivial | exact ⟨rfl, rfl⟩ | apply And.intro)
    · repeat' (first | exact trivial | exact ⟨_, rfl, Nat.zero_le _, rfl⟩ | apply And.intro)
  · rintro ⟨i, m⟩ ⟨h1, h2, h3, h4⟩
    dsimp only at h1 h2 h3 h4
    cbv
    refine LenR.enc S.cx (fun n' hn' hm' => ?_); cbv
    refine Test.lss (fun h => ?_) (fun h => ?_) <;> cbv
    · refine ElemRo.enc S.cx len_cIns (by lia) (by lia) (fun x hx => ?_)
      obtain ⟨op, a, b⟩ := x
      cbv
      refine ACall.fn (dp := false) (toIns_c S ⟨op, a, b⟩) ⟨rfl, ?_, trivial⟩ ⟨rfl, ?_⟩
      · repeat' (first | exact trivial | exact rfl | refine ⟨?_, ?_⟩)
      cbv
      refine ElemRef.go rfl (by lia) (by lia) (by rw [S.cx.lenE']; lia) (fun row hrow => ?_); cbv
      obtain ⟨y, hy⟩ := get_of_lt (l := m) (i := row) (by lia)
      refine RowSet.enc S.cx y ⟨op, a, b⟩ hy rfl (Nat.le_refl _) rfl (fun m' hm' => ?_); cbv
      refine Arith.go (by lia) (fun i' hi' => ?_); cbv
      refine Again.on (i', m') ?_ ?_ ?_
      · show (n - i').toNat < (n - i).toNat
        lia
      · refine ⟨by show 0 <= i'; lia, by show i' <= n; lia, by show m'.length = N; rw [set_len hm', h3], fun j hj => ?_⟩
        show m'[j]? = l[j]?
        replace hj : (j : Int) < i' := hj
        by_cases hjr : row = j
        · subst hjr
          rw [set_at hm' (by lia), <- hx]
          congr 1
          lia
        · rw [set_ne hm' hjr]; exact h4 j (by lia)
      · cbv
        refine Less.to [] rfl rfl ?_ ?_
        · repeat' (first | exact trivial | exact ⟨rfl, rfl⟩ | apply And.intro)
        · repeat' (first | exact trivial | exact ⟨_, rfl, Nat.zero_le _, rfl⟩ | apply And.intro)
    · exact Done.own S.cx rfl rfl h3.symm (ext_lt (l := m) (m := l) (by lia) (fun j hj => h4 j (by lia)))

theorem toTask_c (S : Se P A) (x : Task) : Is1 P 156 [.agg (cTask x)] (.agg (cTask x)) := by
  obtain ⟨prog, pc, state, why, what, timer, reg, group, err⟩ := x
  refine S.cx.by (S.prog ▸ Tryz.func156) rfl rfl rfl rfl (fun hv ho => ?_)
  cbv
  refine Done.to _ [] rfl ?_ trivial ⟨rfl, rfl⟩
  repeat' (first | exact trivial | exact rfl | refine ⟨?_, ?_⟩)

theorem eqTask_c (S : Se P A) (x y : Task) : Tests P 171 [.agg (cTask x), .agg (cTask y)] (x = y) := by
  obtain ⟨prog, pc, state, why, what, timer, reg, group, err⟩ := x
  obtain ⟨prog', pc', state', why', what', timer', reg', group', err'⟩ := y
  refine S.cx.by (S.prog ▸ Tryz.func171) rfl rfl rfl rfl (fun hv ho => ?_)
  cbv
  refine Test.neq (fun h => ?_) (fun h => ?_) <;> cbv
  · exact Done.no fun e => h (by cases e; rfl)
  subst h
  refine Test.neq (fun h => ?_) (fun h => ?_) <;> cbv
  · exact Done.no fun e => h (by cases e; rfl)
  subst h
  refine Test.neq (fun h => ?_) (fun h => ?_) <;> cbv
  · exact Done.no fun e => h (by cases e; rfl)
  subst h
  refine Test.neq (fun h => ?_) (fun h => ?_) <;> cbv
  · exact Done.no fun e => h (by cases e; rfl)
  subst h
  refine Test.neq (fun h => ?_) (fun h => ?_) <;> cbv
  · exact Done.no fun e => h (by cases e; rfl)
  subst h
  refine Test.neq (fun h => ?_) (fun h => ?_) <;> cbv
  · exact Done.no fun e => h (by cases e; rfl)
  subst h
  refine Test.neq (fun h => ?_) (fun h => ?_) <;> cbv
  · exact Done.no fun e => h (by cases e; rfl)
  subst h
  refine Test.neq (fun h => ?_) (fun h => ?_) <;> cbv
  · exact Done.no fun e => h (by cases e; rfl)
  subst h
  refine Test.neq (fun h => ?_) (fun h => ?_) <;> cbv
  · exact Done.no fun e => h (by cases e; rfl)
  subst h
  exact Done.yes rfl

theorem szTaskS_c (S : Se P A) (l : List Task) (left : Int) (h0 : 0 <= left) : Is1 P 40 [.ro (A.enc cTask l), .int .i64 left] (.int .i64 (if left < l.length then -1 else left - l.length)) := by
  refine S.cx.by (S.prog ▸ Tryz.func40) rfl rfl rfl rfl (fun hv ho => ?_)
  cbv
  refine LenR.enc S.cx (fun n hn hm => ?_); cbv
  have hl := (hv (.int .i64 left) (by simp)).i64
  refine Arith.go (by simp only [maxLen] at hm; lia) (fun x hx => ?_); cbv
  refine Test.lss (fun h => ?_) (fun h => ?_) <;> cbv
  · refine Done.to _ [] rfl rfl trivial ⟨?_, rfl⟩
    rw [if_pos (by lia)]
  · refine Done.to _ [] rfl rfl trivial ⟨?_, rfl⟩
    rw [if_neg (by lia)]
    congr 1
    lia

theorem toTaskS_c (S : Se P A) (l : List Task) (hb : l.length <= 4294967296) : Is1 P 54 [.ro (A.enc cTask l)] (.own 9 true (A.enc cTask l)) := by
  refine S.cx.by (S.prog ▸ Tryz.func54) rfl rfl rfl rfl (fun hv ho => ?_)
  cbv
  refine LenR.enc S.cx (fun n hn hm => ?_); cbv
  refine MakeS.enc S.cx (f := cTask) (⟨0, 0, 0, 0, 0, 0, 0, 0, 0⟩ : Task) rfl (by lia) (by simp only [maxBytes]; lia) (fun N z hN hz => ?_); cbv
  have hzl : z.length = N := by rw [hz]; simp
  refine ALoop.go (ι := Int × List Task) (fun i => [(4, .int .i64 i.1)]) [2020000] (fun i => [(2020000, .arr 9 true (A.enc cTask i.2))])
    (fun i => 0 <= i.1 /\ i.1 <= n /\ i.2.length = N /\ ∀ j : Nat, (j : Int) < i.1 -> i.2[j]? = l[j]?) (fun i => (n - i.1).toNat) (0, z) S.cx.tab S.cx.mix S.eq ?_ ?_ ?_
  · exact ⟨by simp, by simp only; lia, hzl, fun j hj => by simp only at hj; lia⟩
  · cbv
    refine Less.to [] rfl rfl ?_ ?_
    · repeat' (first | exact trivial | exact ⟨rfl, rfl⟩ | apply And.intro)
    · repeat' (first | exact trivial | exact ⟨_, rfl, Nat.zero_le _, rfl⟩ | apply And.intro)
  · rintro ⟨i, m⟩ ⟨h1, h2, h3, h4⟩
    dsimp only at h1 h2 h3 h4
    cbv
    refine LenR.enc S.cx (fun n' hn' hm' => ?_); cbv
    refine Test.lss (fun h => ?_) (fun h => ?_) <;> cbv
    · refine ElemRo.enc S.cx len_cTask (by lia) (by lia) (fun x hx => ?_)
      obtain ⟨prog, pc, state, why, what, timer, reg, group, err⟩ := x
      cbv
      refine ACall.fn (dp := false) (toTask_c S ⟨prog, pc, state, why, what, timer, reg, group, err⟩) ⟨rfl, ?_, trivial⟩ ⟨rfl, ?_⟩
      · repeat' (first | exact trivial | exact rfl | refine ⟨?_, ?_⟩)
      cbv
      refine ElemRef.go rfl (by lia) (by lia) (by rw [S.cx.lenE']; lia) (fun row hrow => ?_); cbv
      obtain ⟨y, hy⟩ := get_of_lt (l := m) (i := row) (by lia)
      refine RowSet.enc S.cx y ⟨prog, pc, state, why, what, timer, reg, group, err⟩ hy rfl (Nat.le_refl _) rfl (fun m' hm' => ?_); cbv
      refine Arith.go (by lia) (fun i' hi' => ?_); cbv
      refine Again.on (i', m') ?_ ?_ ?_
      · show (n - i').toNat < (n - i).toNat
        lia
      · refine ⟨by show 0 <= i'; lia, by show i' <= n; lia, by show m'.length = N; rw [set_len hm', h3], fun j hj => ?_⟩
        show m'[j]? = l[j]?
        replace hj : (j : Int) < i' := hj
        by_cases hjr : row = j
        · subst hjr
          rw [set_at hm' (by lia), <- hx]
          congr 1
          lia
        · rw [set_ne hm' hjr]; exact h4 j (by lia)
      · cbv
        refine Less.to [] rfl rfl ?_ ?_
        · repeat' (first | exact trivial | exact ⟨rfl, rfl⟩ | apply And.intro)
        · repeat' (first | exact trivial | exact ⟨_, rfl, Nat.zero_le _, rfl⟩ | apply And.intro)
    · exact Done.own S.cx rfl rfl h3.symm (ext_lt (l := m) (m := l) (by lia) (fun j hj => h4 j (by lia)))

theorem toSight_c (S : Se P A) (x : Sight) : Is1 P 158 [.agg (cSight x)] (.agg (cSight x)) := by
  obtain ⟨node, err, cause, at_⟩ := x
  refine S.cx.by (S.prog ▸ Tryz.func158) rfl rfl rfl rfl (fun hv ho => ?_)
  cbv
  refine Done.to _ [] rfl ?_ trivial ⟨rfl, rfl⟩
  repeat' (first | exact trivial | exact rfl | refine ⟨?_, ?_⟩)

theorem eqSight_c (S : Se P A) (x y : Sight) : Tests P 173 [.agg (cSight x), .agg (cSight y)] (x = y) := by
  obtain ⟨node, err, cause, at_⟩ := x
  obtain ⟨node', err', cause', at_'⟩ := y
  refine S.cx.by (S.prog ▸ Tryz.func173) rfl rfl rfl rfl (fun hv ho => ?_)
  cbv
  refine Test.neq (fun h => ?_) (fun h => ?_) <;> cbv
  · exact Done.no fun e => h (by cases e; rfl)
  subst h
  refine Test.neq (fun h => ?_) (fun h => ?_) <;> cbv
  · exact Done.no fun e => h (by cases e; rfl)
  subst h
  refine Test.neq (fun h => ?_) (fun h => ?_) <;> cbv
  · exact Done.no fun e => h (by cases e; rfl)
  subst h
  refine Test.neq (fun h => ?_) (fun h => ?_) <;> cbv
  · exact Done.no fun e => h (by cases e; rfl)
  subst h
  exact Done.yes rfl

theorem szSightS_c (S : Se P A) (l : List Sight) (left : Int) (h0 : 0 <= left) : Is1 P 42 [.ro (A.enc cSight l), .int .i64 left] (.int .i64 (if left < l.length then -1 else left - l.length)) := by
  refine S.cx.by (S.prog ▸ Tryz.func42) rfl rfl rfl rfl (fun hv ho => ?_)
  cbv
  refine LenR.enc S.cx (fun n hn hm => ?_); cbv
  have hl := (hv (.int .i64 left) (by simp)).i64
  refine Arith.go (by simp only [maxLen] at hm; lia) (fun x hx => ?_); cbv
  refine Test.lss (fun h => ?_) (fun h => ?_) <;> cbv
  · refine Done.to _ [] rfl rfl trivial ⟨?_, rfl⟩
    rw [if_pos (by lia)]
  · refine Done.to _ [] rfl rfl trivial ⟨?_, rfl⟩
    rw [if_neg (by lia)]
    congr 1
    lia

theorem toSightS_c (S : Se P A) (l : List Sight) (hb : l.length <= 4294967296) : Is1 P 56 [.ro (A.enc cSight l)] (.own 4 true (A.enc cSight l)) := by
  refine S.cx.by (S.prog ▸ Tryz.func56) rfl rfl rfl rfl (fun hv ho => ?_)
  cbv
  refine LenR.enc S.cx (fun n hn hm => ?_); cbv
  refine MakeS.enc S.cx (f := cSight) (⟨0, 0, 0, 0⟩ : Sight) rfl (by lia) (by simp only [maxBytes]; lia) (fun N z hN hz => ?_); cbv
  have hzl : z.length = N := by rw [hz]; simp
  refine ALoop.go (ι := Int × List Sight) (fun i => [(4, .int .i64 i.1)]) [2020000] (fun i => [(2020000, .arr 4 true (A.enc cSight i.2))])
    (fun i => 0 <= i.1 /\ i.1 <= n /\ i.2.length = N /\ ∀ j : Nat, (j : Int) < i.1 -> i.2[j]? = l[j]?) (fun i => (n - i.1).toNat) (0, z) S.cx.tab S.cx.mix S.eq ?_ ?_ ?_
  · exact ⟨by simp, by simp only; lia, hzl, fun j hj => by simp only at hj; lia⟩
  · cbv
    refine Less.to [] rfl rfl ?_ ?_
    · repeat' (first | exact trivial | exact ⟨rfl, rfl⟩ | apply And.intro)
    · repeat' (first | exact trivial | exact ⟨_, rfl, Nat.zero_le _, rfl⟩ | apply And.intro)
  · rintro ⟨i, m⟩ ⟨h1, h2, h3, h4⟩
    dsimp only at h1 h2 h3 h4
    cbv
    refine LenR.enc S.cx (fun n' hn' hm' => ?_); cbv
    refine Test.lss (fun h => ?_) (fun h => ?_) <;> cbv
    · refine ElemRo.enc S.cx len_cSight (by lia) (by lia) (fun x hx => ?_)
      obtain ⟨node, err, cause, at_⟩ := x
      cbv
      refine ACall.fn (dp := false) (toSight_c S ⟨node, err, cause, at_⟩) ⟨rfl, ?_, trivial⟩ ⟨rfl, ?_⟩
      · repeat' (first | exact trivial | exact rfl | refine ⟨?_, ?_⟩)
      cbv
      refine ElemRef.go rfl (by lia) (by lia) (by rw [S.cx.lenE']; lia) (fun row hrow => ?_); cbv
      obtain ⟨y, hy⟩ := get_of_lt (l := m) (i := row) (by lia)
      refine RowSet.enc S.cx y ⟨node, err, cause, at_⟩ hy rfl (Nat.le_refl _) rfl (fun m' hm' => ?_); cbv
      refine Arith.go (by lia) (fun i' hi' => ?_); cbv
      refine Again.on (i', m') ?_ ?_ ?_
      · show (n - i').toNat < (n - i).toNat
        lia
      · refine ⟨by show 0 <= i'; lia, by show i' <= n; lia, by show m'.length = N; rw [set_len hm', h3], fun j hj => ?_⟩
        show m'[j]? = l[j]?
        replace hj : (j : Int) < i' := hj
        by_cases hjr : row = j
        · subst hjr
          rw [set_at hm' (by lia), <- hx]
          congr 1
          lia
        · rw [set_ne hm' hjr]; exact h4 j (by lia)
      · cbv
        refine Less.to [] rfl rfl ?_ ?_
        · repeat' (first | exact trivial | exact ⟨rfl, rfl⟩ | apply And.intro)
        · repeat' (first | exact trivial | exact ⟨_, rfl, Nat.zero_le _, rfl⟩ | apply And.intro)
    · exact Done.own S.cx rfl rfl h3.symm (ext_lt (l := m) (m := l) (by lia) (fun j hj => h4 j (by lia)))

end Go.Proofs.YtihfpbhalnedcaaGreat.AM
