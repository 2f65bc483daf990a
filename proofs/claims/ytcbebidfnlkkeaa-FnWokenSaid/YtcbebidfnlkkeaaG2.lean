/- Contracts: the laws' own helpers: flat types. (printed by gen.py) -/
import Derived.Test.YtcbebidfnlkkeaaD1
namespace Go.Proofs.Ytcbebidfnlkkeaa.AM
open Go Go.Proofs

set_option maxRecDepth 100000
set_option linter.unusedVariables false
set_option linter.unusedSimpArgs false

variable {P : Program} {A : Sy}

theorem toHandle_c (S : Se P A) (x : Handle) : Is1 P 32 [.agg (cHandle x)] (.agg (cHandle x)) := by
  obtain ⟨slot, age⟩ := x
  refine S.cx.by (S.prog ▸ Try.func32) rfl rfl rfl rfl (fun hv ho => ?_)
  cbv
  refine Done.to _ [] rfl ?_ trivial ⟨rfl, rfl⟩
  repeat' (first | exact trivial | exact rfl | refine ⟨?_, ?_⟩)

theorem eqHandle_c (S : Se P A) (x y : Handle) : Tests P 20 [.agg (cHandle x), .agg (cHandle y)] (x = y) := by
  obtain ⟨slot, age⟩ := x
  obtain ⟨slot', age'⟩ := y
  refine S.cx.by (S.prog ▸ Try.func20) rfl rfl rfl rfl (fun hv ho => ?_)
  cbv
  refine Test.neq (fun h => ?_) (fun h => ?_) <;> cbv
  · exact Done.no fun e => h (by cases e; rfl)
  subst h
  refine Test.neq (fun h => ?_) (fun h => ?_) <;> cbv
  · exact Done.no fun e => h (by cases e; rfl)
  subst h
  exact Done.yes rfl

theorem szInt64S_c (S : Se P A) (l : List Int) (left : Int) (h0 : 0 ≤ left) : Is1 P 73 [.ro (A.enc cInt64 l), .int .i64 left] (.int .i64 (if left < l.length then -1 else left - l.length)) := by
  refine S.cx.by (S.prog ▸ Try.func73) rfl rfl rfl rfl (fun hv ho => ?_)
  cbv
  refine LenR.enc S.cx (fun n hn hm => ?_); cbv
  have hl := (hv (.int .i64 left) (by simp)).i64
  refine Arith.go (by simp only [maxLen] at hm; lia) (fun x hx => ?_); cbv
  refine Test.lss (fun h => ?_) (fun h => ?_) <;> cbv
  · refine Done.to _ [] rfl rfl trivial ⟨?_, rfl⟩
    rw [if_pos (by lia)]
  · refine Done.to _ [] rfl rfl trivial ⟨?_, rfl⟩
    rw [if_neg (by lia)]
    congr 1
    lia

theorem toInt64S_c (S : Se P A) (l : List Int) (hb : l.length ≤ 4294967296) : Is1 P 77 [.ro (A.enc cInt64 l)] (.own 1 true (A.enc cInt64 l)) := by
  refine S.cx.by (S.prog ▸ Try.func77) rfl rfl rfl rfl (fun hv ho => ?_)
  cbv
  refine LenR.enc S.cx (fun n hn hm => ?_); cbv
  refine MakeS.enc S.cx (f := cInt64) (0 : Int) rfl (by lia) (by simp only [maxBytes]; lia) (fun N z hN hz => ?_); cbv
  have hzl : z.length = N := by rw [hz]; simp
  refine ALoop.go (ι := Int × List Int) (fun i => [(4, .int .i64 i.1)]) [2020000] (fun i => [(2020000, .arr 1 true (A.enc cInt64 i.2))])
    (fun i => 0 ≤ i.1 ∧ i.1 ≤ n ∧ i.2.length = N ∧ ∀ j : Nat, (j : Int) < i.1 → i.2[j]? = l[j]?) (fun i => (n - i.1).toNat) (0, z) S.cx.tab S.cx.mix S.eq ?_ ?_ ?_
  · exact ⟨by simp, by simp only; lia, hzl, fun j hj => by simp only at hj; lia⟩
  · cbv
    refine Less.to [] rfl rfl ?_ ?_
    · repeat' (first | exact trivial | exact ⟨rfl, rfl⟩ | apply And.intro)
    · repeat' (first | exact trivial | exact ⟨_, rfl, Nat.zero_le _, rfl⟩ | apply And.intro)
  · rintro ⟨i, m⟩ ⟨h1, h2, h3, h4⟩
    dsimp only at h1 h2 h3 h4
    cbv
    refine LenR.enc S.cx (fun n' hn' hm' => ?_); cbv
    refine Test.lss (fun h => ?_) (fun h => ?_) <;> cbv
    · refine ElemRo.enc S.cx len_cInt64 (by lia) (by lia) (fun x hx => ?_)
      cbv
      refine ElemRef.go rfl (by lia) (by lia) (by rw [S.cx.lenE']; lia) (fun row hrow => ?_); cbv
      obtain ⟨y, hy⟩ := get_of_lt (l := m) (i := row) (by lia)
      refine RowSet.enc S.cx y x hy rfl (Nat.le_refl _) rfl (fun m' hm' => ?_); cbv
      refine Arith.go (by lia) (fun i' hi' => ?_); cbv
      refine Again.on (i', m') ?_ ?_ ?_
      · show (n - i').toNat < (n - i).toNat
        lia
      · refine ⟨by show 0 ≤ i'; lia, by show i' ≤ n; lia, by show m'.length = N; rw [set_len hm', h3], fun j hj => ?_⟩
        show m'[j]? = l[j]?
        replace hj : (j : Int) < i' := hj
        by_cases hjr : row = j
        · subst hjr
          rw [set_at hm' (by lia), ← hx]
          congr 1
          lia
        · rw [set_ne hm' hjr]; exact h4 j (by lia)
      · cbv
        refine Less.to [] rfl rfl ?_ ?_
        · repeat' (first | exact trivial | exact ⟨rfl, rfl⟩ | apply And.intro)
        · repeat' (first | exact trivial | exact ⟨_, rfl, Nat.zero_le _, rfl⟩ | apply And.intro)
    · exact Done.own S.cx rfl rfl h3.symm (ext_lt (l := m) (m := l) (by lia) (fun j hj => h4 j (by lia)))

theorem szBoolS_c (S : Se P A) (l : List Bool) (left : Int) (h0 : 0 ≤ left) : Is1 P 74 [.ro (A.enc cBool l), .int .i64 left] (.int .i64 (if left < l.length then -1 else left - l.length)) := by
  refine S.cx.by (S.prog ▸ Try.func74) rfl rfl rfl rfl (fun hv ho => ?_)
  cbv
  refine LenR.enc S.cx (fun n hn hm => ?_); cbv
  have hl := (hv (.int .i64 left) (by simp)).i64
  refine Arith.go (by simp only [maxLen] at hm; lia) (fun x hx => ?_); cbv
  refine Test.lss (fun h => ?_) (fun h => ?_) <;> cbv
  · refine Done.to _ [] rfl rfl trivial ⟨?_, rfl⟩
    rw [if_pos (by lia)]
  · refine Done.to _ [] rfl rfl trivial ⟨?_, rfl⟩
    rw [if_neg (by lia)]
    congr 1
    lia

theorem toBoolS_c (S : Se P A) (l : List Bool) (hb : l.length ≤ 4294967296) : Is1 P 78 [.ro (A.enc cBool l)] (.own 1 true (A.enc cBool l)) := by
  refine S.cx.by (S.prog ▸ Try.func78) rfl rfl rfl rfl (fun hv ho => ?_)
  cbv
  refine LenR.enc S.cx (fun n hn hm => ?_); cbv
  refine MakeS.enc S.cx (f := cBool) (false : Bool) rfl (by lia) (by simp only [maxBytes]; lia) (fun N z hN hz => ?_); cbv
  have hzl : z.length = N := by rw [hz]; simp
  refine ALoop.go (ι := Int × List Bool) (fun i => [(4, .int .i64 i.1)]) [2020000] (fun i => [(2020000, .arr 1 true (A.enc cBool i.2))])
    (fun i => 0 ≤ i.1 ∧ i.1 ≤ n ∧ i.2.length = N ∧ ∀ j : Nat, (j : Int) < i.1 → i.2[j]? = l[j]?) (fun i => (n - i.1).toNat) (0, z) S.cx.tab S.cx.mix S.eq ?_ ?_ ?_
  · exact ⟨by simp, by simp only; lia, hzl, fun j hj => by simp only at hj; lia⟩
  · cbv
    refine Less.to [] rfl rfl ?_ ?_
    · repeat' (first | exact trivial | exact ⟨rfl, rfl⟩ | apply And.intro)
    · repeat' (first | exact trivial | exact ⟨_, rfl, Nat.zero_le _, rfl⟩ | apply And.intro)
  · rintro ⟨i, m⟩ ⟨h1, h2, h3, h4⟩
    dsimp only at h1 h2 h3 h4
    cbv
    refine LenR.enc S.cx (fun n' hn' hm' => ?_); cbv
    refine Test.lss (fun h => ?_) (fun h => ?_) <;> cbv
    · refine ElemRo.enc S.cx len_cBool (by lia) (by lia) (fun x hx => ?_)
      cbv
      refine ElemRef.go rfl (by lia) (by lia) (by rw [S.cx.lenE']; lia) (fun row hrow => ?_); cbv
      obtain ⟨y, hy⟩ := get_of_lt (l := m) (i := row) (by lia)
      refine RowSet.enc S.cx y x hy rfl (Nat.le_refl _) rfl (fun m' hm' => ?_); cbv
      refine Arith.go (by lia) (fun i' hi' => ?_); cbv
      refine Again.on (i', m') ?_ ?_ ?_
      · show (n - i').toNat < (n - i).toNat
        lia
      · refine ⟨by show 0 ≤ i'; lia, by show i' ≤ n; lia, by show m'.length = N; rw [set_len hm', h3], fun j hj => ?_⟩
        show m'[j]? = l[j]?
        replace hj : (j : Int) < i' := hj
        by_cases hjr : row = j
        · subst hjr
          rw [set_at hm' (by lia), ← hx]
          congr 1
          lia
        · rw [set_ne hm' hjr]; exact h4 j (by lia)
      · cbv
        refine Less.to [] rfl rfl ?_ ?_
        · repeat' (first | exact trivial | exact ⟨rfl, rfl⟩ | apply And.intro)
        · repeat' (first | exact trivial | exact ⟨_, rfl, Nat.zero_le _, rfl⟩ | apply And.intro)
    · exact Done.own S.cx rfl rfl h3.symm (ext_lt (l := m) (m := l) (by lia) (fun j hj => h4 j (by lia)))

theorem toNode_c (S : Se P A) (x : Node) : Is1 P 86 [.agg (cNode x)] (.agg (cNode x)) := by
  obtain ⟨kind, up, due, key, value⟩ := x
  refine S.cx.by (S.prog ▸ Try.func86) rfl rfl rfl rfl (fun hv ho => ?_)
  cbv
  refine Done.to _ [] rfl ?_ trivial ⟨rfl, rfl⟩
  repeat' (first | exact trivial | exact rfl | refine ⟨?_, ?_⟩)

theorem eqNode_c (S : Se P A) (x y : Node) : Tests P 89 [.agg (cNode x), .agg (cNode y)] (x = y) := by
  obtain ⟨kind, up, due, key, value⟩ := x
  obtain ⟨kind', up', due', key', value'⟩ := y
  refine S.cx.by (S.prog ▸ Try.func89) rfl rfl rfl rfl (fun hv ho => ?_)
  cbv
  refine Test.neq (fun h => ?_) (fun h => ?_) <;> cbv
  · exact Done.no fun e => h (by cases e; rfl)
  subst h
  refine Test.neq (fun h => ?_) (fun h => ?_) <;> cbv
  · exact Done.no fun e => h (by cases e; rfl)
  subst h
  refine Test.neq (fun h => ?_) (fun h => ?_) <;> cbv
  · exact Done.no fun e => h (by cases e; rfl)
  subst h
  refine Test.neq (fun h => ?_) (fun h => ?_) <;> cbv
  · exact Done.no fun e => h (by cases e; rfl)
  subst h
  refine Test.neq (fun h => ?_) (fun h => ?_) <;> cbv
  · exact Done.no fun e => h (by cases e; rfl)
  subst h
  exact Done.yes rfl

theorem szNodeS_c (S : Se P A) (l : List Node) (left : Int) (h0 : 0 ≤ left) : Is1 P 23 [.ro (A.enc cNode l), .int .i64 left] (.int .i64 (if left < l.length then -1 else left - l.length)) := by
  refine S.cx.by (S.prog ▸ Try.func23) rfl rfl rfl rfl (fun hv ho => ?_)
  cbv
  refine LenR.enc S.cx (fun n hn hm => ?_); cbv
  have hl := (hv (.int .i64 left) (by simp)).i64
  refine Arith.go (by simp only [maxLen] at hm; lia) (fun x hx => ?_); cbv
  refine Test.lss (fun h => ?_) (fun h => ?_) <;> cbv
  · refine Done.to _ [] rfl rfl trivial ⟨?_, rfl⟩
    rw [if_pos (by lia)]
  · refine Done.to _ [] rfl rfl trivial ⟨?_, rfl⟩
    rw [if_neg (by lia)]
    congr 1
    lia

theorem toNodeS_c (S : Se P A) (l : List Node) (hb : l.length ≤ 4294967296) : Is1 P 26 [.ro (A.enc cNode l)] (.own 5 true (A.enc cNode l)) := by
  refine S.cx.by (S.prog ▸ Try.func26) rfl rfl rfl rfl (fun hv ho => ?_)
  cbv
  refine LenR.enc S.cx (fun n hn hm => ?_); cbv
  refine MakeS.enc S.cx (f := cNode) (⟨0, 0, 0, 0, 0⟩ : Node) rfl (by lia) (by simp only [maxBytes]; lia) (fun N z hN hz => ?_); cbv
  have hzl : z.length = N := by rw [hz]; simp
  refine ALoop.go (ι := Int × List Node) (fun i => [(4, .int .i64 i.1)]) [2020000] (fun i => [(2020000, .arr 5 true (A.enc cNode i.2))])
    (fun i => 0 ≤ i.1 ∧ i.1 ≤ n ∧ i.2.length = N ∧ ∀ j : Nat, (j : Int) < i.1 → i.2[j]? = l[j]?) (fun i => (n - i.1).toNat) (0, z) S.cx.tab S.cx.mix S.eq ?_ ?_ ?_
  · exact ⟨by simp, by simp only; lia, hzl, fun j hj => by simp only at hj; lia⟩
  · cbv
    refine Less.to [] rfl rfl ?_ ?_
    · repeat' (first | exact trivial | exact ⟨rfl, rfl⟩ | apply And.intro)
    · repeat' (first | exact trivial | exact ⟨_, rfl, Nat.zero_le _, rfl⟩ | apply And.intro)
  · rintro ⟨i, m⟩ ⟨h1, h2, h3, h4⟩
    dsimp only at h1 h2 h3 h4
    cbv
    refine LenR.enc S.cx (fun n' hn' hm' => ?_); cbv
    refine Test.lss (fun h => ?_) (fun h => ?_) <;> cbv
    · refine ElemRo.enc S.cx len_cNode (by lia) (by lia) (fun x hx => ?_)
      obtain ⟨kind, up, due, key, value⟩ := x
      cbv
      refine ACall.fn (dp := false) (toNode_c S ⟨kind, up, due, key, value⟩) ⟨rfl, ?_, trivial⟩ ⟨rfl, ?_⟩
      · repeat' (first | exact trivial | exact rfl | refine ⟨?_, ?_⟩)
      cbv
      refine ElemRef.go rfl (by lia) (by lia) (by rw [S.cx.lenE']; lia) (fun row hrow => ?_); cbv
      obtain ⟨y, hy⟩ := get_of_lt (l := m) (i := row) (by lia)
      refine RowSet.enc S.cx y ⟨kind, up, due, key, value⟩ hy rfl (Nat.le_refl _) rfl (fun m' hm' => ?_); cbv
      refine Arith.go (by lia) (fun i' hi' => ?_); cbv
      refine Again.on (i', m') ?_ ?_ ?_
      · show (n - i').toNat < (n - i).toNat
        lia
      · refine ⟨by show 0 ≤ i'; lia, by show i' ≤ n; lia, by show m'.length = N; rw [set_len hm', h3], fun j hj => ?_⟩
        show m'[j]? = l[j]?
        replace hj : (j : Int) < i' := hj
        by_cases hjr : row = j
        · subst hjr
          rw [set_at hm' (by lia), ← hx]
          congr 1
          lia
        · rw [set_ne hm' hjr]; exact h4 j (by lia)
      · cbv
        refine Less.to [] rfl rfl ?_ ?_
        · repeat' (first | exact trivial | exact ⟨rfl, rfl⟩ | apply And.intro)
        · repeat' (first | exact trivial | exact ⟨_, rfl, Nat.zero_le _, rfl⟩ | apply And.intro)
    · exact Done.own S.cx rfl rfl h3.symm (ext_lt (l := m) (m := l) (by lia) (fun j hj => h4 j (by lia)))

theorem toTask_c (S : Se P A) (x : Task) : Is1 P 92 [.agg (cTask x)] (.agg (cTask x)) := by
  obtain ⟨prog, pc, state, why, what, timer, reg, group, err⟩ := x
  refine S.cx.by (S.prog ▸ Try.func92) rfl rfl rfl rfl (fun hv ho => ?_)
  cbv
  refine Done.to _ [] rfl ?_ trivial ⟨rfl, rfl⟩
  repeat' (first | exact trivial | exact rfl | refine ⟨?_, ?_⟩)

theorem eqTask_c (S : Se P A) (x y : Task) : Tests P 93 [.agg (cTask x), .agg (cTask y)] (x = y) := by
  obtain ⟨prog, pc, state, why, what, timer, reg, group, err⟩ := x
  obtain ⟨prog', pc', state', why', what', timer', reg', group', err'⟩ := y
  refine S.cx.by (S.prog ▸ Try.func93) rfl rfl rfl rfl (fun hv ho => ?_)
  cbv
  refine Test.neq (fun h => ?_) (fun h => ?_) <;> cbv
  · exact Done.no fun e => h (by cases e; rfl)
  subst h
  refine Test.neq (fun h => ?_) (fun h => ?_) <;> cbv
  · exact Done.no fun e => h (by cases e; rfl)
  subst h
  refine Test.neq (fun h => ?_) (fun h => ?_) <;> cbv
  · exact Done.no fun e => h (by cases e; rfl)
  subst h
  refine Test.neq (fun h => ?_) (fun h => ?_) <;> cbv
  · exact Done.no fun e => h (by cases e; rfl)
  subst h
  refine Test.neq (fun h => ?_) (fun h => ?_) <;> cbv
  · exact Done.no fun e => h (by cases e; rfl)
  subst h
  refine Test.neq (fun h => ?_) (fun h => ?_) <;> cbv
  · exact Done.no fun e => h (by cases e; rfl)
  subst h
  refine Test.neq (fun h => ?_) (fun h => ?_) <;> cbv
  · exact Done.no fun e => h (by cases e; rfl)
  subst h
  refine Test.neq (fun h => ?_) (fun h => ?_) <;> cbv
  · exact Done.no fun e => h (by cases e; rfl)
  subst h
  refine Test.neq (fun h => ?_) (fun h => ?_) <;> cbv
  · exact Done.no fun e => h (by cases e; rfl)
  subst h
  exact Done.yes rfl

theorem szTaskS_c (S : Se P A) (l : List Task) (left : Int) (h0 : 0 ≤ left) : Is1 P 34 [.ro (A.enc cTask l), .int .i64 left] (.int .i64 (if left < l.length then -1 else left - l.length)) := by
  refine S.cx.by (S.prog ▸ Try.func34) rfl rfl rfl rfl (fun hv ho => ?_)
  cbv
  refine LenR.enc S.cx (fun n hn hm => ?_); cbv
  have hl := (hv (.int .i64 left) (by simp)).i64
  refine Arith.go (by simp only [maxLen] at hm; lia) (fun x hx => ?_); cbv
  refine Test.lss (fun h => ?_) (fun h => ?_) <;> cbv
  · refine Done.to _ [] rfl rfl trivial ⟨?_, rfl⟩
    rw [if_pos (by lia)]
  · refine Done.to _ [] rfl rfl trivial ⟨?_, rfl⟩
    rw [if_neg (by lia)]
    congr 1
    lia

theorem toTaskS_c (S : Se P A) (l : List Task) (hb : l.length ≤ 4294967296) : Is1 P 36 [.ro (A.enc cTask l)] (.own 9 true (A.enc cTask l)) := by
  refine S.cx.by (S.prog ▸ Try.func36) rfl rfl rfl rfl (fun hv ho => ?_)
  cbv
  refine LenR.enc S.cx (fun n hn hm => ?_); cbv
  refine MakeS.enc S.cx (f := cTask) (⟨0, 0, 0, 0, 0, 0, 0, 0, 0⟩ : Task) rfl (by lia) (by simp only [maxBytes]; lia) (fun N z hN hz => ?_); cbv
  have hzl : z.length = N := by rw [hz]; simp
  refine ALoop.go (ι := Int × List Task) (fun i => [(4, .int .i64 i.1)]) [2020000] (fun i => [(2020000, .arr 9 true (A.enc cTask i.2))])
    (fun i => 0 ≤ i.1 ∧ i.1 ≤ n ∧ i.2.length = N ∧ ∀ j : Nat, (j : Int) < i.1 → i.2[j]? = l[j]?) (fun i => (n - i.1).toNat) (0, z) S.cx.tab S.cx.mix S.eq ?_ ?_ ?_
  · exact ⟨by simp, by simp only; lia, hzl, fun j hj => by simp only at hj; lia⟩
  · cbv
    refine Less.to [] rfl rfl ?_ ?_
    · repeat' (first | exact trivial | exact ⟨rfl, rfl⟩ | apply And.intro)
    · repeat' (first | exact trivial | exact ⟨_, rfl, Nat.zero_le _, rfl⟩ | apply And.intro)
  · rintro ⟨i, m⟩ ⟨h1, h2, h3, h4⟩
    dsimp only at h1 h2 h3 h4
    cbv
    refine LenR.enc S.cx (fun n' hn' hm' => ?_); cbv
    refine Test.lss (fun h => ?_) (fun h => ?_) <;> cbv
    · refine ElemRo.enc S.cx len_cTask (by lia) (by lia) (fun x hx => ?_)
      obtain ⟨prog, pc, state, why, what, timer, reg, group, err⟩ := x
      cbv
      refine ACall.fn (dp := false) (toTask_c S ⟨prog, pc, state, why, what, timer, reg, group, err⟩) ⟨rfl, ?_, trivial⟩ ⟨rfl, ?_⟩
      · repeat' (first | exact trivial | exact rfl | refine ⟨?_, ?_⟩)
      cbv
      refine ElemRef.go rfl (by lia) (by lia) (by rw [S.cx.lenE']; lia) (fun row hrow => ?_); cbv
      obtain ⟨y, hy⟩ := get_of_lt (l := m) (i := row) (by lia)
      refine RowSet.enc S.cx y ⟨prog, pc, state, why, what, timer, reg, group, err⟩ hy rfl (Nat.le_refl _) rfl (fun m' hm' => ?_); cbv
      refine Arith.go (by lia) (fun i' hi' => ?_); cbv
      refine Again.on (i', m') ?_ ?_ ?_
      · show (n - i').toNat < (n - i).toNat
        lia
      · refine ⟨by show 0 ≤ i'; lia, by show i' ≤ n; lia, by show m'.length = N; rw [set_len hm', h3], fun j hj => ?_⟩
        show m'[j]? = l[j]?
        replace hj : (j : Int) < i' := hj
        by_cases hjr : row = j
        · subst hjr
          rw [set_at hm' (by lia), ← hx]
          congr 1
          lia
        · rw [set_ne hm' hjr]; exact h4 j (by lia)
      · cbv
        refine Less.to [] rfl rfl ?_ ?_
        · repeat' (first | exact trivial | exact ⟨rfl, rfl⟩ | apply And.intro)
        · repeat' (first | exact trivial | exact ⟨_, rfl, Nat.zero_le _, rfl⟩ | apply And.intro)
    · exact Done.own S.cx rfl rfl h3.symm (ext_lt (l := m) (m := l) (by lia) (fun j hj => h4 j (by lia)))

end Go.Proofs.Ytcbebidfnlkkeaa.AM
