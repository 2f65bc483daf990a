/- Contracts: the laws' own helpers: flat types. (printed by gen.py) -/
import Derived.Test.YtmpbmfhlkhonkaaD1
namespace Go.Proofs.Ytmpbmfhlkhonkaa.AM
open Go Go.Proofs

set_option maxRecDepth 100000
set_option linter.unusedVariables false
set_option linter.unusedSimpArgs false

variable {P : Program} {A : Sy}

theorem szInt64S_c (S : Se P A) (l : List Int) (left : Int) (h0 : 0 ≤ left) : Is1 P 64 [.ro (A.enc cInt64 l), .int .i64 left] (.int .i64 (if left < l.length then -1 else left - l.length)) := by
  refine S.cx.by (S.prog ▸ Try.func64) rfl rfl rfl rfl (fun hv ho => ?_)
  cbv
  refine LenR.enc S.cx (fun n hn hm => ?_); cbv
  have hl := (hv (.int .i64 left) (by simp)).i64
  refine Arith.go (by simp only [maxLen] at hm; lia) (fun x hx => ?_); cbv
  refine Test.lss (fun h => ?_) (fun h => ?_) <;> cbv
  · refine Done.to _ [] rfl rfl trivial ⟨?_, rfl⟩
    rw [if_pos (by lia)]
  · refine Done.to _ [] rfl rfl trivial ⟨?_, rfl⟩
    rw [if_neg (by lia)]
    congr 1
    lia

theorem toInt64S_c (S : Se P A) (l : List Int) (hb : l.length ≤ 4294967296) : Is1 P 67 [.ro (A.enc cInt64 l)] (.own 1 true (A.enc cInt64 l)) := by
  refine S.cx.by (S.prog ▸ Try.func67) rfl rfl rfl rfl (fun hv ho => ?_)
  cbv
  refine LenR.enc S.cx (fun n hn hm => ?_); cbv
  refine MakeS.enc S.cx (f := cInt64) (0 : Int) rfl (by lia) (by simp only [maxBytes]; lia) (fun N z hN hz => ?_); cbv
  have hzl : z.length = N := by rw [hz]; simp
  refine ALoop.go (ι := Int × List Int) (fun i => [(4, .int .i64 i.1)]) [2020000] (fun i => [(2020000, .arr 1 true (A.enc cInt64 i.2))])
    (fun i => 0 ≤ i.1 ∧ i.1 ≤ n ∧ i.2.length = N ∧ ∀ j : Nat, (j : Int) < i.1 → i.2[j]? = l[j]?) (fun i => (n - i.1).toNat) (0, z) S.cx.tab S.cx.mix S.eq ?_ ?_ ?_
  · exact ⟨by simp, by simp only; lia, hzl, fun j hj => by simp only at hj; lia⟩
  · cbv
    refine Less.to [] rfl rfl ?_ ?_
    · repeat' (first | exact trivial | exact ⟨rfl, rfl⟩ | apply And.intro)
    · repeat' (first | exact trivial | exact ⟨_, rfl, Nat.zero_le _, rfl⟩ | apply And.intro)
  · rintro ⟨i, m⟩ ⟨h1, h2, h3, h4⟩
    dsimp only at h1 h2 h3 h4
    cbv
    refine LenR.enc S.cx (fun n' hn' hm' => ?_); cbv
    refine Test.lss (fun h => ?_) (fun h => ?_) <;> cbv
    · refine ElemRo.enc S.cx len_cInt64 (by lia) (by lia) (fun x hx => ?_)
      cbv
      refine ElemRef.go rfl (by lia) (by lia) (by rw [S.cx.lenE']; lia) (fun row hrow => ?_); cbv
      obtain ⟨y, hy⟩ := get_of_lt (l := m) (i := row) (by lia)
      refine RowSet.enc S.cx y x hy rfl (Nat.le_refl _) rfl (fun m' hm' => ?_); cbv
      refine Arith.go (by lia) (fun i' hi' => ?_); cbv
      refine Again.on (i', m') ?_ ?_ ?_
      · show (n - i').toNat < (n - i).toNat
        lia
      · refine ⟨by show 0 ≤ i'; lia, by show i' ≤ n; lia, by show m'.length = N; rw [set_len hm', h3], fun j hj => ?_⟩
        show m'[j]? = l[j]?
        replace hj : (j : Int) < i' := hj
        by_cases hjr : row = j
        · subst hjr
          rw [set_at hm' (by lia), ← hx]
          congr 1
          lia
        · rw [set_ne hm' hjr]; exact h4 j (by lia)
      · cbv
        refine Less.to [] rfl rfl ?_ ?_
        · repeat' (first | exact trivial | exact ⟨rfl, rfl⟩ | apply And.intro)
        · repeat' (first | exact trivial | exact ⟨_, rfl, Nat.zero_le _, rfl⟩ | apply And.intro)
    · exact Done.own S.cx rfl rfl h3.symm (ext_lt (l := m) (m := l) (by lia) (fun j hj => h4 j (by lia)))

theorem toTask_c (S : Se P A) (x : Task) : Is1 P 32 [.agg (cTask x)] (.agg (cTask x)) := by
  obtain ⟨prog, pc, state, why, what, timer, reg, group, err⟩ := x
  refine S.cx.by (S.prog ▸ Try.func32) rfl rfl rfl rfl (fun hv ho => ?_)
  cbv
  refine Done.to _ [] rfl ?_ trivial ⟨rfl, rfl⟩
  repeat' (first | exact trivial | exact rfl | refine ⟨?_, ?_⟩)

theorem eqTask_c (S : Se P A) (x y : Task) : Tests P 34 [.agg (cTask x), .agg (cTask y)] (x = y) := by
  obtain ⟨prog, pc, state, why, what, timer, reg, group, err⟩ := x
  obtain ⟨prog', pc', state', why', what', timer', reg', group', err'⟩ := y
  refine S.cx.by (S.prog ▸ Try.func34) rfl rfl rfl rfl (fun hv ho => ?_)
  cbv
  refine Test.neq (fun h => ?_) (fun h => ?_) <;> cbv
  · exact Done.no fun e => h (by cases e; rfl)
  subst h
  refine Test.neq (fun h => ?_) (fun h => ?_) <;> cbv
  · exact Done.no fun e => h (by cases e; rfl)
  subst h
  refine Test.neq (fun h => ?_) (fun h => ?_) <;> cbv
  · exact Done.no fun e => h (by cases e; rfl)
  subst h
  refine Test.neq (fun h => ?_) (fun h => ?_) <;> cbv
  · exact Done.no fun e => h (by cases e; rfl)
  subst h
  refine Test.neq (fun h => ?_) (fun h => ?_) <;> cbv
  · exact Done.no fun e => h (by cases e; rfl)
  subst h
  refine Test.neq (fun h => ?_) (fun h => ?_) <;> cbv
  · exact Done.no fun e => h (by cases e; rfl)
  subst h
  refine Test.neq (fun h => ?_) (fun h => ?_) <;> cbv
  · exact Done.no fun e => h (by cases e; rfl)
  subst h
  refine Test.neq (fun h => ?_) (fun h => ?_) <;> cbv
  · exact Done.no fun e => h (by cases e; rfl)
  subst h
  refine Test.neq (fun h => ?_) (fun h => ?_) <;> cbv
  · exact Done.no fun e => h (by cases e; rfl)
  subst h
  exact Done.yes rfl

theorem szTaskS_c (S : Se P A) (l : List Task) (left : Int) (h0 : 0 ≤ left) : Is1 P 44 [.ro (A.enc cTask l), .int .i64 left] (.int .i64 (if left < l.length then -1 else left - l.length)) := by
  refine S.cx.by (S.prog ▸ Try.func44) rfl rfl rfl rfl (fun hv ho => ?_)
  cbv
  refine LenR.enc S.cx (fun n hn hm => ?_); cbv
  have hl := (hv (.int .i64 left) (by simp)).i64
  refine Arith.go (by simp only [maxLen] at hm; lia) (fun x hx => ?_); cbv
  refine Test.lss (fun h => ?_) (fun h => ?_) <;> cbv
  · refine Done.to _ [] rfl rfl trivial ⟨?_, rfl⟩
    rw [if_pos (by lia)]
  · refine Done.to _ [] rfl rfl trivial ⟨?_, rfl⟩
    rw [if_neg (by lia)]
    congr 1
    lia

theorem toTaskS_c (S : Se P A) (l : List Task) (hb : l.length ≤ 4294967296) : Is1 P 46 [.ro (A.enc cTask l)] (.own 9 true (A.enc cTask l)) := by
  refine S.cx.by (S.prog ▸ Try.func46) rfl rfl rfl rfl (fun hv ho => ?_)
  cbv
  refine LenR.enc S.cx (fun n hn hm => ?_); cbv
  refine MakeS.enc S.cx (f := cTask) (⟨0, 0, 0, 0, 0, 0, 0, 0, 0⟩ : Task) rfl (by lia) (by simp only [maxBytes]; lia) (fun N z hN hz => ?_); cbv
  have hzl : z.length = N := by rw [hz]; simp
  refine ALoop.go (ι := Int × List Task) (fun i => [(4, .int .i64 i.1)]) [2020000] (fun i => [(2020000, .arr 9 true (A.enc cTask i.2))])
    (fun i => 0 ≤ i.1 ∧ i.1 ≤ n ∧ i.2.length = N ∧ ∀ j : Nat, (j : Int) < i.1 → i.2[j]? = l[j]?) (fun i => (n - i.1).toNat) (0, z) S.cx.tab S.cx.mix S.eq ?_ ?_ ?_
  · exact ⟨by simp, by simp only; lia, hzl, fun j hj => by simp only at hj; lia⟩
  · cbv
    refine Less.to [] rfl rfl ?_ ?_
    · repeat' (first | exact trivial | exact ⟨rfl, rfl⟩ | apply And.intro)
    · repeat' (first | exact trivial | exact ⟨_, rfl, Nat.zero_le _, rfl⟩ | apply And.intro)
  · rintro ⟨i, m⟩ ⟨h1, h2, h3, h4⟩
    dsimp only at h1 h2 h3 h4
    cbv
    refine LenR.enc S.cx (fun n' hn' hm' => ?_); cbv
    refine Test.lss (fun h => ?_) (fun h => ?_) <;> cbv
    · refine ElemRo.enc S.cx len_cTask (by lia) (by lia) (fun x hx => ?_)
      obtain ⟨prog, pc, state, why, what, timer, reg, group, err⟩ := x
      cbv
      refine ACall.fn (dp := false) (toTask_c S ⟨prog, pc, state, why, what, timer, reg, group, err⟩) ⟨rfl, ?_, trivial⟩ ⟨rfl, ?_⟩
      · repeat' (first | exact trivial | exact rfl | refine ⟨?_, ?_⟩)
      cbv
      refine ElemRef.go rfl (by lia) (by lia) (by rw [S.cx.lenE']; lia) (fun row hrow => ?_); cbv
      obtain ⟨y, hy⟩ := get_of_lt (l := m) (i := row) (by lia)
      refine RowSet.enc S.cx y ⟨prog, pc, state, why, what, timer, reg, group, err⟩ hy rfl (Nat.le_refl _) rfl (fun m' hm' => ?_); cbv
      refine Arith.go (by lia) (fun i' hi' => ?_); cbv
      refine Again.on (i', m') ?_ ?_ ?_
      · show (n - i').toNat < (n - i).toNat
        lia
      · refine ⟨by show 0 ≤ i'; lia, by show i' ≤ n; lia, by show m'.length = N; rw [set_len hm', h3], fun j hj => ?_⟩
        show m'[j]? = l[j]?
        replace hj : (j : Int) < i' := hj
        by_cases hjr : row = j
        · subst hjr
          rw [set_at hm' (by lia), ← hx]
          congr 1
          lia
        · rw [set_ne hm' hjr]; exact h4 j (by lia)
      · cbv
        refine Less.to [] rfl rfl ?_ ?_
        · repeat' (first | exact trivial | exact ⟨rfl, rfl⟩ | apply And.intro)
        · repeat' (first | exact trivial | exact ⟨_, rfl, Nat.zero_le _, rfl⟩ | apply And.intro)
    · exact Done.own S.cx rfl rfl h3.symm (ext_lt (l := m) (m := l) (by lia) (fun j hj => h4 j (by lia)))

end Go.Proofs.Ytmpbmfhlkhonkaa.AM
