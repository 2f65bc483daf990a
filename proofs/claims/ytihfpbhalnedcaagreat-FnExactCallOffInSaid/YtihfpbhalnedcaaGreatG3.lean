/- Contracts: the laws' own helpers: flat types. (printed by gen.py) -/
import Derived.Test.YtihfpbhalnedcaaGreatDA
set_option linter.unusedVariables false
set_option linter.unusedSimpArgs false
namespace Go.Proofs.YtihfpbhalnedcaaGreat.AM
open Go Go.Proofs

set_option maxRecDepth 100000

variable {P : Program} {A : Sy}

theorem markInt64S_c (S : Se P A) (l : List Int) (N : Nat) (hN : N = l.length) (k : Int) (h0 : 0 <= k) (hk : k + 1 * N <= 4611686018427387904) : SoundM P 80 false [.ref false 1000 0 N, .int .i64 k] [.arr 1 true (A.enc cInt64 l)]
    (fun v os => v = .int .i64 (k + 1 * N) /\ os = [some (.arr 1 true (A.enc cInt64 (marks mInt64 1 k N)))]) := by
  refine S.cx.by (S.prog ▸ Tryz.func80) rfl rfl rfl rfl (fun hv ho => ?_)
  cbv
  refine ALoop.go (ι := Int × Int × List Int) (fun i => [(5, .int .i64 i.1), (1, .int .i64 i.2.1)]) [1000] (fun i => [(1000, .arr 1 true (A.enc cInt64 i.2.2))])
    (fun i => 0 <= i.1 /\ i.1 <= N /\ i.2.1 = k + 1 * i.1 /\ i.2.2.length = N /\ ∀ j : Nat, (j : Int) < i.1 -> i.2.2[j]? = some (mInt64 (k + 1 * j))) (fun i => (N - i.1).toNat) (0, k, l) S.cx.tab S.cx.mix S.eq ?_ ?_ ?_
  · exact ⟨by simp, by simp, by simp, hN.symm, fun j hj => by simp at hj; lia⟩
  · cbv
    refine Less.to [] rfl rfl ?_ ?_
    · repeat' (first | exact trivial | exact ⟨rfl, rfl⟩ | apply And.intro)
    · repeat' (first | exact trivial | exact ⟨_, rfl, Nat.zero_le _, rfl⟩ | apply And.intro)
  · rintro ⟨i, q, m⟩ ⟨h1, h2, h3, h4, h5⟩
    dsimp only at h1 h2 h3 h4 h5
    cbv
    refine Len.go (fun n hn hm => ?_); cbv
    refine Test.lss (fun h => ?_) (fun h => ?_) <;> cbv
    · skip
      refine ElemRef.go rfl (by lia) (by lia) (by rw [S.cx.lenE']; lia) (fun row hrow => ?_); cbv
      obtain ⟨y, hy⟩ := get_of_lt (l := m) (i := row) (by lia)
      refine RowSet.enc S.cx (y : Int) q hy rfl (Nat.le_of_ble_eq_true rfl) rfl (fun m1 hm1 => ?_); cbv
      have hy1 := set_at hm1 (lt_of_get hy)
      have hl1 : m1.length = N := by rw [set_len hm1]; exact h4
      refine Arith.go (by lia) (fun q1 hq1 => ?_); cbv
      refine Arith.go (by lia) (fun i' hi' => ?_); cbv
      refine Again.on (i', q1, m1) ?_ ?_ ?_
      · show (N - i').toNat < (N - i).toNat
        lia
      · refine ⟨by show 0 <= i'; lia, by show i' <= N; lia, by show q1 = k + 1 * i'; lia, hl1, fun j hj => ?_⟩
        replace hj : (j : Int) < i' := hj
        show m1[j]? = some (mInt64 (k + 1 * j))
        by_cases hjr : row = j
        · subst hjr
          rw [hy1]
          show some q = some (k + 1 * (row : Int))
          congr 1; lia
        · rw [set_ne hm1 hjr]; exact h5 j (by lia)
      · cbv
        refine Less.to [] rfl rfl ?_ ?_
        · repeat' (first | exact trivial | exact ⟨rfl, rfl⟩ | apply And.intro)
        · repeat' (first | exact trivial | exact ⟨_, rfl, Nat.zero_le _, rfl⟩ | apply And.intro)
    · refine Done.to (.int .i64 q) [some (.arr 1 true (A.enc cInt64 m))] rfl rfl ⟨⟨⟨rfl, rfl⟩, rfl, trivial⟩, trivial⟩ ⟨by congr 1; lia, ?_⟩
      rw [ext_lt (l := m) (m := marks mInt64 1 k N) (by rw [marks_len, h4]) (fun j hj => by rw [h5 j (by lia), marks_get _ _ _ (by lia)])]

theorem markBoolS_c (S : Se P A) (l : List Bool) (N : Nat) (hN : N = l.length) (k : Int) (h0 : 0 <= k) (hk : k + 1 * N <= 4611686018427387904) : SoundM P 175 false [.ref false 1000 0 N, .int .i64 k] [.arr 1 true (A.enc cBool l)]
    (fun v os => v = .int .i64 (k + 1 * N) /\ os = [some (.arr 1 true (A.enc cBool (marks mBool 1 k N)))]) := by
  refine S.cx.by (S.prog ▸ Tryz.func175) rfl rfl rfl rfl (fun hv ho => ?_)
  cbv
  refine ALoop.go (ι := Int × Int × List Bool) (fun i => [(5, .int .i64 i.1), (1, .int .i64 i.2.1)]) [1000] (fun i => [(1000, .arr 1 true (A.enc cBool i.2.2))])
    (fun i => 0 <= i.1 /\ i.1 <= N /\ i.2.1 = k + 1 * i.1 /\ i.2.2.length = N /\ ∀ j : Nat, (j : Int) < i.1 -> i.2.2[j]? = some (mBool (k + 1 * j))) (fun i => (N - i.1).toNat) (0, k, l) S.cx.tab S.cx.mix S.eq ?_ ?_ ?_
  · exact ⟨by simp, by simp, by simp, hN.symm, fun j hj => by simp at hj; lia⟩
  · cbv
    refine Less.to [] rfl rfl ?_ ?_
    · repeat' (first | exact trivial | exact ⟨rfl, rfl⟩ | apply And.intro)
    · repeat' (first | exact trivial | exact ⟨_, rfl, Nat.zero_le _, rfl⟩ | apply And.intro)
  · rintro ⟨i, q, m⟩ ⟨h1, h2, h3, h4, h5⟩
    dsimp only at h1 h2 h3 h4 h5
    cbv
    refine Len.go (fun n hn hm => ?_); cbv
    refine Test.lss (fun h => ?_) (fun h => ?_) <;> cbv
    · skip
      refine RemA.go (by decide) (fun r hr => ?_); cbv
      refine Test.eqB (fun b hb => ?_); cbv
      refine ElemRef.go rfl (by lia) (by lia) (by rw [S.cx.lenE']; lia) (fun row hrow => ?_); cbv
      obtain ⟨y, hy⟩ := get_of_lt (l := m) (i := row) (by lia)
      refine RowSet.enc S.cx (y : Bool) b hy rfl (Nat.le_of_ble_eq_true rfl) rfl (fun m1 hm1 => ?_); cbv
      have hy1 := set_at hm1 (lt_of_get hy)
      have hl1 : m1.length = N := by rw [set_len hm1]; exact h4
      refine Arith.go (by lia) (fun q1 hq1 => ?_); cbv
      refine Arith.go (by lia) (fun i' hi' => ?_); cbv
      refine Again.on (i', q1, m1) ?_ ?_ ?_
      · show (N - i').toNat < (N - i).toNat
        lia
      · refine ⟨by show 0 <= i'; lia, by show i' <= N; lia, by show q1 = k + 1 * i'; lia, hl1, fun j hj => ?_⟩
        replace hj : (j : Int) < i' := hj
        show m1[j]? = some (mBool (k + 1 * j))
        by_cases hjr : row = j
        · subst hjr
          rw [hy1]
          show some b = some (decide ((k + 1 * (row : Int)).tmod 3 = 0))
          rw [hb, hr]; congr 3; lia
        · rw [set_ne hm1 hjr]; exact h5 j (by lia)
      · cbv
        refine Less.to [] rfl rfl ?_ ?_
        · repeat' (first | exact trivial | exact ⟨rfl, rfl⟩ | apply And.intro)
        · repeat' (first | exact trivial | exact ⟨_, rfl, Nat.zero_le _, rfl⟩ | apply And.intro)
    · refine Done.to (.int .i64 q) [some (.arr 1 true (A.enc cBool m))] rfl rfl ⟨⟨⟨rfl, rfl⟩, rfl, trivial⟩, trivial⟩ ⟨by congr 1; lia, ?_⟩
      rw [ext_lt (l := m) (m := marks mBool 1 k N) (by rw [marks_len, h4]) (fun j hj => by rw [h5 j (by lia), marks_get _ _ _ (by lia)])]

theorem markTwigS_c (S : Se P A) (l : List Twig) (N : Nat) (hN : N = l.length) (k : Int) (h0 : 0 <= k) (hk : k + 3 * N <= 4611686018427387904) : SoundM P 176 false [.ref false 1000 0 N, .int .i64 k] [.arr 3 true (A.enc cTwig l)]
    (fun v os => v = .int .i64 (k + 3 * N) /\ os = [some (.arr 3 true (A.enc cTwig (marks mTwig 3 k N)))]) := by
  refine S.cx.by (S.prog ▸ Tryz.func176) rfl rfl rfl rfl (fun hv ho => ?_)
  cbv
  refine ALoop.go (ι := Int × Int × List Twig) (fun i => [(5, .int .i64 i.1), (1, .int .i64 i.2.1)]) [1000] (fun i => [(1000, .arr 3 true (A.enc cTwig i.2.2))])
    (fun i => 0 <= i.1 /\ i.1 <= N /\ i.2.1 = k + 3 * i.1 /\ i.2.2.length = N /\ ∀ j : Nat, (j : Int) < i.1 -> i.2.2[j]? = some (mTwig (k + 3 * j))) (fun i => (N - i.1).toNat) (0, k, l) S.cx.tab S.cx.mix S.eq ?_ ?_ ?_
  · exact ⟨by simp, by simp, by simp, hN.symm, fun j hj => by simp at hj; lia⟩
  · cbv
    refine Less.to [] rfl rfl ?_ ?_
    · repeat' (first | exact trivial | exact ⟨rfl, rfl⟩ | apply And.intro)
    · repeat' (first | exact trivial | exact ⟨_, rfl, Nat.zero_le _, rfl⟩ | apply And.intro)
  · rintro ⟨i, q, m⟩ ⟨h1, h2, h3, h4, h5⟩
    dsimp only at h1 h2 h3 h4 h5
    cbv
    refine Len.go (fun n hn hm => ?_); cbv
    refine Test.lss (fun h => ?_) (fun h => ?_) <;> cbv
    · skip
      refine ElemRef.go rfl (by lia) (by lia) (by rw [S.cx.lenE']; lia) (fun row hrow => ?_); cbv
      obtain ⟨y, hy⟩ := get_of_lt (l := m) (i := row) (by lia)
      obtain ⟨due0, seq0, lefts0⟩ := y
      refine RowSet.enc S.cx (⟨due0, seq0, lefts0⟩ : Twig) ⟨q, seq0, lefts0⟩ hy rfl (Nat.le_of_ble_eq_true rfl) rfl (fun m1 hm1 => ?_); cbv
      have hy1 := set_at hm1 (lt_of_get hy)
      have hl1 : m1.length = N := by rw [set_len hm1]; exact h4
      refine Arith.go (by lia) (fun q1 hq1 => ?_); cbv
      refine ElemRef.go rfl (by lia) (by lia) (by rw [S.cx.lenE']; lia) (fun row1 hrow1 => ?_); cbv
      obtain rfl : row = row1 := by lia
      refine RowSet.enc S.cx (⟨q, seq0, lefts0⟩ : Twig) ⟨q, q1, lefts0⟩ hy1 rfl (Nat.le_of_ble_eq_true rfl) rfl (fun m2 hm2 => ?_); cbv
      have hy2 := set_at hm2 (lt_of_get hy1)
      have hl2 : m2.length = N := by rw [set_len hm2]; exact hl1
      refine Arith.go (by lia) (fun q2 hq2 => ?_); cbv
      refine ElemRef.go rfl (by lia) (by lia) (by rw [S.cx.lenE']; lia) (fun row2 hrow2 => ?_); cbv
      obtain rfl : row = row2 := by lia
      refine RowSet.enc S.cx (⟨q, q1, lefts0⟩ : Twig) ⟨q, q1, q2⟩ hy2 rfl (Nat.le_of_ble_eq_true rfl) rfl (fun m3 hm3 => ?_); cbv
      have hy3 := set_at hm3 (lt_of_get hy2)
      have hl3 : m3.length = N := by rw [set_len hm3]; exact hl2
      refine Arith.go (by lia) (fun q3 hq3 => ?_); cbv
      refine Arith.go (by lia) (fun i' hi' => ?_); cbv
      refine Again.on (i', q3, m3) ?_ ?_ ?_
      · show (N - i').toNat < (N - i).toNat
        lia
      · refine ⟨by show 0 <= i'; lia, by show i' <= N; lia, by show q3 = k + 3 * i'; lia, hl3, fun j hj => ?_⟩
        replace hj : (j : Int) < i' := hj
        show m3[j]? = some (mTwig (k + 3 * j))
        by_cases hjr : row = j
        · subst hjr
          rw [hy3]
          show some (⟨q, q1, q2⟩ : Twig) = some (mTwig (k + 3 * (row : Int)))
          simp only [mTwig, Option.some.injEq, Twig.mk.injEq]
          refine ⟨?_, ?_, ?_⟩
          · lia
          · lia
          · lia
        · rw [set_ne hm3 hjr]; rw [set_ne hm2 hjr]; rw [set_ne hm1 hjr]; exact h5 j (by lia)
      · cbv
        refine Less.to [] rfl rfl ?_ ?_
        · repeat' (first | exact trivial | exact ⟨rfl, rfl⟩ | apply And.intro)
        · repeat' (first | exact trivial | exact ⟨_, rfl, Nat.zero_le _, rfl⟩ | apply And.intro)
    · refine Done.to (.int .i64 q) [some (.arr 3 true (A.enc cTwig m))] rfl rfl ⟨⟨⟨rfl, rfl⟩, rfl, trivial⟩, trivial⟩ ⟨by congr 1; lia, ?_⟩
      rw [ext_lt (l := m) (m := marks mTwig 3 k N) (by rw [marks_len, h4]) (fun j hj => by rw [h5 j (by lia), marks_get _ _ _ (by lia)])]

theorem markTimerS_c (S : Se P A) (l : List Timer) (N : Nat) (hN : N = l.length) (k : Int) (h0 : 0 <= k) (hk : k + 5 * N <= 4611686018427387904) : SoundM P 177 false [.ref false 1000 0 N, .int .i64 k] [.arr 5 true (A.enc cTimer l)]
    (fun v os => v = .int .i64 (k + 5 * N) /\ os = [some (.arr 5 true (A.enc cTimer (marks mTimer 5 k N)))]) := by
  refine S.cx.by (S.prog ▸ Tryz.func177) rfl rfl rfl rfl (fun hv ho => ?_)
  cbv
  refine ALoop.go (ι := Int × Int × List Timer) (fun i => [(5, .int .i64 i.1), (1, .int .i64 i.2.1)]) [1000] (fun i => [(1000, .arr 5 true (A.enc cTimer i.2.2))])
    (fun i => 0 <= i.1 /\ i.1 <= N /\ i.2.1 = k + 5 * i.1 /\ i.2.2.length = N /\ ∀ j : Nat, (j : Int) < i.1 -> i.2.2[j]? = some (mTimer (k + 5 * j))) (fun i => (N - i.1).toNat) (0, k, l) S.cx.tab S.cx.mix S.eq ?_ ?_ ?_
  · exact ⟨by simp, by simp, by simp, hN.symm, fun j hj => by simp at hj; lia⟩
  · cbv
    refine Less.to [] rfl rfl ?_ ?_
    · repeat' (first | exact trivial | exact ⟨rfl, rfl⟩ | apply And.intro)
    · repeat' (first | exact trivial | exact ⟨_, rfl, Nat.zero_le _, rfl⟩ | apply And.intro)
  · rintro ⟨i, q, m⟩ ⟨h1, h2, h3, h4, h5⟩
    dsimp only at h1 h2 h3 h4 h5
    cbv
    refine Len.go (fun n hn hm => ?_); cbv
    refine Test.lss (fun h => ?_) (fun h => ?_) <;> cbv
    · skip
      refine ElemRef.go rfl (by lia) (by lia) (by rw [S.cx.lenE']; lia) (fun row hrow => ?_); cbv
      obtain ⟨y, hy⟩ := get_of_lt (l := m) (i := row) (by lia)
      obtain ⟨seq0, due0, what0, whom0, armed0⟩ := y
      refine RowSet.enc S.cx (⟨seq0, due0, what0, whom0, armed0⟩ : Timer) ⟨q, due0, what0, whom0, armed0⟩ hy rfl (Nat.le_of_ble_eq_true rfl) rfl (fun m1 hm1 => ?_); cbv
      have hy1 := set_at hm1 (lt_of_get hy)
      have hl1 : m1.length = N := by rw [set_len hm1]; exact h4
      refine Arith.go (by lia) (fun q1 hq1 => ?_); cbv
      refine ElemRef.go rfl (by lia) (by lia) (by rw [S.cx.lenE']; lia) (fun row1 hrow1 => ?_); cbv
      obtain rfl : row = row1 := by lia
      refine RowSet.enc S.cx (⟨q, due0, what0, whom0, armed0⟩ : Timer) ⟨q, q1, what0, whom0, armed0⟩ hy1 rfl (Nat.le_of_ble_eq_true rfl) rfl (fun m2 hm2 => ?_); cbv
      have hy2 := set_at hm2 (lt_of_get hy1)
      have hl2 : m2.length = N := by rw [set_len hm2]; exact hl1
      refine Arith.go (by lia) (fun q2 hq2 => ?_); cbv
      refine ElemRef.go rfl (by lia) (by lia) (by rw [S.cx.lenE']; lia) (fun row2 hrow2 => ?_); cbv
      obtain rfl : row = row2 := by lia
      refine RowSet.enc S.cx (⟨q, q1, what0, whom0, armed0⟩ : Timer) ⟨q, q1, q2, whom0, armed0⟩ hy2 rfl (Nat.le_of_ble_eq_true rfl) rfl (fun m3 hm3 => ?_); cbv
      have hy3 := set_at hm3 (lt_of_get hy2)
      have hl3 : m3.length = N := by rw [set_len hm3]; exact hl2
      refine Arith.go (by lia) (fun q3 hq3 => ?_); cbv
      refine ElemRef.go rfl (by lia) (by lia) (by rw [S.cx.lenE']; lia) (fun row3 hrow3 => ?_); cbv
      obtain rfl : row = row3 := by lia
      refine RowSet.enc S.cx (⟨q, q1, q2, whom0, armed0⟩ : Timer) ⟨q, q1, q2, q3, armed0⟩ hy3 rfl (Nat.le_of_ble_eq_true rfl) rfl (fun m4 hm4 => ?_); cbv
      have hy4 := set_at hm4 (lt_of_get hy3)
      have hl4 : m4.length = N := by rw [set_len hm4]; exact hl3
      refine Arith.go (by lia) (fun q4 hq4 => ?_); cbv
      refine RemA.go (by decide) (fun r hr => ?_); cbv
      refine Test.eqB (fun b hb => ?_); cbv
      refine ElemRef.go rfl (by lia) (by lia) (by rw [S.cx.lenE']; lia) (fun row4 hrow4 => ?_); cbv
      obtain rfl : row = row4 := by lia
      refine RowSet.enc S.cx (⟨q, q1, q2, q3, armed0⟩ : Timer) ⟨q, q1, q2, q3, b⟩ hy4 rfl (Nat.le_of_ble_eq_true rfl) rfl (fun m5 hm5 => ?_); cbv
      have hy5 := set_at hm5 (lt_of_get hy4)
      have hl5 : m5.length = N := by rw [set_len hm5]; exact hl4
      refine Arith.go (by lia) (fun q5 hq5 => ?_); cbv
      refine Arith.go (by lia) (fun i' hi' => ?_); cbv
      refine Again.on (i', q5, m5) ?_ ?_ ?_
      · show (N - i').toNat < (N - i).toNat
        lia
      · refine ⟨by show 0 <= i'; lia, by show i' <= N; lia, by show q5 = k + 5 * i'; lia, hl5, fun j hj => ?_⟩
        replace hj : (j : Int) < i' := hj
        show m5[j]? = some (mTimer (k + 5 * j))
        by_cases hjr : row = j
        · subst hjr
          rw [hy5]
          show some (⟨q, q1, q2, q3, b⟩ : Timer) = some (mTimer (k + 5 * (row : Int)))
          simp only [mTimer, Option.some.injEq, Timer.mk.injEq]
          refine ⟨?_, ?_, ?_, ?_, ?_⟩
          · lia
          · lia
          · lia
          · lia
          · rw [hb, hr]; congr 2; congr 1; lia
        · rw [set_ne hm5 hjr]; rw [set_ne hm4 hjr]; rw [set_ne hm3 hjr]; rw [set_ne hm2 hjr]; rw [set_ne hm1 hjr]; exact h5 j (by lia)
      · cbv
        refine Less.to [] rfl rfl ?_ ?_
        · repeat' (first | exact trivial | exact ⟨rfl, rfl⟩ | apply And.intro)
        · repeat' (first | exact trivial | exact ⟨_, rfl, Nat.zero_le _, rfl⟩ | apply And.intro)
    · refine Done.to (.int .i64 q) [some (.arr 5 true (A.enc cTimer m))] rfl rfl ⟨⟨⟨rfl, rfl⟩, rfl, trivial⟩, trivial⟩ ⟨by congr 1; lia, ?_⟩
      rw [ext_lt (l := m) (m := marks mTimer 5 k N) (by rw [marks_len, h4]) (fun j hj => by rw [h5 j (by lia), marks_get _ _ _ (by lia)])]

theorem markNodeS_c (S : Se P A) (l : List Node) (N : Nat) (hN : N = l.length) (k : Int) (h0 : 0 <= k) (hk : k + 5 * N <= 4611686018427387904) : SoundM P 72 false [.ref false 1000 0 N, .int .i64 k] [.arr 5 true (A.enc cNode l)]
    (fun v os => v = .int .i64 (k + 5 * N) /\ os = [some (.arr 5 true (A.enc cNode (marks mNode 5 k N)))]) := by
  refine S.cx.by (S.prog ▸ Tryz.func72) rfl rfl rfl rfl (fun hv ho => ?_)
  cbv
  refine ALoop.go (ι := Int × Int × List Node) (fun i => [(5, .int .i64 i.1), (1, .int .i64 i.2.1)]) [1000] (fun i => [(1000, .arr 5 true (A.enc cNode i.2.2))])
    (fun i => 0 <= i.1 /\ i.1 <= N /\ i.2.1 = k + 5 * i.1 /\ i.2.2.length = N /\ ∀ j : Nat, (j : Int) < i.1 -> i.2.2[j]? = some (mNode (k + 5 * j))) (fun i => (N - i.1).toNat) (0, k, l) S.cx.tab S.cx.mix S.eq ?_ ?_ ?_
  · exact ⟨by simp, by simp, by simp, hN.symm, fun j hj => by simp at hj; lia⟩
  · cbv
    refine Less.to [] rfl rfl ?_ ?_
    · repeat' (first | exact trivial | exact ⟨rfl, rfl⟩ | apply And.intro)
    · repeat' (first | exact trivial | exact ⟨_, rfl, Nat.zero_le _, rfl⟩ | apply And.intro)
  · rintro ⟨i, q, m⟩ ⟨h1, h2, h3, h4, h5⟩
    dsimp only at h1 h2 h3 h4 h5
    cbv
    refine Len.go (fun n hn hm => ?_); cbv
    refine Test.lss (fun h => ?_) (fun h => ?_) <;> cbv
    · skip
      refine ElemRef.go rfl (by lia) (by lia) (by rw [S.cx.lenE']; lia) (fun row hrow => ?_); cbv
      obtain ⟨y, hy⟩ := get_of_lt (l := m) (i := row) (by lia)
      obtain ⟨kind0, up0, due0, key0, value0⟩ := y
      refine RowSet.enc S.cx (⟨kind0, up0, due0, key0, value0⟩ : Node) ⟨q, up0, due0, key0, value0⟩ hy rfl (Nat.le_of_ble_eq_true rfl) rfl (fun m1 hm1 => ?_); cbv
      have hy1 := set_at hm1 (lt_of_get hy)
      have hl1 : m1.length = N := by rw [set_len hm1]; exact h4
      refine Arith.go (by lia) (fun q1 hq1 => ?_); cbv
      refine ElemRef.go rfl (by lia) (by lia) (by rw [S.cx.lenE']; lia) (fun row1 hrow1 => ?_); cbv
      obtain rfl : row = row1 := by lia
      refine RowSet.enc S.cx (⟨q, up0, due0, key0, value0⟩ : Node) ⟨q, q1, due0, key0, value0⟩ hy1 rfl (Nat.le_of_ble_eq_true rfl) rfl (fun m2 hm2 => ?_); cbv
      have hy2 := set_at hm2 (lt_of_get hy1)
      have hl2 : m2.length = N := by rw [set_len hm2]; exact hl1
      refine Arith.go (by lia) (fun q2 hq2 => ?_); cbv
      refine ElemRef.go rfl (by lia) (by lia) (by rw [S.cx.lenE']; lia) (fun row2 hrow2 => ?_); cbv
      obtain rfl : row = row2 := by lia
      refine RowSet.enc S.cx (⟨q, q1, due0, key0, value0⟩ : Node) ⟨q, q1, q2, key0, value0⟩ hy2 rfl (Nat.le_of_ble_eq_true rfl) rfl (fun m3 hm3 => ?_); cbv
      have hy3 := set_at hm3 (lt_of_get hy2)
      have hl3 : m3.length = N := by rw [set_len hm3]; exact hl2
      refine Arith.go (by lia) (fun q3 hq3 => ?_); cbv
      refine ElemRef.go rfl (by lia) (by lia) (by rw [S.cx.lenE']; lia) (fun row3 hrow3 => ?_); cbv
      obtain rfl : row = row3 := by lia
      refine RowSet.enc S.cx (⟨q, q1, q2, key0, value0⟩ : Node) ⟨q, q1, q2, q3, value0⟩ hy3 rfl (Nat.le_of_ble_eq_true rfl) rfl (fun m4 hm4 => ?_); cbv
      have hy4 := set_at hm4 (lt_of_get hy3)
      have hl4 : m4.length = N := by rw [set_len hm4]; exact hl3
      refine Arith.go (by lia) (fun q4 hq4 => ?_); cbv
      refine ElemRef.go rfl (by lia) (by lia) (by rw [S.cx.lenE']; lia) (fun row4 hrow4 => ?_); cbv
      obtain rfl : row = row4 := by lia
      refine RowSet.enc S.cx (⟨q, q1, q2, q3, value0⟩ : Node) ⟨q, q1, q2, q3, q4⟩ hy4 rfl (Nat.le_of_ble_eq_true rfl) rfl (fun m5 hm5 => ?_); cbv
      have hy5 := set_at hm5 (lt_of_get hy4)
      have hl5 : m5.length = N := by rw [set_len hm5]; exact hl4
      refine Arith.go (by lia) (fun q5 hq5 => ?_); cbv
      refine Arith.go (by lia) (fun i' hi' => ?_); cbv
      refine Again.on (i', q5, m5) ?_ ?_ ?_
      · show (N - i').toNat < (N - i).toNat
        lia
      · refine ⟨by show 0 <= i'; lia, by show i' <= N; lia, by show q5 = k + 5 * i'; lia, hl5, fun j hj => ?_⟩
        replace hj : (j : Int) < i' := hj
        show m5[j]? = some (mNode (k + 5 * j))
        by_cases hjr : row = j
        · subst hjr
          rw [hy5]
          show some (⟨q, q1, q2, q3, q4⟩ : Node) = some (mNode (k + 5 * (row : Int)))
          simp only [mNode, Option.some.injEq, Node.mk.injEq]
          refine ⟨?_, ?_, ?_, ?_, ?_⟩
          · lia
          · lia
          · lia
          · lia
          · lia
        · rw [set_ne hm5 hjr]; rw [set_ne hm4 hjr]; rw [set_ne hm3 hjr]; rw [set_ne hm2 hjr]; rw [set_ne hm1 hjr]; exact h5 j (by lia)
      · cbv
        refine Less.to [] rfl rfl ?_ ?_
        · repeat' (first | exact trivial | exact ⟨rfl, rfl⟩ | apply And.intro)
        · repeat' (first | exact trivial | exact ⟨_, rfl, Nat.zero_le _, rfl⟩ | apply And.intro)
    · refine Done.to (.int .i64 q) [some (.arr 5 true (A.enc cNode m))] rfl rfl ⟨⟨⟨rfl, rfl⟩, rfl, trivial⟩, trivial⟩ ⟨by congr 1; lia, ?_⟩
      rw [ext_lt (l := m) (m := marks mNode 5 k N) (by rw [marks_len, h4]) (fun j hj => by rw [h5 j (by lia), marks_get _ _ _ (by lia)])]

theorem markEventS_c (S : Se P A) (l : List Event) (N : Nat) (hN : N = l.length) (k : Int) (h0 : 0 <= k) (hk : k + 4 * N <= 4611686018427387904) : SoundM P 73 false [.ref false 1000 0 N, .int .i64 k] [.arr 4 true (A.enc cEvent l)]
    (fun v os => v = .int .i64 (k + 4 * N) /\ os = [some (.arr 4 true (A.enc cEvent (marks mEvent 4 k N)))]) := by
  refine S.cx.by (S.prog ▸ Tryz.func73) rfl rfl rfl rfl (fun hv ho => ?_)
  cbv
  refine ALoop.go (ι := Int × Int × List Event) (fun i => [(5, .int .i64 i.1), (1, .int .i64 i.2.1)]) [1000] (fun i => [(1000, .arr 4 true (A.enc cEvent i.2.2))])
    (fun i => 0 <= i.1 /\ i.1 <= N /\ i.2.1 = k + 4 * i.1 /\ i.2.2.length = N /\ ∀ j : Nat, (j : Int) < i.1 -> i.2.2[j]? = some (mEvent (k + 4 * j))) (fun i => (N - i.1).toNat) (0, k, l) S.cx.tab S.cx.mix S.eq ?_ ?_ ?_
  · exact ⟨by simp, by simp, by simp, hN.symm, fun j hj => by simp at hj; lia⟩
  · cbv
    refine Less.to [] rfl rfl ?_ ?_
    · repeat' (first | exact trivial | exact ⟨rfl, rfl⟩ | apply And.intro)
    · repeat' (first | exact trivial | exact ⟨_, rfl, Nat.zero_le _, rfl⟩ | apply And.intro)
  · rintro ⟨i, q, m⟩ ⟨h1, h2, h3, h4, h5⟩
    dsimp only at h1 h2 h3 h4 h5
    cbv
    refine Len.go (fun n hn hm => ?_); cbv
    refine Test.lss (fun h => ?_) (fun h => ?_) <;> cbv
    · skip
      refine ElemRef.go rfl (by lia) (by lia) (by rw [S.cx.lenE']; lia) (fun row hrow => ?_); cbv
      obtain ⟨y, hy⟩ := get_of_lt (l := m) (i := row) (by lia)
      obtain ⟨node0, err0, cause0, time0⟩ := y
      refine RowSet.enc S.cx (⟨node0, err0, cause0, time0⟩ : Event) ⟨q, err0, cause0, time0⟩ hy rfl (Nat.le_of_ble_eq_true rfl) rfl (fun m1 hm1 => ?_); cbv
      have hy1 := set_at hm1 (lt_of_get hy)
      have hl1 : m1.length = N := by rw [set_len hm1]; exact h4
      refine Arith.go (by lia) (fun q1 hq1 => ?_); cbv
      refine ElemRef.go rfl (by lia) (by lia) (by rw [S.cx.lenE']; lia) (fun row1 hrow1 => ?_); cbv
      obtain rfl : row = row1 := by lia
      refine RowSet.enc S.cx (⟨q, err0, cause0, time0⟩ : Event) ⟨q, q1, cause0, time0⟩ hy1 rfl (Nat.le_of_ble_eq_true rfl) rfl (fun m2 hm2 => ?_); cbv
      have hy2 := set_at hm2 (lt_of_get hy1)
      have hl2 : m2.length = N := by rw [set_len hm2]; exact hl1
      refine Arith.go (by lia) (fun q2 hq2 => ?_); cbv
      refine ElemRef.go rfl (by lia) (by lia) (by rw [S.cx.lenE']; lia) (fun row2 hrow2 => ?_); cbv
      obtain rfl : row = row2 := by lia
      refine RowSet.enc S.cx (⟨q, q1, cause0, time0⟩ : Event) ⟨q, q1, q2, time0⟩ hy2 rfl (Nat.le_of_ble_eq_true rfl) rfl (fun m3 hm3 => ?_); cbv
      have hy3 := set_at hm3 (lt_of_get hy2)
      have hl3 : m3.length = N := by rw [set_len hm3]; exact hl2
      refine Arith.go (by lia) (fun q3 hq3 => ?_); cbv
      refine ElemRef.go rfl (by lia) (by lia) (by rw [S.cx.lenE']; lia) (fun row3 hrow3 => ?_); cbv
      obtain rfl : row = row3 := by lia
      refine RowSet.enc S.cx (⟨q, q1, q2, time0⟩ : Event) ⟨q, q1, q2, q3⟩ hy3 rfl (Nat.le_of_ble_eq_true rfl) rfl (fun m4 hm4 => ?_); cbv
      have hy4 := set_at hm4 (lt_of_get hy3)
      have hl4 : m4.length = N := by rw [set_len hm4]; exact hl3
      refine Arith.go (by lia) (fun q4 hq4 => ?_); cbv
      refine Arith.go (by lia) (fun i' hi' => ?_); cbv
      refine Again.on (i', q4, m4) ?_ ?_ ?_
      · show (N - i').toNat < (N - i).toNat
        lia
      · refine ⟨by show 0 <= i'; lia, by show i' <= N; lia, by show q4 = k + 4 * i'; lia, hl4, fun j hj => ?_⟩
        replace hj : (j : Int) < i' := hj
        show m4[j]? = some (mEvent (k + 4 * j))
        by_cases hjr : row = j
        · subst hjr
          rw [hy4]
          show some (⟨q, q1, q2, q3⟩ : Event) = some (mEvent (k + 4 * (row : Int)))
          simp only [mEvent, Option.some.injEq, Event.mk.injEq]
          refine ⟨?_, ?_, ?_, ?_⟩
          · lia
          · lia
          · lia
          · lia
        · rw [set_ne hm4 hjr]; rw [set_ne hm3 hjr]; rw [set_ne hm2 hjr]; rw [set_ne hm1 hjr]; exact h5 j (by lia)
      · cbv
        refine Less.to [] rfl rfl ?_ ?_
        · repeat' (first | exact trivial | exact ⟨rfl, rfl⟩ | apply And.intro)
        · repeat' (first | exact trivial | exact ⟨_, rfl, Nat.zero_le _, rfl⟩ | apply And.intro)
    · refine Done.to (.int .i64 q) [some (.arr 4 true (A.enc cEvent m))] rfl rfl ⟨⟨⟨rfl, rfl⟩, rfl, trivial⟩, trivial⟩ ⟨by congr 1; lia, ?_⟩
      rw [ext_lt (l := m) (m := marks mEvent 4 k N) (by rw [marks_len, h4]) (fun j hj => by rw [h5 j (by lia), marks_get _ _ _ (by lia)])]

theorem markAfterS_c (S : Se P A) (l : List After) (N : Nat) (hN : N = l.length) (k : Int) (h0 : 0 <= k) (hk : k + 5 * N <= 4611686018427387904) : SoundM P 179 false [.ref false 1000 0 N, .int .i64 k] [.arr 5 true (A.enc cAfter l)]
    (fun v os => v = .int .i64 (k + 5 * N) /\ os = [some (.arr 5 true (A.enc cAfter (marks mAfter 5 k N)))]) := by
  refine S.cx.by (S.prog ▸ Tryz.func179) rfl rfl rfl rfl (fun hv ho => ?_)
  cbv
  refine ALoop.go (ι := Int × Int × List After) (fun i => [(5, .int .i64 i.1), (1, .int .i64 i.2.1)]) [1000] (fun i => [(1000, .arr 5 true (A.enc cAfter i.2.2))])
    (fun i => 0 <= i.1 /\ i.1 <= N /\ i.2.1 = k + 5 * i.1 /\ i.2.2.length = N /\ ∀ j : Nat, (j : Int) < i.1 -> i.2.2[j]? = some (mAfter (k + 5 * j))) (fun i => (N - i.1).toNat) (0, k, l) S.cx.tab S.cx.mix S.eq ?_ ?_ ?_
  · exact ⟨by simp, by simp, by simp, hN.symm, fun j hj => by simp at hj; lia⟩
  · cbv
    refine Less.to [] rfl rfl ?_ ?_
    · repeat' (first | exact trivial | exact ⟨rfl, rfl⟩ | apply And.intro)
    · repeat' (first | exact trivial | exact ⟨_, rfl, Nat.zero_le _, rfl⟩ | apply And.intro)
  · rintro ⟨i, q, m⟩ ⟨h1, h2, h3, h4, h5⟩
    dsimp only at h1 h2 h3 h4 h5
    cbv
    refine Len.go (fun n hn hm => ?_); cbv
    refine Test.lss (fun h => ?_) (fun h => ?_) <;> cbv
    · skip
      refine ElemRef.go rfl (by lia) (by lia) (by rw [S.cx.lenE']; lia) (fun row hrow => ?_); cbv
      obtain ⟨y, hy⟩ := get_of_lt (l := m) (i := row) (by lia)
      obtain ⟨slot0, age0, node0, func0, queued0⟩ := y
      refine RowSet.enc S.cx (⟨slot0, age0, node0, func0, queued0⟩ : After) ⟨q, age0, node0, func0, queued0⟩ hy rfl (Nat.le_of_ble_eq_true rfl) rfl (fun m1 hm1 => ?_); cbv
      have hy1 := set_at hm1 (lt_of_get hy)
      have hl1 : m1.length = N := by rw [set_len hm1]; exact h4
      refine Arith.go (by lia) (fun q1 hq1 => ?_); cbv
      refine ElemRef.go rfl (by lia) (by lia) (by rw [S.cx.lenE']; lia) (fun row1 hrow1 => ?_); cbv
      obtain rfl : row = row1 := by lia
      refine RowSet.enc S.cx (⟨q, age0, node0, func0, queued0⟩ : After) ⟨q, q1, node0, func0, queued0⟩ hy1 rfl (Nat.le_of_ble_eq_true rfl) rfl (fun m2 hm2 => ?_); cbv
      have hy2 := set_at hm2 (lt_of_get hy1)
      have hl2 : m2.length = N := by rw [set_len hm2]; exact hl1
      refine Arith.go (by lia) (fun q2 hq2 => ?_); cbv
      refine ElemRef.go rfl (by lia) (by lia) (by rw [S.cx.lenE']; lia) (fun row2 hrow2 => ?_); cbv
      obtain rfl : row = row2 := by lia
      refine RowSet.enc S.cx (⟨q, q1, node0, func0, queued0⟩ : After) ⟨q, q1, q2, func0, queued0⟩ hy2 rfl (Nat.le_of_ble_eq_true rfl) rfl (fun m3 hm3 => ?_); cbv
      have hy3 := set_at hm3 (lt_of_get hy2)
      have hl3 : m3.length = N := by rw [set_len hm3]; exact hl2
      refine Arith.go (by lia) (fun q3 hq3 => ?_); cbv
      refine ElemRef.go rfl (by lia) (by lia) (by rw [S.cx.lenE']; lia) (fun row3 hrow3 => ?_); cbv
      obtain rfl : row = row3 := by lia
      refine RowSet.enc S.cx (⟨q, q1, q2, func0, queued0⟩ : After) ⟨q, q1, q2, q3, queued0⟩ hy3 rfl (Nat.le_of_ble_eq_true rfl) rfl (fun m4 hm4 => ?_); cbv
      have hy4 := set_at hm4 (lt_of_get hy3)
      have hl4 : m4.length = N := by rw [set_len hm4]; exact hl3
      refine Arith.go (by lia) (fun q4 hq4 => ?_); cbv
      refine RemA.go (by decide) (fun r hr => ?_); cbv
      refine Test.eqB (fun b hb => ?_); cbv
      refine ElemRef.go rfl (by lia) (by lia) (by rw [S.cx.lenE']; lia) (fun row4 hrow4 => ?_); cbv
      obtain rfl : row = row4 := by lia
      refine RowSet.enc S.cx (⟨q, q1, q2, q3, queued0⟩ : After) ⟨q, q1, q2, q3, b⟩ hy4 rfl (Nat.le_of_ble_eq_true rfl) rfl (fun m5 hm5 => ?_); cbv
      have hy5 := set_at hm5 (lt_of_get hy4)
      have hl5 : m5.length = N := by rw [set_len hm5]; exact hl4
      refine Arith.go (by lia) (fun q5 hq5 => ?_); cbv
      refine Arith.go (by lia) (fun i' hi' => ?_); cbv
      refine Again.on (i', q5, m5) ?_ ?_ ?_
      · show (N - i').toNat < (N - i).toNat
        lia
      · refine ⟨by show 0 <= i'; lia, by show i' <= N; lia, by show q5 = k + 5 * i'; lia, hl5, fun j hj => ?_⟩
        replace hj : (j : Int) < i' := hj
        show m5[j]? = some (mAfter (k + 5 * j))
        by_cases hjr : row = j
        · subst hjr
          rw [hy5]
          show some (⟨q, q1, q2, q3, b⟩ : After) = some (mAfter (k + 5 * (row : Int)))
          simp only [mAfter, Option.some.injEq, After.mk.injEq]
          refine ⟨?_, ?_, ?_, ?_, ?_⟩
          · lia
          · lia
          · lia
          · lia
          · rw [hb, hr]; congr 2; congr 1; lia
        · rw [set_ne hm5 hjr]; rw [set_ne hm4 hjr]; rw [set_ne hm3 hjr]; rw [set_ne hm2 hjr]; rw [set_ne hm1 hjr]; exact h5 j (by lia)
      · cbv
        refine Less.to [] rfl rfl ?_ ?_
        · repeat' (first | exact trivial | exact ⟨rfl, rfl⟩ | apply And.intro)
        · repeat' (first | exact trivial | exact ⟨_, rfl, Nat.zero_le _, rfl⟩ | apply And.intro)
    · refine Done.to (.int .i64 q) [some (.arr 5 true (A.enc cAfter m))] rfl rfl ⟨⟨⟨rfl, rfl⟩, rfl, trivial⟩, trivial⟩ ⟨by congr 1; lia, ?_⟩
      rw [ext_lt (l := m) (m := marks mAfter 5 k N) (by rw [marks_len, h4]) (fun j hj => by rw [h5 j (by lia), marks_get _ _ _ (by lia)])]

theorem markInsS_c (S : Se P A) (l : List Ins) (N : Nat) (hN : N = l.length) (k : Int) (h0 : 0 <= k) (hk : k + 3 * N <= 4611686018427387904) : SoundM P 174 false [.ref false 1000 0 N, .int .i64 k] [.arr 3 true (A.enc cIns l)]
    (fun v os => v = .int .i64 (k + 3 * N) /\ os = [some (.arr 3 true (A.enc cIns (marks mIns 3 k N)))]) := by
  refine S.cx.by (S.prog ▸ Tryz.func174) rfl rfl rfl rfl (fun hv ho => ?_)
  cbv
  refine ALoop.go (ι := Int × Int × List Ins) (fun i => [(5, .int .i64 i.1), (1, .int .i64 i.2.1)]) [1000] (fun i => [(1000, .arr 3 true (A.enc cIns i.2.2))])
    (fun i => 0 <= i.1 /\ i.1 <= N /\ i.2.1 = k + 3 * i.1 /\ i.2.2.length = N /\ ∀ j : Nat, (j : Int) < i.1 -> i.2.2[j]? = some (mIns (k + 3 * j))) (fun i => (N - i.1).toNat) (0, k, l) S.cx.tab S.cx.mix S.eq ?_ ?_ ?_
  · exact ⟨by simp, by simp, by simp, hN.symm, fun j hj => by simp at hj; lia⟩
  · cbv
    refine Less.to [] rfl rfl ?_ ?_
    · repeat' (first | exact trivial | exact ⟨rfl, rfl⟩ | apply And.intro)
    · repeat' (first | exact trivial | exact ⟨_, rfl, Nat.zero_le _, rfl⟩ | apply And.intro)
  · rintro ⟨i, q, m⟩ ⟨h1, h2, h3, h4, h5⟩
    dsimp only at h1 h2 h3 h4 h5
    cbv
    refine Len.go (fun n hn hm => ?_); cbv
    refine Test.lss (fun h => ?_) (fun h => ?_) <;> cbv
    · skip
      refine ElemRef.go rfl (by lia) (by lia) (by rw [S.cx.lenE']; lia) (fun row hrow => ?_); cbv
      obtain ⟨y, hy⟩ := get_of_lt (l := m) (i := row) (by lia)
      obtain ⟨op0, a0, b0⟩ := y
      refine RowSet.enc S.cx (⟨op0, a0, b0⟩ : Ins) ⟨q, a0, b0⟩ hy rfl (Nat.le_of_ble_eq_true rfl) rfl (fun m1 hm1 => ?_); cbv
      have hy1 := set_at hm1 (lt_of_get hy)
      have hl1 : m1.length = N := by rw [set_len hm1]; exact h4
      refine Arith.go (by lia) (fun q1 hq1 => ?_); cbv
      refine ElemRef.go rfl (by lia) (by lia) (by rw [S.cx.lenE']; lia) (fun row1 hrow1 => ?_); cbv
      obtain rfl : row = row1 := by lia
      refine RowSet.enc S.cx (⟨q, a0, b0⟩ : Ins) ⟨q, q1, b0⟩ hy1 rfl (Nat.le_of_ble_eq_true rfl) rfl (fun m2 hm2 => ?_); cbv
      have hy2 := set_at hm2 (lt_of_get hy1)
      have hl2 : m2.length = N := by rw [set_len hm2]; exact hl1
      refine Arith.go (by lia) (fun q2 hq2 => ?_); cbv
      refine ElemRef.go rfl (by lia) (by lia) (by rw [S.cx.lenE']; lia) (fun row2 hrow2 => ?_); cbv
      obtain rfl : row = row2 := by lia
      refine RowSet.enc S.cx (⟨q, q1, b0⟩ : Ins) ⟨q, q1, q2⟩ hy2 rfl (Nat.le_of_ble_eq_true rfl) rfl (fun m3 hm3 => ?_); cbv
      have hy3 := set_at hm3 (lt_of_get hy2)
      have hl3 : m3.length = N := by rw [set_len hm3]; exact hl2
      refine Arith.go (by lia) (fun q3 hq3 => ?_); cbv
      refine Arith.go (by lia) (fun i' hi' => ?_); cbv
      refine Again.on (i', q3, m3) ?_ ?_ ?_
      · show (N - i').toNat < (N - i).toNat
        lia
      · refine ⟨by show 0 <= i'; lia, by show i' <= N; lia, by show q3 = k + 3 * i'; lia, hl3, fun j hj => ?_⟩
        replace hj : (j : Int) < i' := hj
        show m3[j]? = some (mIns (k + 3 * j))
        by_cases hjr : row = j
        · subst hjr
          rw [hy3]
          show some (⟨q, q1, q2⟩ : Ins) = some (mIns (k + 3 * (row : Int)))
          simp only [mIns, Option.some.injEq, Ins.mk.injEq]
          refine ⟨?_, ?_, ?_⟩
          · lia
          · lia
          · lia
        · rw [set_ne hm3 hjr]; rw [set_ne hm2 hjr]; rw [set_ne hm1 hjr]; exact h5 j (by lia)
      · cbv
        refine Less.to [] rfl rfl ?_ ?_
        · repeat' (first | exact trivial | exact ⟨rfl, rfl⟩ | apply And.intro)
        · repeat' (first | exact trivial | exact ⟨_, rfl, Nat.zero_le _, rfl⟩ | apply And.intro)
    · refine Done.to (.int .i64 q) [some (.arr 3 true (A.enc cIns m))] rfl rfl ⟨⟨⟨rfl, rfl⟩, rfl, trivial⟩, trivial⟩ ⟨by congr 1; lia, ?_⟩
      rw [ext_lt (l := m) (m := marks mIns 3 k N) (by rw [marks_len, h4]) (fun j hj => by rw [h5 j (by lia), marks_get _ _ _ (by lia)])]

theorem markTaskS_c (S : Se P A) (l : List Task) (N : Nat) (hN : N = l.length) (k : Int) (h0 : 0 <= k) (hk : k + 9 * N <= 4611686018427387904) : SoundM P 77 false [.ref false 1000 0 N, .int .i64 k] [.arr 9 true (A.enc cTask l)]
    (fun v os => v = .int .i64 (k + 9 * N) /\ os = [some (.arr 9 true (A.enc cTask (marks mTask 9 k N)))]) := by
  refine S.cx.by (S.prog ▸ Tryz.func77) rfl rfl rfl rfl (fun hv ho => ?_)
  cbv
  refine ALoop.go (ι := Int × Int × List Task) (fun i => [(5, .int .i64 i.1), (1, .int .i64 i.2.1)]) [1000] (fun i => [(1000, .arr 9 true (A.enc cTask i.2.2))])
    (fun i => 0 <= i.1 /\ i.1 <= N /\ i.2.1 = k + 9 * i.1 /\ i.2.2.length = N /\ ∀ j : Nat, (j : Int) < i.1 -> i.2.2[j]? = some (mTask (k + 9 * j))) (fun i => (N - i.1).toNat) (0, k, l) S.cx.tab S.cx.mix S.eq ?_ ?_ ?_
  · exact ⟨by simp, by simp, by simp, hN.symm, fun j hj => by simp at hj; lia⟩
  · cbv
    refine Less.to [] rfl rfl ?_ ?_
    · repeat' (first | exact trivial | exact ⟨rfl, rfl⟩ | apply And.intro)
    · repeat' (first | exact trivial | exact ⟨_, rfl, Nat.zero_le _, rfl⟩ | apply And.intro)
  · rintro ⟨i, q, m⟩ ⟨h1, h2, h3, h4, h5⟩
    dsimp only at h1 h2 h3 h4 h5
    cbv
    refine Len.go (fun n hn hm => ?_); cbv
    refine Test.lss (fun h => ?_) (fun h => ?_) <;> cbv
    · skip
      refine ElemRef.go rfl (by lia) (by lia) (by rw [S.cx.lenE']; lia) (fun row hrow => ?_); cbv
      obtain ⟨y, hy⟩ := get_of_lt (l := m) (i := row) (by lia)
      obtain ⟨prog0, pc0, state0, why0, what0, timer0, reg0, group0, err0⟩ := y
      refine RowSet.enc S.cx (⟨prog0, pc0, state0, why0, what0, timer0, reg0, group0, err0⟩ : Task) ⟨q, pc0, state0, why0, what0, timer0, reg0, group0, err0⟩ hy rfl (Nat.le_of_ble_eq_true rfl) rfl (fun m1 hm1 => ?_); cbv
      have hy1 := set_at hm1 (lt_of_get hy)
      have hl1 : m1.length = N := by rw [set_len hm1]; exact h4
      refine Arith.go (by lia) (fun q1 hq1 => ?_); cbv
      refine ElemRef.go rfl (by lia) (by lia) (by rw [S.cx.lenE']; lia) (fun row1 hrow1 => ?_); cbv
      obtain rfl : row = row1 := by lia
      refine RowSet.enc S.cx (⟨q, pc0, state0, why0, what0, timer0, reg0, group0, err0⟩ : Task) ⟨q, q1, state0, why0, what0, timer0, reg0, group0, err0⟩ hy1 rfl (Nat.le_of_ble_eq_true rfl) rfl (fun m2 hm2 => ?_); cbv
      have hy2 := set_at hm2 (lt_of_get hy1)
      have hl2 : m2.length = N := by rw [set_len hm2]; exact hl1
      refine Arith.go (by lia) (fun q2 hq2 => ?_); cbv
      refine ElemRef.go rfl (by lia) (by lia) (by rw [S.cx.lenE']; lia) (fun row2 hrow2 => ?_); cbv
      obtain rfl : row = row2 := by lia
      refine RowSet.enc S.cx (⟨q, q1, state0, why0, what0, timer0, reg0, group0, err0⟩ : Task) ⟨q, q1, q2, why0, what0, timer0, reg0, group0, err0⟩ hy2 rfl (Nat.le_of_ble_eq_true rfl) rfl (fun m3 hm3 => ?_); cbv
      have hy3 := set_at hm3 (lt_of_get hy2)
      have hl3 : m3.length = N := by rw [set_len hm3]; exact hl2
      refine Arith.go (by lia) (fun q3 hq3 => ?_); cbv
      refine ElemRef.go rfl (by lia) (by lia) (by rw [S.cx.lenE']; lia) (fun row3 hrow3 => ?_); cbv
      obtain rfl : row = row3 := by lia
      refine RowSet.enc S.cx (⟨q, q1, q2, why0, what0, timer0, reg0, group0, err0⟩ : Task) ⟨q, q1, q2, q3, what0, timer0, reg0, group0, err0⟩ hy3 rfl (Nat.le_of_ble_eq_true rfl) rfl (fun m4 hm4 => ?_); cbv
      have hy4 := set_at hm4 (lt_of_get hy3)
      have hl4 : m4.length = N := by rw [set_len hm4]; exact hl3
      refine Arith.go (by lia) (fun q4 hq4 => ?_); cbv
      refine ElemRef.go rfl (by lia) (by lia) (by rw [S.cx.lenE']; lia) (fun row4 hrow4 => ?_); cbv
      obtain rfl : row = row4 := by lia
      refine RowSet.enc S.cx (⟨q, q1, q2, q3, what0, timer0, reg0, group0, err0⟩ : Task) ⟨q, q1, q2, q3, q4, timer0, reg0, group0, err0⟩ hy4 rfl (Nat.le_of_ble_eq_true rfl) rfl (fun m5 hm5 => ?_); cbv
      have hy5 := set_at hm5 (lt_of_get hy4)
      have hl5 : m5.length = N := by rw [set_len hm5]; exact hl4
      refine Arith.go (by lia) (fun q5 hq5 => ?_); cbv
      refine ElemRef.go rfl (by lia) (by lia) (by rw [S.cx.lenE']; lia) (fun row5 hrow5 => ?_); cbv
      obtain rfl : row = row5 := by lia
      refine RowSet.enc S.cx (⟨q, q1, q2, q3, q4, timer0, reg0, group0, err0⟩ : Task) ⟨q, q1, q2, q3, q4, q5, reg0, group0, err0⟩ hy5 rfl (Nat.le_of_ble_eq_true rfl) rfl (fun m6 hm6 => ?_); cbv
      have hy6 := set_at hm6 (lt_of_get hy5)
      have hl6 : m6.length = N := by rw [set_len hm6]; exact hl5
      refine Arith.go (by lia) (fun q6 hq6 => ?_); cbv
      refine ElemRef.go rfl (by lia) (by lia) (by rw [S.cx.lenE']; lia) (fun row6 hrow6 => ?_); cbv
      obtain rfl : row = row6 := by lia
      refine RowSet.enc S.cx (⟨q, q1, q2, q3, q4, q5, reg0, group0, err0⟩ : Task) ⟨q, q1, q2, q3, q4, q5, q6, group0, err0⟩ hy6 rfl (Nat.le_of_ble_eq_true rfl) rfl (fun m7 hm7 => ?_); cbv
      have hy7 := set_at hm7 (lt_of_get hy6)
      have hl7 : m7.length = N := by rw [set_len hm7]; exact hl6
      refine Arith.go (by lia) (fun q7 hq7 => ?_); cbv
      refine ElemRef.go rfl (by lia) (by lia) (by rw [S.cx.lenE']; lia) (fun row7 hrow7 => ?_); cbv
      obtain rfl : row = row7 := by lia
      refine RowSet.enc S.cx (⟨q, q1, q2, q3, q4, q5, q6, group0, err0⟩ : Task) ⟨q, q1, q2, q3, q4, q5, q6, q7, err0⟩ hy7 rfl (Nat.le_of_ble_eq_true rfl) rfl (fun m8 hm8 => ?_); cbv
      have hy8 := set_at hm8 (lt_of_get hy7)
      have hl8 : m8.length = N := by rw [set_len hm8]; exact hl7
      refine Arith.go (by lia) (fun q8 hq8 => ?_); cbv
      refine ElemRef.go rfl (by lia) (by lia) (by rw [S.cx.lenE']; lia) (fun row8 hrow8 => ?_); cbv
      obtain rfl : row = row8 := by lia
      refine RowSet.enc S.cx (⟨q, q1, q2, q3, q4, q5, q6, q7, err0⟩ : Task) ⟨q, q1, q2, q3, q4, q5, q6, q7, q8⟩ hy8 rfl (Nat.le_of_ble_eq_true rfl) rfl (fun m9 hm9 => ?_); cbv
      have hy9 := set_at hm9 (lt_of_get hy8)
      have hl9 : m9.length = N := by rw [set_len hm9]; exact hl8
      refine Arith.go (by lia) (fun q9 hq9 => ?_); cbv
      refine Arith.go (by lia) (fun i' hi' => ?_); cbv
      refine Again.on (i', q9, m9) ?_ ?_ ?_
      · show (N - i').toNat < (N - i).toNat
        lia
      · refine ⟨by show 0 <= i'; lia, by show i' <= N; lia, by show q9 = k + 9 * i'; lia, hl9, fun j hj => ?_⟩
        replace hj : (j : Int) < i' := hj
        show m9[j]? = some (mTask (k + 9 * j))
        by_cases hjr : row = j
        · subst hjr
          rw [hy9]
          show some (⟨q, q1, q2, q3, q4, q5, q6, q7, q8⟩ : Task) = some (mTask (k + 9 * (row : Int)))
          simp only [mTask, Option.some.injEq, Task.mk.injEq]
          refine ⟨?_, ?_, ?_, ?_, ?_, ?_, ?_, ?_, ?_⟩
          · lia
          · lia
          · lia
          · lia
          · lia
          · lia
          · lia
          · lia
          · lia
        · rw [set_ne hm9 hjr]; rw [set_ne hm8 hjr]; rw [set_ne hm7 hjr]; rw [set_ne hm6 hjr]; rw [set_ne hm5 hjr]; rw [set_ne hm4 hjr]; rw [set_ne hm3 hjr]; rw [set_ne hm2 hjr]; rw [set_ne hm1 hjr]; exact h5 j (by lia)
      · cbv
        refine Less.to [] rfl rfl ?_ ?_
        · repeat' (first | exact trivial | exact ⟨rfl, rfl⟩ | apply And.intro)
        · repeat' (first | exact trivial | exact ⟨_, rfl, Nat.zero_le _, rfl⟩ | apply And.intro)
    · refine Done.to (.int .i64 q) [some (.arr 9 true (A.enc cTask m))] rfl rfl ⟨⟨⟨rfl, rfl⟩, rfl, trivial⟩, trivial⟩ ⟨by congr 1; lia, ?_⟩
      rw [ext_lt (l := m) (m := marks mTask 9 k N) (by rw [marks_len, h4]) (fun j hj => by rw [h5 j (by lia), marks_get _ _ _ (by lia)])]

theorem markSightS_c (S : Se P A) (l : List Sight) (N : Nat) (hN : N = l.length) (k : Int) (h0 : 0 <= k) (hk : k + 4 * N <= 4611686018427387904) : SoundM P 79 false [.ref false 1000 0 N, .int .i64 k] [.arr 4 true (A.enc cSight l)]
    (fun v os => v = .int .i64 (k + 4 * N) /\ os = [some (.arr 4 true (A.enc cSight (marks mSight 4 k N)))]) := by
  refine S.cx.by (S.prog ▸ Tryz.func79) rfl rfl rfl rfl (fun hv ho => ?_)
  cbv
  refine ALoop.go (ι := Int × Int × List Sight) (fun i => [(5, .int .i64 i.1), (1, .int .i64 i.2.1)]) [1000] (fun i => [(1000, .arr 4 true (A.enc cSight i.2.2))])
    (fun i => 0 <= i.1 /\ i.1 <= N /\ i.2.1 = k + 4 * i.1 /\ i.2.2.length = N /\ ∀ j : Nat, (j : Int) < i.1 -> i.2.2[j]? = some (mSight (k + 4 * j))) (fun i => (N - i.1).toNat) (0, k, l) S.cx.tab S.cx.mix S.eq ?_ ?_ ?_
  · exact ⟨by simp, by simp, by simp, hN.symm, fun j hj => by simp at hj; lia⟩
  · cbv
    refine Less.to [] rfl rfl ?_ ?_
    · repeat' (first | exact trivial | exact ⟨rfl, rfl⟩ | apply And.intro)
    · repeat' (first | exact trivial | exact ⟨_, rfl, Nat.zero_le _, rfl⟩ | apply And.intro)
  · rintro ⟨i, q, m⟩ ⟨h1, h2, h3, h4, h5⟩
    dsimp only at h1 h2 h3 h4 h5
    cbv
    refine Len.go (fun n hn hm => ?_); cbv
    refine Test.lss (fun h => ?_) (fun h => ?_) <;> cbv
    · skip
      refine ElemRef.go rfl (by lia) (by lia) (by rw [S.cx.lenE']; lia) (fun row hrow => ?_); cbv
      obtain ⟨y, hy⟩ := get_of_lt (l := m) (i := row) (by lia)
      obtain ⟨node0, err0, cause0, at_0⟩ := y
      refine RowSet.enc S.cx (⟨node0, err0, cause0, at_0⟩ : Sight) ⟨q, err0, cause0, at_0⟩ hy rfl (Nat.le_of_ble_eq_true rfl) rfl (fun m1 hm1 => ?_); cbv
      have hy1 := set_at hm1 (lt_of_get hy)
      have hl1 : m1.length = N := by rw [set_len hm1]; exact h4
      refine Arith.go (by lia) (fun q1 hq1 => ?_); cbv
      refine ElemRef.go rfl (by lia) (by lia) (by rw [S.cx.lenE']; lia) (fun row1 hrow1 => ?_); cbv
      obtain rfl : row = row1 := by lia
      refine RowSet.enc S.cx (⟨q, err0, cause0, at_0⟩ : Sight) ⟨q, q1, cause0, at_0⟩ hy1 rfl (Nat.le_of_ble_eq_true rfl) rfl (fun m2 hm2 => ?_); cbv
      have hy2 := set_at hm2 (lt_of_get hy1)
      have hl2 : m2.length = N := by rw [set_len hm2]; exact hl1
      refine Arith.go (by lia) (fun q2 hq2 => ?_); cbv
      refine ElemRef.go rfl (by lia) (by lia) (by rw [S.cx.lenE']; lia) (fun row2 hrow2 => ?_); cbv
      obtain rfl : row = row2 := by lia
      refine RowSet.enc S.cx (⟨q, q1, cause0, at_0⟩ : Sight) ⟨q, q1, q2, at_0⟩ hy2 rfl (Nat.le_of_ble_eq_true rfl) rfl (fun m3 hm3 => ?_); cbv
      have hy3 := set_at hm3 (lt_of_get hy2)
      have hl3 : m3.length = N := by rw [set_len hm3]; exact hl2
      refine Arith.go (by lia) (fun q3 hq3 => ?_); cbv
      refine ElemRef.go rfl (by lia) (by lia) (by rw [S.cx.lenE']; lia) (fun row3 hrow3 => ?_); cbv
      obtain rfl : row = row3 := by lia
      refine RowSet.enc S.cx (⟨q, q1, q2, at_0⟩ : Sight) ⟨q, q1, q2, q3⟩ hy3 rfl (Nat.le_of_ble_eq_true rfl) rfl (fun m4 hm4 => ?_); cbv
      have hy4 := set_at hm4 (lt_of_get hy3)
      have hl4 : m4.length = N := by rw [set_len hm4]; exact hl3
      refine Arith.go (by lia) (fun q4 hq4 => ?_); cbv
      refine Arith.go (by lia) (fun i' hi' => ?_); cbv
      refine Again.on (i', q4, m4) ?_ ?_ ?_
      · show (N - i').toNat < (N - i).toNat
        lia
      · refine ⟨by show 0 <= i'; lia, by show i' <= N; lia, by show q4 = k + 4 * i'; lia, hl4, fun j hj => ?_⟩
        replace hj : (j : Int) < i' := hj
        show m4[j]? = some (mSight (k + 4 * j))
        by_cases hjr : row = j
        · subst hjr
          rw [hy4]
          show some (⟨q, q1, q2, q3⟩ : Sight) = some (mSight (k + 4 * (row : Int)))
          simp only [mSight, Option.some.injEq, Sight.mk.injEq]
          refine ⟨?_, ?_, ?_, ?_⟩
          · lia
          · lia
          · lia
          · lia
        · rw [set_ne hm4 hjr]; rw [set_ne hm3 hjr]; rw [set_ne hm2 hjr]; rw [set_ne hm1 hjr]; exact h5 j (by lia)
      · cbv
        refine Less.to [] rfl rfl ?_ ?_
        · repeat' (first | exact trivial | exact ⟨rfl, rfl⟩ | apply And.intro)
        · repeat' (first | exact trivial | exact ⟨_, rfl, Nat.zero_le _, rfl⟩ | apply And.intro)
    · refine Done.to (.int .i64 q) [some (.arr 4 true (A.enc cSight m))] rfl rfl ⟨⟨⟨rfl, rfl⟩, rfl, trivial⟩, trivial⟩ ⟨by congr 1; lia, ?_⟩
      rw [ext_lt (l := m) (m := marks mSight 4 k N) (by rw [marks_len, h4]) (fun j hj => by rw [h5 j (by lia), marks_get _ _ _ (by lia)])]

end Go.Proofs.YtihfpbhalnedcaaGreat.AM
