/- Contracts: the laws' own helpers: flat types. (printed by gen.py) -/
import Derived.Test.YtmpbmfhlkhonkaaD1
namespace Go.Proofs.Ytmpbmfhlkhonkaa.AM
open Go Go.Proofs

set_option maxRecDepth 100000
set_option linter.unusedVariables false
set_option linter.unusedSimpArgs false

variable {P : Program} {A : Sy}

theorem markInt64S_c (S : Se P A) (l : List Int) (N : Nat) (hN : N = l.length) (k : Int) (h0 : 0 ≤ k) (hk : k + 1 * N ≤ 4611686018427387904) : SoundM P 80 false [.ref false 1000 0 N, .int .i64 k] [.arr 1 true (A.enc cInt64 l)]
    (fun v os => v = .int .i64 (k + 1 * N) ∧ os = [some (.arr 1 true (A.enc cInt64 (marks mInt64 1 k N)))]) := by
  refine S.cx.by (S.prog ▸ Try.func80) rfl rfl rfl rfl (fun hv ho => ?_)
  cbv
  refine ALoop.go (ι := Int × Int × List Int) (fun i => [(5, .int .i64 i.1), (1, .int .i64 i.2.1)]) [1000] (fun i => [(1000, .arr 1 true (A.enc cInt64 i.2.2))])
    (fun i => 0 ≤ i.1 ∧ i.1 ≤ N ∧ i.2.1 = k + 1 * i.1 ∧ i.2.2.length = N ∧ ∀ j : Nat, (j : Int) < i.1 → i.2.2[j]? = some (mInt64 (k + 1 * j))) (fun i => (N - i.1).toNat) (0, k, l) S.cx.tab S.cx.mix S.eq ?_ ?_ ?_
  · exact ⟨by simp, by simp, by simp, hN.symm, fun j hj => by simp at hj; lia⟩
  · cbv
    refine Less.to [] rfl rfl ?_ ?_
    · repeat' (first | exact trivial | exact ⟨rfl, rfl⟩ | apply And.intro)
    · repeat' (first | exact trivial | exact ⟨_, rfl, Nat.zero_le _, rfl⟩ | apply And.intro)
  · rintro ⟨i, q, m⟩ ⟨h1, h2, h3, h4, h5⟩
    dsimp only at h1 h2 h3 h4 h5
    cbv
    refine Len.go (fun n hn hm => ?_); cbv
    refine Test.lss (fun h => ?_) (fun h => ?_) <;> cbv
    · skip
      refine ElemRef.go rfl (by lia) (by lia) (by rw [S.cx.lenE']; lia) (fun row hrow => ?_); cbv
      obtain ⟨y, hy⟩ := get_of_lt (l := m) (i := row) (by lia)
      refine RowSet.enc S.cx (y : Int) q hy rfl (Nat.le_of_ble_eq_true rfl) rfl (fun m1 hm1 => ?_); cbv
      have hy1 := set_at hm1 (lt_of_get hy)
      have hl1 : m1.length = N := by rw [set_len hm1]; exact h4
      refine Arith.go (by lia) (fun q1 hq1 => ?_); cbv
      refine Arith.go (by lia) (fun i' hi' => ?_); cbv
      refine Again.on (i', q1, m1) ?_ ?_ ?_
      · show (N - i').toNat < (N - i).toNat
        lia
      · refine ⟨by show 0 ≤ i'; lia, by show i' ≤ N; lia, by show q1 = k + 1 * i'; lia, hl1, fun j hj => ?_⟩
        replace hj : (j : Int) < i' := hj
        show m1[j]? = some (mInt64 (k + 1 * j))
        by_cases hjr : row = j
        · subst hjr
          rw [hy1]
          show some q = some (k + 1 * (row : Int))
          congr 1; lia
        · rw [set_ne hm1 hjr]; exact h5 j (by lia)
      · cbv
        refine Less.to [] rfl rfl ?_ ?_
        · repeat' (first | exact trivial | exact ⟨rfl, rfl⟩ | apply And.intro)
        · repeat' (first | exact trivial | exact ⟨_, rfl, Nat.zero_le _, rfl⟩ | apply And.intro)
    · refine Done.to (.int .i64 q) [some (.arr 1 true (A.enc cInt64 m))] rfl rfl ⟨⟨⟨rfl, rfl⟩, rfl, trivial⟩, trivial⟩ ⟨by congr 1; lia, ?_⟩
      rw [ext_lt (l := m) (m := marks mInt64 1 k N) (by rw [marks_len, h4]) (fun j hj => by rw [h5 j (by lia), marks_get _ _ _ (by lia)])]

end Go.Proofs.Ytmpbmfhlkhonkaa.AM
