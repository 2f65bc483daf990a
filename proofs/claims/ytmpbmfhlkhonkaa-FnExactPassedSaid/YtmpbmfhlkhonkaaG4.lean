/- Contracts: the laws' own helpers: flat types. (printed by gen.py) -/
import Derived.Test.YtmpbmfhlkhonkaaD1
namespace Go.Proofs.Ytmpbmfhlkhonkaa.AM
open Go Go.Proofs

set_option maxRecDepth 100000
set_option linter.unusedVariables false
set_option linter.unusedSimpArgs false

variable {P : Program} {A : Sy}

theorem heldInt64S_c (S : Se P A) (l : List Int) (k : Int) (h0 : 0 ≤ k) (hk : k + 1 * l.length ≤ 4611686018427387904) (hl : ∀ (j : Nat) (x : Int), l[j]? = some x → x = mInt64 (k + 1 * j)) : Is1 P 81 [.ro (A.enc cInt64 l), .int .i64 k] (.int .i64 (k + 1 * l.length)) := by
  refine S.cx.by (S.prog ▸ Try.func81) rfl rfl rfl rfl (fun hv ho => ?_)
  cbv
  refine ALoop.go (ι := Int × Int) (fun i => [(5, .int .i64 i.1), (1, .int .i64 i.2)]) [] (fun i => [])
    (fun i => 0 ≤ i.1 ∧ i.1 ≤ l.length ∧ i.2 = k + 1 * i.1) (fun i => ((l.length : Int) - i.1).toNat) (0, k) S.cx.tab S.cx.mix S.eq ?_ ?_ ?_
  · exact ⟨by simp, by simp, by simp⟩
  · cbv
    refine Less.to [] rfl rfl ?_ ?_
    · repeat' (first | exact trivial | exact ⟨rfl, rfl⟩ | apply And.intro)
    · repeat' (first | exact trivial | exact ⟨_, rfl, Nat.zero_le _, rfl⟩ | apply And.intro)
  · rintro ⟨i, q⟩ ⟨h1, h2, h3⟩
    dsimp only at h1 h2 h3
    cbv
    refine LenR.enc S.cx (fun n hn hm => ?_); cbv
    refine Test.lss (fun h => ?_) (fun h => ?_) <;> cbv
    · obtain ⟨x, hx⟩ := get_of_lt (l := l) (i := i.toNat) (by lia)
      have hxe := hl _ x hx
      simp only [mInt64] at hxe
      refine ElemRo.at S.cx (x := (x : Int)) rfl (by lia) hx ?_; cbv
      refine Test.neq (fun h => ?_) (fun h => ?_) <;> cbv
      · lia
      refine Arith.go (by lia) (fun q1 hq1 => ?_); cbv
      refine Arith.go (by lia) (fun i' hi' => ?_); cbv
      refine Again.on (i', q1) ?_ ?_ ?_
      · show ((l.length : Int) - i').toNat < ((l.length : Int) - i).toNat
        lia
      · exact ⟨by show 0 ≤ i'; lia, by show i' ≤ l.length; lia, by show q1 = k + 1 * i'; lia⟩
      · cbv
        refine Less.to [] rfl rfl ?_ ?_
        · repeat' (first | exact trivial | exact ⟨rfl, rfl⟩ | apply And.intro)
        · repeat' (first | exact trivial | exact ⟨_, rfl, Nat.zero_le _, rfl⟩ | apply And.intro)
    · exact Done.to (.int .i64 q) [] rfl rfl trivial ⟨by congr 1; lia, rfl⟩

end Go.Proofs.Ytmpbmfhlkhonkaa.AM
