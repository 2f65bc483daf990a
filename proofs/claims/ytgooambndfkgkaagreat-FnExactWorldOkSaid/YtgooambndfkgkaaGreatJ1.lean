/- Contracts: numbers in slices. -/
import Derived.Test.YtgooambndfkgkaaGreatPL
import Derived.Test.YtgooambndfkgkaaGreatBC
import Derived.Test.YtgooambndfkgkaaGreatH1
namespace Go.Proofs.YtgooambndfkgkaaGreat.AM
open Go Go.Proofs

set_option maxRecDepth 100000
set_option maxHeartbeats 4000000
set_option linter.unusedVariables false
set_option linter.unusedSimpArgs false

variable {P : Program} {A : Sy}

theorem l6In_c (S : Se P A) (l : List Int) (n : Int) : Tests P 271 [.ro (A.enc cInt64 l), .int .i64 n] (n ∈ l) := by
  refine S.cx.by (S.prog ▸ Tryz.func271) rfl rfl rfl rfl (fun hv ho => ?_)
  cbv
  refine ALoop.goS (ι := Int) (fun i => [(5, .int .i64 i)]) [] (fun i => []) (fun i => 0 ≤ i ∧ n ∉ l.take i.toNat) (fun i => (l.length - i).toNat) (0) S.cx.tab S.cx.mix S.eq ?_ ?_ ?_
  · exact ⟨Int.le_refl _, by simp⟩
  · (cbv; refine Less.to [] rfl rfl ?_ ?_ <;> repeat' (first | exact trivial | exact ⟨rfl, rfl⟩ | exact ⟨_, rfl, Nat.zero_le _, rfl⟩ | apply And.intro | exact rfl))
  · rintro i ⟨h0, hn⟩
    refine Rnd.mk ?_; cbv
    refine LenR.nat S.cx (fun N hN hm => ?_); cbv
    refine Test.lss (fun h => ?_) (fun h => ?_) <;> cbv
    · refine ElemRo.enc S.cx (fun _ => rfl) (by lia) (by lia) (fun x hx => ?_); cbv
      refine Test.eql (fun h2 => ?_) (fun h2 => ?_) <;> cbv
      · exact Done.yes (h2 ▸ mem_at hx)
      · refine Arith.go (by lia) (fun i' hi' => ?_); cbv
        refine Again.on i' (by lia) ⟨by lia, not_mem_take_next hn h0 hx h2 hi'⟩ ?_
        (cbv; refine Less.to [] rfl rfl ?_ ?_ <;> repeat' (first | exact trivial | exact ⟨rfl, rfl⟩ | exact ⟨_, rfl, Nat.zero_le _, rfl⟩ | apply And.intro | exact rfl))
    · exact Done.no (by rw [take_all (by lia)] at hn; exact hn)

end Go.Proofs.YtgooambndfkgkaaGreat.AM
