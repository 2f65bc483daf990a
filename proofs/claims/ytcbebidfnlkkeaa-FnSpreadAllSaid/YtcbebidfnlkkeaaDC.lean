/- Contracts: the laws' dice. -/
import Derived.Test.YtcbebidfnlkkeaaH1
import Derived.Test.YtcbebidfnlkkeaaPL
import Derived.Test.YtcbebidfnlkkeaaBC
namespace Go.Proofs.Ytcbebidfnlkkeaa.AM
open Go Go.Proofs

set_option maxRecDepth 100000
set_option maxHeartbeats 4000000
set_option linter.unusedVariables false
set_option linter.unusedSimpArgs false

variable {P : Program} {A : Sy}

def cByte (n : Int) : List AV := [.int .u8 n]

theorem Arith.u64 {dr : Bool} {m n : Int} {e : Unit → Int} {K : Int → Prop} (h1 : 0 ≤ e () ∧ e () ≤ 18446744073709551615) (h : ∀ x, x = e () → K x) : Arith dr .u64 m n e K := by
  refine ⟨fun _ => ?_⟩
  rw [wrap_wf (k := .u64) (n := e ()) (by rw [wf_iff]; simp [IntKind.min, IntKind.max, IntKind.signed, IntKind.bits]; omega)]
  exact h _ rfl

theorem code_bytes {code : List Int} (C : Cx P tab A) (h : (AV.ro (A.enc cByte code)).real) : ∀ b ∈ code, 0 ≤ b ∧ b ≤ 255 := fun b hb => by
  have h1 := h.cell (r := cByte b) (by rw [C.enc]; exact List.mem_map.2 ⟨b, hb, rfl⟩) (v := .int .u8 b) (by simp [cByte])
  have h2 := h1.int
  rw [wf_iff] at h2
  simp [IntKind.min, IntKind.max, IntKind.signed, IntKind.bits] at h2
  omega

theorem and_bound (m : Int) : (BitVec.ofInt 64 m &&& BitVec.ofInt 64 16777215).toNat ≤ 16777215 := by
  rw [BitVec.toNat_and]
  exact Nat.le_trans Nat.and_le_right (by decide)

theorem big_c (S : Se P A) (code : List Int) : Tests P 45 [.ro (A.enc cByte code)] (4096 < code.length) := by
  refine S.cx.by (S.prog ▸ Try.func45) rfl rfl rfl rfl (fun hv ho => ?_)
  cbv
  refine LenR.nat S.cx (fun N hN hm => ?_); cbv
  refine Test.gtr (fun h => ?_) (fun h => ?_) <;> cbv
  · exact Done.yes (by lia)
  · exact Done.no (by lia)

end Go.Proofs.Ytcbebidfnlkkeaa.AM
