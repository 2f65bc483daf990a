/- Contracts: the laws' dice. -/
import Derived.Test.YtmbckmfihcojoaaH1
import Derived.Test.YtmbckmfihcojoaaPL
import Derived.Test.YtmbckmfihcojoaaBC
namespace Go.Proofs.Ytmbckmfihcojoaa.AM
open Go Go.Proofs

set_option maxRecDepth 100000
set_option maxHeartbeats 4000000
set_option linter.unusedVariables false
set_option linter.unusedSimpArgs false

variable {P : Program} {A : Sy}

def cByte (n : Int) : List AV := [.int .u8 n]

theorem Arith.u64 {dr : Bool} {m n : Int} {e : Unit → Int} {K : Int → Prop} (h1 : 0 ≤ e () ∧ e () ≤ 18446744073709551615) (h : ∀ x, x = e () → K x) : Arith dr .u64 m n e K := by
  refine ⟨fun _ => ?_⟩
  rw [wrap_wf (k := .u64) (n := e ()) (by rw [wf_iff]; simp [IntKind.min, IntKind.max, IntKind.signed, IntKind.bits]; omega)]
  exact h _ rfl

theorem code_bytes {code : List Int} (C : Cx P tab A) (h : (AV.ro (A.enc cByte code)).real) : ∀ b ∈ code, 0 ≤ b ∧ b ≤ 255 := fun b hb => by
  have h1 := h.cell (r := cByte b) (by rw [C.enc]; exact List.mem_map.2 ⟨b, hb, rfl⟩) (v := .int .u8 b) (by simp [cByte])
  have h2 := h1.int
  rw [wf_iff] at h2
  simp [IntKind.min, IntKind.max, IntKind.signed, IntKind.bits] at h2
  omega

theorem and_bound (m : Int) : (BitVec.ofInt 64 m &&& BitVec.ofInt 64 16777215).toNat ≤ 16777215 := by
  rw [BitVec.toNat_and]
  exact Nat.le_trans Nat.and_le_right (by decide)

theorem big_c (S : Se P A) (code : List Int) : Tests P 38 [.ro (A.enc cByte code)] (4096 < code.length) := by
  refine S.cx.by (S.prog ▸ Try.func38) rfl rfl rfl rfl (fun hv ho => ?_)
  cbv
  refine LenR.nat S.cx (fun N hN hm => ?_); cbv
  refine Test.gtr (fun h => ?_) (fun h => ?_) <;> cbv
  · exact Done.yes (by lia)
  · exact Done.no (by lia)

theorem roll_c (S : Se P A) (code : List Int) (seed : Int) : SoundM P 39 true [.ro (A.enc cByte code), .int .u64 seed] []
    (fun v os => (∃ h : Int, v = .ownp [.ro (A.enc cByte code), .int .i64 0, .int .u64 h]) ∧ os = []) := by
  refine S.cx.by (S.prog ▸ Try.func39) rfl rfl rfl rfl (fun hv ho => ?_)
  cbv
  refine Arith.any (fun a _ => ?_); cbv
  refine LenR.nat S.cx (fun N hN hm => ?_); cbv
  refine Conv.any (fun b _ => ?_); cbv
  refine Arith.any (fun h0 _ => ?_); cbv
  refine ALoop.goS (ι := Int × Int) (fun i => [(6, .int .i64 i.1)]) [2080000] (fun i => [(2080000, .box [.ro (A.enc cByte code), .int .i64 0, .int .u64 i.2])]) (fun i => 0 ≤ i.1) (fun i => (code.length - i.1).toNat) (0, h0) S.cx.tab S.cx.mix S.eq ?_ ?_ ?_
  · exact Int.le_refl _
  · (cbv; refine Less.to [] rfl rfl ?_ ?_ <;> repeat' (first | exact trivial | exact ⟨rfl, rfl⟩ | exact ⟨_, rfl, Nat.zero_le _, rfl⟩ | apply And.intro | exact rfl))
  rintro ⟨i, h⟩ hi
  dsimp only at hi
  refine Rnd.mk ?_; cbv
  refine LenR.nat S.cx (fun M hM hm2 => ?_); cbv
  refine Test.lss (fun h1 => ?_) (fun h1 => ?_) <;> cbv
  · try (refine Drawn.mk ⟨by kernel_rfl, fun _ => ?_⟩)
    refine Arith.any (fun c _ => ?_); cbv
    refine ElemRo.enc S.cx (fun _ => rfl) (by lia) (by lia) (fun x hx => ?_); cbv
    refine Conv.any (fun y _ => ?_); cbv
    refine Arith.any (fun z _ => ?_); cbv
    refine Arith.any (fun w _ => ?_); cbv
    refine Arith.go (by lia) (fun i' hi' => ?_); cbv
    replace hi' : i' = i + 1 := hi'
    refine Again.on (i', w) (by dsimp only; lia) (by dsimp only; lia) ?_
    (cbv; refine Less.to [] rfl rfl ?_ ?_ <;> repeat' (first | exact trivial | exact ⟨rfl, rfl⟩ | exact ⟨_, rfl, Nat.zero_le _, rfl⟩ | apply And.intro | exact rfl))
  · refine Done.to (.ownp [.ro (A.enc cByte code), .int .i64 0, .int .u64 h]) [] rfl ?_ trivial ⟨⟨h, rfl⟩, rfl⟩
    exact ⟨⟨rfl, .inl rfl⟩, rfl, rfl, trivial⟩

theorem below_c (S : Se P A) (code : List Int) (hb : code.length ≤ 4096) (hc : ∀ b ∈ code, 0 ≤ b ∧ b ≤ 255) (i h : Int) (hi : 0 ≤ i) (n : Int) (hn : 0 < n) : SoundM P 40 true [.ptr 1000 0 0, .int .i64 n] [.box [.ro (A.enc cByte code), .int .i64 i, .int .u64 h]]
    (fun v os => ∃ x i' h' : Int, (0 ≤ x ∧ x < n) ∧ 0 ≤ i' ∧ v = .int .i64 x ∧ os = [some (.box [.ro (A.enc cByte code), .int .i64 i', .int .u64 h'])]) := by
  refine S.cx.by (S.prog ▸ Try.func40) rfl rfl rfl rfl (fun hv ho => ?_)
  cbv
  refine Arith.any (fun a _ => ?_); cbv
  refine Arith.any (fun h2 _ => ?_); cbv
  refine ArithN.any (by decide) (fun b _ => ?_); cbv
  refine Arith.u64 ?_ (fun y hy => ?_)
  · show 0 ≤ (((BitVec.ofInt 64 b &&& BitVec.ofInt 64 16777215).toNat : Nat) : Int) ∧ (((BitVec.ofInt 64 b &&& BitVec.ofInt 64 16777215).toNat : Nat) : Int) ≤ 18446744073709551615
    have := and_bound b
    omega
  have hyb : 0 ≤ y ∧ y ≤ 16777215 := by
    change y = (((BitVec.ofInt 64 b &&& BitVec.ofInt 64 16777215).toNat : Nat) : Int) at hy
    have := and_bound b
    omega
  clear hy
  cbv
  refine Conv.go (by omega) (fun x hx => ?_); cbv
  have hend : ∀ (st : St) (x i' h' : Int), True := fun _ _ _ _ => trivial
  try (refine Drawn.mk ⟨by kernel_rfl, fun _ => ?_⟩)
  refine LenR.natD S.cx (by omega) (fun N hN => ?_); cbv
  refine Test.lss (fun h3 => ?_) (fun h3 => ?_) <;> cbv
  · try (refine Drawn.mk ⟨by kernel_rfl, fun _ => ?_⟩)
    refine ElemRo.enc S.cx (fun _ => rfl) (by lia) (by lia) (fun c hcx => ?_); cbv
    have hcb := hc c (mem_at hcx)
    refine Conv.go (by omega) (fun z hz => ?_); cbv
    refine Arith.go (by lia) (fun w hw => ?_); replace hw : w = x + z := hw; cbv
    refine Arith.go (by lia) (fun i' hi' => ?_); replace hi' : i' = i + 1 := hi'; cbv
    refine RemA.go (by omega) (fun r hr => ?_); cbv
    have h1 := Int.tmod_nonneg n (show 0 ≤ w by omega)
    have h4 := Int.tmod_lt_of_pos w hn
    refine Done.to (.int .i64 r) [some (.box [.ro (A.enc cByte code), .int .i64 i', .int .u64 h2])] rfl rfl ?_ ⟨r, i', _, ⟨by omega, by omega⟩, by omega, rfl, rfl⟩
    exact ⟨⟨⟨rfl, .inl rfl⟩, rfl, rfl, trivial⟩, trivial⟩
  · refine RemA.go (by omega) (fun r hr => ?_); cbv
    have h1 := Int.tmod_nonneg n (show 0 ≤ x by omega)
    have h2' := Int.tmod_lt_of_pos x hn
    refine Done.to (.int .i64 r) [some (.box [.ro (A.enc cByte code), .int .i64 i, .int .u64 h2])] rfl rfl ?_ ⟨r, i, h2, ⟨by omega, by omega⟩, hi, rfl, rfl⟩
    exact ⟨⟨⟨rfl, .inl rfl⟩, rfl, rfl, trivial⟩, trivial⟩

end Go.Proofs.Ytmbckmfihcojoaa.AM
