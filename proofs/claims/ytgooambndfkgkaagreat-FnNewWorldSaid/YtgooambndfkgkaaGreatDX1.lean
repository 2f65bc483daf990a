import Derived.Test.YtgooambndfkgkaaGreatHA
import Derived.Test.YtgooambndfkgkaaGreatDA
import Derived.Test.YtgooambndfkgkaaGreatBC
import Derived.Test.YtgooambndfkgkaaGreatBD
/- In one: DC DD DX -/
namespace Go.Proofs.YtgooambndfkgkaaGreat.AM
open Go Go.Proofs

set_option maxRecDepth 100000
set_option maxHeartbeats 4000000
set_option linter.unusedVariables false
set_option linter.unusedSimpArgs false

variable {P : Program} {A : Sy}

def cByte (n : Int) : List AV := [.int .u8 n]

theorem Arith.u64 {dr : Bool} {m n : Int} {e : Unit → Int} {K : Int → Prop} (h1 : 0 ≤ e () ∧ e () ≤ 18446744073709551615) (h : ∀ x, x = e () → K x) : Arith dr .u64 m n e K := by
  refine ⟨fun _ => ?_⟩
  rw [wrap_wf (k := .u64) (n := e ()) (by rw [wf_iff]; simp [IntKind.min, IntKind.max, IntKind.signed, IntKind.bits]; omega)]
  exact h _ rfl

theorem code_bytes {code : List Int} (C : Cx P tab A) (h : (AV.ro (A.enc cByte code)).real) : ∀ b ∈ code, 0 ≤ b ∧ b ≤ 255 := fun b hb => by
  have h1 := h.cell (r := cByte b) (by rw [C.enc]; exact List.mem_map.2 ⟨b, hb, rfl⟩) (v := .int .u8 b) (by simp [cByte])
  have h2 := h1.int
  rw [wf_iff] at h2
  simp [IntKind.min, IntKind.max, IntKind.signed, IntKind.bits] at h2
  omega

theorem and_bound (m : Int) : (BitVec.ofInt 64 m &&& BitVec.ofInt 64 16777215).toNat ≤ 16777215 := by
  rw [BitVec.toNat_and]
  exact Nat.le_trans Nat.and_le_right (by decide)

theorem big_c (S : Se P A) (code : List Int) : Tests P 6 [.ro (A.enc cByte code)] (4096 < code.length) := by
  refine S.cx.by (S.prog ▸ Tryz.func6) rfl rfl rfl rfl (fun hv ho => ?_)
  cbv
  refine LenR.nat S.cx (fun N hN hm => ?_); cbv
  refine Test.gtr (fun h => ?_) (fun h => ?_) <;> cbv
  · exact Done.yes (by lia)
  · exact Done.no (by lia)

end Go.Proofs.YtgooambndfkgkaaGreat.AM

namespace Go.Proofs.YtgooambndfkgkaaGreat.AM
open Go Go.Proofs

set_option maxRecDepth 100000
set_option maxHeartbeats 4000000
set_option linter.unusedVariables false
set_option linter.unusedSimpArgs false

variable {P : Program} {A : Sy}

theorem SoundM.knownH2 {f : FuncId} {args : List AV} {p : Int → Prop} {e : Int} (h : Nums P f args p) (hu : ∀ n, p n → n = e) : Is1 P f args (.int .i64 e) :=
  h.mono fun v os ⟨⟨n, hn, hv⟩, ho⟩ => ⟨by rw [← hu n hn]; exact hv, ho⟩

theorem Arith.exact {dr : Bool} {k : IntKind} {m n : Int} {e : Unit → Int} {K : Int → Prop} (h : ∀ x, x = k.wrap (e ()) → K x) : Arith dr k m n e K := ⟨fun _ => h _ rfl⟩
theorem ArithN.exact {p : Unit → Prop} {dr : Bool} {k : IntKind} {m n : Int} {e : Unit → Int} {K : Int → Prop} (hp : p ()) (h : ∀ x, x = k.wrap (e ()) → K x) : ArithN p dr k m n e K := ⟨fun _ => ⟨hp, h _ rfl⟩⟩

theorem and_bound2 (m q : Int) (hq : 0 ≤ q ∧ q ≤ 4294967296) : 0 ≤ (((BitVec.ofInt 64 m &&& BitVec.ofInt 64 q).toNat : Nat) : Int) ∧ (((BitVec.ofInt 64 m &&& BitVec.ofInt 64 q).toNat : Nat) : Int) ≤ q := by
  rw [BitVec.toNat_and]
  have h1 : (BitVec.ofInt 64 m).toNat &&& (BitVec.ofInt 64 q).toNat ≤ (BitVec.ofInt 64 q).toNat := Nat.and_le_right
  have h2 : ((BitVec.ofInt 64 q).toNat : Int) = q := by
    rw [BitVec.toNat_ofInt]; simp only [Nat.reducePow]; omega
  omega

theorem l1New_c (S : Se P A) (code : List Int) (hb : code.length ≤ 4096) (hc : ∀ b ∈ code, 0 ≤ b ∧ b ≤ 255) : SoundM P 23 true [.ro (A.enc cByte code)] []
    (fun v os => (∃ h : Int, v = .ownp [.ro (A.enc cByte code), .int .i64 0, .int .i64 h]) ∧ os = []) := by
  refine S.cx.by (S.prog ▸ Tryz.func23) rfl rfl rfl rfl (fun hv ho => ?_)
  cbv
  refine LenR.nat S.cx (fun N hN hm => ?_); cbv
  refine Arith.go (by lia) (fun h0 hh0 => ?_); cbv
  clear hh0
  refine ALoop.goS (ι := Int × Int) (fun i => [(4, .int .i64 i.1), (3, .int .i64 i.2)]) [] (fun i => []) (fun i => 0 ≤ i.1) (fun i => (code.length - i.1).toNat) (0, h0) S.cx.tab S.cx.mix S.eq ?_ ?_ ?_
  · exact Int.le_refl _
  · (cbv; refine Less.to [] rfl rfl ?_ ?_ <;> repeat' (first | exact trivial | exact ⟨rfl, rfl⟩ | exact ⟨_, rfl, Nat.zero_le _, rfl⟩ | apply And.intro | exact rfl))
  rintro ⟨i, h⟩ hi
  dsimp only at hi
  refine Rnd.mk ?_; cbv
  refine LenR.nat S.cx (fun M hM hm2 => ?_); cbv
  refine Test.lss (fun h1 => ?_) (fun h1 => ?_) <;> cbv
  · refine Arith.any (fun c _ => ?_); cbv
    refine ElemRo.enc S.cx (fun _ => rfl) (by lia) (by lia) (fun x hx => ?_); cbv
    refine Conv.any (fun y _ => ?_); cbv
    refine Arith.any (fun z _ => ?_); cbv
    refine Arith.any (fun w _ => ?_); cbv
    refine Arith.any (fun w2 _ => ?_); cbv
    refine Arith.go (by lia) (fun i' hi' => ?_); cbv
    replace hi' : i' = i + 1 := hi'
    refine Again.on (i', w2) (by dsimp only; lia) (by dsimp only; lia) ?_
    (cbv; refine Less.to [] rfl rfl ?_ ?_ <;> repeat' (first | exact trivial | exact ⟨rfl, rfl⟩ | exact ⟨_, rfl, Nat.zero_le _, rfl⟩ | apply And.intro | exact rfl))
  · refine Done.to (.ownp [.ro (A.enc cByte code), .int .i64 0, .int .i64 h]) [] rfl ?_ trivial ⟨⟨h, rfl⟩, rfl⟩
    exact ⟨⟨rfl, .inl rfl⟩, rfl, rfl, trivial⟩

def rCur (x : Int × Int × Int) : AV := .int .i64 x.1
def rCurB (x : Bool × Int × Int) : AV := .bool x.1
def oCur {α : Type} (A : Sy) (code : List Int) (x : α × Int × Int) : List (Option Obj) := [some (.box [.ro (A.enc cByte code), .int .i64 x.2.1, .int .i64 x.2.2])]

def W (n : Int) : Int := IntKind.wrap .i64 n
def hopF (h : Int) : Int := W (W (h * 6364136223846793005) + 1442695040888963407)
def mixF (h : Int) : Int := (((BitVec.ofInt 64 (W ((BitVec.ofInt 64 (W (h.fdiv (2 ^ 33))) ^^^ BitVec.ofInt 64 (W (h.fdiv (2 ^ 45)))).toNat)) &&& BitVec.ofInt 64 255).toNat : Nat) : Int)
def and255 (w : Int) : Int := (((BitVec.ofInt 64 w &&& BitVec.ofInt 64 255).toNat : Nat) : Int)

def byteF (code : List Int) (i h : Int) : Int × Int × Int :=
  if i < code.length then (and255 (mixF (hopF h) + (code[i.toNat]?).getD 0), i + 1, hopF h) else (mixF (hopF h), i, hopF h)

theorem byteF_ok (code : List Int) (hb : code.length ≤ 4096) (hc : ∀ b ∈ code, 0 ≤ b ∧ b ≤ 255) (i h : Int) (hi : 0 ≤ i) : (0 ≤ (byteF code i h).1 ∧ (byteF code i h).1 ≤ 255) ∧ 0 ≤ (byteF code i h).2.1 := by
  unfold byteF
  split
  · exact ⟨and_bound2 _ 255 (by decide), by dsimp only; omega⟩
  · exact ⟨and_bound2 _ 255 (by decide), hi⟩

theorem l1Byte_c (S : Se P A) (code : List Int) (hb : code.length ≤ 4096) (hc : ∀ b ∈ code, 0 ≤ b ∧ b ≤ 255) (i h : Int) (hi : 0 ≤ i) : SoundM P 122 true [.ptr 1000 0 0] [.box [.ro (A.enc cByte code), .int .i64 i, .int .i64 h]]
    (fun v os => v = rCur (byteF code i h) ∧ os = oCur A code (byteF code i h)) := by
  refine S.cx.by (S.prog ▸ Tryz.func122) rfl rfl rfl rfl (fun hv ho => ?_)
  cbv
  refine Arith.exact (fun a ha => ?_); replace ha : a = W (h * 6364136223846793005) := ha; cbv
  refine Arith.exact (fun h2 hh2 => ?_); replace hh2 : h2 = W (a + 1442695040888963407) := hh2; cbv
  have hh2 : h2 = hopF h := by rw [hh2, ha]; rfl
  clear ha
  try (refine Drawn.mk ⟨by kernel_rfl, fun _ => ?_⟩)
  refine ArithN.exact (by decide) (fun b hb2 => ?_); replace hb2 : b = W (h2.fdiv (2 ^ 33)) := hb2; cbv
  refine ArithN.exact (by decide) (fun c hc2 => ?_); replace hc2 : c = W (h2.fdiv (2 ^ 45)) := hc2; cbv
  refine Arith.exact (fun d hd => ?_); replace hd : d = W ((BitVec.ofInt 64 b ^^^ BitVec.ofInt 64 c).toNat) := hd; cbv
  refine Arith.go ?_ (fun x hx => ?_)
  · show -9223372036854775808 ≤ (((BitVec.ofInt 64 d &&& BitVec.ofInt 64 255).toNat : Nat) : Int) ∧ (((BitVec.ofInt 64 d &&& BitVec.ofInt 64 255).toNat : Nat) : Int) ≤ 9223372036854775807
    have := and_bound2 d 255 (by decide)
    omega
  have hx1 : 0 ≤ x ∧ x ≤ 255 := by rw [hx]; exact and_bound2 d 255 (by decide)
  replace hx : x = mixF (hopF h) := by rw [hx, hd, hb2, hc2, hh2]; rfl
  clear hd hb2 hc2
  cbv
  try (refine Drawn.mk ⟨by kernel_rfl, fun _ => ?_⟩)
  refine LenR.natD S.cx (by omega) (fun N hN => ?_); cbv
  refine Test.lss (fun h3 => ?_) (fun h3 => ?_) <;> cbv
  · try (refine Drawn.mk ⟨by kernel_rfl, fun _ => ?_⟩)
    refine ElemRo.enc S.cx (fun _ => rfl) (by lia) (by lia) (fun c2 hcx => ?_); cbv
    have hcb := hc c2 (mem_at hcx)
    refine Conv.go (by omega) (fun z hz => ?_); cbv
    refine Arith.go (by lia) (fun w hw => ?_); replace hw : w = x + z := hw; cbv
    refine Arith.go ?_ (fun y hy => ?_)
    · show -9223372036854775808 ≤ (((BitVec.ofInt 64 w &&& BitVec.ofInt 64 255).toNat : Nat) : Int) ∧ (((BitVec.ofInt 64 w &&& BitVec.ofInt 64 255).toNat : Nat) : Int) ≤ 9223372036854775807
      have := and_bound2 w 255 (by decide)
      omega
    replace hy : y = and255 w := hy
    cbv
    refine Arith.go (by lia) (fun i' hi' => ?_); replace hi' : i' = i + 1 := hi'; cbv
    have e9 : byteF code i h = (y, i', h2) := by unfold byteF; rw [if_pos (by lia), hcx, hy, hw, hz, hx, hi', hh2]; rfl
    rw [e9]
    exact Done.to (rCur (y, i', h2)) (oCur A code (y, i', h2)) rfl rfl ⟨⟨⟨rfl, .inl rfl⟩, rfl, rfl, trivial⟩, trivial⟩ ⟨rfl, rfl⟩
  · have e9 : byteF code i h = (x, i, h2) := by unfold byteF; rw [if_neg (by lia), hx, hh2]
    rw [e9]
    exact Done.to (rCur (x, i, h2)) (oCur A code (x, i, h2)) rfl rfl ⟨⟨⟨rfl, .inl rfl⟩, rfl, rfl, trivial⟩, trivial⟩ ⟨rfl, rfl⟩

def belowF (code : List Int) (i h n : Int) : Int × Int × Int :=
  if n ≤ 0 then (0, i, h) else if n ≤ 256 then ((byteF code i h).1.tmod n, (byteF code i h).2) else
    let a := byteF code i h
    let b := byteF code a.2.1 a.2.2
    let c := byteF code b.2.1 b.2.2
    let d := byteF code c.2.1 c.2.2
    ((a.1 * 16777216 + b.1 * 65536 + c.1 * 256 + d.1).tmod n, d.2)

theorem belowF_ok (code : List Int) (hb : code.length ≤ 4096) (hc : ∀ b ∈ code, 0 ≤ b ∧ b ≤ 255) (i h : Int) (hi : 0 ≤ i) (n : Int) : (0 ≤ (belowF code i h n).1 ∧ (0 < n → (belowF code i h n).1 < n) ∧ (n ≤ 0 → (belowF code i h n).1 = 0)) ∧ 0 ≤ (belowF code i h n).2.1 := by
  unfold belowF
  split
  · exact ⟨⟨Int.le_refl _, fun e => by omega, fun _ => rfl⟩, hi⟩
  have h1 := byteF_ok code hb hc i h hi
  split
  · exact ⟨⟨Int.tmod_nonneg _ h1.1.1, fun e => Int.tmod_lt_of_pos _ e, fun e => by omega⟩, h1.2⟩
  have h2 := byteF_ok code hb hc (byteF code i h).2.1 (byteF code i h).2.2 h1.2
  have h3 := byteF_ok code hb hc (byteF code (byteF code i h).2.1 (byteF code i h).2.2).2.1 (byteF code (byteF code i h).2.1 (byteF code i h).2.2).2.2 h2.2
  have h4 := byteF_ok code hb hc _ (byteF code (byteF code (byteF code i h).2.1 (byteF code i h).2.2).2.1 (byteF code (byteF code i h).2.1 (byteF code i h).2.2).2.2).2.2 h3.2
  exact ⟨⟨Int.tmod_nonneg _ (by omega), fun e => Int.tmod_lt_of_pos _ e, fun e => by omega⟩, h4.2⟩

theorem l1Below_c (S : Se P A) (code : List Int) (hb : code.length ≤ 4096) (hc : ∀ b ∈ code, 0 ≤ b ∧ b ≤ 255) (i h : Int) (hi : 0 ≤ i) (n : Int) : SoundM P 27 true [.ptr 1000 0 0, .int .i64 n] [.box [.ro (A.enc cByte code), .int .i64 i, .int .i64 h]]
    (fun v os => v = rCur (belowF code i h n) ∧ os = oCur A code (belowF code i h n)) := by
  obtain ⟨i0, ei0⟩ : ∃ x, x = i := ⟨_, rfl⟩
  obtain ⟨h0', eh0⟩ : ∃ x, x = h := ⟨_, rfl⟩
  refine S.cx.by (S.prog ▸ Tryz.func27) rfl rfl rfl rfl (fun hv ho => ?_)
  cbv
  refine Test.leq (fun h0 => ?_) (fun h0 => ?_) <;> cbv
  · have e9 : belowF code i h n = (0, i, h) := by exact if_pos h0
    rw [e9]
    exact Done.to (rCur (0, i, h)) (oCur A code (0, i, h)) rfl rfl ⟨⟨⟨rfl, .inl rfl⟩, rfl, rfl, trivial⟩, trivial⟩ ⟨rfl, rfl⟩
  refine Test.leq (fun h256 => ?_) (fun h256 => ?_) <;> cbv
  · refine ACall.valN (r := rCur) (os := oCur A code) (dp := false) S.cx (l1Byte_c S code hb hc i h hi) (.of rfl (by repeat' (first | exact trivial | exact rfl | exact Nat.le_refl _ | exact S.ga | exact S.gb ‹_› | exact S.gc ‹_› | exact S.gd | exact S.ge | exact S.gf ‹_› | exact S.gg ‹_› | exact S.gh | exact .inl rfl | exact S.gi ‹_› | exact S.gj ‹_› | exact S.gk | exact S.gl | refine ⟨?_, ?_⟩))) rfl (fun ln hln x hx => ⟨rfl, ?_⟩)
    obtain ⟨a, i1, h1⟩ := x
    cbv
    have hka := byteF_ok code hb hc i h hi
    rw [← hx] at hka
    dsimp only at hka
    refine RemA.go (by omega) (fun r hr => ?_); cbv
    have e9 : belowF code i h n = (r, i1, h1) := by unfold belowF; rw [if_neg (by omega), if_pos h256, ← hx, hr]
    rw [e9]
    exact Done.to (rCur (r, i1, h1)) (oCur A code (r, i1, h1)) rfl rfl ⟨⟨⟨rfl, .inl rfl⟩, rfl, rfl, trivial⟩, trivial⟩ ⟨rfl, rfl⟩
  refine ACall.valN (r := rCur) (os := oCur A code) (dp := false) S.cx (l1Byte_c S code hb hc i h hi) (.of rfl (by repeat' (first | exact trivial | exact rfl | exact Nat.le_refl _ | exact S.ga | exact S.gb ‹_› | exact S.gc ‹_› | exact S.gd | exact S.ge | exact S.gf ‹_› | exact S.gg ‹_› | exact S.gh | exact .inl rfl | exact S.gi ‹_› | exact S.gj ‹_› | exact S.gk | exact S.gl | refine ⟨?_, ?_⟩))) rfl (fun ln hln x hx => ⟨rfl, ?_⟩)
  obtain ⟨a, i1, h1⟩ := x
  cbv
  have hx1 := hx
  have hk1 := byteF_ok code hb hc i h hi
  rw [← hx] at hk1
  dsimp only at hk1
  refine ACall.valN (r := rCur) (os := oCur A code) (dp := false) S.cx (l1Byte_c S code hb hc i1 h1 hk1.2) (.of rfl (by repeat' (first | exact trivial | exact rfl | exact Nat.le_refl _ | exact S.ga | exact S.gb ‹_› | exact S.gc ‹_› | exact S.gd | exact S.ge | exact S.gf ‹_› | exact S.gg ‹_› | exact S.gh | exact .inl rfl | exact S.gi ‹_› | exact S.gj ‹_› | exact S.gk | exact S.gl | refine ⟨?_, ?_⟩))) rfl (fun ln hln x hx => ⟨rfl, ?_⟩)
  obtain ⟨b, i2, h2⟩ := x
  cbv
  have hx2 := hx
  have hk2 := byteF_ok code hb hc i1 h1 hk1.2
  rw [← hx] at hk2
  dsimp only at hk2
  refine ACall.valN (r := rCur) (os := oCur A code) (dp := false) S.cx (l1Byte_c S code hb hc i2 h2 hk2.2) (.of rfl (by repeat' (first | exact trivial | exact rfl | exact Nat.le_refl _ | exact S.ga | exact S.gb ‹_› | exact S.gc ‹_› | exact S.gd | exact S.ge | exact S.gf ‹_› | exact S.gg ‹_› | exact S.gh | exact .inl rfl | exact S.gi ‹_› | exact S.gj ‹_› | exact S.gk | exact S.gl | refine ⟨?_, ?_⟩))) rfl (fun ln hln x hx => ⟨rfl, ?_⟩)
  obtain ⟨c, i3, h3⟩ := x
  cbv
  have hx3 := hx
  have hk3 := byteF_ok code hb hc i2 h2 hk2.2
  rw [← hx] at hk3
  dsimp only at hk3
  refine ACall.valN (r := rCur) (os := oCur A code) (dp := false) S.cx (l1Byte_c S code hb hc i3 h3 hk3.2) (.of rfl (by repeat' (first | exact trivial | exact rfl | exact Nat.le_refl _ | exact S.ga | exact S.gb ‹_› | exact S.gc ‹_› | exact S.gd | exact S.ge | exact S.gf ‹_› | exact S.gg ‹_› | exact S.gh | exact .inl rfl | exact S.gi ‹_› | exact S.gj ‹_› | exact S.gk | exact S.gl | refine ⟨?_, ?_⟩))) rfl (fun ln hln x hx => ⟨rfl, ?_⟩)
  obtain ⟨d, i4, h4⟩ := x
  cbv
  have hx4 := hx
  have hk4 := byteF_ok code hb hc i3 h3 hk3.2
  rw [← hx] at hk4
  dsimp only at hk4
  refine Arith.go (by lia) (fun a2 ha2 => ?_); replace ha2 : a2 = a * 16777216 := ha2; cbv
  refine Arith.go (by lia) (fun b2 hb2 => ?_); replace hb2 : b2 = b * 65536 := hb2; cbv
  refine Arith.go (by lia) (fun s1 hs1 => ?_); replace hs1 : s1 = a2 + b2 := hs1; cbv
  refine Arith.go (by lia) (fun c2 hc2 => ?_); replace hc2 : c2 = c * 256 := hc2; cbv
  refine Arith.go (by lia) (fun s2 hs2 => ?_); replace hs2 : s2 = s1 + c2 := hs2; cbv
  refine Arith.go (by lia) (fun s3 hs3 => ?_); replace hs3 : s3 = s2 + d := hs3; cbv
  refine RemA.go (by omega) (fun r hr => ?_); cbv
  have e9 : belowF code i h n = (r, i4, h4) := by unfold belowF; rw [if_neg (by omega), if_neg (by omega)]; dsimp only; rw [← hx1]; dsimp only; rw [← hx2]; dsimp only; rw [← hx3]; dsimp only; rw [← hx4]; dsimp only; rw [hr, hs3, hs2, hs1, ha2, hb2, hc2]
  rw [e9]
  exact Done.to (rCur (r, i4, h4)) (oCur A code (r, i4, h4)) rfl rfl ⟨⟨⟨rfl, .inl rfl⟩, rfl, rfl, trivial⟩, trivial⟩ ⟨rfl, rfl⟩

def onceF (code : List Int) (i h n : Int) : Bool × Int × Int := (decide ((belowF code i h n).1 = 0), (belowF code i h n).2)
theorem onceF_ok (code : List Int) (hb : code.length ≤ 4096) (hc : ∀ b ∈ code, 0 ≤ b ∧ b ≤ 255) (i h : Int) (hi : 0 ≤ i) (n : Int) : True ∧ 0 ≤ (onceF code i h n).2.1 := ⟨trivial, (belowF_ok code hb hc i h hi n).2⟩

theorem l1Once_c (S : Se P A) (code : List Int) (hb : code.length ≤ 4096) (hc : ∀ b ∈ code, 0 ≤ b ∧ b ≤ 255) (i h : Int) (hi : 0 ≤ i) (n : Int) : SoundM P 25 true [.ptr 1000 0 0, .int .i64 n] [.box [.ro (A.enc cByte code), .int .i64 i, .int .i64 h]]
    (fun v os => v = rCurB (onceF code i h n) ∧ os = oCur A code (onceF code i h n)) := by
  refine S.cx.by (S.prog ▸ Tryz.func25) rfl rfl rfl rfl (fun hv ho => ?_)
  cbv
  refine ACall.valN (r := rCur) (os := oCur A code) (dp := false) S.cx (l1Below_c S code hb hc i h hi n) (.of rfl (by repeat' (first | exact trivial | exact rfl | exact Nat.le_refl _ | exact S.ga | exact S.gb ‹_› | exact S.gc ‹_› | exact S.gd | exact S.ge | exact S.gf ‹_› | exact S.gg ‹_› | exact S.gh | exact .inl rfl | exact S.gi ‹_› | exact S.gj ‹_› | exact S.gk | exact S.gl | refine ⟨?_, ?_⟩))) rfl (fun ln hln x hx => ⟨rfl, ?_⟩)
  obtain ⟨a, i1, h1⟩ := x
  cbv
  refine Test.eql (fun h5 => ?_) (fun h5 => ?_) <;> cbv
  · have e9 : onceF code i h n = (true, i1, h1) := by unfold onceF; rw [← hx]; dsimp only; rw [decide_eq_true h5]
    rw [e9]
    exact Done.to (rCurB (true, i1, h1)) (oCur A code (true, i1, h1)) rfl rfl ⟨⟨⟨rfl, .inl rfl⟩, rfl, rfl, trivial⟩, trivial⟩ ⟨rfl, rfl⟩
  · have e9 : onceF code i h n = (false, i1, h1) := by unfold onceF; rw [← hx]; dsimp only; rw [decide_eq_false h5]
    rw [e9]
    exact Done.to (rCurB (false, i1, h1)) (oCur A code (false, i1, h1)) rfl rfl ⟨⟨⟨rfl, .inl rfl⟩, rfl, rfl, trivial⟩, trivial⟩ ⟨rfl, rfl⟩

def fromF (code : List Int) (i h lo up : Int) : Int × Int × Int := (lo + (belowF code i h (up - lo + 1)).1, (belowF code i h (up - lo + 1)).2)
theorem fromF_ok (code : List Int) (hb : code.length ≤ 4096) (hc : ∀ b ∈ code, 0 ≤ b ∧ b ≤ 255) (i h : Int) (hi : 0 ≤ i) (lo up : Int) : (lo ≤ (fromF code i h lo up).1 ∧ (lo ≤ up → (fromF code i h lo up).1 ≤ up)) ∧ 0 ≤ (fromF code i h lo up).2.1 := by
  have h1 := belowF_ok code hb hc i h hi (up - lo + 1)
  unfold fromF
  refine ⟨⟨by dsimp only; omega, fun e => ?_⟩, h1.2⟩
  have := h1.1.2.1 (by omega)
  dsimp only; omega

theorem l1From_c (S : Se P A) (code : List Int) (hb : code.length ≤ 4096) (hc : ∀ b ∈ code, 0 ≤ b ∧ b ≤ 255) (i h : Int) (hi : 0 ≤ i) (lo up : Int) (hl : -1000000000 ≤ lo ∧ lo ≤ 1000000000 ∧ -1000000000 ≤ up ∧ up ≤ 1000000000) : SoundM P 121 true [.ptr 1000 0 0, .int .i64 lo, .int .i64 up] [.box [.ro (A.enc cByte code), .int .i64 i, .int .i64 h]]
    (fun v os => v = rCur (fromF code i h lo up) ∧ os = oCur A code (fromF code i h lo up)) := by
  have hfo := fromF_ok code hb hc i h hi lo up
  refine S.cx.by (S.prog ▸ Tryz.func121) rfl rfl rfl rfl (fun hv ho => ?_)
  cbv
  refine Arith.go (by lia) (fun d hd => ?_); replace hd : d = up - lo := hd; cbv
  refine Arith.go (by lia) (fun d1 hd1 => ?_); replace hd1 : d1 = d + 1 := hd1; cbv
  refine ACall.valN (r := rCur) (os := oCur A code) (dp := false) S.cx (l1Below_c S code hb hc i h hi d1) (.of rfl (by repeat' (first | exact trivial | exact rfl | exact Nat.le_refl _ | exact S.ga | exact S.gb ‹_› | exact S.gc ‹_› | exact S.gd | exact S.ge | exact S.gf ‹_› | exact S.gg ‹_› | exact S.gh | exact .inl rfl | exact S.gi ‹_› | exact S.gj ‹_› | exact S.gk | exact S.gl | refine ⟨?_, ?_⟩))) rfl (fun ln hln x hx => ⟨rfl, ?_⟩)
  obtain ⟨a, i1, h1⟩ := x
  cbv
  have hk := (belowF_ok code hb hc i h hi d1).1
  rw [← hx] at hk
  dsimp only at hk
  have hk2 : a ≤ 2000000001 := by
    rcases Int.lt_or_le 0 d1 with g | g
    · have := hk.2.1 g; omega
    · have := hk.2.2 g; omega
  refine Arith.go (by lia) (fun r hr => ?_); replace hr : r = lo + a := hr; cbv
  have e9 : fromF code i h lo up = (r, i1, h1) := by unfold fromF; rw [show up - lo + 1 = d1 by omega, ← hx, hr]
  rw [e9]
  exact Done.to (rCur (r, i1, h1)) (oCur A code (r, i1, h1)) rfl rfl ⟨⟨⟨rfl, .inl rfl⟩, rfl, rfl, trivial⟩, trivial⟩ ⟨rfl, rfl⟩

end Go.Proofs.YtgooambndfkgkaaGreat.AM

namespace Go.Proofs.YtgooambndfkgkaaGreat.AM
open Go Go.Proofs

set_option maxRecDepth 100000
set_option maxHeartbeats 4000000
set_option linter.unusedVariables false
set_option linter.unusedSimpArgs false

variable {P : Program} {A : Sy}

theorem Row.lit (C : Cx P tab A) {α : Type} {f : α → List AV} (l : List α) {rows : List (List AV)} (hr : rows = l.map f) {row : Nat} {K : List AV → Prop} (hl : row < l.length) (h : ∀ x, l[row]? = some x → K (f x)) : Row rows row K := by
  rw [hr, ← C.enc f l]; exact Row.enc C hl h

theorem ACall.ofN {T : Nat → Option TI} (C : Cx P T A) {f : FuncId} {al dp : Bool} {avs bs : List AV} {objs : List Obj} {R : AV → List (Option Obj) → Prop} {lab : Nat} {st : St} {K : AV → Dl → Prop} (h : SoundM P f al bs objs R) (hg : Gives st al dp avs bs objs)
    (hk : ∀ (ln : List (List AV) → Nat), (∀ {α : Type} (f : α → List AV) (l : List α), ln (A.enc f l) = l.length) → ∀ v os, R v os → backChk st (rhoA avs bs) lab objs os v = true ∧ K (adopt ln lab v) (backD dp ln st avs bs objs lab os v)) : ACall A false P f avs lab st K :=
  ACall.of h hg (hk A.len C.lenE)

theorem l1Min_c (S : Se P A) (a b : Int) : Is1 P 124 [.int .i64 a, .int .i64 b] (.int .i64 (min a b)) := by
  refine SoundM.knownH2 (p := fun n => n = min a b) ?_ (fun n h => h)
  refine S.cx.by (S.prog ▸ Tryz.func124) rfl rfl rfl rfl (fun hv ho => ?_)
  cbv
  refine Test.lss (fun h => ?_) (fun h => ?_) <;> cbv
  · exact Done.num (by omega)
  · exact Done.num (by omega)

def odds : List Int := [-1, 0, 1, 2147483648, -2147483648, 1099511627776, 4611686018427387904, -4611686018427387904, 9223372036854775807, -9223372036854775808]
def oddF (code : List Int) (i h : Int) : Int × Int × Int := (odds.getD (belowF code i h 10).1.toNat 0, (belowF code i h 10).2)
theorem oddF_ok (code : List Int) (hb : code.length ≤ 4096) (hc : ∀ b ∈ code, 0 ≤ b ∧ b ≤ 255) (i h : Int) (hi : 0 ≤ i) : True ∧ 0 ≤ (oddF code i h).2.1 := ⟨trivial, (belowF_ok code hb hc i h hi 10).2⟩

theorem l1Odd_c (S : Se P A) (code : List Int) (hb : code.length ≤ 4096) (hc : ∀ b ∈ code, 0 ≤ b ∧ b ≤ 255) (i h : Int) (hi : 0 ≤ i) : SoundM P 123 true [.ptr 1000 0 0] [.box [.ro (A.enc cByte code), .int .i64 i, .int .i64 h]]
    (fun v os => v = rCur (oddF code i h) ∧ os = oCur A code (oddF code i h)) := by
  have hbk := belowF_ok code hb hc i h hi 10
  refine S.cx.by (S.prog ▸ Tryz.func123) rfl rfl rfl rfl (fun hv ho => ?_)
  cbv
  refine ACall.valN (r := rCur) (os := oCur A code) (dp := false) S.cx (l1Below_c S code hb hc i h hi 10) (.of rfl (by repeat' (first | exact trivial | exact rfl | exact Nat.le_refl _ | exact S.ga | exact S.gb ‹_› | exact S.gc ‹_› | exact S.gd | exact S.ge | exact S.gf ‹_› | exact S.gg ‹_› | exact S.gh | exact .inl rfl | exact S.gi ‹_› | exact S.gj ‹_› | exact S.gk | exact S.gl | refine ⟨?_, ?_⟩))) rfl (fun ln hln x hx => ⟨rfl, ?_⟩)
  obtain ⟨a, i1, h1⟩ := x
  cbv
  rw [← hx] at hbk
  dsimp only at hbk
  have ha9 := hbk.1.2.1 (by decide)
  refine ElemRef.go rfl (by lia) (by lia) (by simp only [List.length_cons, List.length_nil]; lia) (fun row hrow => ?_); cbv
  refine Row.lit S.cx (f := cInt64) ([-1, 0, 1, 2147483648, -2147483648, 1099511627776, 4611686018427387904, -4611686018427387904, 9223372036854775807, -9223372036854775808] : List Int) rfl (by simp only [List.length_cons, List.length_nil]; lia) (fun x hxx => ?_); cbv
  have e9 : oddF code i h = (x, i1, h1) := by unfold oddF; rw [← hx, show a.toNat = row by lia]; dsimp only; rw [List.getD_eq_getElem?_getD, show odds[row]? = some x from hxx]; rfl
  rw [e9]
  exact Done.to (rCur (x, i1, h1)) (oCur A code (x, i1, h1)) rfl rfl ⟨⟨⟨rfl, .inl rfl⟩, rfl, rfl, trivial⟩, trivial⟩ ⟨rfl, rfl⟩

def numF (code : List Int) (i h most : Int) : Int × Int × Int :=
  let a := onceF code i h 10
  if a.1 = true then
    let b := oddF code a.2.1 a.2.2
    let c := belowF code b.2.1 b.2.2 4
    ([-1, most, most + 1, b.1].getD c.1.toNat 0, c.2)
  else
    let b := onceF code a.2.1 a.2.2 2
    if b.1 = true then belowF code b.2.1 b.2.2 (min most 4 + 1) else belowF code b.2.1 b.2.2 (most + 1)
theorem numF_ok (code : List Int) (hb : code.length ≤ 4096) (hc : ∀ b ∈ code, 0 ≤ b ∧ b ≤ 255) (i h : Int) (hi : 0 ≤ i) (most : Int) : True ∧ 0 ≤ (numF code i h most).2.1 := by
  refine ⟨trivial, ?_⟩
  unfold numF
  have h1 := (onceF_ok code hb hc i h hi 10).2
  dsimp only
  split
  · exact (belowF_ok code hb hc _ _ (oddF_ok code hb hc _ _ h1).2 4).2
  · have h2 := (onceF_ok code hb hc _ (onceF code i h 10).2.2 h1 2).2
    split
    · exact (belowF_ok code hb hc _ _ h2 _).2
    · exact (belowF_ok code hb hc _ _ h2 _).2

theorem l1Num_c (S : Se P A) (code : List Int) (hb : code.length ≤ 4096) (hc : ∀ b ∈ code, 0 ≤ b ∧ b ≤ 255) (i h : Int) (hi : 0 ≤ i) (most : Int) (hm : 0 ≤ most ∧ most ≤ 1000000000) : SoundM P 28 true [.ptr 1000 0 0, .int .i64 most] [.box [.ro (A.enc cByte code), .int .i64 i, .int .i64 h]]
    (fun v os => v = rCur (numF code i h most) ∧ os = oCur A code (numF code i h most)) := by
  refine S.cx.by (S.prog ▸ Tryz.func28) rfl rfl rfl rfl (fun hv ho => ?_)
  cbv
  have hk1 := onceF_ok code hb hc i h hi 10
  refine ACall.valN (r := rCurB) (os := oCur A code) (dp := false) S.cx (l1Once_c S code hb hc i h hi 10) (.of rfl (by repeat' (first | exact trivial | exact rfl | exact Nat.le_refl _ | exact S.ga | exact S.gb ‹_› | exact S.gc ‹_› | exact S.gd | exact S.ge | exact S.gf ‹_› | exact S.gg ‹_› | exact S.gh | exact .inl rfl | exact S.gi ‹_› | exact S.gj ‹_› | exact S.gk | exact S.gl | refine ⟨?_, ?_⟩))) rfl (fun ln hln x hx => ⟨rfl, ?_⟩)
  obtain ⟨b, i1, h1⟩ := x
  cbv
  rw [← hx] at hk1
  dsimp only at hk1
  have hx1 := hx
  have hi1 := hk1.2
  cases b <;> cbv
  rotate_left
  · refine Arith.go (by lia) (fun m1 hm1 => ?_); replace hm1 : m1 = most + 1 := hm1; cbv
    have hk2 := oddF_ok code hb hc i1 h1 hi1
    refine ACall.valN (r := rCur) (os := oCur A code) (dp := false) S.cx (l1Odd_c S code hb hc i1 h1 hi1) (.of rfl (by repeat' (first | exact trivial | exact rfl | exact Nat.le_refl _ | exact S.ga | exact S.gb ‹_› | exact S.gc ‹_› | exact S.gd | exact S.ge | exact S.gf ‹_› | exact S.gg ‹_› | exact S.gh | exact .inl rfl | exact S.gi ‹_› | exact S.gj ‹_› | exact S.gk | exact S.gl | refine ⟨?_, ?_⟩))) rfl (fun ln hln x hx => ⟨rfl, ?_⟩)
    obtain ⟨od, i2, h2⟩ := x
    cbv
    rw [← hx] at hk2
    dsimp only at hk2
    have hx2 := hx
    have hi2 := hk2.2
    have hk3 := belowF_ok code hb hc i2 h2 hi2 4
    refine ACall.valN (r := rCur) (os := oCur A code) (dp := false) S.cx (l1Below_c S code hb hc i2 h2 hi2 4) (.of rfl (by repeat' (first | exact trivial | exact rfl | exact Nat.le_refl _ | exact S.ga | exact S.gb ‹_› | exact S.gc ‹_› | exact S.gd | exact S.ge | exact S.gf ‹_› | exact S.gg ‹_› | exact S.gh | exact .inl rfl | exact S.gi ‹_› | exact S.gj ‹_› | exact S.gk | exact S.gl | refine ⟨?_, ?_⟩))) rfl (fun ln hln x hx => ⟨rfl, ?_⟩)
    obtain ⟨a, i3, h3⟩ := x
    cbv
    rw [← hx] at hk3
    dsimp only at hk3
    have hx3 := hx
    have hi3 := hk3.2
    have ha9 := hk3.1.2.1 (by decide)
    have ha0 := hk3.1.1
    refine ElemRef.go rfl (by lia) (by lia) (by simp only [List.length_cons, List.length_nil]; lia) (fun row hrow => ?_); cbv
    refine Row.lit S.cx (f := cInt64) ([-1, most, m1, od] : List Int) rfl (by simp only [List.length_cons, List.length_nil]; lia) (fun x hxx => ?_); cbv
    have e9 : numF code i h most = (x, i3, h3) := by unfold numF; dsimp only; rw [← hx1]; dsimp only; rw [if_pos rfl, ← hx2]; dsimp only; rw [← hx3]; dsimp only; rw [← hm1, show a.toNat = row by lia, List.getD_eq_getElem?_getD, hxx]; rfl
    rw [e9]
    exact Done.to (rCur (x, i3, h3)) (oCur A code (x, i3, h3)) rfl rfl ⟨⟨⟨rfl, .inl rfl⟩, rfl, rfl, trivial⟩, trivial⟩ ⟨rfl, rfl⟩
  have hk2 := onceF_ok code hb hc i1 h1 hi1 2
  refine ACall.valN (r := rCurB) (os := oCur A code) (dp := false) S.cx (l1Once_c S code hb hc i1 h1 hi1 2) (.of rfl (by repeat' (first | exact trivial | exact rfl | exact Nat.le_refl _ | exact S.ga | exact S.gb ‹_› | exact S.gc ‹_› | exact S.gd | exact S.ge | exact S.gf ‹_› | exact S.gg ‹_› | exact S.gh | exact .inl rfl | exact S.gi ‹_› | exact S.gj ‹_› | exact S.gk | exact S.gl | refine ⟨?_, ?_⟩))) rfl (fun ln hln x hx => ⟨rfl, ?_⟩)
  obtain ⟨b, i2, h2⟩ := x
  cbv
  rw [← hx] at hk2
  dsimp only at hk2
  have hx2 := hx
  have hi2 := hk2.2
  cases b <;> cbv
  · refine Arith.go (by lia) (fun m1 hm1 => ?_); replace hm1 : m1 = most + 1 := hm1; cbv
    have hk3 := belowF_ok code hb hc i2 h2 hi2 m1
    refine ACall.valN (r := rCur) (os := oCur A code) (dp := false) S.cx (l1Below_c S code hb hc i2 h2 hi2 m1) (.of rfl (by repeat' (first | exact trivial | exact rfl | exact Nat.le_refl _ | exact S.ga | exact S.gb ‹_› | exact S.gc ‹_› | exact S.gd | exact S.ge | exact S.gf ‹_› | exact S.gg ‹_› | exact S.gh | exact .inl rfl | exact S.gi ‹_› | exact S.gj ‹_› | exact S.gk | exact S.gl | refine ⟨?_, ?_⟩))) rfl (fun ln hln x hx => ⟨rfl, ?_⟩)
    obtain ⟨a, i3, h3⟩ := x
    cbv
    rw [← hx] at hk3
    dsimp only at hk3
    have hx3 := hx
    have hi3 := hk3.2
    have e9 : numF code i h most = (a, i3, h3) := by unfold numF; dsimp only; rw [← hx1]; dsimp only; rw [if_neg (by simp), ← hx2]; dsimp only; rw [if_neg (by simp), ← hm1, ← hx3]
    rw [e9]
    exact Done.to (rCur (a, i3, h3)) (oCur A code (a, i3, h3)) rfl rfl ⟨⟨⟨rfl, .inl rfl⟩, rfl, rfl, trivial⟩, trivial⟩ ⟨rfl, rfl⟩
  · refine ACall.int (dp := false) (l1Min_c S most 4) (.of rfl (by repeat' (first | exact trivial | exact rfl | exact Nat.le_refl _ | exact S.ga | exact S.gb ‹_› | exact S.gc ‹_› | exact S.gd | exact S.ge | exact S.gf ‹_› | exact S.gg ‹_› | exact S.gh | exact .inl rfl | exact S.gi ‹_› | exact S.gj ‹_› | exact S.gk | exact S.gl | refine ⟨?_, ?_⟩))) rfl (fun mn hmn => ?_); cbv
    refine Arith.go (by lia) (fun m1 hm1 => ?_); replace hm1 : m1 = mn + 1 := hm1; cbv
    have hk3 := belowF_ok code hb hc i2 h2 hi2 m1
    refine ACall.valN (r := rCur) (os := oCur A code) (dp := false) S.cx (l1Below_c S code hb hc i2 h2 hi2 m1) (.of rfl (by repeat' (first | exact trivial | exact rfl | exact Nat.le_refl _ | exact S.ga | exact S.gb ‹_› | exact S.gc ‹_› | exact S.gd | exact S.ge | exact S.gf ‹_› | exact S.gg ‹_› | exact S.gh | exact .inl rfl | exact S.gi ‹_› | exact S.gj ‹_› | exact S.gk | exact S.gl | refine ⟨?_, ?_⟩))) rfl (fun ln hln x hx => ⟨rfl, ?_⟩)
    obtain ⟨a, i3, h3⟩ := x
    cbv
    rw [← hx] at hk3
    dsimp only at hk3
    have hx3 := hx
    have hi3 := hk3.2
    have e9 : numF code i h most = (a, i3, h3) := by unfold numF; dsimp only; rw [← hx1]; dsimp only; rw [if_neg (by simp), ← hx2]; dsimp only; rw [if_pos rfl, ← hmn, ← hm1, ← hx3]
    rw [e9]
    exact Done.to (rCur (a, i3, h3)) (oCur A code (a, i3, h3)) rfl rfl ⟨⟨⟨rfl, .inl rfl⟩, rfl, rfl, trivial⟩, trivial⟩ ⟨rfl, rfl⟩

def l2F (code : List Int) (i h : Int) : Int × Int × Int :=
  let a := belowF code i h 4
  if a.1 = 0 then oddF code a.2.1 a.2.2
  else if a.1 = 1 then (9223372036854775807 - (belowF code a.2.1 a.2.2 5).1, (belowF code a.2.1 a.2.2 5).2)
  else if a.1 = 2 then (-9223372036854775808 + (belowF code a.2.1 a.2.2 5).1, (belowF code a.2.1 a.2.2 5).2)
  else fromF code a.2.1 a.2.2 (-9) 30
theorem l2F_ok (code : List Int) (hb : code.length ≤ 4096) (hc : ∀ b ∈ code, 0 ≤ b ∧ b ≤ 255) (i h : Int) (hi : 0 ≤ i) : True ∧ 0 ≤ (l2F code i h).2.1 := by
  refine ⟨trivial, ?_⟩
  unfold l2F
  have h1 := (belowF_ok code hb hc i h hi 4).2
  dsimp only
  split
  · exact (oddF_ok code hb hc _ _ h1).2
  · split
    · exact (belowF_ok code hb hc _ _ h1 5).2
    · split
      · exact (belowF_ok code hb hc _ _ h1 5).2
      · exact (fromF_ok code hb hc _ _ h1 (-9) 30).2

end Go.Proofs.YtgooambndfkgkaaGreat.AM
