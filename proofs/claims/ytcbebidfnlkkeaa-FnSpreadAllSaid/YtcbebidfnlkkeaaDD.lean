/- Contracts: the spec draws numbers. (printed by gdd.py) -/
import Derived.Test.YtcbebidfnlkkeaaDC
import Derived.Test.YtcbebidfnlkkeaaB38
namespace Go.Proofs.Ytcbebidfnlkkeaa.AM
open Go Go.Proofs

set_option maxRecDepth 100000
set_option maxHeartbeats 4000000
set_option linter.unusedVariables false
set_option linter.unusedSimpArgs false

variable {P : Program} {A : Sy}

theorem SoundM.knownH2 {f : FuncId} {args : List AV} {p : Int → Prop} {e : Int} (h : Nums P f args p) (hu : ∀ n, p n → n = e) : Is1 P f args (.int .i64 e) :=
  h.mono fun v os ⟨⟨n, hn, hv⟩, ho⟩ => ⟨by rw [← hu n hn]; exact hv, ho⟩

theorem Arith.exact {dr : Bool} {k : IntKind} {m n : Int} {e : Unit → Int} {K : Int → Prop} (h : ∀ x, x = k.wrap (e ()) → K x) : Arith dr k m n e K := ⟨fun _ => h _ rfl⟩
theorem ArithN.exact {p : Unit → Prop} {dr : Bool} {k : IntKind} {m n : Int} {e : Unit → Int} {K : Int → Prop} (hp : p ()) (h : ∀ x, x = k.wrap (e ()) → K x) : ArithN p dr k m n e K := ⟨fun _ => ⟨hp, h _ rfl⟩⟩

theorem and_bound2 (m q : Int) (hq : 0 ≤ q ∧ q ≤ 4294967296) : 0 ≤ (((BitVec.ofInt 64 m &&& BitVec.ofInt 64 q).toNat : Nat) : Int) ∧ (((BitVec.ofInt 64 m &&& BitVec.ofInt 64 q).toNat : Nat) : Int) ≤ q := by
  rw [BitVec.toNat_and]
  have h1 : (BitVec.ofInt 64 m).toNat &&& (BitVec.ofInt 64 q).toNat ≤ (BitVec.ofInt 64 q).toNat := Nat.and_le_right
  have h2 : ((BitVec.ofInt 64 q).toNat : Int) = q := by
    rw [BitVec.toNat_ofInt]; simp only [Nat.reducePow]; omega
  omega

theorem l1New_c (S : Se P A) (code : List Int) (hb : code.length ≤ 4096) (hc : ∀ b ∈ code, 0 ≤ b ∧ b ≤ 255) : SoundM P 95 true [.ro (A.enc cByte code)] []
    (fun v os => (∃ h : Int, v = .ownp [.ro (A.enc cByte code), .int .i64 0, .int .i64 h]) ∧ os = []) := by
  refine S.cx.by (S.prog ▸ Try.func95) rfl rfl rfl rfl (fun hv ho => ?_)
  cbv
  refine LenR.nat S.cx (fun N hN hm => ?_); cbv
  refine Arith.go (by lia) (fun h0 hh0 => ?_); cbv
  clear hh0
  refine ALoop.goS (ι := Int × Int) (fun i => [(4, .int .i64 i.1), (3, .int .i64 i.2)]) [] (fun i => []) (fun i => 0 ≤ i.1) (fun i => (code.length - i.1).toNat) (0, h0) S.cx.tab S.cx.mix S.eq ?_ ?_ ?_
  · exact Int.le_refl _
  · (cbv; refine Less.to [] rfl rfl ?_ ?_ <;> repeat' (first | exact trivial | exact ⟨rfl, rfl⟩ | exact ⟨_, rfl, Nat.zero_le _, rfl⟩ | apply And.intro | exact rfl))
  rintro ⟨i, h⟩ hi
  dsimp only at hi
  refine Rnd.mk ?_; cbv
  refine LenR.nat S.cx (fun M hM hm2 => ?_); cbv
  refine Test.lss (fun h1 => ?_) (fun h1 => ?_) <;> cbv
  · refine Arith.any (fun c _ => ?_); cbv
    refine ElemRo.enc S.cx (fun _ => rfl) (by lia) (by lia) (fun x hx => ?_); cbv
    refine Conv.any (fun y _ => ?_); cbv
    refine Arith.any (fun z _ => ?_); cbv
    refine Arith.any (fun w _ => ?_); cbv
    refine Arith.any (fun w2 _ => ?_); cbv
    refine Arith.go (by lia) (fun i' hi' => ?_); cbv
    replace hi' : i' = i + 1 := hi'
    refine Again.on (i', w2) (by dsimp only; lia) (by dsimp only; lia) ?_
    (cbv; refine Less.to [] rfl rfl ?_ ?_ <;> repeat' (first | exact trivial | exact ⟨rfl, rfl⟩ | exact ⟨_, rfl, Nat.zero_le _, rfl⟩ | apply And.intro | exact rfl))
  · refine Done.to (.ownp [.ro (A.enc cByte code), .int .i64 0, .int .i64 h]) [] rfl ?_ trivial ⟨⟨h, rfl⟩, rfl⟩
    exact ⟨⟨rfl, .inl rfl⟩, rfl, rfl, trivial⟩

def rCur (x : Int × Int × Int) : AV := .int .i64 x.1
def rCurB (x : Bool × Int × Int) : AV := .bool x.1
def oCur {α : Type} (A : Sy) (code : List Int) (x : α × Int × Int) : List (Option Obj) := [some (.box [.ro (A.enc cByte code), .int .i64 x.2.1, .int .i64 x.2.2])]

def W (n : Int) : Int := IntKind.wrap .i64 n
def hopF (h : Int) : Int := W (W (h * 6364136223846793005) + 1442695040888963407)
def mixF (h : Int) : Int := (((BitVec.ofInt 64 (W ((BitVec.ofInt 64 (W (h.fdiv (2 ^ 33))) ^^^ BitVec.ofInt 64 (W (h.fdiv (2 ^ 45)))).toNat)) &&& BitVec.ofInt 64 255).toNat : Nat) : Int)
def and255 (w : Int) : Int := (((BitVec.ofInt 64 w &&& BitVec.ofInt 64 255).toNat : Nat) : Int)

def byteF (code : List Int) (i h : Int) : Int × Int × Int :=
  if i < code.length then (and255 (mixF (hopF h) + (code[i.toNat]?).getD 0), i + 1, hopF h) else (mixF (hopF h), i, hopF h)

theorem byteF_ok (code : List Int) (hb : code.length ≤ 4096) (hc : ∀ b ∈ code, 0 ≤ b ∧ b ≤ 255) (i h : Int) (hi : 0 ≤ i) : (0 ≤ (byteF code i h).1 ∧ (byteF code i h).1 ≤ 255) ∧ 0 ≤ (byteF code i h).2.1 := by
  unfold byteF
  split
  · exact ⟨and_bound2 _ 255 (by decide), by dsimp only; omega⟩
  · exact ⟨and_bound2 _ 255 (by decide), hi⟩

theorem l1Byte_c (S : Se P A) (code : List Int) (hb : code.length ≤ 4096) (hc : ∀ b ∈ code, 0 ≤ b ∧ b ≤ 255) (i h : Int) (hi : 0 ≤ i) : SoundM P 131 true [.ptr 1000 0 0] [.box [.ro (A.enc cByte code), .int .i64 i, .int .i64 h]]
    (fun v os => v = rCur (byteF code i h) ∧ os = oCur A code (byteF code i h)) := by
  refine S.cx.by (S.prog ▸ Try.func131) rfl rfl rfl rfl (fun hv ho => ?_)
  cbv
  refine Arith.exact (fun a ha => ?_); replace ha : a = W (h * 6364136223846793005) := ha; cbv
  refine Arith.exact (fun h2 hh2 => ?_); replace hh2 : h2 = W (a + 1442695040888963407) := hh2; cbv
  have hh2 : h2 = hopF h := by rw [hh2, ha]; rfl
  clear ha
  try (refine Drawn.mk ⟨by kernel_rfl, fun _ => ?_⟩)
  refine ArithN.exact (by decide) (fun b hb2 => ?_); replace hb2 : b = W (h2.fdiv (2 ^ 33)) := hb2; cbv
  refine ArithN.exact (by decide) (fun c hc2 => ?_); replace hc2 : c = W (h2.fdiv (2 ^ 45)) := hc2; cbv
  refine Arith.exact (fun d hd => ?_); replace hd : d = W ((BitVec.ofInt 64 b ^^^ BitVec.ofInt 64 c).toNat) := hd; cbv
  refine Arith.go ?_ (fun x hx => ?_)
  · show -9223372036854775808 ≤ (((BitVec.ofInt 64 d &&& BitVec.ofInt 64 255).toNat : Nat) : Int) ∧ (((BitVec.ofInt 64 d &&& BitVec.ofInt 64 255).toNat : Nat) : Int) ≤ 9223372036854775807
    have := and_bound2 d 255 (by decide)
    omega
  have hx1 : 0 ≤ x ∧ x ≤ 255 := by rw [hx]; exact and_bound2 d 255 (by decide)
  replace hx : x = mixF (hopF h) := by rw [hx, hd, hb2, hc2, hh2]; rfl
  clear hd hb2 hc2
  cbv
  try (refine Drawn.mk ⟨by kernel_rfl, fun _ => ?_⟩)
  refine LenR.natD S.cx (by omega) (fun N hN => ?_); cbv
  refine Test.lss (fun h3 => ?_) (fun h3 => ?_) <;> cbv
  · try (refine Drawn.mk ⟨by kernel_rfl, fun _ => ?_⟩)
    refine ElemRo.enc S.cx (fun _ => rfl) (by lia) (by lia) (fun c2 hcx => ?_); cbv
    have hcb := hc c2 (mem_at hcx)
    refine Conv.go (by omega) (fun z hz => ?_); cbv
    refine Arith.go (by lia) (fun w hw => ?_); replace hw : w = x + z := hw; cbv
    refine Arith.go ?_ (fun y hy => ?_)
    · show -9223372036854775808 ≤ (((BitVec.ofInt 64 w &&& BitVec.ofInt 64 255).toNat : Nat) : Int) ∧ (((BitVec.ofInt 64 w &&& BitVec.ofInt 64 255).toNat : Nat) : Int) ≤ 9223372036854775807
      have := and_bound2 w 255 (by decide)
      omega
    replace hy : y = and255 w := hy
    cbv
    refine Arith.go (by lia) (fun i' hi' => ?_); replace hi' : i' = i + 1 := hi'; cbv
    have e9 : byteF code i h = (y, i', h2) := by unfold byteF; rw [if_pos (by lia), hcx, hy, hw, hz, hx, hi', hh2]; rfl
    rw [e9]
    exact Done.to (rCur (y, i', h2)) (oCur A code (y, i', h2)) rfl rfl ⟨⟨⟨rfl, .inl rfl⟩, rfl, rfl, trivial⟩, trivial⟩ ⟨rfl, rfl⟩
  · have e9 : byteF code i h = (x, i, h2) := by unfold byteF; rw [if_neg (by lia), hx, hh2]
    rw [e9]
    exact Done.to (rCur (x, i, h2)) (oCur A code (x, i, h2)) rfl rfl ⟨⟨⟨rfl, .inl rfl⟩, rfl, rfl, trivial⟩, trivial⟩ ⟨rfl, rfl⟩

def belowF (code : List Int) (i h n : Int) : Int × Int × Int :=
  if n ≤ 0 then (0, i, h) else if n ≤ 256 then ((byteF code i h).1.tmod n, (byteF code i h).2) else
    let a := byteF code i h
    let b := byteF code a.2.1 a.2.2
    let c := byteF code b.2.1 b.2.2
    let d := byteF code c.2.1 c.2.2
    ((a.1 * 16777216 + b.1 * 65536 + c.1 * 256 + d.1).tmod n, d.2)

theorem belowF_ok (code : List Int) (hb : code.length ≤ 4096) (hc : ∀ b ∈ code, 0 ≤ b ∧ b ≤ 255) (i h : Int) (hi : 0 ≤ i) (n : Int) : (0 ≤ (belowF code i h n).1 ∧ (0 < n → (belowF code i h n).1 < n) ∧ (n ≤ 0 → (belowF code i h n).1 = 0)) ∧ 0 ≤ (belowF code i h n).2.1 := by
  unfold belowF
  split
  · exact ⟨⟨Int.le_refl _, fun e => by omega, fun _ => rfl⟩, hi⟩
  have h1 := byteF_ok code hb hc i h hi
  split
  · exact ⟨⟨Int.tmod_nonneg _ h1.1.1, fun e => Int.tmod_lt_of_pos _ e, fun e => by omega⟩, h1.2⟩
  have h2 := byteF_ok code hb hc (byteF code i h).2.1 (byteF code i h).2.2 h1.2
  have h3 := byteF_ok code hb hc (byteF code (byteF code i h).2.1 (byteF code i h).2.2).2.1 (byteF code (byteF code i h).2.1 (byteF code i h).2.2).2.2 h2.2
  have h4 := byteF_ok code hb hc _ (byteF code (byteF code (byteF code i h).2.1 (byteF code i h).2.2).2.1 (byteF code (byteF code i h).2.1 (byteF code i h).2.2).2.2).2.2 h3.2
  exact ⟨⟨Int.tmod_nonneg _ (by omega), fun e => Int.tmod_lt_of_pos _ e, fun e => by omega⟩, h4.2⟩

theorem l1Below_c (S : Se P A) (code : List Int) (hb : code.length ≤ 4096) (hc : ∀ b ∈ code, 0 ≤ b ∧ b ≤ 255) (i h : Int) (hi : 0 ≤ i) (n : Int) : SoundM P 99 true [.ptr 1000 0 0, .int .i64 n] [.box [.ro (A.enc cByte code), .int .i64 i, .int .i64 h]]
    (fun v os => v = rCur (belowF code i h n) ∧ os = oCur A code (belowF code i h n)) := by
  obtain ⟨i0, ei0⟩ : ∃ x, x = i := ⟨_, rfl⟩
  obtain ⟨h0', eh0⟩ : ∃ x, x = h := ⟨_, rfl⟩
  refine S.cx.by (S.prog ▸ Try.func99) rfl rfl rfl rfl (fun hv ho => ?_)
  cbv
  refine Test.leq (fun h0 => ?_) (fun h0 => ?_) <;> cbv
  · have e9 : belowF code i h n = (0, i, h) := by exact if_pos h0
    rw [e9]
    exact Done.to (rCur (0, i, h)) (oCur A code (0, i, h)) rfl rfl ⟨⟨⟨rfl, .inl rfl⟩, rfl, rfl, trivial⟩, trivial⟩ ⟨rfl, rfl⟩
  refine Test.leq (fun h256 => ?_) (fun h256 => ?_) <;> cbv
  · refine ACall.valN (r := rCur) (os := oCur A code) (dp := false) S.cx (l1Byte_c S code hb hc i h hi) ⟨rfl, (by repeat' (first | exact trivial | exact rfl | exact Nat.le_refl _ | exact S.cx.giveEq | exact S.cx.lendLe (by assumption) | exact S.cx.lendEq (by assumption) | exact S.cx.lendLe0 | exact S.cx.lendEq0 | exact S.cx.partLe (by assumption) | exact S.cx.partEq (by assumption) | exact .inl rfl | refine ⟨?_, ?_⟩)), (by repeat' (first | exact trivial | exact rfl | exact Nat.le_refl _ | exact S.cx.giveEq | exact S.cx.lendLe (by assumption) | exact S.cx.lendEq (by assumption) | exact S.cx.lendLe0 | exact S.cx.lendEq0 | exact S.cx.partLe (by assumption) | exact S.cx.partEq (by assumption) | exact .inl rfl | refine ⟨?_, ?_⟩))⟩ rfl (fun ln hln x hx => ⟨rfl, ?_⟩)
    obtain ⟨a, i1, h1⟩ := x
    cbv
    have hka := byteF_ok code hb hc i h hi
    rw [← hx] at hka
    dsimp only at hka
    refine RemA.go (by omega) (fun r hr => ?_); cbv
    have e9 : belowF code i h n = (r, i1, h1) := by unfold belowF; rw [if_neg (by omega), if_pos h256, ← hx, hr]
    rw [e9]
    exact Done.to (rCur (r, i1, h1)) (oCur A code (r, i1, h1)) rfl rfl ⟨⟨⟨rfl, .inl rfl⟩, rfl, rfl, trivial⟩, trivial⟩ ⟨rfl, rfl⟩
  refine ACall.valN (r := rCur) (os := oCur A code) (dp := false) S.cx (l1Byte_c S code hb hc i h hi) ⟨rfl, (by repeat' (first | exact trivial | exact rfl | exact Nat.le_refl _ | exact S.cx.giveEq | exact S.cx.lendLe (by assumption) | exact S.cx.lendEq (by assumption) | exact S.cx.lendLe0 | exact S.cx.lendEq0 | exact S.cx.partLe (by assumption) | exact S.cx.partEq (by assumption) | exact .inl rfl | refine ⟨?_, ?_⟩)), (by repeat' (first | exact trivial | exact rfl | exact Nat.le_refl _ | exact S.cx.giveEq | exact S.cx.lendLe (by assumption) | exact S.cx.lendEq (by assumption) | exact S.cx.lendLe0 | exact S.cx.lendEq0 | exact S.cx.partLe (by assumption) | exact S.cx.partEq (by assumption) | exact .inl rfl | refine ⟨?_, ?_⟩))⟩ rfl (fun ln hln x hx => ⟨rfl, ?_⟩)
  obtain ⟨a, i1, h1⟩ := x
  cbv
  have hx1 := hx
  have hk1 := byteF_ok code hb hc i h hi
  rw [← hx] at hk1
  dsimp only at hk1
  refine ACall.valN (r := rCur) (os := oCur A code) (dp := false) S.cx (l1Byte_c S code hb hc i1 h1 hk1.2) ⟨rfl, (by repeat' (first | exact trivial | exact rfl | exact Nat.le_refl _ | exact S.cx.giveEq | exact S.cx.lendLe (by assumption) | exact S.cx.lendEq (by assumption) | exact S.cx.lendLe0 | exact S.cx.lendEq0 | exact S.cx.partLe (by assumption) | exact S.cx.partEq (by assumption) | exact .inl rfl | refine ⟨?_, ?_⟩)), (by repeat' (first | exact trivial | exact rfl | exact Nat.le_refl _ | exact S.cx.giveEq | exact S.cx.lendLe (by assumption) | exact S.cx.lendEq (by assumption) | exact S.cx.lendLe0 | exact S.cx.lendEq0 | exact S.cx.partLe (by assumption) | exact S.cx.partEq (by assumption) | exact .inl rfl | refine ⟨?_, ?_⟩))⟩ rfl (fun ln hln x hx => ⟨rfl, ?_⟩)
  obtain ⟨b, i2, h2⟩ := x
  cbv
  have hx2 := hx
  have hk2 := byteF_ok code hb hc i1 h1 hk1.2
  rw [← hx] at hk2
  dsimp only at hk2
  refine ACall.valN (r := rCur) (os := oCur A code) (dp := false) S.cx (l1Byte_c S code hb hc i2 h2 hk2.2) ⟨rfl, (by repeat' (first | exact trivial | exact rfl | exact Nat.le_refl _ | exact S.cx.giveEq | exact S.cx.lendLe (by assumption) | exact S.cx.lendEq (by assumption) | exact S.cx.lendLe0 | exact S.cx.lendEq0 | exact S.cx.partLe (by assumption) | exact S.cx.partEq (by assumption) | exact .inl rfl | refine ⟨?_, ?_⟩)), (by repeat' (first | exact trivial | exact rfl | exact Nat.le_refl _ | exact S.cx.giveEq | exact S.cx.lendLe (by assumption) | exact S.cx.lendEq (by assumption) | exact S.cx.lendLe0 | exact S.cx.lendEq0 | exact S.cx.partLe (by assumption) | exact S.cx.partEq (by assumption) | exact .inl rfl | refine ⟨?_, ?_⟩))⟩ rfl (fun ln hln x hx => ⟨rfl, ?_⟩)
  obtain ⟨c, i3, h3⟩ := x
  cbv
  have hx3 := hx
  have hk3 := byteF_ok code hb hc i2 h2 hk2.2
  rw [← hx] at hk3
  dsimp only at hk3
  refine ACall.valN (r := rCur) (os := oCur A code) (dp := false) S.cx (l1Byte_c S code hb hc i3 h3 hk3.2) ⟨rfl, (by repeat' (first | exact trivial | exact rfl | exact Nat.le_refl _ | exact S.cx.giveEq | exact S.cx.lendLe (by assumption) | exact S.cx.lendEq (by assumption) | exact S.cx.lendLe0 | exact S.cx.lendEq0 | exact S.cx.partLe (by assumption) | exact S.cx.partEq (by assumption) | exact .inl rfl | refine ⟨?_, ?_⟩)), (by repeat' (first | exact trivial | exact rfl | exact Nat.le_refl _ | exact S.cx.giveEq | exact S.cx.lendLe (by assumption) | exact S.cx.lendEq (by assumption) | exact S.cx.lendLe0 | exact S.cx.lendEq0 | exact S.cx.partLe (by assumption) | exact S.cx.partEq (by assumption) | exact .inl rfl | refine ⟨?_, ?_⟩))⟩ rfl (fun ln hln x hx => ⟨rfl, ?_⟩)
  obtain ⟨d, i4, h4⟩ := x
  cbv
  have hx4 := hx
  have hk4 := byteF_ok code hb hc i3 h3 hk3.2
  rw [← hx] at hk4
  dsimp only at hk4
  refine Arith.go (by lia) (fun a2 ha2 => ?_); replace ha2 : a2 = a * 16777216 := ha2; cbv
  refine Arith.go (by lia) (fun b2 hb2 => ?_); replace hb2 : b2 = b * 65536 := hb2; cbv
  refine Arith.go (by lia) (fun s1 hs1 => ?_); replace hs1 : s1 = a2 + b2 := hs1; cbv
  refine Arith.go (by lia) (fun c2 hc2 => ?_); replace hc2 : c2 = c * 256 := hc2; cbv
  refine Arith.go (by lia) (fun s2 hs2 => ?_); replace hs2 : s2 = s1 + c2 := hs2; cbv
  refine Arith.go (by lia) (fun s3 hs3 => ?_); replace hs3 : s3 = s2 + d := hs3; cbv
  refine RemA.go (by omega) (fun r hr => ?_); cbv
  have e9 : belowF code i h n = (r, i4, h4) := by unfold belowF; rw [if_neg (by omega), if_neg (by omega)]; dsimp only; rw [← hx1]; dsimp only; rw [← hx2]; dsimp only; rw [← hx3]; dsimp only; rw [← hx4]; dsimp only; rw [hr, hs3, hs2, hs1, ha2, hb2, hc2]
  rw [e9]
  exact Done.to (rCur (r, i4, h4)) (oCur A code (r, i4, h4)) rfl rfl ⟨⟨⟨rfl, .inl rfl⟩, rfl, rfl, trivial⟩, trivial⟩ ⟨rfl, rfl⟩

def onceF (code : List Int) (i h n : Int) : Bool × Int × Int := (decide ((belowF code i h n).1 = 0), (belowF code i h n).2)
theorem onceF_ok (code : List Int) (hb : code.length ≤ 4096) (hc : ∀ b ∈ code, 0 ≤ b ∧ b ≤ 255) (i h : Int) (hi : 0 ≤ i) (n : Int) : True ∧ 0 ≤ (onceF code i h n).2.1 := ⟨trivial, (belowF_ok code hb hc i h hi n).2⟩

theorem l1Once_c (S : Se P A) (code : List Int) (hb : code.length ≤ 4096) (hc : ∀ b ∈ code, 0 ≤ b ∧ b ≤ 255) (i h : Int) (hi : 0 ≤ i) (n : Int) : SoundM P 128 true [.ptr 1000 0 0, .int .i64 n] [.box [.ro (A.enc cByte code), .int .i64 i, .int .i64 h]]
    (fun v os => v = rCurB (onceF code i h n) ∧ os = oCur A code (onceF code i h n)) := by
  refine S.cx.by (S.prog ▸ Try.func128) rfl rfl rfl rfl (fun hv ho => ?_)
  cbv
  refine ACall.valN (r := rCur) (os := oCur A code) (dp := false) S.cx (l1Below_c S code hb hc i h hi n) ⟨rfl, (by repeat' (first | exact trivial | exact rfl | exact Nat.le_refl _ | exact S.cx.giveEq | exact S.cx.lendLe (by assumption) | exact S.cx.lendEq (by assumption) | exact S.cx.lendLe0 | exact S.cx.lendEq0 | exact S.cx.partLe (by assumption) | exact S.cx.partEq (by assumption) | exact .inl rfl | refine ⟨?_, ?_⟩)), (by repeat' (first | exact trivial | exact rfl | exact Nat.le_refl _ | exact S.cx.giveEq | exact S.cx.lendLe (by assumption) | exact S.cx.lendEq (by assumption) | exact S.cx.lendLe0 | exact S.cx.lendEq0 | exact S.cx.partLe (by assumption) | exact S.cx.partEq (by assumption) | exact .inl rfl | refine ⟨?_, ?_⟩))⟩ rfl (fun ln hln x hx => ⟨rfl, ?_⟩)
  obtain ⟨a, i1, h1⟩ := x
  cbv
  refine Test.eql (fun h5 => ?_) (fun h5 => ?_) <;> cbv
  · have e9 : onceF code i h n = (true, i1, h1) := by unfold onceF; rw [← hx]; dsimp only; rw [decide_eq_true h5]
    rw [e9]
    exact Done.to (rCurB (true, i1, h1)) (oCur A code (true, i1, h1)) rfl rfl ⟨⟨⟨rfl, .inl rfl⟩, rfl, rfl, trivial⟩, trivial⟩ ⟨rfl, rfl⟩
  · have e9 : onceF code i h n = (false, i1, h1) := by unfold onceF; rw [← hx]; dsimp only; rw [decide_eq_false h5]
    rw [e9]
    exact Done.to (rCurB (false, i1, h1)) (oCur A code (false, i1, h1)) rfl rfl ⟨⟨⟨rfl, .inl rfl⟩, rfl, rfl, trivial⟩, trivial⟩ ⟨rfl, rfl⟩

def fromF (code : List Int) (i h lo up : Int) : Int × Int × Int := (lo + (belowF code i h (up - lo + 1)).1, (belowF code i h (up - lo + 1)).2)
theorem fromF_ok (code : List Int) (hb : code.length ≤ 4096) (hc : ∀ b ∈ code, 0 ≤ b ∧ b ≤ 255) (i h : Int) (hi : 0 ≤ i) (lo up : Int) : (lo ≤ (fromF code i h lo up).1 ∧ (lo ≤ up → (fromF code i h lo up).1 ≤ up)) ∧ 0 ≤ (fromF code i h lo up).2.1 := by
  have h1 := belowF_ok code hb hc i h hi (up - lo + 1)
  unfold fromF
  refine ⟨⟨by dsimp only; omega, fun e => ?_⟩, h1.2⟩
  have := h1.1.2.1 (by omega)
  dsimp only; omega

theorem l1From_c (S : Se P A) (code : List Int) (hb : code.length ≤ 4096) (hc : ∀ b ∈ code, 0 ≤ b ∧ b ≤ 255) (i h : Int) (hi : 0 ≤ i) (lo up : Int) (hl : -1000000000 ≤ lo ∧ lo ≤ 1000000000 ∧ -1000000000 ≤ up ∧ up ≤ 1000000000) : SoundM P 98 true [.ptr 1000 0 0, .int .i64 lo, .int .i64 up] [.box [.ro (A.enc cByte code), .int .i64 i, .int .i64 h]]
    (fun v os => v = rCur (fromF code i h lo up) ∧ os = oCur A code (fromF code i h lo up)) := by
  have hfo := fromF_ok code hb hc i h hi lo up
  refine S.cx.by (S.prog ▸ Try.func98) rfl rfl rfl rfl (fun hv ho => ?_)
  cbv
  refine Arith.go (by lia) (fun d hd => ?_); replace hd : d = up - lo := hd; cbv
  refine Arith.go (by lia) (fun d1 hd1 => ?_); replace hd1 : d1 = d + 1 := hd1; cbv
  refine ACall.valN (r := rCur) (os := oCur A code) (dp := false) S.cx (l1Below_c S code hb hc i h hi d1) ⟨rfl, (by repeat' (first | exact trivial | exact rfl | exact Nat.le_refl _ | exact S.cx.giveEq | exact S.cx.lendLe (by assumption) | exact S.cx.lendEq (by assumption) | exact S.cx.lendLe0 | exact S.cx.lendEq0 | exact S.cx.partLe (by assumption) | exact S.cx.partEq (by assumption) | exact .inl rfl | refine ⟨?_, ?_⟩)), (by repeat' (first | exact trivial | exact rfl | exact Nat.le_refl _ | exact S.cx.giveEq | exact S.cx.lendLe (by assumption) | exact S.cx.lendEq (by assumption) | exact S.cx.lendLe0 | exact S.cx.lendEq0 | exact S.cx.partLe (by assumption) | exact S.cx.partEq (by assumption) | exact .inl rfl | refine ⟨?_, ?_⟩))⟩ rfl (fun ln hln x hx => ⟨rfl, ?_⟩)
  obtain ⟨a, i1, h1⟩ := x
  cbv
  have hk := (belowF_ok code hb hc i h hi d1).1
  rw [← hx] at hk
  dsimp only at hk
  have hk2 : a ≤ 2000000001 := by
    rcases Int.lt_or_le 0 d1 with g | g
    · have := hk.2.1 g; omega
    · have := hk.2.2 g; omega
  refine Arith.go (by lia) (fun r hr => ?_); replace hr : r = lo + a := hr; cbv
  have e9 : fromF code i h lo up = (r, i1, h1) := by unfold fromF; rw [show up - lo + 1 = d1 by omega, ← hx, hr]
  rw [e9]
  exact Done.to (rCur (r, i1, h1)) (oCur A code (r, i1, h1)) rfl rfl ⟨⟨⟨rfl, .inl rfl⟩, rfl, rfl, trivial⟩, trivial⟩ ⟨rfl, rfl⟩

end Go.Proofs.Ytcbebidfnlkkeaa.AM
