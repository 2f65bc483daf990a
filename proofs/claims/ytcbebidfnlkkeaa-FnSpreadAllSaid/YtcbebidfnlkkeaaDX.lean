/- Contracts: numbers drawn, exactly. (printed by gdx.py) -/
import Derived.Test.YtcbebidfnlkkeaaDD
import Derived.Test.YtcbebidfnlkkeaaPL
namespace Go.Proofs.Ytcbebidfnlkkeaa.AM
open Go Go.Proofs

set_option maxRecDepth 100000
set_option maxHeartbeats 4000000
set_option linter.unusedVariables false
set_option linter.unusedSimpArgs false

variable {P : Program} {A : Sy}

theorem Row.lit (C : Cx P tab A) {α : Type} {f : α → List AV} (l : List α) {rows : List (List AV)} (hr : rows = l.map f) {row : Nat} {K : List AV → Prop} (hl : row < l.length) (h : ∀ x, l[row]? = some x → K (f x)) : Row rows row K := by
  rw [hr, ← C.enc f l]; exact Row.enc C hl h

theorem ACall.ofN {T : Nat → Option TI} (C : Cx P T A) {f : FuncId} {al dp : Bool} {avs bs : List AV} {objs : List Obj} {R : AV → List (Option Obj) → Prop} {lab : Nat} {st : St} {K : AV → Dl → Prop} (h : SoundM P f al bs objs R) (hg : Gives st al dp avs bs objs)
    (hk : ∀ (ln : List (List AV) → Nat), (∀ {α : Type} (f : α → List AV) (l : List α), ln (A.enc f l) = l.length) → ∀ v os, R v os → backChk st (rhoA avs bs) lab objs os v = true ∧ K (adopt ln lab v) (backD dp ln st avs bs objs lab os v)) : ACall A false P f avs lab st K :=
  ACall.of h hg (hk A.len C.lenE)

theorem l1Min_c (S : Se P A) (a b : Int) : Is1 P 140 [.int .i64 a, .int .i64 b] (.int .i64 (min a b)) := by
  refine SoundM.knownH2 (p := fun n => n = min a b) ?_ (fun n h => h)
  refine S.cx.by (S.prog ▸ Try.func140) rfl rfl rfl rfl (fun hv ho => ?_)
  cbv
  refine Test.lss (fun h => ?_) (fun h => ?_) <;> cbv
  · exact Done.num (by omega)
  · exact Done.num (by omega)

def odds : List Int := [-1, 0, 1, 2147483648, -2147483648, 1099511627776, 4611686018427387904, -4611686018427387904, 9223372036854775807, -9223372036854775808]
def oddF (code : List Int) (i h : Int) : Int × Int × Int := (odds.getD (belowF code i h 10).1.toNat 0, (belowF code i h 10).2)
theorem oddF_ok (code : List Int) (hb : code.length ≤ 4096) (hc : ∀ b ∈ code, 0 ≤ b ∧ b ≤ 255) (i h : Int) (hi : 0 ≤ i) : True ∧ 0 ≤ (oddF code i h).2.1 := ⟨trivial, (belowF_ok code hb hc i h hi 10).2⟩

theorem l1Odd_c (S : Se P A) (code : List Int) (hb : code.length ≤ 4096) (hc : ∀ b ∈ code, 0 ≤ b ∧ b ≤ 255) (i h : Int) (hi : 0 ≤ i) : SoundM P 134 true [.ptr 1000 0 0] [.box [.ro (A.enc cByte code), .int .i64 i, .int .i64 h]]
    (fun v os => v = rCur (oddF code i h) ∧ os = oCur A code (oddF code i h)) := by
  have hbk := belowF_ok code hb hc i h hi 10
  refine S.cx.by (S.prog ▸ Try.func134) rfl rfl rfl rfl (fun hv ho => ?_)
  cbv
  refine ACall.valN (r := rCur) (os := oCur A code) (dp := false) S.cx (l1Below_c S code hb hc i h hi 10) ⟨rfl, (by repeat' (first | exact trivial | exact rfl | exact Nat.le_refl _ | exact S.cx.giveEq | exact S.cx.lendLe (by assumption) | exact S.cx.lendEq (by assumption) | exact S.cx.lendLe0 | exact S.cx.lendEq0 | exact S.cx.partLe (by assumption) | exact S.cx.partEq (by assumption) | exact .inl rfl | refine ⟨?_, ?_⟩)), (by repeat' (first | exact trivial | exact rfl | exact Nat.le_refl _ | exact S.cx.giveEq | exact S.cx.lendLe (by assumption) | exact S.cx.lendEq (by assumption) | exact S.cx.lendLe0 | exact S.cx.lendEq0 | exact S.cx.partLe (by assumption) | exact S.cx.partEq (by assumption) | exact .inl rfl | refine ⟨?_, ?_⟩))⟩ rfl (fun ln hln x hx => ⟨rfl, ?_⟩)
  obtain ⟨a, i1, h1⟩ := x
  cbv
  rw [← hx] at hbk
  dsimp only at hbk
  have ha9 := hbk.1.2.1 (by decide)
  refine ElemRef.go rfl (by lia) (by lia) (by simp only [List.length_cons, List.length_nil]; lia) (fun row hrow => ?_); cbv
  refine Row.lit S.cx (f := cInt64) ([-1, 0, 1, 2147483648, -2147483648, 1099511627776, 4611686018427387904, -4611686018427387904, 9223372036854775807, -9223372036854775808] : List Int) rfl (by simp only [List.length_cons, List.length_nil]; lia) (fun x hxx => ?_); cbv
  have e9 : oddF code i h = (x, i1, h1) := by unfold oddF; rw [← hx, show a.toNat = row by lia]; dsimp only; rw [List.getD_eq_getElem?_getD, show odds[row]? = some x from hxx]; rfl
  rw [e9]
  exact Done.to (rCur (x, i1, h1)) (oCur A code (x, i1, h1)) rfl rfl ⟨⟨⟨rfl, .inl rfl⟩, rfl, rfl, trivial⟩, trivial⟩ ⟨rfl, rfl⟩

def numF (code : List Int) (i h most : Int) : Int × Int × Int :=
  let a := onceF code i h 10
  if a.1 = true then
    let b := oddF code a.2.1 a.2.2
    let c := belowF code b.2.1 b.2.2 4
    ([-1, most, most + 1, b.1].getD c.1.toNat 0, c.2)
  else
    let b := onceF code a.2.1 a.2.2 2
    if b.1 = true then belowF code b.2.1 b.2.2 (min most 4 + 1) else belowF code b.2.1 b.2.2 (most + 1)
theorem numF_ok (code : List Int) (hb : code.length ≤ 4096) (hc : ∀ b ∈ code, 0 ≤ b ∧ b ≤ 255) (i h : Int) (hi : 0 ≤ i) (most : Int) : True ∧ 0 ≤ (numF code i h most).2.1 := by
  refine ⟨trivial, ?_⟩
  unfold numF
  have h1 := (onceF_ok code hb hc i h hi 10).2
  dsimp only
  split
  · exact (belowF_ok code hb hc _ _ (oddF_ok code hb hc _ _ h1).2 4).2
  · have h2 := (onceF_ok code hb hc _ (onceF code i h 10).2.2 h1 2).2
    split
    · exact (belowF_ok code hb hc _ _ h2 _).2
    · exact (belowF_ok code hb hc _ _ h2 _).2

theorem l1Num_c (S : Se P A) (code : List Int) (hb : code.length ≤ 4096) (hc : ∀ b ∈ code, 0 ≤ b ∧ b ≤ 255) (i h : Int) (hi : 0 ≤ i) (most : Int) (hm : 0 ≤ most ∧ most ≤ 1000000000) : SoundM P 114 true [.ptr 1000 0 0, .int .i64 most] [.box [.ro (A.enc cByte code), .int .i64 i, .int .i64 h]]
    (fun v os => v = rCur (numF code i h most) ∧ os = oCur A code (numF code i h most)) := by
  refine S.cx.by (S.prog ▸ Try.func114) rfl rfl rfl rfl (fun hv ho => ?_)
  cbv
  have hk1 := onceF_ok code hb hc i h hi 10
  refine ACall.valN (r := rCurB) (os := oCur A code) (dp := false) S.cx (l1Once_c S code hb hc i h hi 10) ⟨rfl, (by repeat' (first | exact trivial | exact rfl | exact Nat.le_refl _ | exact S.cx.giveEq | exact S.cx.lendLe (by assumption) | exact S.cx.lendEq (by assumption) | exact S.cx.lendLe0 | exact S.cx.lendEq0 | exact S.cx.partLe (by assumption) | exact S.cx.partEq (by assumption) | exact .inl rfl | refine ⟨?_, ?_⟩)), (by repeat' (first | exact trivial | exact rfl | exact Nat.le_refl _ | exact S.cx.giveEq | exact S.cx.lendLe (by assumption) | exact S.cx.lendEq (by assumption) | exact S.cx.lendLe0 | exact S.cx.lendEq0 | exact S.cx.partLe (by assumption) | exact S.cx.partEq (by assumption) | exact .inl rfl | refine ⟨?_, ?_⟩))⟩ rfl (fun ln hln x hx => ⟨rfl, ?_⟩)
  obtain ⟨b, i1, h1⟩ := x
  cbv
  rw [← hx] at hk1
  dsimp only at hk1
  have hx1 := hx
  have hi1 := hk1.2
  cases b <;> cbv
  rotate_left
  · refine Arith.go (by lia) (fun m1 hm1 => ?_); replace hm1 : m1 = most + 1 := hm1; cbv
    have hk2 := oddF_ok code hb hc i1 h1 hi1
    refine ACall.valN (r := rCur) (os := oCur A code) (dp := false) S.cx (l1Odd_c S code hb hc i1 h1 hi1) ⟨rfl, (by repeat' (first | exact trivial | exact rfl | exact Nat.le_refl _ | exact S.cx.giveEq | exact S.cx.lendLe (by assumption) | exact S.cx.lendEq (by assumption) | exact S.cx.lendLe0 | exact S.cx.lendEq0 | exact S.cx.partLe (by assumption) | exact S.cx.partEq (by assumption) | exact .inl rfl | refine ⟨?_, ?_⟩)), (by repeat' (first | exact trivial | exact rfl | exact Nat.le_refl _ | exact S.cx.giveEq | exact S.cx.lendLe (by assumption) | exact S.cx.lendEq (by assumption) | exact S.cx.lendLe0 | exact S.cx.lendEq0 | exact S.cx.partLe (by assumption) | exact S.cx.partEq (by assumption) | exact .inl rfl | refine ⟨?_, ?_⟩))⟩ rfl (fun ln hln x hx => ⟨rfl, ?_⟩)
    obtain ⟨od, i2, h2⟩ := x
    cbv
    rw [← hx] at hk2
    dsimp only at hk2
    have hx2 := hx
    have hi2 := hk2.2
    have hk3 := belowF_ok code hb hc i2 h2 hi2 4
    refine ACall.valN (r := rCur) (os := oCur A code) (dp := false) S.cx (l1Below_c S code hb hc i2 h2 hi2 4) ⟨rfl, (by repeat' (first | exact trivial | exact rfl | exact Nat.le_refl _ | exact S.cx.giveEq | exact S.cx.lendLe (by assumption) | exact S.cx.lendEq (by assumption) | exact S.cx.lendLe0 | exact S.cx.lendEq0 | exact S.cx.partLe (by assumption) | exact S.cx.partEq (by assumption) | exact .inl rfl | refine ⟨?_, ?_⟩)), (by repeat' (first | exact trivial | exact rfl | exact Nat.le_refl _ | exact S.cx.giveEq | exact S.cx.lendLe (by assumption) | exact S.cx.lendEq (by assumption) | exact S.cx.lendLe0 | exact S.cx.lendEq0 | exact S.cx.partLe (by assumption) | exact S.cx.partEq (by assumption) | exact .inl rfl | refine ⟨?_, ?_⟩))⟩ rfl (fun ln hln x hx => ⟨rfl, ?_⟩)
    obtain ⟨a, i3, h3⟩ := x
    cbv
    rw [← hx] at hk3
    dsimp only at hk3
    have hx3 := hx
    have hi3 := hk3.2
    have ha9 := hk3.1.2.1 (by decide)
    have ha0 := hk3.1.1
    refine ElemRef.go rfl (by lia) (by lia) (by simp only [List.length_cons, List.length_nil]; lia) (fun row hrow => ?_); cbv
    refine Row.lit S.cx (f := cInt64) ([-1, most, m1, od] : List Int) rfl (by simp only [List.length_cons, List.length_nil]; lia) (fun x hxx => ?_); cbv
    have e9 : numF code i h most = (x, i3, h3) := by unfold numF; dsimp only; rw [← hx1]; dsimp only; rw [if_pos rfl, ← hx2]; dsimp only; rw [← hx3]; dsimp only; rw [← hm1, show a.toNat = row by lia, List.getD_eq_getElem?_getD, hxx]; rfl
    rw [e9]
    exact Done.to (rCur (x, i3, h3)) (oCur A code (x, i3, h3)) rfl rfl ⟨⟨⟨rfl, .inl rfl⟩, rfl, rfl, trivial⟩, trivial⟩ ⟨rfl, rfl⟩
  have hk2 := onceF_ok code hb hc i1 h1 hi1 2
  refine ACall.valN (r := rCurB) (os := oCur A code) (dp := false) S.cx (l1Once_c S code hb hc i1 h1 hi1 2) ⟨rfl, (by repeat' (first | exact trivial | exact rfl | exact Nat.le_refl _ | exact S.cx.giveEq | exact S.cx.lendLe (by assumption) | exact S.cx.lendEq (by assumption) | exact S.cx.lendLe0 | exact S.cx.lendEq0 | exact S.cx.partLe (by assumption) | exact S.cx.partEq (by assumption) | exact .inl rfl | refine ⟨?_, ?_⟩)), (by repeat' (first | exact trivial | exact rfl | exact Nat.le_refl _ | exact S.cx.giveEq | exact S.cx.lendLe (by assumption) | exact S.cx.lendEq (by assumption) | exact S.cx.lendLe0 | exact S.cx.lendEq0 | exact S.cx.partLe (by assumption) | exact S.cx.partEq (by assumption) | exact .inl rfl | refine ⟨?_, ?_⟩))⟩ rfl (fun ln hln x hx => ⟨rfl, ?_⟩)
  obtain ⟨b, i2, h2⟩ := x
  cbv
  rw [← hx] at hk2
  dsimp only at hk2
  have hx2 := hx
  have hi2 := hk2.2
  cases b <;> cbv
  · refine Arith.go (by lia) (fun m1 hm1 => ?_); replace hm1 : m1 = most + 1 := hm1; cbv
    have hk3 := belowF_ok code hb hc i2 h2 hi2 m1
    refine ACall.valN (r := rCur) (os := oCur A code) (dp := false) S.cx (l1Below_c S code hb hc i2 h2 hi2 m1) ⟨rfl, (by repeat' (first | exact trivial | exact rfl | exact Nat.le_refl _ | exact S.cx.giveEq | exact S.cx.lendLe (by assumption) | exact S.cx.lendEq (by assumption) | exact S.cx.lendLe0 | exact S.cx.lendEq0 | exact S.cx.partLe (by assumption) | exact S.cx.partEq (by assumption) | exact .inl rfl | refine ⟨?_, ?_⟩)), (by repeat' (first | exact trivial | exact rfl | exact Nat.le_refl _ | exact S.cx.giveEq | exact S.cx.lendLe (by assumption) | exact S.cx.lendEq (by assumption) | exact S.cx.lendLe0 | exact S.cx.lendEq0 | exact S.cx.partLe (by assumption) | exact S.cx.partEq (by assumption) | exact .inl rfl | refine ⟨?_, ?_⟩))⟩ rfl (fun ln hln x hx => ⟨rfl, ?_⟩)
    obtain ⟨a, i3, h3⟩ := x
    cbv
    rw [← hx] at hk3
    dsimp only at hk3
    have hx3 := hx
    have hi3 := hk3.2
    have e9 : numF code i h most = (a, i3, h3) := by unfold numF; dsimp only; rw [← hx1]; dsimp only; rw [if_neg (by simp), ← hx2]; dsimp only; rw [if_neg (by simp), ← hm1, ← hx3]
    rw [e9]
    exact Done.to (rCur (a, i3, h3)) (oCur A code (a, i3, h3)) rfl rfl ⟨⟨⟨rfl, .inl rfl⟩, rfl, rfl, trivial⟩, trivial⟩ ⟨rfl, rfl⟩
  · refine ACall.int (dp := false) (l1Min_c S most 4) ⟨rfl, (by repeat' (first | exact trivial | exact rfl | exact Nat.le_refl _ | exact S.cx.giveEq | exact S.cx.lendLe (by assumption) | exact S.cx.lendEq (by assumption) | exact S.cx.lendLe0 | exact S.cx.lendEq0 | exact S.cx.partLe (by assumption) | exact S.cx.partEq (by assumption) | exact .inl rfl | refine ⟨?_, ?_⟩)), (by repeat' (first | exact trivial | exact rfl | exact Nat.le_refl _ | exact S.cx.giveEq | exact S.cx.lendLe (by assumption) | exact S.cx.lendEq (by assumption) | exact S.cx.lendLe0 | exact S.cx.lendEq0 | exact S.cx.partLe (by assumption) | exact S.cx.partEq (by assumption) | exact .inl rfl | refine ⟨?_, ?_⟩))⟩ rfl (fun mn hmn => ?_); cbv
    refine Arith.go (by lia) (fun m1 hm1 => ?_); replace hm1 : m1 = mn + 1 := hm1; cbv
    have hk3 := belowF_ok code hb hc i2 h2 hi2 m1
    refine ACall.valN (r := rCur) (os := oCur A code) (dp := false) S.cx (l1Below_c S code hb hc i2 h2 hi2 m1) ⟨rfl, (by repeat' (first | exact trivial | exact rfl | exact Nat.le_refl _ | exact S.cx.giveEq | exact S.cx.lendLe (by assumption) | exact S.cx.lendEq (by assumption) | exact S.cx.lendLe0 | exact S.cx.lendEq0 | exact S.cx.partLe (by assumption) | exact S.cx.partEq (by assumption) | exact .inl rfl | refine ⟨?_, ?_⟩)), (by repeat' (first | exact trivial | exact rfl | exact Nat.le_refl _ | exact S.cx.giveEq | exact S.cx.lendLe (by assumption) | exact S.cx.lendEq (by assumption) | exact S.cx.lendLe0 | exact S.cx.lendEq0 | exact S.cx.partLe (by assumption) | exact S.cx.partEq (by assumption) | exact .inl rfl | refine ⟨?_, ?_⟩))⟩ rfl (fun ln hln x hx => ⟨rfl, ?_⟩)
    obtain ⟨a, i3, h3⟩ := x
    cbv
    rw [← hx] at hk3
    dsimp only at hk3
    have hx3 := hx
    have hi3 := hk3.2
    have e9 : numF code i h most = (a, i3, h3) := by unfold numF; dsimp only; rw [← hx1]; dsimp only; rw [if_neg (by simp), ← hx2]; dsimp only; rw [if_pos rfl, ← hmn, ← hm1, ← hx3]
    rw [e9]
    exact Done.to (rCur (a, i3, h3)) (oCur A code (a, i3, h3)) rfl rfl ⟨⟨⟨rfl, .inl rfl⟩, rfl, rfl, trivial⟩, trivial⟩ ⟨rfl, rfl⟩

theorem l2Least_c (S : Se P A) : Is1 P 152 [] (.int .i64 (-9223372036854775808)) := by
  refine SoundM.knownH2 (p := fun n => n = -9223372036854775808) ?_ (fun n h => h)
  refine S.cx.by (S.prog ▸ Try.func152) rfl rfl rfl rfl (fun hv ho => ?_)
  cbv
  exact Done.num rfl

def l2F (code : List Int) (i h : Int) : Int × Int × Int :=
  let a := belowF code i h 4
  if a.1 = 0 then oddF code a.2.1 a.2.2
  else if a.1 = 1 then (9223372036854775807 - (belowF code a.2.1 a.2.2 5).1, (belowF code a.2.1 a.2.2 5).2)
  else if a.1 = 2 then (-9223372036854775808 + (belowF code a.2.1 a.2.2 5).1, (belowF code a.2.1 a.2.2 5).2)
  else fromF code a.2.1 a.2.2 (-9) 30
theorem l2F_ok (code : List Int) (hb : code.length ≤ 4096) (hc : ∀ b ∈ code, 0 ≤ b ∧ b ≤ 255) (i h : Int) (hi : 0 ≤ i) : True ∧ 0 ≤ (l2F code i h).2.1 := by
  refine ⟨trivial, ?_⟩
  unfold l2F
  have h1 := (belowF_ok code hb hc i h hi 4).2
  dsimp only
  split
  · exact (oddF_ok code hb hc _ _ h1).2
  · split
    · exact (belowF_ok code hb hc _ _ h1 5).2
    · split
      · exact (belowF_ok code hb hc _ _ h1 5).2
      · exact (fromF_ok code hb hc _ _ h1 (-9) 30).2

theorem l2Draw_c (S : Se P A) (code : List Int) (hb : code.length ≤ 4096) (hc : ∀ b ∈ code, 0 ≤ b ∧ b ≤ 255) (i h : Int) (hi : 0 ≤ i) : SoundM P 151 true [.ptr 1000 0 0] [.box [.ro (A.enc cByte code), .int .i64 i, .int .i64 h]]
    (fun v os => v = rCur (l2F code i h) ∧ os = oCur A code (l2F code i h)) := by
  refine S.cx.by (S.prog ▸ Try.func151) rfl rfl rfl rfl (fun hv ho => ?_)
  cbv
  have hk1 := belowF_ok code hb hc i h hi 4
  refine ACall.valN (r := rCur) (os := oCur A code) (dp := false) S.cx (l1Below_c S code hb hc i h hi 4) ⟨rfl, (by repeat' (first | exact trivial | exact rfl | exact Nat.le_refl _ | exact S.cx.giveEq | exact S.cx.lendLe (by assumption) | exact S.cx.lendEq (by assumption) | exact S.cx.lendLe0 | exact S.cx.lendEq0 | exact S.cx.partLe (by assumption) | exact S.cx.partEq (by assumption) | exact .inl rfl | refine ⟨?_, ?_⟩)), (by repeat' (first | exact trivial | exact rfl | exact Nat.le_refl _ | exact S.cx.giveEq | exact S.cx.lendLe (by assumption) | exact S.cx.lendEq (by assumption) | exact S.cx.lendLe0 | exact S.cx.lendEq0 | exact S.cx.partLe (by assumption) | exact S.cx.partEq (by assumption) | exact .inl rfl | refine ⟨?_, ?_⟩))⟩ rfl (fun ln hln x hx => ⟨rfl, ?_⟩)
  obtain ⟨a, i1, h1⟩ := x
  cbv
  rw [← hx] at hk1
  dsimp only at hk1
  have hx1 := hx
  have hi1 := hk1.2
  refine Test.eql (fun g1 => ?_) (fun g1 => ?_) <;> cbv
  · have hk2 := oddF_ok code hb hc i1 h1 hi1
    refine ACall.valN (r := rCur) (os := oCur A code) (dp := false) S.cx (l1Odd_c S code hb hc i1 h1 hi1) ⟨rfl, (by repeat' (first | exact trivial | exact rfl | exact Nat.le_refl _ | exact S.cx.giveEq | exact S.cx.lendLe (by assumption) | exact S.cx.lendEq (by assumption) | exact S.cx.lendLe0 | exact S.cx.lendEq0 | exact S.cx.partLe (by assumption) | exact S.cx.partEq (by assumption) | exact .inl rfl | refine ⟨?_, ?_⟩)), (by repeat' (first | exact trivial | exact rfl | exact Nat.le_refl _ | exact S.cx.giveEq | exact S.cx.lendLe (by assumption) | exact S.cx.lendEq (by assumption) | exact S.cx.lendLe0 | exact S.cx.lendEq0 | exact S.cx.partLe (by assumption) | exact S.cx.partEq (by assumption) | exact .inl rfl | refine ⟨?_, ?_⟩))⟩ rfl (fun ln hln x hx => ⟨rfl, ?_⟩)
    obtain ⟨b, i2, h2⟩ := x
    cbv
    rw [← hx] at hk2
    dsimp only at hk2
    have hx2 := hx
    have hi2 := hk2.2
    have e9 : l2F code i h = (b, i2, h2) := by unfold l2F; dsimp only; rw [← hx1]; dsimp only; rw [if_pos g1, ← hx2]
    rw [e9]
    exact Done.to (rCur (b, i2, h2)) (oCur A code (b, i2, h2)) rfl rfl ⟨⟨⟨rfl, .inl rfl⟩, rfl, rfl, trivial⟩, trivial⟩ ⟨rfl, rfl⟩
  refine Test.eql (fun g2 => ?_) (fun g2 => ?_) <;> cbv
  · have hk2 := belowF_ok code hb hc i1 h1 hi1 5
    refine ACall.valN (r := rCur) (os := oCur A code) (dp := false) S.cx (l1Below_c S code hb hc i1 h1 hi1 5) ⟨rfl, (by repeat' (first | exact trivial | exact rfl | exact Nat.le_refl _ | exact S.cx.giveEq | exact S.cx.lendLe (by assumption) | exact S.cx.lendEq (by assumption) | exact S.cx.lendLe0 | exact S.cx.lendEq0 | exact S.cx.partLe (by assumption) | exact S.cx.partEq (by assumption) | exact .inl rfl | refine ⟨?_, ?_⟩)), (by repeat' (first | exact trivial | exact rfl | exact Nat.le_refl _ | exact S.cx.giveEq | exact S.cx.lendLe (by assumption) | exact S.cx.lendEq (by assumption) | exact S.cx.lendLe0 | exact S.cx.lendEq0 | exact S.cx.partLe (by assumption) | exact S.cx.partEq (by assumption) | exact .inl rfl | refine ⟨?_, ?_⟩))⟩ rfl (fun ln hln x hx => ⟨rfl, ?_⟩)
    obtain ⟨b, i2, h2⟩ := x
    cbv
    rw [← hx] at hk2
    dsimp only at hk2
    have hx2 := hx
    have hi2 := hk2.2
    have hb5 := hk2.1.2.1 (by decide)
    refine Arith.go (by lia) (fun m1 hm1 => ?_); replace hm1 : m1 = 9223372036854775807 - b := hm1; cbv
    have e9 : l2F code i h = (m1, i2, h2) := by unfold l2F; dsimp only; rw [← hx1]; dsimp only; rw [if_neg g1, if_pos g2, ← hx2, hm1]
    rw [e9]
    exact Done.to (rCur (m1, i2, h2)) (oCur A code (m1, i2, h2)) rfl rfl ⟨⟨⟨rfl, .inl rfl⟩, rfl, rfl, trivial⟩, trivial⟩ ⟨rfl, rfl⟩
  refine Test.eql (fun g3 => ?_) (fun g3 => ?_) <;> cbv
  · refine ACall.fn (dp := false) (l2Least_c S) ⟨rfl, (by repeat' (first | exact trivial | exact rfl | exact Nat.le_refl _ | exact S.cx.giveEq | exact S.cx.lendLe (by assumption) | exact S.cx.lendEq (by assumption) | exact S.cx.lendLe0 | exact S.cx.lendEq0 | exact S.cx.partLe (by assumption) | exact S.cx.partEq (by assumption) | exact .inl rfl | refine ⟨?_, ?_⟩)), (by repeat' (first | exact trivial | exact rfl | exact Nat.le_refl _ | exact S.cx.giveEq | exact S.cx.lendLe (by assumption) | exact S.cx.lendEq (by assumption) | exact S.cx.lendLe0 | exact S.cx.lendEq0 | exact S.cx.partLe (by assumption) | exact S.cx.partEq (by assumption) | exact .inl rfl | refine ⟨?_, ?_⟩))⟩ ⟨rfl, ?_⟩; cbv
    have hk2 := belowF_ok code hb hc i1 h1 hi1 5
    refine ACall.valN (r := rCur) (os := oCur A code) (dp := false) S.cx (l1Below_c S code hb hc i1 h1 hi1 5) ⟨rfl, (by repeat' (first | exact trivial | exact rfl | exact Nat.le_refl _ | exact S.cx.giveEq | exact S.cx.lendLe (by assumption) | exact S.cx.lendEq (by assumption) | exact S.cx.lendLe0 | exact S.cx.lendEq0 | exact S.cx.partLe (by assumption) | exact S.cx.partEq (by assumption) | exact .inl rfl | refine ⟨?_, ?_⟩)), (by repeat' (first | exact trivial | exact rfl | exact Nat.le_refl _ | exact S.cx.giveEq | exact S.cx.lendLe (by assumption) | exact S.cx.lendEq (by assumption) | exact S.cx.lendLe0 | exact S.cx.lendEq0 | exact S.cx.partLe (by assumption) | exact S.cx.partEq (by assumption) | exact .inl rfl | refine ⟨?_, ?_⟩))⟩ rfl (fun ln hln x hx => ⟨rfl, ?_⟩)
    obtain ⟨b, i2, h2⟩ := x
    cbv
    rw [← hx] at hk2
    dsimp only at hk2
    have hx2 := hx
    have hi2 := hk2.2
    have hb5 := hk2.1.2.1 (by decide)
    refine Arith.go (by lia) (fun m1 hm1 => ?_); replace hm1 : m1 = -9223372036854775808 + b := hm1; cbv
    have e9 : l2F code i h = (m1, i2, h2) := by unfold l2F; dsimp only; rw [← hx1]; dsimp only; rw [if_neg g1, if_neg g2, if_pos g3, ← hx2, hm1]
    rw [e9]
    exact Done.to (rCur (m1, i2, h2)) (oCur A code (m1, i2, h2)) rfl rfl ⟨⟨⟨rfl, .inl rfl⟩, rfl, rfl, trivial⟩, trivial⟩ ⟨rfl, rfl⟩
  have hk2 := fromF_ok code hb hc i1 h1 hi1 (-9) 30
  refine ACall.valN (r := rCur) (os := oCur A code) (dp := false) S.cx (l1From_c S code hb hc i1 h1 hi1 (-9) 30 (by decide)) ⟨rfl, (by repeat' (first | exact trivial | exact rfl | exact Nat.le_refl _ | exact S.cx.giveEq | exact S.cx.lendLe (by assumption) | exact S.cx.lendEq (by assumption) | exact S.cx.lendLe0 | exact S.cx.lendEq0 | exact S.cx.partLe (by assumption) | exact S.cx.partEq (by assumption) | exact .inl rfl | refine ⟨?_, ?_⟩)), (by repeat' (first | exact trivial | exact rfl | exact Nat.le_refl _ | exact S.cx.giveEq | exact S.cx.lendLe (by assumption) | exact S.cx.lendEq (by assumption) | exact S.cx.lendLe0 | exact S.cx.lendEq0 | exact S.cx.partLe (by assumption) | exact S.cx.partEq (by assumption) | exact .inl rfl | refine ⟨?_, ?_⟩))⟩ rfl (fun ln hln x hx => ⟨rfl, ?_⟩)
  obtain ⟨b, i2, h2⟩ := x
  cbv
  rw [← hx] at hk2
  dsimp only at hk2
  have hx2 := hx
  have hi2 := hk2.2
  have e9 : l2F code i h = (b, i2, h2) := by unfold l2F; dsimp only; rw [← hx1]; dsimp only; rw [if_neg g1, if_neg g2, if_neg g3, ← hx2]
  rw [e9]
  exact Done.to (rCur (b, i2, h2)) (oCur A code (b, i2, h2)) rfl rfl ⟨⟨⟨rfl, .inl rfl⟩, rfl, rfl, trivial⟩, trivial⟩ ⟨rfl, rfl⟩

end Go.Proofs.Ytcbebidfnlkkeaa.AM
