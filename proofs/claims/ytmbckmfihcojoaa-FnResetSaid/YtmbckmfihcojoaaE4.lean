/- Contracts: heaps joined. (printed by ge4.py) -/
import Derived.Test.YtmbckmfihcojoaaE3
namespace Go.Proofs.Ytmbckmfihcojoaa.AM
open Go Go.Proofs

set_option maxRecDepth 100000
set_option maxHeartbeats 4000000
set_option linter.unusedVariables false
set_option linter.unusedSimpArgs false

variable {P : Program} {A : Sy}

theorem LenR.three {x y z : List AV} {K : Int → Prop} (h : K 3) : LenR false [x, y, z] K := ⟨nofun, fun _ => h⟩
theorem ElemRo.lit {rows : List (List AV)} {size : Nat} {n : Int} {K : List AV → Prop} (r : List AV) (h0 : 0 ≤ n) (h : rows[n.toNat]? = some r) (hs : r.length = size) (hk : K r) : ElemRo rows size n K := ⟨⟨h0, r, h, hs, hk⟩⟩

theorem concatTwig_c (S : Se P A) (a b c : List Twig) (ha : a.length ≤ 1073741824) (hb : b.length ≤ 1073741824) (hc : c.length ≤ 1073741824) : Is1 P 214 [.ro [[.ro (A.enc cTwig a)], [.ro (A.enc cTwig b)], [.ro (A.enc cTwig c)]]] (rTwig A (a ++ b ++ c)) := by
  refine S.cx.by (S.prog ▸ Try.func214) rfl rfl rfl rfl (fun hv ho => ?_)
  cbv
  refine LenR.three ?_
  cbv
  refine ALoop.goS (ι := Int × Int) (fun i => [(11, .int .i64 i.1), (3, .int .i64 i.2)]) [] (fun i => []) (fun i => 0 ≤ i.2 ∧ ((i.1 = 0 ∧ i.2 = 0) ∨ (i.1 = 1 ∧ i.2.toNat = a.length) ∨ (i.1 = 2 ∧ i.2.toNat = a.length + b.length) ∨ (i.1 = 3 ∧ i.2.toNat = a.length + b.length + c.length))) (fun i => (3 - i.1).toNat) (0, 0) S.cx.tab S.cx.mix S.eq ?_ ?_ ?_
  · exact ⟨Int.le_refl _, .inl ⟨rfl, rfl⟩⟩
  · (cbv; refine Less.to [] rfl rfl ?_ ?_ <;> repeat' (first | exact trivial | exact ⟨rfl, rfl⟩ | exact ⟨_, rfl, Nat.zero_le _, rfl⟩ | apply And.intro | exact rfl))
  intro x hk
  obtain ⟨i, s⟩ := x
  dsimp only at hk
  refine Rnd.mk ?_; cbv
  refine Test.lss (fun h => ?_) (fun h => ?_) <;> cbv
  · have hel : ∃ m : List Twig, m.length ≤ 1073741824 ∧ 0 ≤ i ∧ s.toNat ≤ 2147483648 ∧ [[AV.ro (A.enc cTwig a)], [AV.ro (A.enc cTwig b)], [AV.ro (A.enc cTwig c)]][i.toNat]? = some [AV.ro (A.enc cTwig m)] ∧ (∀ s' : Int, 0 ≤ s' ∧ s'.toNat = s.toNat + m.length → 0 ≤ s' ∧ ((i + 1 = 0 ∧ s' = 0) ∨ (i + 1 = 1 ∧ s'.toNat = a.length) ∨ (i + 1 = 2 ∧ s'.toNat = a.length + b.length) ∨ (i + 1 = 3 ∧ s'.toNat = a.length + b.length + c.length))) := by
      obtain ⟨h0, hk⟩ := hk
      rcases hk with ⟨rfl, rfl⟩ | ⟨rfl, hk⟩ | ⟨rfl, hk⟩ | ⟨rfl, hk⟩
      · exact ⟨a, ha, by decide, by decide, rfl, fun s' hs => ⟨hs.1, .inr (.inl ⟨rfl, by rw [hs.2]; simp⟩)⟩⟩
      · exact ⟨b, hb, by decide, by omega, rfl, fun s' hs => ⟨hs.1, .inr (.inr (.inl ⟨rfl, by rw [hs.2, hk]⟩))⟩⟩
      · exact ⟨c, hc, by decide, by omega, rfl, fun s' hs => ⟨hs.1, .inr (.inr (.inr ⟨rfl, by rw [hs.2, hk]⟩))⟩⟩
      · exact absurd h (by decide)
    obtain ⟨m, hm, hi0, hs0, hel, hnext⟩ := hel
    have hs1 := hk.1
    clear hk
    refine ElemRo.lit _ hi0 hel rfl ?_
    clear hel
    cbv
    refine LenR.nat S.cx (fun N hN hx => ?_); cbv
    refine Arith.go (by lia) (fun s2 hs2 => ?_); cbv
    refine Test.lss (fun hneg => ?_) (fun hneg => ?_) <;> cbv
    · exfalso; lia
    refine Arith.go (by lia) (fun i' hi' => ?_); cbv
    replace hi' : i' = i + 1 := hi'
    have hnx := hnext s2 ⟨by lia, by lia⟩
    rw [← hi'] at hnx
    refine Again.on (i', s2) (by dsimp only; lia) hnx ?_
    (cbv; refine Less.to [] rfl rfl ?_ ?_ <;> repeat' (first | exact trivial | exact ⟨rfl, rfl⟩ | exact ⟨_, rfl, Nat.zero_le _, rfl⟩ | apply And.intro | exact rfl))
  have hs : 0 ≤ s ∧ s.toNat = a.length + b.length + c.length := by
    obtain ⟨h0, hk⟩ := hk
    rcases hk with ⟨rfl, rfl⟩ | ⟨rfl, hk⟩ | ⟨rfl, hk⟩ | ⟨rfl, hk⟩
    · exact absurd h (by decide)
    · exact absurd h (by decide)
    · exact absurd h (by decide)
    · exact ⟨h0, hk⟩
  clear hk
  refine ACall.valN (r := rTwig A) (os := fun _ => []) (dp := false) S.cx (growTwig_c S s (by omega) hs.1) ⟨rfl, (by repeat' (first | exact trivial | exact rfl | exact Nat.le_refl _ | exact S.cx.giveEq | exact S.cx.lendLe (by assumption) | exact S.cx.lendEq (by assumption) | exact S.cx.lendLe0 | exact S.cx.lendEq0 | exact S.cx.partLe (by assumption) | exact S.cx.partEq (by assumption) | exact .inl rfl | refine ⟨?_, ?_⟩)), (by repeat' (first | exact trivial | exact rfl | exact Nat.le_refl _ | exact S.cx.giveEq | exact S.cx.lendLe (by assumption) | exact S.cx.lendEq (by assumption) | exact S.cx.lendLe0 | exact S.cx.lendEq0 | exact S.cx.partLe (by assumption) | exact S.cx.partEq (by assumption) | exact .inl rfl | refine ⟨?_, ?_⟩))⟩ rfl (fun ln hln l0 hx => ⟨rfl, ?_⟩)
  cbv
  have hN0 := hln cTwig l0
  generalize ln (A.enc cTwig l0) = N0 at hN0 ⊢
  refine LenR.three ?_
  cbv
  refine ALoop.goF (ι := Int × List Twig × Nat) (fun i => [(27, .int .i64 i.1), (6, .ref false 10010000 0 i.2.2)]) [24] [10010000] (fun i => [(10010000, .arr 3 true (A.enc cTwig i.2.1))]) (fun i => i.2.2 = i.2.1.length ∧ ((i.1 = 0 ∧ i.2.1 = []) ∨ (i.1 = 1 ∧ i.2.1 = a) ∨ (i.1 = 2 ∧ i.2.1 = a ++ b) ∨ (i.1 = 3 ∧ i.2.1 = a ++ b ++ c))) (fun i => (3 - i.1).toNat) (0, l0, N0) S.cx.tab S.cx.mix S.eq ?_ ?_ ?_
  · exact ⟨hN0, .inl ⟨rfl, hx⟩⟩
  · (cbv; refine Less.to [] rfl rfl ?_ ?_ <;> repeat' (first | exact trivial | exact ⟨rfl, rfl⟩ | exact ⟨_, rfl, Nat.zero_le _, rfl⟩ | apply And.intro | exact rfl))
  intro x hk
  obtain ⟨i, l, n⟩ := x
  dsimp only at hk
  refine Rnd.mk ?_; cbv
  refine Test.lss (fun h1 => ?_) (fun h1 => ?_) <;> cbv
  · have hel : ∃ m : List Twig, m.length ≤ 1073741824 ∧ 0 ≤ i ∧ l.length ≤ 2147483648 ∧ [[AV.ro (A.enc cTwig a)], [AV.ro (A.enc cTwig b)], [AV.ro (A.enc cTwig c)]][i.toNat]? = some [AV.ro (A.enc cTwig m)] ∧ ((i + 1 = 0 ∧ l ++ m = []) ∨ (i + 1 = 1 ∧ l ++ m = a) ∨ (i + 1 = 2 ∧ l ++ m = a ++ b) ∨ (i + 1 = 3 ∧ l ++ m = a ++ b ++ c)) := by
      obtain ⟨h0, hk⟩ := hk
      rcases hk with ⟨rfl, rfl⟩ | ⟨rfl, rfl⟩ | ⟨rfl, rfl⟩ | ⟨rfl, hk⟩
      · exact ⟨a, ha, by decide, by simp, rfl, .inr (.inl ⟨rfl, rfl⟩)⟩
      · exact ⟨b, hb, by decide, by omega, rfl, .inr (.inr (.inl ⟨rfl, rfl⟩))⟩
      · exact ⟨c, hc, by decide, by simp; omega, rfl, .inr (.inr (.inr ⟨rfl, rfl⟩))⟩
      · exact absurd h1 (by decide)
    obtain ⟨m, hm, hi0, hl0, hel, hnext⟩ := hel
    have hn := hk.1
    clear hk
    refine ElemRo.lit _ hi0 hel rfl ?_
    clear hel
    cbv
    refine AppRef.pushAll S.cx hn rfl plainTwig (fun _ => rfl) (by simp only [maxBytes]; omega) (fun n' l' hl' hn' => ?_); cbv
    refine Arith.go (by lia) (fun i' hi' => ?_); cbv
    replace hi' : i' = i + 1 := hi'
    rw [← hi', ← hl'] at hnext
    refine Again.on (i', l', n') (by dsimp only; lia) ⟨hn', hnext⟩ ?_
    (cbv; refine Less.to [(10010000, (14020000, 0))] rfl rfl ?_ ?_ <;> repeat' (first | exact trivial | exact ⟨rfl, rfl⟩ | exact ⟨_, rfl, Nat.zero_le _, rfl⟩ | apply And.intro | exact rfl))
  have hl : l = a ++ b ++ c := by
    obtain ⟨h0, hk⟩ := hk
    rcases hk with ⟨rfl, rfl⟩ | ⟨rfl, hk⟩ | ⟨rfl, hk⟩ | ⟨rfl, hk⟩
    · exact absurd h1 (by decide)
    · exact absurd h1 (by decide)
    · exact absurd h1 (by decide)
    · exact hk
  have hn := hk.1
  clear hk
  exact Done.is (r := rTwig A) (x := l) (by repeat' (first | exact trivial | exact rfl | exact resOwn S.cx rfl (by assumption) | exact resOwn S.cx rfl (S.cx.lenE _ _) | exact resOwn1 S.cx rfl (by assumption) | exact resOwnT S.cx rfl (by assumption) | exact S.cx.enc _ [] | refine ⟨?_, ?_⟩)) rfl (hl.symm)

end Go.Proofs.Ytmbckmfihcojoaa.AM
