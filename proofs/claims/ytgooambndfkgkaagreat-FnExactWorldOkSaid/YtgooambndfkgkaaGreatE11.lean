/- Contracts: the heaps of the spec. (printed by ge11.py) -/
import Derived.Test.YtgooambndfkgkaaGreatE10
namespace Go.Proofs.YtgooambndfkgkaaGreat.AM
open Go Go.Proofs

set_option maxRecDepth 100000
set_option maxHeartbeats 4000000
set_option linter.unusedVariables false
set_option linter.unusedSimpArgs false

variable {P : Program} {A : Sy}

theorem l3Ahead_c (S : Se P A) (d1 s1 l1 d2 s2 l2 : Int) : Tests P 301 [.agg (cTwig ⟨d1, s1, l1⟩), .agg (cTwig ⟨d2, s2, l2⟩)] (d1 < d2 ∨ d1 = d2 ∧ s1 < s2) := by
  refine S.cx.by (S.prog ▸ Tryz.func301) rfl rfl rfl rfl (fun hv ho => ?_)
  cbv
  repeat' (first
    | (refine Test.eql (fun _ => ?_) (fun _ => ?_) <;> cbv)
    | (refine Test.neq (fun _ => ?_) (fun _ => ?_) <;> cbv)
    | (refine Test.lss (fun _ => ?_) (fun _ => ?_) <;> cbv)
    | (refine Test.leq (fun _ => ?_) (fun _ => ?_) <;> cbv)
    | (refine Test.gtr (fun _ => ?_) (fun _ => ?_) <;> cbv)
    | (refine Test.geq (fun _ => ?_) (fun _ => ?_) <;> cbv)
    | (refine ⟨⟨by kernel_rfl, fun _ => ?_⟩⟩)
    | (refine LenR.nat S.cx (fun N hN hm => ?_); cbv)
    | exact Done.yes (by omega)
    | exact Done.no (by omega))

def rPPB (A : Sy) (p : List Twig × List Twig) : AV := .tup [.ro (A.enc cTwig p.1), .ro (A.enc cTwig p.2), .bool true]
def rPPN (A : Sy) (p : Unit) : AV := .tup [.own 3 true (A.enc cTwig ([] : List Twig)), .own 3 true (A.enc cTwig ([] : List Twig)), .bool false]

theorem l3Parts_c (S : Se P A) {l : List Twig} {x : Twig} {r : List Twig} (hl : l = x :: r) (h0 : 0 ≤ x.lefts) (h1 : x.lefts.toNat ≤ r.length) : SoundM P 300 true [.ro (A.enc cTwig l)] []
    (fun v os => v = rPPB A (r.take x.lefts.toNat, r.drop x.lefts.toNat) ∧ os = []) := by
  have hll : l.length = r.length + 1 := by rw [hl]; rfl
  have hx0 : l[(0 : Int).toNat]? = some x := by rw [hl]; rfl
  obtain ⟨xd, xs, k⟩ := x
  dsimp only at h0 h1 ⊢
  refine S.cx.by (S.prog ▸ Tryz.func300) rfl rfl rfl rfl (fun hv ho => ?_)
  cbv
  refine ElemRo.at S.cx (x := (⟨xd, xs, k⟩ : Twig)) rfl (by decide) hx0 ?_; cbv
  refine LenR.nat S.cx (fun N hN hm => ?_); cbv
  refine Arith.go (by lia) (fun m hm2 => ?_); replace hm2 : m = N - 1 := hm2; cbv
  refine ACall.testD (dp := false) (l1In_c S k 0 m) ⟨rfl, (by repeat' (first | exact trivial | exact rfl | exact Nat.le_refl _ | exact S.cx.giveEq | exact S.cx.lendLe (by assumption) | exact S.cx.lendEq (by assumption) | exact S.cx.lendLe0 | exact S.cx.lendEq0 | exact S.cx.partLe (by assumption) | exact S.cx.partEq (by assumption) | exact S.cx.enc _ [] | exact .inl rfl | refine ⟨?_, ?_⟩)), (by repeat' (first | exact trivial | exact rfl | exact Nat.le_refl _ | exact S.cx.giveEq | exact S.cx.lendLe (by assumption) | exact S.cx.lendEq (by assumption) | exact S.cx.lendLe0 | exact S.cx.lendEq0 | exact S.cx.partLe (by assumption) | exact S.cx.partEq (by assumption) | exact S.cx.enc _ [] | exact .inl rfl | refine ⟨?_, ?_⟩))⟩ rfl (fun h2 => ?_) (fun h2 => ?_) <;> cbv
  rotate_left
  · exact absurd ⟨h0, by lia⟩ h2
  try (refine Drawn.mk ⟨by kernel_rfl, fun _ => ?_⟩)
  refine Arith.go (by lia) (fun n hn => ?_); replace hn : n = 1 + k := hn; cbv
  refine CutRo.enc S.cx (fun _ => rfl) (by decide) (by lia) (by lia) (fun a ha => ?_); cbv
  refine Arith.go (by lia) (fun n2 hn2 => ?_); replace hn2 : n2 = 1 + k := hn2; cbv
  refine CutRoE.enc S.cx (fun _ => rfl) (by lia) (by lia) (fun b hb => ?_); cbv
  refine Done.to (rPPB A (a, b)) [] rfl ⟨⟨rfl, .inl rfl⟩, ⟨rfl, .inl rfl⟩, rfl, trivial⟩ trivial ⟨?_, rfl⟩
  have e1 : a = r.take k.toNat := by rw [ha, hl, show n.toNat = k.toNat + 1 by omega]; rfl
  have e2 : b = r.drop k.toNat := by rw [hb, hl, show n2.toNat = k.toNat + 1 by omega]; rfl
  rw [e1, e2]

theorem l3PartsN_c (S : Se P A) {l : List Twig} {x : Twig} {r : List Twig} (hl : l = x :: r) (hb : l.length ≤ 4294967296) (h1 : ¬ (0 ≤ x.lefts ∧ x.lefts.toNat ≤ r.length)) : SoundM P 300 true [.ro (A.enc cTwig l)] []
    (fun v os => v = rPPN A () ∧ os = []) := by
  have hll : l.length = r.length + 1 := by rw [hl]; rfl
  have hx0 : l[(0 : Int).toNat]? = some x := by rw [hl]; rfl
  obtain ⟨xd, xs, k⟩ := x
  dsimp only at h1 ⊢
  refine S.cx.by (S.prog ▸ Tryz.func300) rfl rfl rfl rfl (fun hv ho => ?_)
  cbv
  refine ElemRo.at S.cx (x := (⟨xd, xs, k⟩ : Twig)) rfl (by decide) hx0 ?_; cbv
  refine LenR.nat S.cx (fun N hN hm => ?_); cbv
  refine Arith.go (by lia) (fun m hm2 => ?_); replace hm2 : m = N - 1 := hm2; cbv
  refine ACall.testD (dp := false) (l1In_c S k 0 m) ⟨rfl, (by repeat' (first | exact trivial | exact rfl | exact Nat.le_refl _ | exact S.cx.giveEq | exact S.cx.lendLe (by assumption) | exact S.cx.lendEq (by assumption) | exact S.cx.lendLe0 | exact S.cx.lendEq0 | exact S.cx.partLe (by assumption) | exact S.cx.partEq (by assumption) | exact S.cx.enc _ [] | exact .inl rfl | refine ⟨?_, ?_⟩)), (by repeat' (first | exact trivial | exact rfl | exact Nat.le_refl _ | exact S.cx.giveEq | exact S.cx.lendLe (by assumption) | exact S.cx.lendEq (by assumption) | exact S.cx.lendLe0 | exact S.cx.lendEq0 | exact S.cx.partLe (by assumption) | exact S.cx.partEq (by assumption) | exact S.cx.enc _ [] | exact .inl rfl | refine ⟨?_, ?_⟩))⟩ rfl (fun h2 => ?_) (fun h2 => ?_) <;> cbv
  · exact absurd ⟨h2.1, by lia⟩ h1
  exact Done.is (r := rPPN A) (x := ()) (by repeat' (first | exact trivial | exact rfl | exact resOwn S.cx rfl (by assumption) | exact resOwn S.cx rfl (S.cx.lenE _ _) | exact resOwn1 S.cx rfl (by assumption) | exact resOwnT S.cx rfl (by assumption) | exact S.cx.enc _ [] | refine ⟨?_, ?_⟩)) rfl (rfl)

theorem l3Twice_c (S : Se P A) (l : List Twig) : Tests P 290 [.ro (A.enc cTwig l)] (¬ (l.map (·.seq)).Nodup) := by
  refine S.cx.by (S.prog ▸ Tryz.func290) rfl rfl rfl rfl (fun hv ho => ?_)
  cbv
  refine ALoop.goS (ι := Int) (fun i => [(3, .int .i64 i)]) [] (fun i => []) (fun i => 0 ≤ i ∧ ((l.take i.toNat).map (·.seq)).Nodup) (fun i => (l.length - i).toNat) (0) S.cx.tab S.cx.mix S.eq ?_ ?_ ?_
  · exact ⟨Int.le_refl _, by simp⟩
  · (cbv; refine Less.to [] rfl rfl ?_ ?_ <;> repeat' (first | exact trivial | exact ⟨rfl, rfl⟩ | exact ⟨_, rfl, Nat.zero_le _, rfl⟩ | apply And.intro | exact rfl))
  intro i hk
  obtain ⟨h0, hn⟩ := hk
  refine Rnd.mk ?_; cbv
  refine LenR.nat S.cx (fun N hN hm => ?_); cbv
  refine Test.lss (fun h => ?_) (fun h => ?_) <;> cbv
  rotate_left
  · exact Done.no fun e => e (by rw [take_all (by lia)] at hn; exact hn)
  obtain ⟨x, hx⟩ := get_of_lt (show i.toNat < l.length by lia)
  obtain ⟨i0, hi0⟩ : ∃ k, k = i := ⟨_, rfl⟩
  rw [← hi0] at h0 hn h hx ⊢
  refine ALoop.goS (ι := Int) (fun i => [(4, .int .i64 i)]) [] (fun i => []) (fun i => 0 ≤ i ∧ x.seq ∉ (l.take i.toNat).map (·.seq) ∧ i ≤ i0) (fun i => (i0 - i).toNat) (0) S.cx.tab S.cx.mix S.eq ?_ ?_ ?_
  · exact ⟨Int.le_refl _, by simp, h0⟩
  · (cbv; refine Less.to [] rfl rfl ?_ ?_ <;> repeat' (first | exact trivial | exact ⟨rfl, rfl⟩ | exact ⟨_, rfl, Nat.zero_le _, rfl⟩ | apply And.intro | exact rfl))
  intro j hj
  obtain ⟨j0, hj1, hj2⟩ := hj
  refine Rnd.mk ?_; cbv
  refine Test.lss (fun h2 => ?_) (fun h2 => ?_) <;> cbv
  · try (refine Drawn.mk ⟨by kernel_rfl, fun _ => ?_⟩)
    refine ElemRo.at S.cx (x := x) rfl (by lia) hx ?_; cbv
    refine ElemRo.enc S.cx (fun _ => rfl) (by lia) (by lia) (fun y hy => ?_); cbv
    refine Test.eql (fun h3 => ?_) (fun h3 => ?_) <;> cbv
    · refine Done.yes (nodup_not h0 hx ?_)
      rw [h3]
      refine List.mem_map.2 ⟨y, ?_, rfl⟩
      exact mem_at (j := j.toNat) (by rw [List.getElem?_take_of_lt (by lia)]; exact hy)
    · refine Arith.go (by lia) (fun j' hj' => ?_); cbv
      refine Again.on j' (by lia) ⟨by lia, ?_, by lia⟩ ?_
      · rw [show j'.toNat = j.toNat + 1 by lia, take_next hy, List.map_append]
        simp only [List.mem_append, not_or]
        exact ⟨hj1, by simpa using h3⟩
      · (cbv; refine Less.to [] rfl rfl ?_ ?_ <;> repeat' (first | exact trivial | exact ⟨rfl, rfl⟩ | exact ⟨_, rfl, Nat.zero_le _, rfl⟩ | apply And.intro | exact rfl))
  · have e : j = i0 := by lia
    rw [e] at hj1
    refine Arith.go (by lia) (fun i' hi' => ?_); cbv
    refine Again.on i' (by lia) ⟨by lia, nodup_next h0 hx hn hi' hj1⟩ ?_
    (cbv; refine Less.to [] rfl rfl ?_ ?_ <;> repeat' (first | exact trivial | exact ⟨rfl, rfl⟩ | exact ⟨_, rfl, Nat.zero_le _, rfl⟩ | apply And.intro | exact rfl))

end Go.Proofs.YtgooambndfkgkaaGreat.AM
