/- Contracts: the law of handles. (printed by gu2.py) -/
import Derived.Test.YtmpbmfhlkhonkaaQ3
import Derived.Test.YtmpbmfhlkhonkaaU1
import Derived.Test.YtmpbmfhlkhonkaaDC
import Derived.Test.YtmpbmfhlkhonkaaB38
namespace Go.Proofs.Ytmpbmfhlkhonkaa.AM
open Go Go.Proofs

set_option maxRecDepth 100000
set_option maxHeartbeats 4000000
set_option linter.unusedVariables false
set_option linter.unusedSimpArgs false

variable {P : Program} {A : Sy}

theorem used_c (S : Se P A) (ages : List Int) (used : List Bool) : Nums P 59 [.agg (roSlots A ⟨ages, used⟩)] (fun n => 0 ≤ n ∧ n.toNat = usedN used) := by
  refine S.cx.by (S.prog ▸ Try.func59) rfl rfl rfl rfl (fun hv ho => ?_)
  cbv
  refine LenR.nat S.cx (fun N hN hm => ?_); cbv
  refine ALoop.goD (ι := Int × Int) (fun i => [(9, .int .i64 i.1), (3, .int .i64 i.2)]) [] (fun i => []) (fun i => 0 ≤ i.1 ∧ (0 ≤ i.2 ∧ i.2 ≤ i.1) ∧ i.2.toNat = usedN (used.take i.1.toNat)) (fun i => (used.length - i.1).toNat) (0, 0) S.cx.tab S.cx.mix S.eq ?_ ?_ ?_
  · exact ⟨Int.le_refl _, ⟨Int.le_refl _, Int.le_refl _⟩, by simp [usedN]⟩
  · (cbv; refine Less.to [] rfl rfl ?_ ?_ <;> repeat' (first | exact trivial | exact ⟨rfl, rfl⟩ | exact ⟨_, rfl, Nat.zero_le _, rfl⟩ | apply And.intro | exact rfl))
  rintro ⟨i, k⟩ ⟨h0, ⟨hk0, hk1⟩, hk⟩
  dsimp only at h0 hk0 hk1 hk
  cbv
  refine Test.lss (fun h => ?_) (fun h => ?_) <;> cbv
  · refine ElemRo.enc S.cx (fun _ => rfl) h0 (by lia) (fun b hb => ?_); cbv
    cases b <;> cbv
    · refine Arith.go (by lia) (fun i' hi' => ?_); cbv
      refine Again.on (i', k) (by dsimp only; lia) ⟨by dsimp only; lia, ⟨hk0, by dsimp only; lia⟩, by dsimp only; rw [usedN_next h0 hb hi']; simpa using hk⟩ ?_
      (cbv; refine Less.to [] rfl rfl ?_ ?_ <;> repeat' (first | exact trivial | exact ⟨rfl, rfl⟩ | exact ⟨_, rfl, Nat.zero_le _, rfl⟩ | apply And.intro | exact rfl))
    · refine Arith.go (by lia) (fun k' hk' => ?_); replace hk' : k' = k + 1 := hk'; cbv
      refine Arith.go (by lia) (fun i' hi' => ?_); cbv
      refine Again.on (i', k') (by dsimp only; lia) ⟨by dsimp only; lia, ⟨by dsimp only; lia, by dsimp only; lia⟩, by dsimp only; rw [usedN_next h0 hb hi', ← hk]; simp; omega⟩ ?_
      (cbv; refine Less.to [] rfl rfl ?_ ?_ <;> repeat' (first | exact trivial | exact ⟨rfl, rfl⟩ | exact ⟨_, rfl, Nat.zero_le _, rfl⟩ | apply And.intro | exact rfl))
  · exact Done.num ⟨hk0, by rw [hk, take_all (by lia)]⟩


theorem implUsedIn_c (S : Se P A) (ages : List Int) (used : List Bool) (hok : SlotsOk ⟨ages, used⟩) : Nums P 21 [.agg (roSlots A ⟨ages, used⟩)] (fun n => 0 ≤ n ∧ n.toNat = usedN used) := by
  refine S.cx.by (S.prog ▸ Try.func21) rfl rfl rfl rfl (fun hv ho => ?_)
  cbv
  refine ACall.testD (dp := false) (implSlotsOk_c S ages used) ⟨rfl, (by repeat' (first | exact trivial | exact rfl | exact Nat.le_refl _ | exact S.cx.giveEq | exact S.cx.lendLe (by assumption) | exact S.cx.lendEq (by assumption) | exact S.cx.lendLe0 | exact S.cx.lendEq0 | exact S.cx.partLe (by assumption) | exact S.cx.partEq (by assumption) | exact .inl rfl | refine ⟨?_, ?_⟩)), (by repeat' (first | exact trivial | exact rfl | exact Nat.le_refl _ | exact S.cx.giveEq | exact S.cx.lendLe (by assumption) | exact S.cx.lendEq (by assumption) | exact S.cx.lendLe0 | exact S.cx.lendEq0 | exact S.cx.partLe (by assumption) | exact S.cx.partEq (by assumption) | exact .inl rfl | refine ⟨?_, ?_⟩))⟩ rfl (fun h => ?_) (fun h => ?_) <;> cbv
  · refine ACall.num (dp := false) (used_c S ages used) ⟨rfl, (by repeat' (first | exact trivial | exact rfl | exact Nat.le_refl _ | exact S.cx.giveEq | exact S.cx.lendLe (by assumption) | exact S.cx.lendEq (by assumption) | exact S.cx.lendLe0 | exact S.cx.lendEq0 | exact S.cx.partLe (by assumption) | exact S.cx.partEq (by assumption) | exact .inl rfl | refine ⟨?_, ?_⟩)), (by repeat' (first | exact trivial | exact rfl | exact Nat.le_refl _ | exact S.cx.giveEq | exact S.cx.lendLe (by assumption) | exact S.cx.lendEq (by assumption) | exact S.cx.lendLe0 | exact S.cx.lendEq0 | exact S.cx.partLe (by assumption) | exact S.cx.partEq (by assumption) | exact .inl rfl | refine ⟨?_, ?_⟩))⟩ (fun r hr => ?_); cbv
    exact Done.num hr
  · exact absurd hok h

theorem implHolds_c (S : Se P A) (ages : List Int) (used : List Bool) (slot age : Int) : Tests P 22 [.agg (roSlots A ⟨ages, used⟩), .agg (cHandle ⟨slot, age⟩)] (SlotsOk ⟨ages, used⟩ ∧ Holds ⟨ages, used⟩ ⟨slot, age⟩) := by
  refine S.cx.by (S.prog ▸ Try.func22) rfl rfl rfl rfl (fun hv ho => ?_)
  cbv
  try (refine Drawn.mk ⟨by kernel_rfl, fun _ => ?_⟩)
  refine ACall.testD (dp := false) (implSlotsOk_c S ages used) ⟨rfl, (by repeat' (first | exact trivial | exact rfl | exact Nat.le_refl _ | exact S.cx.giveEq | exact S.cx.lendLe (by assumption) | exact S.cx.lendEq (by assumption) | exact S.cx.lendLe0 | exact S.cx.lendEq0 | exact S.cx.partLe (by assumption) | exact S.cx.partEq (by assumption) | exact .inl rfl | refine ⟨?_, ?_⟩)), (by repeat' (first | exact trivial | exact rfl | exact Nat.le_refl _ | exact S.cx.giveEq | exact S.cx.lendLe (by assumption) | exact S.cx.lendEq (by assumption) | exact S.cx.lendLe0 | exact S.cx.lendEq0 | exact S.cx.partLe (by assumption) | exact S.cx.partEq (by assumption) | exact .inl rfl | refine ⟨?_, ?_⟩))⟩ rfl (fun h => ?_) (fun h => ?_) <;> cbv
  rotate_left
  · exact Done.no (fun e => h e.1)
  refine ACall.testD (dp := false) (holds_c S ages used slot age h.2.1) ⟨rfl, (by repeat' (first | exact trivial | exact rfl | exact Nat.le_refl _ | exact S.cx.giveEq | exact S.cx.lendLe (by assumption) | exact S.cx.lendEq (by assumption) | exact S.cx.lendLe0 | exact S.cx.lendEq0 | exact S.cx.partLe (by assumption) | exact S.cx.partEq (by assumption) | exact .inl rfl | refine ⟨?_, ?_⟩)), (by repeat' (first | exact trivial | exact rfl | exact Nat.le_refl _ | exact S.cx.giveEq | exact S.cx.lendLe (by assumption) | exact S.cx.lendEq (by assumption) | exact S.cx.lendLe0 | exact S.cx.lendEq0 | exact S.cx.partLe (by assumption) | exact S.cx.partEq (by assumption) | exact .inl rfl | refine ⟨?_, ?_⟩))⟩ rfl (fun h2 => ?_) (fun h2 => ?_) <;> cbv
  · exact Done.yes ⟨h, h2⟩
  · exact Done.no (fun e => h2 e.2)

def newSl (n : Nat) : Slots := ⟨List.replicate n 0, List.replicate n false⟩
theorem newSlots_c (S : Se P A) (n : Int) (k : Nat) (hk : k = n.toNat) (h0 : 1 ≤ n ∧ n ≤ 64) : Is1 P 18 [.int .i64 n] (rSB A (newSl k, true)) := by
  refine S.cx.by (S.prog ▸ Try.func18) rfl rfl rfl rfl (fun hv ho => ?_)
  cbv
  refine ACall.testD (dp := false) (within_c S n 1 64) ⟨rfl, (by repeat' (first | exact trivial | exact rfl | exact Nat.le_refl _ | exact S.cx.giveEq | exact S.cx.lendLe (by assumption) | exact S.cx.lendEq (by assumption) | exact S.cx.lendLe0 | exact S.cx.lendEq0 | exact S.cx.partLe (by assumption) | exact S.cx.partEq (by assumption) | exact .inl rfl | refine ⟨?_, ?_⟩)), (by repeat' (first | exact trivial | exact rfl | exact Nat.le_refl _ | exact S.cx.giveEq | exact S.cx.lendLe (by assumption) | exact S.cx.lendEq (by assumption) | exact S.cx.lendLe0 | exact S.cx.lendEq0 | exact S.cx.partLe (by assumption) | exact S.cx.partEq (by assumption) | exact .inl rfl | refine ⟨?_, ?_⟩))⟩ rfl (fun h => ?_) (fun h => ?_) <;> cbv
  rotate_left
  · exact absurd h0 h
  try (refine Drawn.mk ⟨by kernel_rfl, fun _ => ?_⟩)
  refine MakeS.enc S.cx (f := cInt64) (0 : Int) rfl (by lia) (by simp only [maxBytes]; lia) (fun N z hN hz => ?_); cbv
  refine MakeS.enc S.cx (f := cBool) (false : Bool) rfl (by lia) (by simp only [maxBytes]; lia) (fun M w hM hw => ?_); cbv
  have hzl : N = z.length := by rw [hz]; simp
  have hwl : M = w.length := by rw [hw]; simp
  have e1 : N = k := by lia
  have e2 : M = k := by lia
  exact Done.is (r := rSB A) (x := ((⟨z, w⟩ : Slots), true)) (by repeat' (first | exact trivial | exact rfl | exact resOwn S.cx rfl (by assumption) | exact resOwn S.cx rfl (S.cx.lenE _ _) | exact resOwn1 S.cx rfl (by assumption) | exact resOwnT S.cx rfl (by assumption) | exact S.cx.enc _ [] | refine ⟨?_, ?_⟩)) rfl (by rw [hz, hw, newSl, e1, e2])

structure HSt where
  ages : List Int
  used : List Bool
  held : List Handle
  gone : List Handle
  i : Int
  di : Int
  dh : Int
  an : Nat
  un : Nat
  hn : Nat
  gn : Nat
  k : Nat

def HSt.ok (n : Nat) (s : HSt) : Prop := (s.i = s.k ∧ s.k ≤ 20) ∧ HI ⟨s.ages, s.used⟩ n s.held s.gone s.k ∧ 0 ≤ s.di ∧ s.an = s.ages.length ∧ s.un = s.used.length ∧ s.hn = s.held.length ∧ s.gn = s.gone.length ∧ s.gone.length ≤ s.k
/-- At the end of a round. -/
def HSt.mid (n : Nat) (i : Int) (s : HSt) : Prop := (s.i = i ∧ i = s.k ∧ s.k < 20) ∧ HI ⟨s.ages, s.used⟩ n s.held s.gone (s.k + 1) ∧ 0 ≤ s.di ∧ s.an = s.ages.length ∧ s.un = s.used.length ∧ s.hn = s.held.length ∧ s.gn = s.gone.length ∧ s.gone.length ≤ s.k + 1

theorem plainHandle : Plain cHandle := fun _ => rfl
theorem few_held {s : Slots} {n : Nat} {held gone : List Handle} {i : Nat} (h : HI s n held gone i) : held.length ≤ 64 := by
  have := usedN_le s.used
  have := h.1.2.1
  have := h.1.1.2
  have := h.2.2.2.2.2.1
  omega

theorem handlesLaw_c (S : Se P A) (code : List Int) : Is1 P 3 [.ro (A.enc cByte code)] (.bool true) := by
  refine S.cx.byC [29] (S.prog ▸ Try.func3) rfl rfl rfl rfl (fun ln hln hv ho => ?_)
  cbv
  have hc := code_bytes (code := code) S.cx (hv _ (List.mem_singleton.2 rfl))
  refine ACall.testD (dp := false) (big_c S code) ⟨rfl, (by repeat' (first | exact trivial | exact rfl | exact Nat.le_refl _ | exact S.cx.giveEq | exact S.cx.lendLe (by assumption) | exact S.cx.lendEq (by assumption) | exact S.cx.lendLe0 | exact S.cx.lendEq0 | exact S.cx.partLe (by assumption) | exact S.cx.partEq (by assumption) | exact .inl rfl | refine ⟨?_, ?_⟩)), (by repeat' (first | exact trivial | exact rfl | exact Nat.le_refl _ | exact S.cx.giveEq | exact S.cx.lendLe (by assumption) | exact S.cx.lendEq (by assumption) | exact S.cx.lendLe0 | exact S.cx.lendEq0 | exact S.cx.partLe (by assumption) | exact S.cx.partEq (by assumption) | exact .inl rfl | refine ⟨?_, ?_⟩))⟩ rfl (fun hbig => ?_) (fun hbig => ?_) <;> cbv
  · exact Done.to (.bool true) [] rfl rfl trivial ⟨rfl, rfl⟩
  replace hbig : code.length ≤ 4096 := Nat.not_lt.1 hbig
  refine ACall.of (dp := false) (roll_c S code 2) ⟨rfl, (by repeat' (first | exact trivial | exact rfl | exact Nat.le_refl _ | exact S.cx.giveEq | exact S.cx.lendLe (by assumption) | exact S.cx.lendEq (by assumption) | exact S.cx.lendLe0 | exact S.cx.lendEq0 | exact S.cx.partLe (by assumption) | exact S.cx.partEq (by assumption) | exact .inl rfl | refine ⟨?_, ?_⟩)), (by repeat' (first | exact trivial | exact rfl | exact Nat.le_refl _ | exact S.cx.giveEq | exact S.cx.lendLe (by assumption) | exact S.cx.lendEq (by assumption) | exact S.cx.lendLe0 | exact S.cx.lendEq0 | exact S.cx.partLe (by assumption) | exact S.cx.partEq (by assumption) | exact .inl rfl | refine ⟨?_, ?_⟩))⟩ (fun v os hv => ?_)
  obtain ⟨⟨dh, rfl⟩, rfl⟩ := hv
  refine ⟨rfl, ?_⟩; cbv
  refine ACall.of (dp := false) (below_c S code hbig hc 0 dh (by decide) 6 (by decide)) ⟨rfl, (by repeat' (first | exact trivial | exact rfl | exact Nat.le_refl _ | exact S.cx.giveEq | exact S.cx.lendLe (by assumption) | exact S.cx.lendEq (by assumption) | exact S.cx.lendLe0 | exact S.cx.lendEq0 | exact S.cx.partLe (by assumption) | exact S.cx.partEq (by assumption) | exact .inl rfl | refine ⟨?_, ?_⟩)), (by repeat' (first | exact trivial | exact rfl | exact Nat.le_refl _ | exact S.cx.giveEq | exact S.cx.lendLe (by assumption) | exact S.cx.lendEq (by assumption) | exact S.cx.lendLe0 | exact S.cx.lendEq0 | exact S.cx.partLe (by assumption) | exact S.cx.partEq (by assumption) | exact .inl rfl | refine ⟨?_, ?_⟩))⟩ (fun v os hv => ?_)
  obtain ⟨n0, di, dh', hn0, hdi, rfl, rfl⟩ := hv
  refine ⟨rfl, ?_⟩; cbv
  refine Arith.go (by lia) (fun n hn => ?_); replace hn : n = 1 + n0 := hn; cbv
  obtain ⟨nn, hnn⟩ : ∃ k : Nat, k = n.toNat := ⟨_, rfl⟩
  refine ACall.valN (r := rSB A) (os := fun _ => []) (dp := false) S.cx (newSlots_c S n nn hnn (by omega)) ⟨rfl, (by repeat' (first | exact trivial | exact rfl | exact Nat.le_refl _ | exact S.cx.giveEq | exact S.cx.lendLe (by assumption) | exact S.cx.lendEq (by assumption) | exact S.cx.lendLe0 | exact S.cx.lendEq0 | exact S.cx.partLe (by assumption) | exact S.cx.partEq (by assumption) | exact .inl rfl | refine ⟨?_, ?_⟩)), (by repeat' (first | exact trivial | exact rfl | exact Nat.le_refl _ | exact S.cx.giveEq | exact S.cx.lendLe (by assumption) | exact S.cx.lendEq (by assumption) | exact S.cx.lendLe0 | exact S.cx.lendEq0 | exact S.cx.partLe (by assumption) | exact S.cx.partEq (by assumption) | exact .inl rfl | refine ⟨?_, ?_⟩))⟩ rfl (fun ln hln x hx => ⟨rfl, ?_⟩)
  obtain ⟨⟨ages0, used0⟩, ok0⟩ := x
  cbv
  have hN0 := hln cInt64 ages0
  generalize ln (A.enc cInt64 ages0) = N0 at hN0 ⊢
  have hM0 := hln cBool used0
  generalize ln (A.enc cBool used0) = M0 at hM0 ⊢
  have hz := HI.zero nn (by omega)
  simp only [Prod.mk.injEq] at hx
  obtain ⟨hx1, rfl⟩ := hx
  rw [show (⟨List.replicate nn 0, List.replicate nn false⟩ : Slots) = ⟨ages0, used0⟩ from hx1.symm] at hz
  cbv
  refine ALoop.pre (Less.initE S.cx cHandle 999000003 2 true (t := 7) rfl (by first | exact .inr rfl | exact .inl rfl) rfl) ?_
  cbv
  refine ALoop.pre (Less.initE S.cx cHandle 999000004 2 true (t := 8) rfl (by first | exact .inr rfl | exact .inl rfl) rfl) ?_
  cbv
  refine ALoop.goC (ι := HSt) (fun i => [(7, .ref false 999000003 0 i.hn), (8, .ref false 999000004 0 i.gn), (9, .int .i64 i.i)]) [28, 30, 31] [4010000, 6050000, 6010000, 6010001, 999000003, 999000004] (fun i => [(4010000, .box [.ro (A.enc cByte code), .int .i64 i.di, .int .u64 i.dh]), (6050000, .box [.ref false 6010000 0 i.an, .ref false 6010001 0 i.un]), (6010000, .arr 1 true (A.enc cInt64 i.ages)), (6010001, .arr 1 true (A.enc cBool i.used)), (999000003, .arr 2 true (A.enc cHandle i.held)), (999000004, .arr 2 true (A.enc cHandle i.gone))]) (fun i => i.ok nn) (fun i => (20 - i.i).toNat) (⟨ages0, used0, [], [], 0, di, dh', N0, M0, 0, 0, 0⟩) [29] S.cx.tab S.cx.mix S.eq ?_ ?_ ?_
  · exact ⟨⟨rfl, by dsimp only; decide⟩, hz, hdi, hN0, hM0, rfl, rfl, Nat.le_refl _⟩
  · (cbv; refine Less.to [] rfl rfl ?_ ?_ <;> repeat' (first | exact trivial | exact ⟨rfl, rfl⟩ | exact ⟨_, rfl, Nat.zero_le _, rfl⟩ | apply And.intro | exact rfl))
  rintro ⟨ages, used, held, gone, j0, ei, eh, an, un, hn, gn, k⟩ hk
  unfold HSt.ok at hk
  dsimp only at hk
  obtain ⟨⟨hik, hk20⟩, hhi, hei, han, hun, hhn, hgn, hgk⟩ := hk
  have hfew := few_held hhi
  refine Rnd.mk ?_; cbv
  refine Test.lss (fun h20 => ?_) (fun h20 => ?_) <;> cbv
  rotate_left
  · refine ACall.testD (dp := false) (implSlotsOk_c S ages used) ⟨rfl, (by repeat' (first | exact trivial | exact rfl | exact Nat.le_refl _ | exact S.cx.giveEq | exact S.cx.lendLe (by assumption) | exact S.cx.lendEq (by assumption) | exact S.cx.lendLe0 | exact S.cx.lendEq0 | exact S.cx.partLe (by assumption) | exact S.cx.partEq (by assumption) | exact .inl rfl | refine ⟨?_, ?_⟩)), (by repeat' (first | exact trivial | exact rfl | exact Nat.le_refl _ | exact S.cx.giveEq | exact S.cx.lendLe (by assumption) | exact S.cx.lendEq (by assumption) | exact S.cx.lendLe0 | exact S.cx.lendEq0 | exact S.cx.partLe (by assumption) | exact S.cx.partEq (by assumption) | exact .inl rfl | refine ⟨?_, ?_⟩))⟩ rfl (fun h1 => ?_) (fun h1 => ?_) <;> cbv
    · exact Done.to (.bool true) [] rfl rfl trivial ⟨rfl, rfl⟩
    · exact absurd hhi.1 h1
  refine ASeq.goS (ι := HSt) (fun i => [(7, .ref false 999000003 0 i.hn), (8, .ref false 999000004 0 i.gn)]) [] [4010000, 6050000, 6010000, 6010001, 999000003, 999000004] (fun i => [(4010000, .box [.ro (A.enc cByte code), .int .i64 i.di, .int .u64 i.dh]), (6050000, .box [.ref false 6010000 0 i.an, .ref false 6010001 0 i.un]), (6010000, .arr 1 true (A.enc cInt64 i.ages)), (6010001, .arr 1 true (A.enc cBool i.used)), (999000003, .arr 2 true (A.enc cHandle i.held)), (999000004, .arr 2 true (A.enc cHandle i.gone))]) (fun i => i.mid nn j0) [29] S.cx.tab S.cx.mix S.eq ?_ ?_
  · refine Rnd.mk ?_
    cbv
    refine ACall.of (dp := false) (below_c S code hbig hc ei eh hei 3 (by decide)) ⟨rfl, (by repeat' (first | exact trivial | exact rfl | exact Nat.le_refl _ | exact S.cx.giveEq | exact S.cx.lendLe (by assumption) | exact S.cx.lendEq (by assumption) | exact S.cx.lendLe0 | exact S.cx.lendEq0 | exact S.cx.partLe (by assumption) | exact S.cx.partEq (by assumption) | exact .inl rfl | refine ⟨?_, ?_⟩)), (by repeat' (first | exact trivial | exact rfl | exact Nat.le_refl _ | exact S.cx.giveEq | exact S.cx.lendLe (by assumption) | exact S.cx.lendEq (by assumption) | exact S.cx.lendLe0 | exact S.cx.lendEq0 | exact S.cx.partLe (by assumption) | exact S.cx.partEq (by assumption) | exact .inl rfl | refine ⟨?_, ?_⟩))⟩ (fun v os hv => ?_)
    clear hei
    obtain ⟨x, ei, eh, hx3, hei, rfl, rfl⟩ := hv
    refine ⟨rfl, ?_⟩; cbv
    refine Test.gtr (fun hx0 => ?_) (fun hx0 => ?_) <;> cbv
    · refine ACall.valN (r := rSHB A) (os := fun _ => []) (dp := false) S.cx (implTaken_c S ages used) ⟨rfl, (by repeat' (first | exact trivial | exact rfl | exact Nat.le_refl _ | exact S.cx.giveEq | exact S.cx.lendLe (by assumption) | exact S.cx.lendEq (by assumption) | exact S.cx.lendLe0 | exact S.cx.lendEq0 | exact S.cx.partLe (by assumption) | exact S.cx.partEq (by assumption) | exact .inl rfl | refine ⟨?_, ?_⟩)), (by repeat' (first | exact trivial | exact rfl | exact Nat.le_refl _ | exact S.cx.giveEq | exact S.cx.lendLe (by assumption) | exact S.cx.lendEq (by assumption) | exact S.cx.lendLe0 | exact S.cx.lendEq0 | exact S.cx.partLe (by assumption) | exact S.cx.partEq (by assumption) | exact .inl rfl | refine ⟨?_, ?_⟩))⟩ rfl (fun ln hln x hx => ⟨rfl, ?_⟩)
      obtain ⟨⟨ages1, used1⟩, ⟨sl, ag⟩, ok⟩ := x
      cbv
      have hN1 := hln cInt64 ages1
      generalize ln (A.enc cInt64 ages1) = N1 at hN1 ⊢
      have hM1 := hln cBool used1
      generalize ln (A.enc cBool used1) = M1 at hM1 ⊢
      rw [show Taken ⟨ages, used⟩ = Take ⟨ages, used⟩ from if_pos hhi.1] at hx
      have ht := hhi.take (by lia)
      rw [← hx] at ht
      dsimp only at ht
      refine Len.nat (fun m hm hml => ?_); cbv
      rcases ht with ⟨t1, t2, t3⟩ | ⟨t1, t2, t3⟩
      · subst t2
        cbv
        refine Test.lss (fun h1 => ?_) (fun h1 => ?_) <;> cbv
        rotate_left
        · exact absurd h1 (by lia)
        refine Part.one ?_; cbv
        refine AppRef.push S.cx (⟨sl, ag⟩ : Handle) (by assumption) rfl rfl plainHandle (fun _ => rfl) (by simp only [maxBytes]; omega) (fun m2 w hw hml2 => ?_); cbv
        refine Reach.on (⟨ages1, used1, w, gone, j0, ei, eh, N1, M1, m2, gn, k⟩ : HSt) ⟨⟨rfl, hik, by dsimp only; lia⟩, by dsimp only; rw [hw]; exact t3.next, hei, hN1, hM1, hml2, hgn, by dsimp only; omega⟩ ?_
        (cbv; refine Less.to [(6010000, (15010000, 0)), (6010001, (15010001, 0)), (999000003, (19030000, 0))] rfl rfl ?_ ?_ <;> repeat' (first | exact trivial | exact ⟨rfl, rfl⟩ | exact ⟨_, rfl, Nat.zero_le _, rfl⟩ | apply And.intro | exact rfl))
      · subst t2
        cbv
        refine Test.lss (fun h1 => ?_) (fun h1 => ?_) <;> cbv
        · exact absurd h1 (by lia)
        injection t3 with t4 t5
        refine Reach.on (⟨ages1, used1, held, gone, j0, ei, eh, N1, M1, hn, gn, k⟩ : HSt) ⟨⟨rfl, hik, by dsimp only; lia⟩, by dsimp only; rw [t4, t5]; exact hhi.next, hei, hN1, hM1, hhn, hgn, by dsimp only; omega⟩ ?_
        (cbv; refine Less.to [(6010000, (15010000, 0)), (6010001, (15010001, 0))] rfl rfl ?_ ?_ <;> repeat' (first | exact trivial | exact ⟨rfl, rfl⟩ | exact ⟨_, rfl, Nat.zero_le _, rfl⟩ | apply And.intro | exact rfl))
    refine Len.nat (fun m hm hml => ?_); cbv
    refine Test.eql (fun hm0 => ?_) (fun hm0 => ?_) <;> cbv
    · refine ACall.valN (r := rSHB A) (os := fun _ => []) (dp := false) S.cx (implTaken_c S ages used) ⟨rfl, (by repeat' (first | exact trivial | exact rfl | exact Nat.le_refl _ | exact S.cx.giveEq | exact S.cx.lendLe (by assumption) | exact S.cx.lendEq (by assumption) | exact S.cx.lendLe0 | exact S.cx.lendEq0 | exact S.cx.partLe (by assumption) | exact S.cx.partEq (by assumption) | exact .inl rfl | refine ⟨?_, ?_⟩)), (by repeat' (first | exact trivial | exact rfl | exact Nat.le_refl _ | exact S.cx.giveEq | exact S.cx.lendLe (by assumption) | exact S.cx.lendEq (by assumption) | exact S.cx.lendLe0 | exact S.cx.lendEq0 | exact S.cx.partLe (by assumption) | exact S.cx.partEq (by assumption) | exact .inl rfl | refine ⟨?_, ?_⟩))⟩ rfl (fun ln hln x hx => ⟨rfl, ?_⟩)
      obtain ⟨⟨ages1, used1⟩, ⟨sl, ag⟩, ok⟩ := x
      cbv
      have hN1 := hln cInt64 ages1
      generalize ln (A.enc cInt64 ages1) = N1 at hN1 ⊢
      have hM1 := hln cBool used1
      generalize ln (A.enc cBool used1) = M1 at hM1 ⊢
      rw [show Taken ⟨ages, used⟩ = Take ⟨ages, used⟩ from if_pos hhi.1] at hx
      have ht := hhi.take (by lia)
      rw [← hx] at ht
      dsimp only at ht
      refine Len.nat (fun m2 hm2 hml2 => ?_); cbv
      rcases ht with ⟨t1, t2, t3⟩ | ⟨t1, t2, t3⟩
      · subst t2
        cbv
        refine Test.lss (fun h1 => ?_) (fun h1 => ?_) <;> cbv
        rotate_left
        · exact absurd h1 (by lia)
        refine Part.one ?_; cbv
        refine AppRef.push S.cx (⟨sl, ag⟩ : Handle) (by assumption) rfl rfl plainHandle (fun _ => rfl) (by simp only [maxBytes]; omega) (fun m3 w hw hml3 => ?_); cbv
        refine Reach.on (⟨ages1, used1, w, gone, j0, ei, eh, N1, M1, m3, gn, k⟩ : HSt) ⟨⟨rfl, hik, by dsimp only; lia⟩, by dsimp only; rw [hw]; exact t3.next, hei, hN1, hM1, hml3, hgn, by dsimp only; omega⟩ ?_
        (cbv; refine Less.to [(6010000, (15010000, 0)), (6010001, (15010001, 0)), (999000003, (19030000, 0))] rfl rfl ?_ ?_ <;> repeat' (first | exact trivial | exact ⟨rfl, rfl⟩ | exact ⟨_, rfl, Nat.zero_le _, rfl⟩ | apply And.intro | exact rfl))
      · subst t2
        cbv
        refine Test.lss (fun h1 => ?_) (fun h1 => ?_) <;> cbv
        · exact absurd h1 (by lia)
        injection t3 with t4 t5
        refine Reach.on (⟨ages1, used1, held, gone, j0, ei, eh, N1, M1, hn, gn, k⟩ : HSt) ⟨⟨rfl, hik, by dsimp only; lia⟩, by dsimp only; rw [t4, t5]; exact hhi.next, hei, hN1, hM1, hhn, hgn, by dsimp only; omega⟩ ?_
        (cbv; refine Less.to [(6010000, (15010000, 0)), (6010001, (15010001, 0))] rfl rfl ?_ ?_ <;> repeat' (first | exact trivial | exact ⟨rfl, rfl⟩ | exact ⟨_, rfl, Nat.zero_le _, rfl⟩ | apply And.intro | exact rfl))
    refine Len.nat (fun m hm hml => ?_); cbv
    refine ACall.of (dp := false) (below_c S code hbig hc ei eh hei m (by lia)) ⟨rfl, (by repeat' (first | exact trivial | exact rfl | exact Nat.le_refl _ | exact S.cx.giveEq | exact S.cx.lendLe (by assumption) | exact S.cx.lendEq (by assumption) | exact S.cx.lendLe0 | exact S.cx.lendEq0 | exact S.cx.partLe (by assumption) | exact S.cx.partEq (by assumption) | exact .inl rfl | refine ⟨?_, ?_⟩)), (by repeat' (first | exact trivial | exact rfl | exact Nat.le_refl _ | exact S.cx.giveEq | exact S.cx.lendLe (by assumption) | exact S.cx.lendEq (by assumption) | exact S.cx.lendLe0 | exact S.cx.lendEq0 | exact S.cx.partLe (by assumption) | exact S.cx.partEq (by assumption) | exact .inl rfl | refine ⟨?_, ?_⟩))⟩ (fun v os hv => ?_)
    clear hei
    obtain ⟨kk, ei, eh, hkk, hei, rfl, rfl⟩ := hv
    refine ⟨rfl, ?_⟩; cbv
    try (refine Drawn.mk ⟨by kernel_rfl, fun _ => ?_⟩)
    refine ElemRef.go rfl (by lia) (by lia) (by rw [S.cx.lenE']; lia) (fun row hrow => ?_); cbv
    refine Row.enc S.cx (by lia) (fun x hx => ?_)
    obtain ⟨sl, ag⟩ := x
    have hk1 : held[kk.toNat]? = some ⟨sl, ag⟩ := by rw [← hx]; congr 1; omega
    obtain ⟨d1, d2, d3, d4⟩ := hhi.drop (by lia) hk1
    cbv
    refine ACall.valN (r := rSB A) (os := fun _ => []) (dp := false) S.cx (implDropped_c S ages used sl ag) ⟨rfl, (by repeat' (first | exact trivial | exact rfl | exact Nat.le_refl _ | exact S.cx.giveEq | exact S.cx.lendLe (by assumption) | exact S.cx.lendEq (by assumption) | exact S.cx.lendLe0 | exact S.cx.lendEq0 | exact S.cx.partLe (by assumption) | exact S.cx.partEq (by assumption) | exact .inl rfl | refine ⟨?_, ?_⟩)), (by repeat' (first | exact trivial | exact rfl | exact Nat.le_refl _ | exact S.cx.giveEq | exact S.cx.lendLe (by assumption) | exact S.cx.lendEq (by assumption) | exact S.cx.lendLe0 | exact S.cx.lendEq0 | exact S.cx.partLe (by assumption) | exact S.cx.partEq (by assumption) | exact .inl rfl | refine ⟨?_, ?_⟩))⟩ rfl (fun ln hln x hx => ⟨rfl, ?_⟩)
    obtain ⟨⟨ages1, used1⟩, ok⟩ := x
    cbv
    have hN1 := hln cInt64 ages1
    generalize ln (A.enc cInt64 ages1) = N1 at hN1 ⊢
    have hM1 := hln cBool used1
    generalize ln (A.enc cBool used1) = M1 at hM1 ⊢
    rw [show Dropped ⟨ages, used⟩ ⟨sl, ag⟩ = Drop ⟨ages, used⟩ ⟨sl, ag⟩ from if_pos hhi.1] at hx
    rw [← hx] at d1 d2 d3 d4
    dsimp only at d1 d2 d3 d4
    try (refine Drawn.mk ⟨by kernel_rfl, fun _ => ?_⟩)
    refine ElemRef.go rfl (by lia) (by lia) (by rw [S.cx.lenE']; lia) (fun row2 hrow2 => ?_); cbv
    refine Row.enc S.cx (by lia) (fun x2 hx2 => ?_)
    obtain rfl : x2 = ⟨sl, ag⟩ := by rw [show row2 = kk.toNat by omega, hk1] at hx2; exact (Option.some.inj hx2).symm
    cbv
    refine ACall.valN (r := rSB A) (os := fun _ => []) (dp := false) S.cx (implDropped_c S ages1 used1 sl ag) ⟨rfl, (by repeat' (first | exact trivial | exact rfl | exact Nat.le_refl _ | exact S.cx.giveEq | exact S.cx.lendLe (by assumption) | exact S.cx.lendEq (by assumption) | exact S.cx.lendLe0 | exact S.cx.lendEq0 | exact S.cx.partLe (by assumption) | exact S.cx.partEq (by assumption) | exact .inl rfl | refine ⟨?_, ?_⟩)), (by repeat' (first | exact trivial | exact rfl | exact Nat.le_refl _ | exact S.cx.giveEq | exact S.cx.lendLe (by assumption) | exact S.cx.lendEq (by assumption) | exact S.cx.lendLe0 | exact S.cx.lendEq0 | exact S.cx.partLe (by assumption) | exact S.cx.partEq (by assumption) | exact .inl rfl | refine ⟨?_, ?_⟩))⟩ rfl (fun ln hln x hx => ⟨rfl, ?_⟩)
    obtain ⟨⟨ages2, used2⟩, ok2⟩ := x
    cbv
    have hN2 := hln cInt64 ages2
    generalize ln (A.enc cInt64 ages2) = N2 at hN2 ⊢
    have hM2 := hln cBool used2
    generalize ln (A.enc cBool used2) = M2 at hM2 ⊢
    rw [show Dropped ⟨ages1, used1⟩ ⟨sl, ag⟩ = Drop ⟨ages1, used1⟩ ⟨sl, ag⟩ from if_pos d2] at hx
    rw [← hx] at d3
    dsimp only at d3
    subst d1 d3
    cbv
    refine ElemRef.go rfl (by lia) (by lia) (by rw [S.cx.lenE']; lia) (fun row3 hrow3 => ?_); cbv
    refine Row.enc S.cx (by lia) (fun x3 hx3 => ?_)
    obtain rfl : x3 = ⟨sl, ag⟩ := by rw [show row3 = kk.toNat by omega, hk1] at hx3; exact (Option.some.inj hx3).symm
    cbv
    refine Part.one ?_; cbv
    refine AppRef.push S.cx (⟨sl, ag⟩ : Handle) (by assumption) rfl rfl plainHandle (fun _ => rfl) (by simp only [maxBytes]; omega) (fun m2 w hw hml2 => ?_); cbv
    try (refine Drawn.mk ⟨by kernel_rfl, fun _ => ?_⟩)
    refine CutRef.go rfl (by lia) (by lia) (by lia) (by rw [S.cx.lenE']; lia) (fun p2 off2 len2 hoff2 hlen2 => ?_); cbv
    refine Part.enc S.cx (by lia) (fun m3 hm3 => ?_); cbv
    have hml3 : m3.length = kk.toNat := by rw [hm3]; simp; lia
    refine AppNew.enc S.cx plainHandle (.inr (.inr trivial)) (fun _ => rfl) (by simp only [maxBytes]; omega) (fun n3 hn3 => ?_); cbv
    refine Arith.go (by lia) (fun r1 hr1 => ?_); replace hr1 : r1 = kk + 1 := hr1; cbv
    refine CutRef.go rfl (by lia) (by lia) (by lia) (by rw [S.cx.lenE']; lia) (fun p4 off4 len4 hoff4 hlen4 => ?_); cbv
    refine Part.enc S.cx (by lia) (fun m4 hm4 => ?_); cbv
    have hml4 : m4.length = held.length - r1.toNat := by rw [hm4]; simp; lia
    refine AppRef.pushAll S.cx hn3 rfl plainHandle (fun _ => rfl) (by simp only [maxBytes]; omega) (fun n5 l5 hl5 hn5 => ?_); cbv
    have hl5e : l5 = held.eraseIdx kk.toNat := by
      rw [List.eraseIdx_eq_take_drop_succ, hl5, hm3, hm4, show off2 = 0 by lia, show len2 = kk.toNat by lia, show off4 = kk.toNat + 1 by lia]
      congr 1
      exact List.take_of_length_le (by simp; lia)
    refine Reach.on (⟨ages1, used1, l5, w, j0, ei, eh, N1, M1, n5, m2, k⟩ : HSt) ⟨⟨rfl, hik, by dsimp only; lia⟩, by dsimp only; rw [hl5e, hw]; exact d4, hei, hN1, hM1, hn5, hml2, by dsimp only; rw [hw, List.length_append]; simp; omega⟩ ?_
    (cbv; refine Less.to [(6010000, (22050000, 0)), (6010001, (22050001, 0)), (999000004, (26060000, 0)), (999000003, (27090000, 0))] rfl rfl ?_ ?_ <;> repeat' (first | exact trivial | exact ⟨rfl, rfl⟩ | exact ⟨_, rfl, Nat.zero_le _, rfl⟩ | apply And.intro | exact rfl))
  rintro ⟨ages, used, held, gone, i1, ei, eh, an, un, hn, gn, k⟩ hk
  unfold HSt.mid at hk
  dsimp only at hk
  obtain ⟨⟨rfl, hik, hk20⟩, hhi, hei, han, hun, hhn, hgn, hgk⟩ := hk
  have hfew := few_held hhi
  refine Rnd.mk ?_
  cbv
  refine ACall.num (dp := false) (implUsedIn_c S ages used hhi.1) ⟨rfl, (by repeat' (first | exact trivial | exact rfl | exact Nat.le_refl _ | exact S.cx.giveEq | exact S.cx.lendLe (by assumption) | exact S.cx.lendEq (by assumption) | exact S.cx.lendLe0 | exact S.cx.lendEq0 | exact S.cx.partLe (by assumption) | exact S.cx.partEq (by assumption) | exact .inl rfl | refine ⟨?_, ?_⟩)), (by repeat' (first | exact trivial | exact rfl | exact Nat.le_refl _ | exact S.cx.giveEq | exact S.cx.lendLe (by assumption) | exact S.cx.lendEq (by assumption) | exact S.cx.lendLe0 | exact S.cx.lendEq0 | exact S.cx.partLe (by assumption) | exact S.cx.partEq (by assumption) | exact .inl rfl | refine ⟨?_, ?_⟩))⟩ (fun u hu => ?_); cbv
  have huh := hhi.2.2.2.2.2.1
  dsimp only at huh
  refine Len.nat (fun m hm hml => ?_); cbv
  refine Test.neq (fun h1 => ?_) (fun h1 => ?_) <;> cbv
  · exact absurd (by lia) h1
  refine ALoop.goS (ι := Int) (fun i => [(18, .int .i64 i)]) [] (fun i => []) (fun i => 0 ≤ i) (fun i => (held.length - i).toNat) (0) S.cx.tab S.cx.mix S.eq ?_ ?_ ?_
  · exact Int.le_refl _
  · (cbv; refine Less.to [] rfl rfl ?_ ?_ <;> repeat' (first | exact trivial | exact ⟨rfl, rfl⟩ | exact ⟨_, rfl, Nat.zero_le _, rfl⟩ | apply And.intro | exact rfl))
  intro a ha0
  replace ha0 : 0 ≤ a := ha0
  refine Rnd.mk ?_; cbv
  refine Len.nat (fun m2 hm2 hml2 => ?_); cbv
  refine Test.lss (fun h2 => ?_) (fun h2 => ?_) <;> cbv
  · try (refine Drawn.mk ⟨by kernel_rfl, fun _ => ?_⟩)
    refine ElemRef.go rfl (by lia) (by lia) (by rw [S.cx.lenE']; lia) (fun row hrow => ?_); cbv
    refine Row.enc S.cx (by lia) (fun x hx => ?_)
    obtain ⟨sl, ag⟩ := x
    cbv
    refine ACall.testD (dp := false) (implHolds_c S ages used sl ag) ⟨rfl, (by repeat' (first | exact trivial | exact rfl | exact Nat.le_refl _ | exact S.cx.giveEq | exact S.cx.lendLe (by assumption) | exact S.cx.lendEq (by assumption) | exact S.cx.lendLe0 | exact S.cx.lendEq0 | exact S.cx.partLe (by assumption) | exact S.cx.partEq (by assumption) | exact .inl rfl | refine ⟨?_, ?_⟩)), (by repeat' (first | exact trivial | exact rfl | exact Nat.le_refl _ | exact S.cx.giveEq | exact S.cx.lendLe (by assumption) | exact S.cx.lendEq (by assumption) | exact S.cx.lendLe0 | exact S.cx.lendEq0 | exact S.cx.partLe (by assumption) | exact S.cx.partEq (by assumption) | exact .inl rfl | refine ⟨?_, ?_⟩))⟩ rfl (fun h3 => ?_) (fun h3 => ?_) <;> cbv
    rotate_left
    · exact absurd ⟨hhi.1, hhi.2.2.2.2.1 _ (List.mem_of_getElem? hx)⟩ h3
    refine ALoop.goS (ι := Int) (fun i => [(19, .int .i64 i)]) [] (fun i => []) (fun i => 0 ≤ i) (fun i => (a - i).toNat) (0) S.cx.tab S.cx.mix S.eq ?_ ?_ ?_
    · exact Int.le_refl _
    · (cbv; refine Less.to [] rfl rfl ?_ ?_ <;> repeat' (first | exact trivial | exact ⟨rfl, rfl⟩ | exact ⟨_, rfl, Nat.zero_le _, rfl⟩ | apply And.intro | exact rfl))
    intro b hb0
    replace hb0 : 0 ≤ b := hb0
    refine Rnd.mk ?_; cbv
    refine Test.lss (fun h4 => ?_) (fun h4 => ?_) <;> cbv
    · try (refine Drawn.mk ⟨by kernel_rfl, fun _ => ?_⟩)
      refine ElemRef.go rfl (by lia) (by lia) (by rw [S.cx.lenE']; lia) (fun row2 hrow2 => ?_); cbv
      refine Row.enc S.cx (by lia) (fun y hy => ?_)
      obtain ⟨sl2, ag2⟩ := y
      cbv
      refine ElemRef.go rfl (by lia) (by lia) (by rw [S.cx.lenE']; lia) (fun row3 hrow3 => ?_); cbv
      refine Row.enc S.cx (by lia) (fun z hz => ?_)
      obtain rfl : z = ⟨sl, ag⟩ := by rw [show row3 = row by omega, hx] at hz; exact (Option.some.inj hz).symm
      cbv
      refine Test.eql (fun h5 => ?_) (fun h5 => ?_) <;> cbv
      · exfalso
        have hl2 := (List.getElem?_eq_some_iff.1 hy)
        have hl1 := (List.getElem?_eq_some_iff.1 hx)
        obtain ⟨g2, e2⟩ := hl2
        obtain ⟨g1, e1⟩ := hl1
        refine List.pairwise_iff_getElem.1 hhi.2.2.2.1 row2 row (by simpa using g2) (by simpa using g1) (by lia) ?_
        rw [List.getElem_map, List.getElem_map, e1, e2]
        exact h5
      · refine Arith.go (by lia) (fun b' hb' => ?_); cbv
        replace hb' : b' = b + 1 := hb'
        refine Again.on b' (by lia) (by show (0 : Int) ≤ b'; omega) ?_
        (cbv; refine Less.to [] rfl rfl ?_ ?_ <;> repeat' (first | exact trivial | exact ⟨rfl, rfl⟩ | exact ⟨_, rfl, Nat.zero_le _, rfl⟩ | apply And.intro | exact rfl))
    · refine Arith.go (by lia) (fun a' ha' => ?_); cbv
      replace ha' : a' = a + 1 := ha'
      refine Again.on a' (by lia) (by show (0 : Int) ≤ a'; omega) ?_
      (cbv; refine Less.to [] rfl rfl ?_ ?_ <;> repeat' (first | exact trivial | exact ⟨rfl, rfl⟩ | exact ⟨_, rfl, Nat.zero_le _, rfl⟩ | apply And.intro | exact rfl))
  refine ALoop.goS (ι := Int) (fun i => [(20, .int .i64 i)]) [] (fun i => []) (fun i => 0 ≤ i) (fun i => (gone.length - i).toNat) (0) S.cx.tab S.cx.mix S.eq ?_ ?_ ?_
  · exact Int.le_refl _
  · (cbv; refine Less.to [] rfl rfl ?_ ?_ <;> repeat' (first | exact trivial | exact ⟨rfl, rfl⟩ | exact ⟨_, rfl, Nat.zero_le _, rfl⟩ | apply And.intro | exact rfl))
  intro c hc0
  replace hc0 : 0 ≤ c := hc0
  refine Rnd.mk ?_; cbv
  refine Len.nat (fun m3 hm3 hml3 => ?_); cbv
  refine Test.lss (fun h6 => ?_) (fun h6 => ?_) <;> cbv
  · try (refine Drawn.mk ⟨by kernel_rfl, fun _ => ?_⟩)
    refine ElemRef.go rfl (by lia) (by lia) (by rw [S.cx.lenE']; lia) (fun row hrow => ?_); cbv
    refine Row.enc S.cx (by lia) (fun x hx => ?_)
    obtain ⟨sl, ag⟩ := x
    cbv
    refine ACall.testD (dp := false) (implHolds_c S ages used sl ag) ⟨rfl, (by repeat' (first | exact trivial | exact rfl | exact Nat.le_refl _ | exact S.cx.giveEq | exact S.cx.lendLe (by assumption) | exact S.cx.lendEq (by assumption) | exact S.cx.lendLe0 | exact S.cx.lendEq0 | exact S.cx.partLe (by assumption) | exact S.cx.partEq (by assumption) | exact .inl rfl | refine ⟨?_, ?_⟩)), (by repeat' (first | exact trivial | exact rfl | exact Nat.le_refl _ | exact S.cx.giveEq | exact S.cx.lendLe (by assumption) | exact S.cx.lendEq (by assumption) | exact S.cx.lendLe0 | exact S.cx.lendEq0 | exact S.cx.partLe (by assumption) | exact S.cx.partEq (by assumption) | exact .inl rfl | refine ⟨?_, ?_⟩))⟩ rfl (fun h7 => ?_) (fun h7 => ?_) <;> cbv
    · exact absurd h7.2 (hhi.gone (List.mem_of_getElem? hx))
    refine Arith.go (by lia) (fun c' hc' => ?_); cbv
    replace hc' : c' = c + 1 := hc'
    refine Again.on c' (by lia) (by show (0 : Int) ≤ c'; omega) ?_
    (cbv; refine Less.to [] rfl rfl ?_ ?_ <;> repeat' (first | exact trivial | exact ⟨rfl, rfl⟩ | exact ⟨_, rfl, Nat.zero_le _, rfl⟩ | apply And.intro | exact rfl))
  refine Arith.go (by lia) (fun i' hi' => ?_); cbv
  replace hi' : i' = i1 + 1 := hi'
  refine Again.on (⟨ages, used, held, gone, i', ei, eh, an, un, hn, gn, k + 1⟩ : HSt) (by dsimp only; lia) ⟨⟨by dsimp only; lia, by dsimp only; lia⟩, hhi, hei, han, hun, hhn, hgn, hgk⟩ ?_
  (cbv; refine Less.to [] rfl rfl ?_ ?_ <;> repeat' (first | exact trivial | exact ⟨rfl, rfl⟩ | exact ⟨_, rfl, Nat.zero_le _, rfl⟩ | apply And.intro | exact rfl))

end Go.Proofs.Ytmpbmfhlkhonkaa.AM
