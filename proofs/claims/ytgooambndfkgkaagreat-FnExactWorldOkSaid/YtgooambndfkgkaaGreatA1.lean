/- Contracts: deferred functions: valid ones. (printed by ga1.py) -/
import Derived.Test.YtgooambndfkgkaaGreatQ2
import Derived.Test.YtgooambndfkgkaaGreatBC
namespace Go.Proofs.YtgooambndfkgkaaGreat.AM
open Go Go.Proofs

set_option maxRecDepth 100000
set_option maxHeartbeats 4000000
set_option linter.unusedVariables false
set_option linter.unusedSimpArgs false

variable {P : Program} {A : Sy}

theorem plainAfter : Plain cAfter := fun _ => rfl
def rAfter (A : Sy) (l : List After) : AV := .own 5 true (A.enc cAfter l)

theorem sizeAfter_c (S : Se P A) (l : List After) : Nums P 147 [.ro (A.enc cAfter l)] (fun n => 0 ≤ n ∧ n.toNat = l.length) := by
  refine S.cx.by (S.prog ▸ Tryz.func147) rfl rfl rfl rfl (fun hv ho => ?_)
  cbv
  refine LenR.nat S.cx (fun N hN hm => ?_); cbv
  exact Done.num hN

theorem indexFuncAfter1_c (S : Se P A) (F : FuncId) (c1 : List AV) (q : After → Prop) (hF : ∀ x : After, Tests P F [.agg (cAfter x), .rptr c1] (q x)) (l : List After) : Nums P 243 [.ro (A.enc cAfter l), .fn F [] [.rptr c1]] (fun r => 0 ≤ r ∧ (∃ x, l[r.toNat]? = some x ∧ q x) ∧ Upto (fun _ x => ¬ q x) l r ∨ r = -1 ∧ ∀ x ∈ l, ¬ q x) := by
  refine S.cx.by (S.prog ▸ Tryz.func243) rfl rfl rfl rfl (fun hv ho => ?_)
  cbv
  refine LenR.nat S.cx (fun N hN hm => ?_); cbv
  refine ALoop.goD (ι := Int) (fun i => [(8, .int .i64 i)]) [] (fun i => []) (fun i => 0 ≤ i ∧ Upto (fun _ x => ¬ q x) l i) (fun i => (l.length - i).toNat) (0) S.cx.tab S.cx.mix S.eq ?_ ?_ ?_
  · exact ⟨Int.le_refl _, .zero⟩
  · (cbv; refine Less.to [] rfl rfl ?_ ?_ <;> repeat' (first | exact trivial | exact ⟨rfl, rfl⟩ | exact ⟨_, rfl, Nat.zero_le _, rfl⟩ | apply And.intro | exact rfl))
  · rintro i ⟨h0, hu⟩
    cbv
    refine Test.lss (fun h => ?_) (fun h => ?_) <;> cbv
    · refine ElemRo.enc S.cx (fun _ => rfl) (by lia) (by lia) (fun x hx => ?_); cbv
      refine ACall.testX (dp := false) (hF x) ⟨rfl, (by repeat' (first | exact trivial | exact rfl | exact Nat.le_refl _ | exact S.cx.giveEq | exact S.cx.lendLe (by assumption) | exact S.cx.lendEq (by assumption) | exact S.cx.lendLe0 | exact S.cx.lendEq0 | exact S.cx.partLe (by assumption) | exact S.cx.partEq (by assumption) | exact S.cx.enc _ [] | exact .inl rfl | refine ⟨?_, ?_⟩)), (by repeat' (first | exact trivial | exact rfl | exact Nat.le_refl _ | exact S.cx.giveEq | exact S.cx.lendLe (by assumption) | exact S.cx.lendEq (by assumption) | exact S.cx.lendLe0 | exact S.cx.lendEq0 | exact S.cx.partLe (by assumption) | exact S.cx.partEq (by assumption) | exact S.cx.enc _ [] | exact .inl rfl | refine ⟨?_, ?_⟩))⟩ rfl (fun h2 => ?_) (fun h2 => ?_) <;> cbv
      · exact Done.num (.inl ⟨h0, ⟨x, hx, h2⟩, hu⟩)
      · refine Arith.go (by lia) (fun i' hi' => ?_); cbv
        refine Again.on i' (by lia) ⟨by lia, hu.next h0 hx h2 hi'⟩ ?_
        (cbv; refine Less.to [] rfl rfl ?_ ?_ <;> repeat' (first | exact trivial | exact ⟨rfl, rfl⟩ | exact ⟨_, rfl, Nat.zero_le _, rfl⟩ | apply And.intro | exact rfl))
    · exact Done.num (.inr ⟨rfl, hu.mem (by lia)⟩)

theorem SEq.go {us vs : List AV} {K : Bool → Prop} (h1 : us = vs → K true) (h2 : ¬ us = vs → K false) : SEq us vs K :=
  ⟨fun b hb => by
    cases b with
    | true => exact h1 (hb.1 rfl)
    | false => exact h2 fun e => by cases hb.2 e⟩

theorem SoundM.known {f : FuncId} {args : List AV} {p : Int → Prop} {e : Int} (h : Nums P f args p) (hu : ∀ n, p n → n = e) : Is1 P f args (.int .i64 e) :=
  h.mono fun v os ⟨⟨n, hn, hv⟩, ho⟩ => ⟨by rw [← hu n hn]; exact hv, ho⟩

/-- How many slots are used. -/
def usedN (l : List Bool) : Nat := (l.filter id).length

theorem usedN_next {l : List Bool} {i i' : Int} {b : Bool} (h0 : 0 ≤ i) (hb : l[i.toNat]? = some b) (hi : i' = i + 1) : usedN (l.take i'.toNat) = usedN (l.take i.toNat) + (if b then 1 else 0) := by
  rw [show i'.toNat = i.toNat + 1 by omega, take_next hb, usedN, List.filter_append]
  cases b <;> simp [usedN]

theorem usedN_le (l : List Bool) : usedN l ≤ l.length := List.length_filter_le _ _

theorem used_c (S : Se P A) (ages : List Int) (used : List Bool) : Nums P 60 [.agg (roSlots A ⟨ages, used⟩)] (fun n => 0 ≤ n ∧ n.toNat = usedN used) := by
  refine S.cx.by (S.prog ▸ Tryz.func60) rfl rfl rfl rfl (fun hv ho => ?_)
  cbv
  refine LenR.nat S.cx (fun N hN hm => ?_); cbv
  refine ALoop.goD (ι := Int × Int) (fun i => [(9, .int .i64 i.1), (3, .int .i64 i.2)]) [] (fun i => []) (fun i => 0 ≤ i.1 ∧ (0 ≤ i.2 ∧ i.2 ≤ i.1) ∧ i.2.toNat = usedN (used.take i.1.toNat)) (fun i => (used.length - i.1).toNat) (0, 0) S.cx.tab S.cx.mix S.eq ?_ ?_ ?_
  · exact ⟨Int.le_refl _, ⟨Int.le_refl _, Int.le_refl _⟩, by simp [usedN]⟩
  · (cbv; refine Less.to [] rfl rfl ?_ ?_ <;> repeat' (first | exact trivial | exact ⟨rfl, rfl⟩ | exact ⟨_, rfl, Nat.zero_le _, rfl⟩ | apply And.intro | exact rfl))
  rintro ⟨i, k⟩ ⟨h0, ⟨hk0, hk1⟩, hk⟩
  dsimp only at h0 hk0 hk1 hk
  cbv
  refine Test.lss (fun h => ?_) (fun h => ?_) <;> cbv
  · refine ElemRo.enc S.cx (fun _ => rfl) h0 (by lia) (fun b hb => ?_); cbv
    cases b <;> cbv
    · refine Arith.go (by lia) (fun i' hi' => ?_); cbv
      refine Again.on (i', k) (by dsimp only; lia) ⟨by dsimp only; lia, ⟨hk0, by dsimp only; lia⟩, by dsimp only; rw [usedN_next h0 hb hi']; simpa using hk⟩ ?_
      (cbv; refine Less.to [] rfl rfl ?_ ?_ <;> repeat' (first | exact trivial | exact ⟨rfl, rfl⟩ | exact ⟨_, rfl, Nat.zero_le _, rfl⟩ | apply And.intro | exact rfl))
    · refine Arith.go (by lia) (fun k' hk' => ?_); replace hk' : k' = k + 1 := hk'; cbv
      refine Arith.go (by lia) (fun i' hi' => ?_); cbv
      refine Again.on (i', k') (by dsimp only; lia) ⟨by dsimp only; lia, ⟨by dsimp only; lia, by dsimp only; lia⟩, by dsimp only; rw [usedN_next h0 hb hi', ← hk]; simp; omega⟩ ?_
      (cbv; refine Less.to [] rfl rfl ?_ ?_ <;> repeat' (first | exact trivial | exact ⟨rfl, rfl⟩ | exact ⟨_, rfl, Nat.zero_le _, rfl⟩ | apply And.intro | exact rfl))
  · exact Done.num ⟨hk0, by rw [hk, take_all (by lia)]⟩

theorem usedIn_c (S : Se P A) (ages : List Int) (used : List Bool) (hok : SlotsOk ⟨ages, used⟩) : Nums P 268 [.agg (roSlots A ⟨ages, used⟩)] (fun n => 0 ≤ n ∧ n.toNat = usedN used) := by
  refine S.cx.by (S.prog ▸ Tryz.func268) rfl rfl rfl rfl (fun hv ho => ?_)
  cbv
  refine ACall.testD (dp := false) (specSlotsOk_c S ages used) ⟨rfl, (by repeat' (first | exact trivial | exact rfl | exact Nat.le_refl _ | exact S.cx.giveEq | exact S.cx.lendLe (by assumption) | exact S.cx.lendEq (by assumption) | exact S.cx.lendLe0 | exact S.cx.lendEq0 | exact S.cx.partLe (by assumption) | exact S.cx.partEq (by assumption) | exact S.cx.enc _ [] | exact .inl rfl | refine ⟨?_, ?_⟩)), (by repeat' (first | exact trivial | exact rfl | exact Nat.le_refl _ | exact S.cx.giveEq | exact S.cx.lendLe (by assumption) | exact S.cx.lendEq (by assumption) | exact S.cx.lendLe0 | exact S.cx.lendEq0 | exact S.cx.partLe (by assumption) | exact S.cx.partEq (by assumption) | exact S.cx.enc _ [] | exact .inl rfl | refine ⟨?_, ?_⟩))⟩ rfl (fun hh => ?_) (fun hh => ?_) <;> cbv
  rotate_left
  · exact absurd hok hh
  refine ALoop.goD (ι := Int × Int) (fun i => [(4, .int .i64 i.1), (3, .int .i64 i.2)]) [] (fun i => []) (fun i => 0 ≤ i.1 ∧ (0 ≤ i.2 ∧ i.2 ≤ i.1) ∧ i.2.toNat = usedN (used.take i.1.toNat)) (fun i => (used.length - i.1).toNat) (0, 0) S.cx.tab S.cx.mix S.eq ?_ ?_ ?_
  · exact ⟨Int.le_refl _, ⟨Int.le_refl _, Int.le_refl _⟩, by simp [usedN]⟩
  · (cbv; refine Less.to [] rfl rfl ?_ ?_ <;> repeat' (first | exact trivial | exact ⟨rfl, rfl⟩ | exact ⟨_, rfl, Nat.zero_le _, rfl⟩ | apply And.intro | exact rfl))
  rintro ⟨i, k⟩ ⟨h0, ⟨hk0, hk1⟩, hk⟩
  dsimp only at h0 hk0 hk1 hk
  cbv
  refine LenR.nat S.cx (fun N hN hm => ?_); cbv
  refine Test.lss (fun h => ?_) (fun h => ?_) <;> cbv
  · refine ElemRo.enc S.cx (fun _ => rfl) h0 (by lia) (fun b hb => ?_); cbv
    cases b <;> cbv
    · refine Arith.go (by lia) (fun i' hi' => ?_); cbv
      refine Again.on (i', k) (by dsimp only; lia) ⟨by dsimp only; lia, ⟨hk0, by dsimp only; lia⟩, by dsimp only; rw [usedN_next h0 hb hi']; simpa using hk⟩ ?_
      (cbv; refine Less.to [] rfl rfl ?_ ?_ <;> repeat' (first | exact trivial | exact ⟨rfl, rfl⟩ | exact ⟨_, rfl, Nat.zero_le _, rfl⟩ | apply And.intro | exact rfl))
    · refine Arith.go (by lia) (fun k' hk' => ?_); replace hk' : k' = k + 1 := hk'; cbv
      refine Arith.go (by lia) (fun i' hi' => ?_); cbv
      refine Again.on (i', k') (by dsimp only; lia) ⟨by dsimp only; lia, ⟨by dsimp only; lia, by dsimp only; lia⟩, by dsimp only; rw [usedN_next h0 hb hi', ← hk]; simp; omega⟩ ?_
      (cbv; refine Less.to [] rfl rfl ?_ ?_ <;> repeat' (first | exact trivial | exact ⟨rfl, rfl⟩ | exact ⟨_, rfl, Nat.zero_le _, rfl⟩ | apply And.intro | exact rfl))
  · exact Done.num ⟨hk0, by rw [hk, take_all (by lia)]⟩

def After.handle (x : After) : Handle := ⟨x.slot, x.age⟩
/-- One of a list of valid functions, behind these. -/
def AfterOk (s : Slots) (before : List After) (x : After) : Prop := Holds s x.handle ∧ (0 ≤ x.node ∧ x.node ≤ 59) ∧ (0 ≤ x.func ∧ x.func ≤ 99) ∧ ∀ y ∈ before, y.handle ≠ x.handle
instance (s : Slots) (b : List After) (x : After) : Decidable (AfterOk s b x) := by unfold AfterOk; infer_instance
def AftersOk (a : Afters) : Prop := SlotsOk a.slots ∧ a.list.length = usedN a.slots.used ∧ ∀ p ∈ a.list.zipIdx, AfterOk a.slots (a.list.take p.2) p.1
instance (a : Afters) : Decidable (AftersOk a) := by unfold AftersOk; infer_instance
theorem AftersOk.get {a : Afters} (h : AftersOk a) {j : Nat} {x : After} (hx : a.list[j]? = some x) : AfterOk a.slots (a.list.take j) x := h.2.2 (x, j) (List.mem_zipIdx_iff_getElem?.2 hx)
theorem AftersOk.of {a : Afters} (h0 : SlotsOk a.slots) (h1 : a.list.length = usedN a.slots.used) (h2 : ∀ (j : Nat) (x : After), a.list[j]? = some x → AfterOk a.slots (a.list.take j) x) : AftersOk a := ⟨h0, h1, fun p hp => h2 p.2 p.1 (List.mem_zipIdx_iff_getElem?.1 hp)⟩
def afters0 : Afters := ⟨⟨[], []⟩, []⟩

theorem isAfter_c (S : Se P A) (node fn : Int) : Tests P 148 [.int .i64 node, .int .i64 fn] ((0 ≤ node ∧ node ≤ 59) ∧ 0 ≤ fn ∧ fn ≤ 99) := by
  refine S.cx.by (S.prog ▸ Tryz.func148) rfl rfl rfl rfl (fun hv ho => ?_)
  cbv
  repeat' (first
    | (refine ACall.testD (dp := false) (within_c S _ _ _) ⟨rfl, (by repeat' (first | exact trivial | exact rfl | refine ⟨?_, ?_⟩)), trivial⟩ rfl (fun _ => ?_) (fun _ => ?_) <;> cbv)
    | (refine Test.eql (fun _ => ?_) (fun _ => ?_) <;> cbv)
    | (refine Test.neq (fun _ => ?_) (fun _ => ?_) <;> cbv)
    | (refine Test.lss (fun _ => ?_) (fun _ => ?_) <;> cbv)
    | (refine Test.leq (fun _ => ?_) (fun _ => ?_) <;> cbv)
    | (refine Test.gtr (fun _ => ?_) (fun _ => ?_) <;> cbv)
    | (refine Test.geq (fun _ => ?_) (fun _ => ?_) <;> cbv)
    | (refine ⟨⟨by kernel_rfl, fun _ => ?_⟩⟩)
    | (refine LenR.nat S.cx (fun N hN hm => ?_); cbv)
    | exact Done.yes (by omega)
    | exact Done.no (by omega))

theorem at1_c (S : Se P A) (slot age : Int) (x : After) : Tests P 244 [.agg (cAfter x), .rptr [.int .i64 slot, .int .i64 age]] (x.handle = ⟨slot, age⟩) := by
  refine S.cx.by (S.prog ▸ Tryz.func244) rfl rfl rfl rfl (fun hv ho => ?_)
  cbv
  refine ⟨⟨by rw [S.prog]; kernel_rfl⟩, SEq.go (fun h => ?_) (fun h => ?_)⟩ <;> cbv
  · refine Done.yes ?_
    injection h with h1 h2; injection h1 with _ h1; injection h2 with h2 _; injection h2 with _ h2
    simp [After.handle, h1, h2]
  · refine Done.no fun e => h ?_
    injection e with e1 e2
    rw [e1, e2]

theorem afterAt_c (S : Se P A) (ages : List Int) (used : List Bool) (list : List After) (slot age : Int) : Nums P 150 [.agg (roAfters A ⟨⟨ages, used⟩, list⟩), .agg (cHandle ⟨slot, age⟩)] (fun r => 0 ≤ r ∧ (∃ x, list[r.toNat]? = some x ∧ x.handle = ⟨slot, age⟩) ∧ Upto (fun _ x => ¬ x.handle = ⟨slot, age⟩) list r ∨ r = -1 ∧ ∀ x ∈ list, ¬ x.handle = ⟨slot, age⟩) := by
  refine S.cx.by (S.prog ▸ Tryz.func150) rfl rfl rfl rfl (fun hv ho => ?_)
  cbv
  refine ACall.num (dp := false) (indexFuncAfter1_c S _ _ _ (at1_c S slot age) list) ⟨rfl, (by repeat' (first | exact trivial | exact rfl | exact Nat.le_refl _ | exact S.cx.giveEq | exact S.cx.lendLe (by assumption) | exact S.cx.lendEq (by assumption) | exact S.cx.lendLe0 | exact S.cx.lendEq0 | exact S.cx.partLe (by assumption) | exact S.cx.partEq (by assumption) | exact S.cx.enc _ [] | exact .inl rfl | refine ⟨?_, ?_⟩)), (by repeat' (first | exact trivial | exact rfl | exact Nat.le_refl _ | exact S.cx.giveEq | exact S.cx.lendLe (by assumption) | exact S.cx.lendEq (by assumption) | exact S.cx.lendLe0 | exact S.cx.lendEq0 | exact S.cx.partLe (by assumption) | exact S.cx.partEq (by assumption) | exact S.cx.enc _ [] | exact .inl rfl | refine ⟨?_, ?_⟩))⟩ (fun r hr => ?_); cbv
  exact Done.num hr

end Go.Proofs.YtgooambndfkgkaaGreat.AM
