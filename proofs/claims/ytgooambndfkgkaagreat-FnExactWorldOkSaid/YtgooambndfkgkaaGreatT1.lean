/- Contracts: trees, spreads. (printed by gt1.py) -/
import Derived.Test.YtgooambndfkgkaaGreatQ1
import Derived.Test.YtgooambndfkgkaaGreatBC
namespace Go.Proofs.YtgooambndfkgkaaGreat.AM
open Go Go.Proofs

set_option maxRecDepth 100000
set_option maxHeartbeats 4000000
set_option linter.unusedVariables false
set_option linter.unusedSimpArgs false

variable {P : Program} {A : Sy}

theorem sizeNode_c (S : Se P A) (l : List Node) : Nums P 153 [.ro (A.enc cNode l)] (fun n => 0 ≤ n ∧ n.toNat = l.length) := by
  refine S.cx.by (S.prog ▸ Tryz.func153) rfl rfl rfl rfl (fun hv ho => ?_)
  cbv
  refine LenR.nat S.cx (fun N hN hm => ?_); cbv
  exact Done.num hN

theorem isInNode_c (S : Se P A) (n : Int) (l : List Node) : Tests P 47 [.int .i64 n, .ro (A.enc cNode l)] (0 ≤ n ∧ n.toNat < l.length) := by
  refine S.cx.by (S.prog ▸ Tryz.func47) rfl rfl rfl rfl (fun hv ho => ?_)
  cbv
  refine ACall.num (dp := false) (sizeNode_c S l) ⟨rfl, (by repeat' (first | exact trivial | exact rfl | exact Nat.le_refl _ | exact S.cx.giveEq | exact S.cx.lendLe (by assumption) | exact S.cx.lendEq (by assumption) | exact S.cx.lendLe0 | exact S.cx.lendEq0 | exact S.cx.partLe (by assumption) | exact S.cx.partEq (by assumption) | exact S.cx.enc _ [] | exact .inl rfl | refine ⟨?_, ?_⟩)), (by repeat' (first | exact trivial | exact rfl | exact Nat.le_refl _ | exact S.cx.giveEq | exact S.cx.lendLe (by assumption) | exact S.cx.lendEq (by assumption) | exact S.cx.lendLe0 | exact S.cx.lendEq0 | exact S.cx.partLe (by assumption) | exact S.cx.partEq (by assumption) | exact S.cx.enc _ [] | exact .inl rfl | refine ⟨?_, ?_⟩))⟩ (fun N hN => ?_); cbv
  refine Arith.know (fun h1 h2 => by lia) (fun m hm h1 h2 => ?_); cbv
  replace hm : m = N - 1 := hm
  refine ACall.testD (dp := false) (within_c S n 0 m) ⟨rfl, (by repeat' (first | exact trivial | exact rfl | exact Nat.le_refl _ | exact S.cx.giveEq | exact S.cx.lendLe (by assumption) | exact S.cx.lendEq (by assumption) | exact S.cx.lendLe0 | exact S.cx.lendEq0 | exact S.cx.partLe (by assumption) | exact S.cx.partEq (by assumption) | exact S.cx.enc _ [] | exact .inl rfl | refine ⟨?_, ?_⟩)), (by repeat' (first | exact trivial | exact rfl | exact Nat.le_refl _ | exact S.cx.giveEq | exact S.cx.lendLe (by assumption) | exact S.cx.lendEq (by assumption) | exact S.cx.lendLe0 | exact S.cx.lendEq0 | exact S.cx.partLe (by assumption) | exact S.cx.partEq (by assumption) | exact S.cx.enc _ [] | exact .inl rfl | refine ⟨?_, ?_⟩))⟩ rfl (fun h => ?_) (fun h => ?_) <;> cbv
  · exact Done.yes (by omega)
  · exact Done.no (by omega)

theorem indexFuncInt641_c (S : Se P A) (F : FuncId) (c1 : List AV) (q : Int → Prop) (hF : ∀ x : Int, Tests P F [.int .i64 x, .rptr c1] (q x)) (l : List Int) : Nums P 234 [.ro (A.enc cInt64 l), .fn F [] [.rptr c1]] (fun r => 0 ≤ r ∧ (∃ x, l[r.toNat]? = some x ∧ q x) ∧ Upto (fun _ x => ¬ q x) l r ∨ r = -1 ∧ ∀ x ∈ l, ¬ q x) := by
  refine S.cx.by (S.prog ▸ Tryz.func234) rfl rfl rfl rfl (fun hv ho => ?_)
  cbv
  refine LenR.nat S.cx (fun N hN hm => ?_); cbv
  refine ALoop.goD (ι := Int) (fun i => [(8, .int .i64 i)]) [] (fun i => []) (fun i => 0 ≤ i ∧ Upto (fun _ x => ¬ q x) l i) (fun i => (l.length - i).toNat) (0) S.cx.tab S.cx.mix S.eq ?_ ?_ ?_
  · exact ⟨Int.le_refl _, .zero⟩
  · (cbv; refine Less.to [] rfl rfl ?_ ?_ <;> repeat' (first | exact trivial | exact ⟨rfl, rfl⟩ | exact ⟨_, rfl, Nat.zero_le _, rfl⟩ | apply And.intro | exact rfl))
  · rintro i ⟨h0, hu⟩
    cbv
    refine Test.lss (fun h => ?_) (fun h => ?_) <;> cbv
    · refine ElemRo.enc S.cx (fun _ => rfl) (by lia) (by lia) (fun x hx => ?_); cbv
      refine ACall.testX (dp := false) (hF x) ⟨rfl, (by repeat' (first | exact trivial | exact rfl | exact Nat.le_refl _ | exact S.cx.giveEq | exact S.cx.lendLe (by assumption) | exact S.cx.lendEq (by assumption) | exact S.cx.lendLe0 | exact S.cx.lendEq0 | exact S.cx.partLe (by assumption) | exact S.cx.partEq (by assumption) | exact S.cx.enc _ [] | exact .inl rfl | refine ⟨?_, ?_⟩)), (by repeat' (first | exact trivial | exact rfl | exact Nat.le_refl _ | exact S.cx.giveEq | exact S.cx.lendLe (by assumption) | exact S.cx.lendEq (by assumption) | exact S.cx.lendLe0 | exact S.cx.lendEq0 | exact S.cx.partLe (by assumption) | exact S.cx.partEq (by assumption) | exact S.cx.enc _ [] | exact .inl rfl | refine ⟨?_, ?_⟩))⟩ rfl (fun h2 => ?_) (fun h2 => ?_) <;> cbv
      · exact Done.num (.inl ⟨h0, ⟨x, hx, h2⟩, hu⟩)
      · refine Arith.go (by lia) (fun i' hi' => ?_); cbv
        refine Again.on i' (by lia) ⟨by lia, hu.next h0 hx h2 hi'⟩ ?_
        (cbv; refine Less.to [] rfl rfl ?_ ?_ <;> repeat' (first | exact trivial | exact ⟨rfl, rfl⟩ | exact ⟨_, rfl, Nat.zero_le _, rfl⟩ | apply And.intro | exact rfl))
    · exact Done.num (.inr ⟨rfl, hu.mem (by lia)⟩)

theorem containsFuncInt641_c (S : Se P A) (F : FuncId) (c1 : List AV) (q : Int → Prop) (hF : ∀ x : Int, Tests P F [.int .i64 x, .rptr c1] (q x)) (l : List Int) : Tests P 136 [.ro (A.enc cInt64 l), .fn F [] [.rptr c1]] (∃ x ∈ l, q x) := by
  refine S.cx.by (S.prog ▸ Tryz.func136) rfl rfl rfl rfl (fun hv ho => ?_)
  cbv
  refine ACall.num (dp := false) (indexFuncInt641_c S F c1 q hF l) ⟨rfl, (by repeat' (first | exact trivial | exact rfl | exact Nat.le_refl _ | exact S.cx.giveEq | exact S.cx.lendLe (by assumption) | exact S.cx.lendEq (by assumption) | exact S.cx.lendLe0 | exact S.cx.lendEq0 | exact S.cx.partLe (by assumption) | exact S.cx.partEq (by assumption) | exact S.cx.enc _ [] | exact .inl rfl | refine ⟨?_, ?_⟩)), (by repeat' (first | exact trivial | exact rfl | exact Nat.le_refl _ | exact S.cx.giveEq | exact S.cx.lendLe (by assumption) | exact S.cx.lendEq (by assumption) | exact S.cx.lendLe0 | exact S.cx.lendEq0 | exact S.cx.partLe (by assumption) | exact S.cx.partEq (by assumption) | exact S.cx.enc _ [] | exact .inl rfl | refine ⟨?_, ?_⟩))⟩ (fun r hr => ?_); cbv
  refine Test.geq (fun h => ?_) (fun h => ?_) <;> cbv
  · refine Done.yes ?_
    rcases hr with ⟨_, ⟨x, hx, hq⟩, _⟩ | ⟨rfl, _⟩
    · exact ⟨x, mem_at hx, hq⟩
    · exact absurd h (by decide)
  · refine Done.no fun ⟨x, hx, hq⟩ => ?_
    rcases hr with ⟨h0, _⟩ | ⟨_, hr⟩
    · lia
    · exact hr x hx hq

def NodeOk (x : Node) (i : Int) : Prop :=
  (0 ≤ x.kind ∧ x.kind ≤ 4) ∧ (x.kind = 2 ∨ x.due = 9223372036854775807) ∧ (x.kind = 0 ∧ x.up = -1 ∨ x.kind ≠ 0 ∧ 0 ≤ x.up ∧ x.up ≤ i - 1) ∧
    (x.kind = 3 ∧ (1 ≤ x.key ∧ x.key ≤ 9) ∧ 0 ≤ x.value ∧ x.value ≤ 999 ∨ x.kind ≠ 3 ∧ x.key = 0 ∧ x.value = 0)
instance (x : Node) (i : Int) : Decidable (NodeOk x i) := by unfold NodeOk; infer_instance
def TreeOk (t : List Node) : Prop := t.length ≤ 60 ∧ ∀ p ∈ t.zipIdx, NodeOk p.1 (p.2 : Int)
instance (t : List Node) : Decidable (TreeOk t) := by unfold TreeOk; infer_instance
theorem TreeOk.get {t : List Node} (h : TreeOk t) {j : Nat} {x : Node} (hx : t[j]? = some x) : NodeOk x (j : Int) := h.2 (x, j) (List.mem_zipIdx_iff_getElem?.2 hx)
theorem TreeOk.of {t : List Node} (h1 : t.length ≤ 60) (h2 : ∀ (j : Nat) (x : Node), t[j]? = some x → NodeOk x (j : Int)) : TreeOk t := ⟨h1, fun p hp => h2 p.2 p.1 (List.mem_zipIdx_iff_getElem?.1 hp)⟩

/-- What of a node does not hang on its place. -/
def NodeIs (x : Node) : Prop := (0 ≤ x.kind ∧ x.kind ≤ 4) ∧ (x.kind = 2 ∨ x.due = 9223372036854775807) ∧ (x.kind = 3 ∧ (1 ≤ x.key ∧ x.key ≤ 9) ∧ 0 ≤ x.value ∧ x.value ≤ 999 ∨ x.kind ≠ 3 ∧ x.key = 0 ∧ x.value = 0)

theorem l5Node_c (S : Se P A) (kind up due key value : Int) : Tests P 263 [.agg (cNode ⟨kind, up, due, key, value⟩)] (NodeIs ⟨kind, up, due, key, value⟩) := by
  refine S.cx.by (S.prog ▸ Tryz.func263) rfl rfl rfl rfl (fun hv ho => ?_)
  cbv
  clear hv ho
  repeat' (first
    | (refine ACall.testD (dp := false) (l1In_c S _ _ _) ⟨rfl, (by repeat' (first | exact trivial | exact rfl | refine ⟨?_, ?_⟩)), trivial⟩ rfl (fun _ => ?_) (fun _ => ?_) <;> cbv)
    | (refine Test.eql (fun _ => ?_) (fun _ => ?_) <;> cbv)
    | (refine Test.neq (fun _ => ?_) (fun _ => ?_) <;> cbv)
    | (refine Test.lss (fun _ => ?_) (fun _ => ?_) <;> cbv)
    | (refine Test.leq (fun _ => ?_) (fun _ => ?_) <;> cbv)
    | (refine Test.gtr (fun _ => ?_) (fun _ => ?_) <;> cbv)
    | (refine Test.geq (fun _ => ?_) (fun _ => ?_) <;> cbv)
    | (refine ⟨⟨by kernel_rfl, fun _ => ?_⟩⟩)
    | (refine LenR.nat S.cx (fun N hN hm => ?_); cbv)
    | exact Done.yes (by simp only [NodeIs]; grind)
    | exact Done.no (by simp only [NodeIs]; grind))

theorem isNode_c (S : Se P A) (kind up due key value i : Int) (h0 : 0 ≤ i) : Tests P 231 [.agg (cNode ⟨kind, up, due, key, value⟩), .int .i64 i] (NodeOk ⟨kind, up, due, key, value⟩ i) := by
  refine S.cx.by (S.prog ▸ Tryz.func231) rfl rfl rfl rfl (fun hv ho => ?_)
  cbv
  clear ho
  have hi := (hv (.int .i64 i) (by simp)).i64
  clear hv
  repeat' (first
    | (refine Arith.go (by lia) (fun z hz => ?_); replace hz : z = i - 1 := hz; cbv)
    | (refine ACall.testD (dp := false) (within_c S _ _ _) ⟨rfl, (by repeat' (first | exact trivial | exact rfl | refine ⟨?_, ?_⟩)), trivial⟩ rfl (fun _ => ?_) (fun _ => ?_) <;> cbv)
    | (refine Test.eql (fun _ => ?_) (fun _ => ?_) <;> cbv)
    | (refine Test.neq (fun _ => ?_) (fun _ => ?_) <;> cbv)
    | exact Done.yes (by simp only [NodeOk]; grind)
    | exact Done.no (by simp only [NodeOk]; grind))

theorem implTreeOk_c (S : Se P A) (t : List Node) : Tests P 134 [.ro (A.enc cNode t)] (TreeOk t) := by
  refine S.cx.by (S.prog ▸ Tryz.func134) rfl rfl rfl rfl (fun hv ho => ?_)
  cbv
  refine LenR.nat S.cx (fun N hN hm => ?_); cbv
  refine ALoop.goD (ι := Int) (fun i => [(7, .int .i64 i)]) [] (fun i => []) (fun i => 0 ≤ i ∧ i ≤ 60 ∧ Upto (fun j x => NodeOk x (j : Int)) t i) (fun i => (t.length - i).toNat) (0) S.cx.tab S.cx.mix S.eq ?_ ?_ ?_
  · exact ⟨Int.le_refl _, by decide, .zero⟩
  · (cbv; refine Less.to [] rfl rfl ?_ ?_ <;> repeat' (first | exact trivial | exact ⟨rfl, rfl⟩ | exact ⟨_, rfl, Nat.zero_le _, rfl⟩ | apply And.intro | exact rfl))
  rintro i ⟨h0, h60, hu⟩
  cbv
  refine Test.lss (fun h => ?_) (fun h => ?_) <;> cbv
  · refine ElemRo.enc S.cx (fun _ => rfl) (by lia) (by lia) (fun x hx => ?_); cbv
    refine Test.eql (fun h1 => ?_) (fun h1 => ?_) <;> cbv
    · exact Done.no (fun e => by have := e.1; omega)
    refine ACall.testD (dp := false) (isNode_c S x.kind x.up x.due x.key x.value i h0) ⟨rfl, (by repeat' (first | exact trivial | exact rfl | exact Nat.le_refl _ | exact S.cx.giveEq | exact S.cx.lendLe (by assumption) | exact S.cx.lendEq (by assumption) | exact S.cx.lendLe0 | exact S.cx.lendEq0 | exact S.cx.partLe (by assumption) | exact S.cx.partEq (by assumption) | exact S.cx.enc _ [] | exact .inl rfl | refine ⟨?_, ?_⟩)), (by repeat' (first | exact trivial | exact rfl | exact Nat.le_refl _ | exact S.cx.giveEq | exact S.cx.lendLe (by assumption) | exact S.cx.lendEq (by assumption) | exact S.cx.lendLe0 | exact S.cx.lendEq0 | exact S.cx.partLe (by assumption) | exact S.cx.partEq (by assumption) | exact S.cx.enc _ [] | exact .inl rfl | refine ⟨?_, ?_⟩))⟩ rfl (fun h2 => ?_) (fun h2 => ?_) <;> cbv
    · refine Arith.go (by lia) (fun i' hi' => ?_); cbv
      refine Again.on i' (by lia) ⟨by lia, by lia, hu.next h0 hx (by show NodeOk x ((i.toNat : Nat) : Int); rw [show ((i.toNat : Nat) : Int) = i by omega]; exact h2) hi'⟩ ?_
      (cbv; refine Less.to [] rfl rfl ?_ ?_ <;> repeat' (first | exact trivial | exact ⟨rfl, rfl⟩ | exact ⟨_, rfl, Nat.zero_le _, rfl⟩ | apply And.intro | exact rfl))
    · exact Done.no (fun e => h2 (by have := e.get hx; rw [show ((i.toNat : Nat) : Int) = i by omega] at this; exact this))
  · exact Done.yes (.of (by omega) (hu.all (by omega)))

theorem nodeOk_of {x : Node} {i : Int} (h : NodeIs x) (hk : x.kind = 0 ∧ x.up = -1 ∨ x.kind ≠ 0 ∧ 0 ≤ x.up ∧ x.up ≤ i - 1) : NodeOk x i := ⟨h.1, h.2.1, hk, h.2.2⟩
theorem nodeOk_is {x : Node} {i : Int} (h : NodeOk x i) : NodeIs x := ⟨h.1, h.2.1, h.2.2.2⟩

theorem specTreeOk_c (S : Se P A) (t : List Node) : Tests P 206 [.ro (A.enc cNode t)] (TreeOk t) := by
  refine S.cx.by (S.prog ▸ Tryz.func206) rfl rfl rfl rfl (fun hv ho => ?_)
  cbv
  refine LenR.nat S.cx (fun N hN hm => ?_); cbv
  refine Test.gtr (fun h => ?_) (fun h => ?_) <;> cbv
  · exact Done.no (fun e => by have := e.1; omega)
  refine ALoop.goD (ι := Int) (fun i => [(3, .int .i64 i)]) [] (fun i => []) (fun i => 0 ≤ i ∧ Upto (fun j x => NodeOk x (j : Int)) t i) (fun i => (t.length - i).toNat) (0) S.cx.tab S.cx.mix S.eq ?_ ?_ ?_
  · exact ⟨Int.le_refl _, .zero⟩
  · (cbv; refine Less.to [] rfl rfl ?_ ?_ <;> repeat' (first | exact trivial | exact ⟨rfl, rfl⟩ | exact ⟨_, rfl, Nat.zero_le _, rfl⟩ | apply And.intro | exact rfl))
  rintro i ⟨h0, hu⟩
  cbv
  refine LenR.nat S.cx (fun M hM hm2 => ?_); cbv
  refine Test.lss (fun h2 => ?_) (fun h2 => ?_) <;> cbv
  · refine ElemRo.enc S.cx (fun _ => rfl) (by lia) (by lia) (fun x hx => ?_); cbv
    have hno : ∀ {p : Prop}, (NodeOk x i → p) → TreeOk t → p := fun hp e => hp (by have := e.get hx; rw [show ((i.toNat : Nat) : Int) = i by omega] at this; exact this)
    have hyes : NodeOk x i → ∀ i', i' = i + 1 → 0 ≤ i' ∧ Upto (fun j x => NodeOk x (j : Int)) t i' := fun hn i' hi' => ⟨by omega, hu.next h0 hx (by show NodeOk x ((i.toNat : Nat) : Int); rw [show ((i.toNat : Nat) : Int) = i by omega]; exact hn) hi'⟩
    refine ACall.testD (dp := false) (l5Node_c S x.kind x.up x.due x.key x.value) ⟨rfl, (by repeat' (first | exact trivial | exact rfl | exact Nat.le_refl _ | exact S.cx.giveEq | exact S.cx.lendLe (by assumption) | exact S.cx.lendEq (by assumption) | exact S.cx.lendLe0 | exact S.cx.lendEq0 | exact S.cx.partLe (by assumption) | exact S.cx.partEq (by assumption) | exact S.cx.enc _ [] | exact .inl rfl | refine ⟨?_, ?_⟩)), (by repeat' (first | exact trivial | exact rfl | exact Nat.le_refl _ | exact S.cx.giveEq | exact S.cx.lendLe (by assumption) | exact S.cx.lendEq (by assumption) | exact S.cx.lendLe0 | exact S.cx.lendEq0 | exact S.cx.partLe (by assumption) | exact S.cx.partEq (by assumption) | exact S.cx.enc _ [] | exact .inl rfl | refine ⟨?_, ?_⟩))⟩ rfl (fun h3 => ?_) (fun h3 => ?_) <;> cbv
    rotate_left
    · exact Done.no (hno fun e => h3 (nodeOk_is e))
    refine ElemRo.at S.cx (x := x) rfl h0 hx ?_; cbv
    refine Test.eql (fun h4 => ?_) (fun h4 => ?_) <;> cbv
    · refine ElemRo.at S.cx (x := x) rfl h0 hx ?_; cbv
      refine Test.neq (fun h5 => ?_) (fun h5 => ?_) <;> cbv
      · exact Done.no (hno fun e => by obtain ⟨_, _, e, _⟩ := e; omega)
      · refine Arith.go (by lia) (fun i' hi' => ?_); cbv
        refine Again.on i' (by lia) (hyes (nodeOk_of h3 (.inl ⟨h4, h5⟩)) i' hi') ?_
        (cbv; refine Less.to [] rfl rfl ?_ ?_ <;> repeat' (first | exact trivial | exact ⟨rfl, rfl⟩ | exact ⟨_, rfl, Nat.zero_le _, rfl⟩ | apply And.intro | exact rfl))
    · refine ElemRo.at S.cx (x := x) rfl h0 hx ?_; cbv
      refine Arith.go (by lia) (fun z hz => ?_); replace hz : z = i - 1 := hz; cbv
      refine ACall.testD (dp := false) (l1In_c S x.up 0 z) ⟨rfl, (by repeat' (first | exact trivial | exact rfl | exact Nat.le_refl _ | exact S.cx.giveEq | exact S.cx.lendLe (by assumption) | exact S.cx.lendEq (by assumption) | exact S.cx.lendLe0 | exact S.cx.lendEq0 | exact S.cx.partLe (by assumption) | exact S.cx.partEq (by assumption) | exact S.cx.enc _ [] | exact .inl rfl | refine ⟨?_, ?_⟩)), (by repeat' (first | exact trivial | exact rfl | exact Nat.le_refl _ | exact S.cx.giveEq | exact S.cx.lendLe (by assumption) | exact S.cx.lendEq (by assumption) | exact S.cx.lendLe0 | exact S.cx.lendEq0 | exact S.cx.partLe (by assumption) | exact S.cx.partEq (by assumption) | exact S.cx.enc _ [] | exact .inl rfl | refine ⟨?_, ?_⟩))⟩ rfl (fun h5 => ?_) (fun h5 => ?_) <;> cbv
      · refine Arith.go (by lia) (fun i' hi' => ?_); cbv
        refine Again.on i' (by lia) (hyes (nodeOk_of h3 (.inr ⟨h4, by omega⟩)) i' hi') ?_
        (cbv; refine Less.to [] rfl rfl ?_ ?_ <;> repeat' (first | exact trivial | exact ⟨rfl, rfl⟩ | exact ⟨_, rfl, Nat.zero_le _, rfl⟩ | apply And.intro | exact rfl))
      · exact Done.no (hno fun e => by obtain ⟨_, _, e, _⟩ := e; omega)
  · exact Done.yes (.of (by omega) (hu.all (by omega)))

end Go.Proofs.YtgooambndfkgkaaGreat.AM
