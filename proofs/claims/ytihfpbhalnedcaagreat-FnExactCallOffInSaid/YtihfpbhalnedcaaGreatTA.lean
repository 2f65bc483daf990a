import Derived.Test.YtihfpbhalnedcaaGreatHA
import Derived.Test.YtihfpbhalnedcaaGreatBC
import Derived.Test.YtihfpbhalnedcaaGreatDA
/- In one: Q1 T1 T2 T3 W4 -/
set_option linter.unusedVariables false
set_option linter.unusedSimpArgs false
namespace Go.Proofs.YtihfpbhalnedcaaGreat.AM
open Go Go.Proofs

set_option maxRecDepth 100000
set_option maxHeartbeats 4000000

variable {P : Program} {A : Sy}

theorem plainInt64 : Plain cInt64 := fun _ => rfl
def rInt64 (A : Sy) (l : List Int) : AV := .own 1 true (A.enc cInt64 l)
theorem plainBool : Plain cBool := fun _ => rfl
def rBool (A : Sy) (l : List Bool) : AV := .own 1 true (A.enc cBool l)

theorem cloneInt64_c (S : Se P A) (l : List Int) (hb : l.length <= 4294967296) : Is1 P 255 [.ro (A.enc cInt64 l)] (rInt64 A l) := by
  refine S.cx.by (S.prog ▸ Tryz.func255) rfl rfl rfl rfl (fun hv ho => ?_)
  cbv
  refine NilT.ro S.cx (fun h => ?_) ?_ <;> cbv
  · subst h
    exact Done.isA (r := rInt64 A) (x := []) (rfl)
  · refine AppNew.enc S.cx plainInt64 (.inr (.inr trivial)) (fun _ => rfl) (by simp only [maxBytes]; omega) (fun n hn => ?_); cbv
    exact Done.isA (r := rInt64 A) (x := l) (rfl)

theorem cloneBool_c (S : Se P A) (l : List Bool) (hb : l.length <= 4294967296) : Is1 P 323 [.ro (A.enc cBool l)] (rBool A l) := by
  refine S.cx.by (S.prog ▸ Tryz.func323) rfl rfl rfl rfl (fun hv ho => ?_)
  cbv
  refine NilT.ro S.cx (fun h => ?_) ?_ <;> cbv
  · subst h
    exact Done.isA (r := rBool A) (x := []) (rfl)
  · refine AppNew.enc S.cx plainBool (.inr (.inr trivial)) (fun _ => rfl) (by simp only [maxBytes]; omega) (fun n hn => ?_); cbv
    exact Done.isA (r := rBool A) (x := l) (rfl)

theorem sizeInt64_c (S : Se P A) (l : List Int) : Nums P 354 [.ro (A.enc cInt64 l)] (fun n => 0 <= n /\ n.toNat = l.length) := by
  refine S.cx.by (S.prog ▸ Tryz.func354) rfl rfl rfl rfl (fun hv ho => ?_)
  cbv
  refine LenR.nat S.cx (fun N hN hm => ?_); cbv
  exact Done.num hN

theorem isInInt64_c (S : Se P A) (n : Int) (l : List Int) : Tests P 356 [.int .i64 n, .ro (A.enc cInt64 l)] (0 <= n /\ n.toNat < l.length) := by
  refine S.cx.by (S.prog ▸ Tryz.func356) rfl rfl rfl rfl (fun hv ho => ?_)
  cbv
  refine ACall.num (dp := false) (sizeInt64_c S l) .go (fun N hN => ?_); cbv
  refine Arith.know (fun h1 h2 => by lia) (fun m hm h1 h2 => ?_); cbv
  replace hm : m = N - 1 := hm
  refine ACall.testD (dp := false) (within_c S n 0 m) .go rfl (fun h => ?_) (fun h => ?_) <;> cbv
  · exact Done.yes (by omega)
  · exact Done.no (by omega)

theorem indexFuncInt64_c (S : Se P A) (F : FuncId) (q : Int -> Prop) (hF : ∀ x : Int, Tests P F [.int .i64 x] (q x)) (l : List Int) : Nums P 351 [.ro (A.enc cInt64 l), .fn F [] []] (fun r => 0 <= r /\ (∃ x, l[r.toNat]? = some x /\ q x) /\ Upto (fun _ x => ¬ q x) l r ∨ r = -1 /\ ∀ x ∈ l, ¬ q x) := by
  refine S.cx.by (S.prog ▸ Tryz.func351) rfl rfl rfl rfl (fun hv ho => ?_)
  cbv
  refine LenR.nat S.cx (fun N hN hm => ?_); cbv
  refine ALoop.goD (ι := Int) (fun i => [(8, .int .i64 i)]) [] (fun i => []) (fun i => 0 <= i /\ Upto (fun _ x => ¬ q x) l i) (fun i => (l.length - i).toNat) (0) S.cx.tab S.cx.mix S.eq ?_ ?_ ?_
  · exact ⟨Int.le_refl _, .zero⟩
  · (cbv; exact Less.toA [])
  · rintro i ⟨h0, hu⟩
    cbv
    refine Test.lss (fun h => ?_) (fun h => ?_) <;> cbv
    · refine ElemRo.enc S.cx (fun _ => rfl) (by lia) (by lia) (fun x hx => ?_); cbv
      refine ACall.testD (dp := false) (hF x) .go rfl (fun h2 => ?_) (fun h2 => ?_) <;> cbv
      · exact Done.num (.inl ⟨h0, ⟨x, hx, h2⟩, hu⟩)
      · refine Arith.go (by lia) (fun i' hi' => ?_); cbv
        refine Again.on i' (by lia) ⟨by lia, hu.next h0 hx h2 hi'⟩ ?_
        (cbv; exact Less.toA [])
    · exact Done.num (.inr ⟨rfl, hu.mem (by lia)⟩)

theorem containsFuncInt64_c (S : Se P A) (F : FuncId) (q : Int -> Prop) (hF : ∀ x : Int, Tests P F [.int .i64 x] (q x)) (l : List Int) : Tests P 294 [.ro (A.enc cInt64 l), .fn F [] []] (∃ x ∈ l, q x) := by
  refine S.cx.by (S.prog ▸ Tryz.func294) rfl rfl rfl rfl (fun hv ho => ?_)
  cbv
  refine ACall.num (dp := false) (indexFuncInt64_c S F q hF l) .go (fun r hr => ?_); cbv
  refine Test.geq (fun h => ?_) (fun h => ?_) <;> cbv
  · refine Done.yes ?_
    rcases hr with ⟨_, ⟨x, hx, hq⟩, _⟩ | ⟨rfl, _⟩
    · exact ⟨x, mem_at hx, hq⟩
    · exact absurd h (by decide)
  · refine Done.no fun ⟨x, hx, hq⟩ => ?_
    rcases hr with ⟨h0, _⟩ | ⟨_, hr⟩
    · lia
    · exact hr x hx hq

def SlotsOk (s : Slots) : Prop := (1 <= s.ages.length /\ s.ages.length <= 64) /\ s.used.length = s.ages.length /\ ∀ a ∈ s.ages, 0 <= a /\ a <= 1000000
instance (s : Slots) : Decidable (SlotsOk s) := by unfold SlotsOk; infer_instance
def slots0 : Slots := ⟨[], []⟩
def handle0 : Handle := ⟨0, 0⟩

theorem slotsOk1_c (S : Se P A) (x : Int) : Tests P 355 [.int .i64 x] (¬ (0 <= x /\ x <= 1000000)) := by
  refine S.cx.by (S.prog ▸ Tryz.func355) rfl rfl rfl rfl (fun hv ho => ?_)
  cbv
  refine ACall.testD (dp := false) (within_c S x _ _) .go rfl (fun h => ?_) (fun h => ?_) <;> cbv
  · exact Done.no (fun e => e h)
  · exact Done.yes h

theorem implSlotsOk_c (S : Se P A) (ages : List Int) (used : List Bool) : Tests P 304 [.agg (roSlots A ⟨ages, used⟩)] (SlotsOk ⟨ages, used⟩) := by
  refine S.cx.by (S.prog ▸ Tryz.func304) rfl rfl rfl rfl (fun hv ho => ?_)
  cbv
  refine ACall.num (dp := false) (sizeInt64_c S ages) .go (fun N hN => ?_); cbv
  refine ACall.testD (dp := false) (within_c S N 1 64) .go rfl (fun h => ?_) (fun h => ?_) <;> cbv
  rotate_left
  · exact Done.no (fun e => h (by have := e.1; dsimp only at this; omega))
  refine LenR.nat S.cx (fun M hM hm => ?_); cbv
  refine LenR.nat S.cx (fun N2 hN2 hm2 => ?_); cbv
  refine Test.eql (fun h2 => ?_) (fun h2 => ?_) <;> cbv
  rotate_left
  · exact Done.no (fun e => h2 (by have := e.2.1; dsimp only at this; omega))
  refine ACall.testD (dp := false) (containsFuncInt64_c S _ _ (slotsOk1_c S) ages) .go rfl (fun h3 => ?_) (fun h3 => ?_) <;> cbv
  · exact Done.no (fun e => by obtain ⟨x, hx, hn⟩ := h3; exact hn (e.2.2 x hx))
  · exact Done.yes ⟨by dsimp only; omega, by dsimp only; omega, fun x hx => Classical.byContradiction fun hn => h3 ⟨x, hx, hn⟩⟩

theorem specSlotsOk_c (S : Se P A) (ages : List Int) (used : List Bool) : Tests P 267 [.agg (roSlots A ⟨ages, used⟩)] (SlotsOk ⟨ages, used⟩) := by
  refine S.cx.by (S.prog ▸ Tryz.func267) rfl rfl rfl rfl (fun hv ho => ?_)
  cbv
  refine LenR.nat S.cx (fun N hN hm => ?_); cbv
  refine ACall.testD (dp := false) (l1In_c S N 1 64) .go rfl (fun h => ?_) (fun h => ?_) <;> cbv
  rotate_left
  · exact Done.no (fun e => h (by have := e.1; dsimp only at this; omega))
  refine LenR.nat S.cx (fun M hM hm => ?_); cbv
  refine LenR.nat S.cx (fun N2 hN2 hm2 => ?_); cbv
  refine Test.neq (fun h2 => ?_) (fun h2 => ?_) <;> cbv
  · exact Done.no (fun e => h2 (by have := e.2.1; dsimp only at this; omega))
  refine ALoop.goD (ι := Int) (fun i => [(3, .int .i64 i)]) [] (fun i => []) (fun i => 0 <= i /\ Upto (fun _ x => 0 <= x /\ x <= 1000000) ages i) (fun i => (ages.length - i).toNat) (0) S.cx.tab S.cx.mix S.eq ?_ ?_ ?_
  · exact ⟨Int.le_refl _, .zero⟩
  · (cbv; exact Less.toA [])
  rintro i ⟨h0, hu⟩
  cbv
  refine LenR.nat S.cx (fun L hL hm3 => ?_); cbv
  refine Test.lss (fun h3 => ?_) (fun h3 => ?_) <;> cbv
  · refine ElemRo.enc S.cx (fun _ => rfl) (by lia) (by lia) (fun x hx => ?_); cbv
    refine ACall.testD (dp := false) (l1In_c S x _ _) .go rfl (fun h4 => ?_) (fun h4 => ?_) <;> cbv
    · refine Arith.go (by lia) (fun i' hi' => ?_); cbv
      refine Again.on i' (by lia) ⟨by lia, hu.next h0 hx h4 hi'⟩ ?_
      (cbv; exact Less.toA [])
    · exact Done.no (fun e => h4 (e.2.2 x (mem_at hx)))
  · exact Done.yes ⟨by dsimp only; omega, by dsimp only; omega, hu.mem (by lia)⟩

def rS (A : Sy) (s : Slots) : AV := .agg (ownSlots A s)

theorem clonedSlots_c (S : Se P A) (ages : List Int) (used : List Bool) (h1 : ages.length <= 4294967296) (h2 : used.length <= 4294967296) : Is1 P 326 [.agg (roSlots A ⟨ages, used⟩)] (rS A ⟨ages, used⟩) := by
  refine S.cx.by (S.prog ▸ Tryz.func326) rfl rfl rfl rfl (fun hv ho => ?_)
  cbv
  try (refine Drawn.mk ⟨by kernel_rfl, fun _ => ?_⟩)
  refine ACall.valN (r := rInt64 A) (os := fun _ => []) (dp := false) S.cx (cloneInt64_c S ages h1) .go rfl (fun ln hln a hx => ⟨rfl, ?_⟩)
  cases hx
  cbv
  have hN := hln cInt64 ages
  generalize ln (A.enc cInt64 ages) = N at hN ⊢
  refine ACall.valN (r := rBool A) (os := fun _ => []) (dp := false) S.cx (cloneBool_c S used h2) .go rfl (fun ln hln b hx => ⟨rfl, ?_⟩)
  cases hx
  cbv
  have hM := hln cBool used
  generalize ln (A.enc cBool used) = M at hM ⊢
  exact Done.isA (r := rS A) (x := ⟨ages, used⟩) (rfl)

theorem l1CopySlots_c (S : Se P A) (ages : List Int) (used : List Bool) (h1 : ages.length <= 4294967296) (h2 : used.length <= 4294967296) : Is1 P 219 [.agg (roSlots A ⟨ages, used⟩)] (rS A ⟨ages, used⟩) := by
  refine S.cx.by (S.prog ▸ Tryz.func219) rfl rfl rfl rfl (fun hv ho => ?_)
  cbv
  try (refine Drawn.mk ⟨by kernel_rfl, fun _ => ?_⟩)
  refine AppNew.enc S.cx plainInt64 (.inr (.inr trivial)) (fun _ => rfl) (by simp only [maxBytes]; omega) (fun n hn => ?_); cbv
  refine AppNew.enc S.cx plainBool (.inr (.inr trivial)) (fun _ => rfl) (by simp only [maxBytes]; omega) (fun m hm => ?_); cbv
  exact Done.isA (r := rS A) (x := ⟨ages, used⟩) (rfl)

end Go.Proofs.YtihfpbhalnedcaaGreat.AM

namespace Go.Proofs.YtihfpbhalnedcaaGreat.AM
open Go Go.Proofs

set_option maxRecDepth 100000
set_option maxHeartbeats 4000000

variable {P : Program} {A : Sy}

theorem sizeNode_c (S : Se P A) (l : List Node) : Nums P 193 [.ro (A.enc cNode l)] (fun n => 0 <= n /\ n.toNat = l.length) := by
  refine S.cx.by (S.prog ▸ Tryz.func193) rfl rfl rfl rfl (fun hv ho => ?_)
  cbv
  refine LenR.nat S.cx (fun N hN hm => ?_); cbv
  exact Done.num hN

theorem isInNode_c (S : Se P A) (n : Int) (l : List Node) : Tests P 103 [.int .i64 n, .ro (A.enc cNode l)] (0 <= n /\ n.toNat < l.length) := by
  refine S.cx.by (S.prog ▸ Tryz.func103) rfl rfl rfl rfl (fun hv ho => ?_)
  cbv
  refine ACall.num (dp := false) (sizeNode_c S l) .go (fun N hN => ?_); cbv
  refine Arith.know (fun h1 h2 => by lia) (fun m hm h1 h2 => ?_); cbv
  replace hm : m = N - 1 := hm
  refine ACall.testD (dp := false) (within_c S n 0 m) .go rfl (fun h => ?_) (fun h => ?_) <;> cbv
  · exact Done.yes (by omega)
  · exact Done.no (by omega)

theorem sizeBool_c (S : Se P A) (l : List Bool) : Nums P 331 [.ro (A.enc cBool l)] (fun n => 0 <= n /\ n.toNat = l.length) := by
  refine S.cx.by (S.prog ▸ Tryz.func331) rfl rfl rfl rfl (fun hv ho => ?_)
  cbv
  refine LenR.nat S.cx (fun N hN hm => ?_); cbv
  exact Done.num hN

theorem isInBool_c (S : Se P A) (n : Int) (l : List Bool) : Tests P 264 [.int .i64 n, .ro (A.enc cBool l)] (0 <= n /\ n.toNat < l.length) := by
  refine S.cx.by (S.prog ▸ Tryz.func264) rfl rfl rfl rfl (fun hv ho => ?_)
  cbv
  refine ACall.num (dp := false) (sizeBool_c S l) .go (fun N hN => ?_); cbv
  refine Arith.know (fun h1 h2 => by lia) (fun m hm h1 h2 => ?_); cbv
  replace hm : m = N - 1 := hm
  refine ACall.testD (dp := false) (within_c S n 0 m) .go rfl (fun h => ?_) (fun h => ?_) <;> cbv
  · exact Done.yes (by omega)
  · exact Done.no (by omega)

theorem indexFuncInt641_c (S : Se P A) (F : FuncId) (c1 : List AV) (q : Int -> Prop) (hF : ∀ x : Int, Tests P F [.int .i64 x, .rptr c1] (q x)) (l : List Int) : Nums P 351 [.ro (A.enc cInt64 l), .fn F [] [.rptr c1]] (fun r => 0 <= r /\ (∃ x, l[r.toNat]? = some x /\ q x) /\ Upto (fun _ x => ¬ q x) l r ∨ r = -1 /\ ∀ x ∈ l, ¬ q x) := by
  refine S.cx.by (S.prog ▸ Tryz.func351) rfl rfl rfl rfl (fun hv ho => ?_)
  cbv
  refine LenR.nat S.cx (fun N hN hm => ?_); cbv
  refine ALoop.goD (ι := Int) (fun i => [(8, .int .i64 i)]) [] (fun i => []) (fun i => 0 <= i /\ Upto (fun _ x => ¬ q x) l i) (fun i => (l.length - i).toNat) (0) S.cx.tab S.cx.mix S.eq ?_ ?_ ?_
  · exact ⟨Int.le_refl _, .zero⟩
  · (cbv; exact Less.toA [])
  · rintro i ⟨h0, hu⟩
    cbv
    refine Test.lss (fun h => ?_) (fun h => ?_) <;> cbv
    · refine ElemRo.enc S.cx (fun _ => rfl) (by lia) (by lia) (fun x hx => ?_); cbv
      refine ACall.testX (dp := false) (hF x) .go rfl (fun h2 => ?_) (fun h2 => ?_) <;> cbv
      · exact Done.num (.inl ⟨h0, ⟨x, hx, h2⟩, hu⟩)
      · refine Arith.go (by lia) (fun i' hi' => ?_); cbv
        refine Again.on i' (by lia) ⟨by lia, hu.next h0 hx h2 hi'⟩ ?_
        (cbv; exact Less.toA [])
    · exact Done.num (.inr ⟨rfl, hu.mem (by lia)⟩)

theorem containsFuncInt641_c (S : Se P A) (F : FuncId) (c1 : List AV) (q : Int -> Prop) (hF : ∀ x : Int, Tests P F [.int .i64 x, .rptr c1] (q x)) (l : List Int) : Tests P 294 [.ro (A.enc cInt64 l), .fn F [] [.rptr c1]] (∃ x ∈ l, q x) := by
  refine S.cx.by (S.prog ▸ Tryz.func294) rfl rfl rfl rfl (fun hv ho => ?_)
  cbv
  refine ACall.num (dp := false) (indexFuncInt641_c S F c1 q hF l) .go (fun r hr => ?_); cbv
  refine Test.geq (fun h => ?_) (fun h => ?_) <;> cbv
  · refine Done.yes ?_
    rcases hr with ⟨_, ⟨x, hx, hq⟩, _⟩ | ⟨rfl, _⟩
    · exact ⟨x, mem_at hx, hq⟩
    · exact absurd h (by decide)
  · refine Done.no fun ⟨x, hx, hq⟩ => ?_
    rcases hr with ⟨h0, _⟩ | ⟨_, hr⟩
    · lia
    · exact hr x hx hq

def NodeOk (x : Node) (i : Int) : Prop :=
  (0 <= x.kind /\ x.kind <= 4) /\ (x.kind = 2 ∨ x.due = 9223372036854775807) /\ (x.kind = 0 /\ x.up = -1 ∨ x.kind ≠ 0 /\ 0 <= x.up /\ x.up <= i - 1) /\
    (x.kind = 3 /\ (1 <= x.key /\ x.key <= 9) /\ 0 <= x.value /\ x.value <= 999 ∨ x.kind ≠ 3 /\ x.key = 0 /\ x.value = 0)
instance (x : Node) (i : Int) : Decidable (NodeOk x i) := by unfold NodeOk; infer_instance
def TreeOk (t : List Node) : Prop := t.length <= 60 /\ ∀ p ∈ t.zipIdx, NodeOk p.1 (p.2 : Int)
instance (t : List Node) : Decidable (TreeOk t) := by unfold TreeOk; infer_instance
theorem TreeOk.get {t : List Node} (h : TreeOk t) {j : Nat} {x : Node} (hx : t[j]? = some x) : NodeOk x (j : Int) := h.2 (x, j) (List.mem_zipIdx_iff_getElem?.2 hx)
theorem TreeOk.of {t : List Node} (h1 : t.length <= 60) (h2 : ∀ (j : Nat) (x : Node), t[j]? = some x -> NodeOk x (j : Int)) : TreeOk t := ⟨h1, fun p hp => h2 p.2 p.1 (List.mem_zipIdx_iff_getElem?.1 hp)⟩

def NodeIs (x : Node) : Prop := (0 <= x.kind /\ x.kind <= 4) /\ (x.kind = 2 ∨ x.due = 9223372036854775807) /\ (x.kind = 3 /\ (1 <= x.key /\ x.key <= 9) /\ 0 <= x.value /\ x.value <= 999 ∨ x.kind ≠ 3 /\ x.key = 0 /\ x.value = 0)

theorem l5Node_c (S : Se P A) (kind up due key value : Int) : Tests P 286 [.agg (cNode ⟨kind, up, due, key, value⟩)] (NodeIs ⟨kind, up, due, key, value⟩) := by
  refine S.cx.by (S.prog ▸ Tryz.func286) rfl rfl rfl rfl (fun hv ho => ?_)
  cbv
  clear hv ho
  repeat' (first
    | (refine ACall.testD (dp := false) (l1In_c S _ _ _) ⟨rfl, (by repeat' (first | exact trivial | exact rfl | refine ⟨?_, ?_⟩)), trivial⟩ rfl (fun _ => ?_) (fun _ => ?_) <;> cbv)
    | (refine Test.eql (fun _ => ?_) (fun _ => ?_) <;> cbv)
    | (refine Test.neq (fun _ => ?_) (fun _ => ?_) <;> cbv)
    | (refine Test.lss (fun _ => ?_) (fun _ => ?_) <;> cbv)
    | (refine Test.leq (fun _ => ?_) (fun _ => ?_) <;> cbv)
    | (refine Test.gtr (fun _ => ?_) (fun _ => ?_) <;> cbv)
    | (refine Test.geq (fun _ => ?_) (fun _ => ?_) <;> cbv)
    | (refine ⟨⟨by kernel_rfl, fun _ => ?_⟩⟩)
    | (refine LenR.nat S.cx (fun N hN hm => ?_); cbv)
    | exact Done.yes (by simp only [NodeIs]; grind)
    | exact Done.no (by simp only [NodeIs]; grind))

theorem isNode_c (S : Se P A) (kind up due key value i : Int) (h0 : 0 <= i) : Tests P 350 [.agg (cNode ⟨kind, up, due, key, value⟩), .int .i64 i] (NodeOk ⟨kind, up, due, key, value⟩ i) := by
  refine S.cx.by (S.prog ▸ Tryz.func350) rfl rfl rfl rfl (fun hv ho => ?_)
  cbv
  clear ho
  have hi := (hv (.int .i64 i) (by simp)).i64
  clear hv
  repeat' (first
    | (refine Arith.go (by lia) (fun z hz => ?_); replace hz : z = i - 1 := hz; cbv)
    | (refine ACall.testD (dp := false) (within_c S _ _ _) ⟨rfl, (by repeat' (first | exact trivial | exact rfl | refine ⟨?_, ?_⟩)), trivial⟩ rfl (fun _ => ?_) (fun _ => ?_) <;> cbv)
    | (refine Test.eql (fun _ => ?_) (fun _ => ?_) <;> cbv)
    | (refine Test.neq (fun _ => ?_) (fun _ => ?_) <;> cbv)
    | exact Done.yes (by simp only [NodeOk]; grind)
    | exact Done.no (by simp only [NodeOk]; grind))

theorem implTreeOk_c (S : Se P A) (t : List Node) : Tests P 293 [.ro (A.enc cNode t)] (TreeOk t) := by
  refine S.cx.by (S.prog ▸ Tryz.func293) rfl rfl rfl rfl (fun hv ho => ?_)
  cbv
  refine LenR.nat S.cx (fun N hN hm => ?_); cbv
  refine ALoop.goD (ι := Int) (fun i => [(7, .int .i64 i)]) [] (fun i => []) (fun i => 0 <= i /\ i <= 60 /\ Upto (fun j x => NodeOk x (j : Int)) t i) (fun i => (t.length - i).toNat) (0) S.cx.tab S.cx.mix S.eq ?_ ?_ ?_
  · exact ⟨Int.le_refl _, by decide, .zero⟩
  · (cbv; exact Less.toA [])
  rintro i ⟨h0, h60, hu⟩
  cbv
  refine Test.lss (fun h => ?_) (fun h => ?_) <;> cbv
  · refine ElemRo.enc S.cx (fun _ => rfl) (by lia) (by lia) (fun x hx => ?_); cbv
    refine Test.eql (fun h1 => ?_) (fun h1 => ?_) <;> cbv
    · exact Done.no (fun e => by have := e.1; omega)
    refine ACall.testD (dp := false) (isNode_c S x.kind x.up x.due x.key x.value i h0) .go rfl (fun h2 => ?_) (fun h2 => ?_) <;> cbv
    · refine Arith.go (by lia) (fun i' hi' => ?_); cbv
      refine Again.on i' (by lia) ⟨by lia, by lia, hu.next h0 hx (by show NodeOk x ((i.toNat : Nat) : Int); rw [show ((i.toNat : Nat) : Int) = i by omega]; exact h2) hi'⟩ ?_
      (cbv; exact Less.toA [])
    · exact Done.no (fun e => h2 (by have := e.get hx; rw [show ((i.toNat : Nat) : Int) = i by omega] at this; exact this))
  · exact Done.yes (.of (by omega) (hu.all (by omega)))

theorem nodeOk_of {x : Node} {i : Int} (h : NodeIs x) (hk : x.kind = 0 /\ x.up = -1 ∨ x.kind ≠ 0 /\ 0 <= x.up /\ x.up <= i - 1) : NodeOk x i := ⟨h.1, h.2.1, hk, h.2.2⟩
theorem nodeOk_is {x : Node} {i : Int} (h : NodeOk x i) : NodeIs x := ⟨h.1, h.2.1, h.2.2.2⟩

theorem specTreeOk_c (S : Se P A) (t : List Node) : Tests P 214 [.ro (A.enc cNode t)] (TreeOk t) := by
  refine S.cx.by (S.prog ▸ Tryz.func214) rfl rfl rfl rfl (fun hv ho => ?_)
  cbv
  refine LenR.nat S.cx (fun N hN hm => ?_); cbv
  refine Test.gtr (fun h => ?_) (fun h => ?_) <;> cbv
  · exact Done.no (fun e => by have := e.1; omega)
  refine ALoop.goD (ι := Int) (fun i => [(3, .int .i64 i)]) [] (fun i => []) (fun i => 0 <= i /\ Upto (fun j x => NodeOk x (j : Int)) t i) (fun i => (t.length - i).toNat) (0) S.cx.tab S.cx.mix S.eq ?_ ?_ ?_
  · exact ⟨Int.le_refl _, .zero⟩
  · (cbv; exact Less.toA [])
  rintro i ⟨h0, hu⟩
  cbv
  refine LenR.nat S.cx (fun M hM hm2 => ?_); cbv
  refine Test.lss (fun h2 => ?_) (fun h2 => ?_) <;> cbv
  · refine ElemRo.enc S.cx (fun _ => rfl) (by lia) (by lia) (fun x hx => ?_); cbv
    have hno : ∀ {p : Prop}, (NodeOk x i -> p) -> TreeOk t -> p := fun hp e => hp (by have := e.get hx; rw [show ((i.toNat : Nat) : Int) = i by omega] at this; exact this)
    have hyes : NodeOk x i -> ∀ i', i' = i + 1 -> 0 <= i' /\ Upto (fun j x => NodeOk x (j : Int)) t i' := fun hn i' hi' => ⟨by omega, hu.next h0 hx (by show NodeOk x ((i.toNat : Nat) : Int); rw [show ((i.toNat : Nat) : Int) = i by omega]; exact hn) hi'⟩
    refine ACall.testD (dp := false) (l5Node_c S x.kind x.up x.due x.key x.value) .go rfl (fun h3 => ?_) (fun h3 => ?_) <;> cbv
    rotate_left
    · exact Done.no (hno fun e => h3 (nodeOk_is e))
    refine ElemRo.at S.cx (x := x) rfl h0 hx ?_; cbv
    refine Test.eql (fun h4 => ?_) (fun h4 => ?_) <;> cbv
    · refine ElemRo.at S.cx (x := x) rfl h0 hx ?_; cbv
      refine Test.neq (fun h5 => ?_) (fun h5 => ?_) <;> cbv
      · exact Done.no (hno fun e => by obtain ⟨_, _, e, _⟩ := e; omega)
      · refine Arith.go (by lia) (fun i' hi' => ?_); cbv
        refine Again.on i' (by lia) (hyes (nodeOk_of h3 (.inl ⟨h4, h5⟩)) i' hi') ?_
        (cbv; exact Less.toA [])
    · refine ElemRo.at S.cx (x := x) rfl h0 hx ?_; cbv
      refine Arith.go (by lia) (fun z hz => ?_); replace hz : z = i - 1 := hz; cbv
      refine ACall.testD (dp := false) (l1In_c S x.up 0 z) .go rfl (fun h5 => ?_) (fun h5 => ?_) <;> cbv
      · refine Arith.go (by lia) (fun i' hi' => ?_); cbv
        refine Again.on i' (by lia) (hyes (nodeOk_of h3 (.inr ⟨h4, by omega⟩)) i' hi') ?_
        (cbv; exact Less.toA [])
      · exact Done.no (hno fun e => by obtain ⟨_, _, e, _⟩ := e; omega)
  · exact Done.yes (.of (by omega) (hu.all (by omega)))

end Go.Proofs.YtihfpbhalnedcaaGreat.AM

namespace Go.Proofs.YtihfpbhalnedcaaGreat.AM
open Go Go.Proofs

set_option maxRecDepth 100000
set_option maxHeartbeats 4000000

variable {P : Program} {A : Sy}

def SpreadIs (t : List Node) (s : Spread) : Prop := s.told.length = t.length /\ s.work.length <= 240 /\ ∀ n ∈ s.work, 0 <= n /\ n.toNat < t.length
instance (t : List Node) (s : Spread) : Decidable (SpreadIs t s) := by unfold SpreadIs; infer_instance
def SpreadOk (t : List Node) (s : Spread) : Prop := TreeOk t /\ SpreadIs t s
instance (t : List Node) (s : Spread) : Decidable (SpreadOk t s) := by unfold SpreadOk; infer_instance
def spread0 : Spread := ⟨[], []⟩

theorem isSpread1_c (S : Se P A) (t : List Node) (x : Int) : Tests P 295 [.int .i64 x, .rptr [.ro (A.enc cNode t)]] (¬ (0 <= x /\ x.toNat < t.length)) := by
  refine S.cx.by (S.prog ▸ Tryz.func295) rfl rfl rfl rfl (fun hv ho => ?_)
  cbv
  refine ACall.testD (dp := false) (isInNode_c S x t) .go rfl (fun h => ?_) (fun h => ?_) <;> cbv
  · exact Done.no (fun e => e h)
  · exact Done.yes h

theorem isSpread_c (S : Se P A) (t : List Node) (told : List Bool) (work : List Int) : Tests P 227 [.agg (roSpread A ⟨told, work⟩), .ro (A.enc cNode t)] (SpreadIs t ⟨told, work⟩) := by
  refine S.cx.by (S.prog ▸ Tryz.func227) rfl rfl rfl rfl (fun hv ho => ?_)
  cbv
  refine LenR.nat S.cx (fun N hN hm => ?_); cbv
  refine LenR.nat S.cx (fun M hM hm2 => ?_); cbv
  refine Test.eql (fun h => ?_) (fun h => ?_) <;> cbv
  rotate_left
  · exact Done.no (fun e => h (by have := e.1; dsimp only at this; omega))
  refine LenR.nat S.cx (fun K hK hm3 => ?_); cbv
  refine Test.leq (fun h2 => ?_) (fun h2 => ?_) <;> cbv
  rotate_left
  · exact Done.no (fun e => by have := e.2.1; dsimp only at this; omega)
  refine ACall.testX (dp := false) (containsFuncInt641_c S _ _ _ (isSpread1_c S t) work) .go rfl (fun h3 => ?_) (fun h3 => ?_) <;> cbv
  · exact Done.no (fun e => by obtain ⟨x, hx, hn⟩ := h3; exact hn (e.2.2 x hx))
  · exact Done.yes ⟨by dsimp only; omega, by dsimp only; omega, fun x hx => Classical.byContradiction fun hn => h3 ⟨x, hx, hn⟩⟩

theorem specSpreadOk_c (S : Se P A) (t : List Node) (told : List Bool) (work : List Int) : Tests P 132 [.ro (A.enc cNode t), .agg (roSpread A ⟨told, work⟩)] (SpreadOk t ⟨told, work⟩) := by
  refine S.cx.by (S.prog ▸ Tryz.func132) rfl rfl rfl rfl (fun hv ho => ?_)
  cbv
  refine ACall.testD (dp := false) (specTreeOk_c S t) .go rfl (fun h => ?_) (fun h => ?_) <;> cbv
  rotate_left
  · exact Done.no (fun e => h e.1)
  refine LenR.nat S.cx (fun N hN hm => ?_); cbv
  refine LenR.nat S.cx (fun M hM hm2 => ?_); cbv
  refine Test.neq (fun h1 => ?_) (fun h1 => ?_) <;> cbv
  · exact Done.no (fun e => h1 (by have := e.2.1; dsimp only at this; omega))
  refine LenR.nat S.cx (fun K hK hm3 => ?_); cbv
  refine Test.gtr (fun h2 => ?_) (fun h2 => ?_) <;> cbv
  · exact Done.no (fun e => by have := e.2.2.1; dsimp only at this; omega)
  refine ALoop.goD (ι := Int) (fun i => [(5, .int .i64 i)]) [] (fun i => []) (fun i => 0 <= i /\ Upto (fun _ n => 0 <= n /\ n.toNat < t.length) work i) (fun i => (work.length - i).toNat) (0) S.cx.tab S.cx.mix S.eq ?_ ?_ ?_
  · exact ⟨Int.le_refl _, .zero⟩
  · (cbv; exact Less.toA [])
  rintro i ⟨h0, hu⟩
  cbv
  refine LenR.nat S.cx (fun K2 hK2 hm4 => ?_); cbv
  refine Test.lss (fun h3 => ?_) (fun h3 => ?_) <;> cbv
  · refine ElemRo.enc S.cx (fun _ => rfl) (by lia) (by lia) (fun x hx => ?_); cbv
    refine LenR.nat S.cx (fun T hT hm5 => ?_); cbv
    refine Arith.go (by lia) (fun z hz => ?_); replace hz : z = T - 1 := hz; cbv
    refine ACall.testD (dp := false) (l1In_c S x 0 z) .go rfl (fun h4 => ?_) (fun h4 => ?_) <;> cbv
    · refine Arith.go (by lia) (fun i' hi' => ?_); cbv
      refine Again.on i' (by lia) ⟨by lia, hu.next h0 hx (by omega) hi'⟩ ?_
      (cbv; exact Less.toA [])
    · exact Done.no (fun e => h4 (by have := e.2.2.2 x (mem_at hx); omega))
  · exact Done.yes ⟨h, by dsimp only; omega, by dsimp only; omega, hu.mem (by omega)⟩

end Go.Proofs.YtihfpbhalnedcaaGreat.AM

namespace Go.Proofs.YtihfpbhalnedcaaGreat.AM
open Go Go.Proofs

set_option maxRecDepth 100000
set_option maxHeartbeats 4000000

variable {P : Program} {A : Sy}

def Kids (t : List Node) (n : Int) : List Int := idxs (fun x => decide (x.up = n)) t
def notCut (t : List Node) (i : Int) : Bool := match t[i.toNat]? with
  | some x => decide (x.kind ≠ 4)
  | none => true
def Below (t : List Node) (n : Int) : List Int := (Kids t n).filter (notCut t)

theorem l5Has_c (S : Se P A) (t : List Node) (n : Int) : Tests P 265 [.ro (A.enc cNode t), .int .i64 n] (TreeOk t /\ 0 <= n /\ n.toNat < t.length) := by
  refine S.cx.by (S.prog ▸ Tryz.func265) rfl rfl rfl rfl (fun hv ho => ?_)
  cbv
  refine ACall.testD (dp := false) (specTreeOk_c S t) .go rfl (fun h => ?_) (fun h => ?_) <;> cbv
  rotate_left
  · exact Done.no (fun e => h e.1)
  refine LenR.nat S.cx (fun N hN hm => ?_); cbv
  refine Arith.go (by lia) (fun z hz => ?_); replace hz : z = N - 1 := hz; cbv
  refine ACall.testD (dp := false) (l1In_c S n 0 z) .go rfl (fun h2 => ?_) (fun h2 => ?_) <;> cbv
  · exact Done.yes ⟨h, by omega⟩
  · exact Done.no (fun e => h2 (by have := e.2; omega))

end Go.Proofs.YtihfpbhalnedcaaGreat.AM

namespace Go.Proofs.YtihfpbhalnedcaaGreat.AM
open Go Go.Proofs

def chain (t : List Node) : Nat -> Int -> List Int
  | 0, _ => []
  | f + 1, m => match t[m.toNat]? with
    | some x => if x.kind = 0 ∨ x.kind = 4 then [m] else m :: chain t f x.up
    | none => []

theorem up_less {t : List Node} (h : TreeOk t) {m : Int} {x : Node} (h0 : 0 <= m) (hx : t[m.toNat]? = some x) (hk : x.kind ≠ 0) : 0 <= x.up /\ x.up < m := by
  have h1 := (h.get hx).2.2.1
  rcases h1 with h1 | h1
  · exact absurd h1.1 hk
  · omega

theorem chain_fuel {t : List Node} (h : TreeOk t) : ∀ (f : Nat) (m : Int), 0 <= m -> m.toNat < f -> chain t f m = chain t (m.toNat + 1) m
  | 0, m, h0, hf => by omega
  | f + 1, m, h0, hf => by
    simp only [chain]
    cases hx : t[m.toNat]? with
    | none => rfl
    | some x =>
      dsimp only
      split
      · rfl
      · rename_i hk
        have hu := up_less h h0 hx (fun e => hk (.inl e))
        rw [chain_fuel h f x.up hu.1 (by omega), <- chain_fuel h m.toNat x.up hu.1 (by omega)]
termination_by f => f
decreasing_by all_goals omega

theorem chain_one {t : List Node} (h : TreeOk t) {m : Int} {x : Node} (h0 : 0 <= m) (hx : t[m.toNat]? = some x) :
    chain t (m.toNat + 1) m = if x.kind = 0 ∨ x.kind = 4 then [m] else m :: chain t (x.up.toNat + 1) x.up := by
  have e : chain t (m.toNat + 1) m = if x.kind = 0 ∨ x.kind = 4 then [m] else m :: chain t m.toNat x.up := by
    conv => lhs; unfold chain
    rw [hx]
  rw [e]
  split
  · rfl
  · rename_i hk
    have hu := up_less h h0 hx (fun e => hk (.inl e))
    rw [chain_fuel h m.toNat x.up hu.1 (by omega)]

def chainL (t : List Node) (m : Int) : List Int := chain t (m.toNat + 1) m

def NoEv (t : List Node) (l : List Event) (n : Int) : Prop := ∀ e ∈ l, e.node ∉ chainL t n
instance (t : List Node) (l : List Event) (n : Int) : Decidable (NoEv t l n) := by unfold NoEv; infer_instance

def firstIdx (t : List Node) (l : List Event) (n : Int) : Int := match l.findIdx? (fun e => decide (e.node ∈ chainL t n)) with
  | some k => (k : Int)
  | none => -1

theorem firstIdx_known {t : List Node} {l : List Event} {n r : Int} (h : 0 <= r /\ (∃ x, l[r.toNat]? = some x /\ x.node ∈ chainL t n) /\ Upto (fun _ x => ¬ x.node ∈ chainL t n) l r ∨ r = -1 /\ ∀ x ∈ l, ¬ x.node ∈ chainL t n) : r = firstIdx t l n := by
  rcases h with ⟨h0, ⟨x, hx, hq⟩, hu⟩ | ⟨rfl, h⟩
  · have : l.findIdx? (fun e => decide (e.node ∈ chainL t n)) = some r.toNat := by
      obtain ⟨hl, hg⟩ := List.getElem?_eq_some_iff.1 hx
      refine List.findIdx?_eq_some_iff_getElem.2 ⟨hl, by simp [hg, hq], fun j hj => ?_⟩
      have := hu j l[j] (by omega) (List.getElem?_eq_getElem (by omega))
      simpa using this
    unfold firstIdx; rw [this]; dsimp only; omega
  · have : l.findIdx? (fun e => decide (e.node ∈ chainL t n)) = none := List.findIdx?_eq_none_iff.2 fun x hx => decide_eq_false (h x hx)
    unfold firstIdx; rw [this]

theorem firstIdx_neg {t : List Node} {l : List Event} {n : Int} : firstIdx t l n < 0 ↔ NoEv t l n := by
  unfold firstIdx
  split
  · rename_i k hk
    obtain ⟨hl, h1, _⟩ := List.findIdx?_eq_some_iff_getElem.1 hk
    exact ⟨fun h => by omega, fun h => absurd (of_decide_eq_true h1) (h _ (List.getElem_mem hl))⟩
  · rename_i hk
    exact ⟨fun _ e he => of_decide_eq_false (List.findIdx?_eq_none_iff.1 hk e he), fun _ => by decide⟩

theorem firstIdx_some {t : List Node} {l : List Event} {n : Int} (h : 0 <= firstIdx t l n) : ∃ e, l[(firstIdx t l n).toNat]? = some e /\ e.node ∈ chainL t n := by
  unfold firstIdx at h ⊢
  split at h
  · rename_i k hk
    obtain ⟨hl, h1, _⟩ := List.findIdx?_eq_some_iff_getElem.1 hk
    exact ⟨l[k], List.getElem?_eq_getElem hl, of_decide_eq_true h1⟩
  · exact absurd h (by decide)

def EventAt (x : Node) (e : Event) : Prop := (e.err = 1 /\ (x.kind = 1 ∨ x.kind = 2) /\ 0 <= e.cause /\ e.cause <= 999) ∨ (e.err = 2 /\ x.kind = 2 /\ (x.due <= e.time /\ x.due ≠ 9223372036854775807) /\ e.cause = 0)
instance (x : Node) (e : Event) : Decidable (EventAt x e) := by unfold EventAt; infer_instance
def EventIs (t : List Node) (e : Event) : Prop := 0 <= e.node /\ ∃ x ∈ t[e.node.toNat]?, EventAt x e
instance (t : List Node) (e : Event) : Decidable (EventIs t e) := by
  unfold EventIs
  cases h : t[e.node.toNat]? with
  | none => exact isFalse fun ⟨_, x, hx, _⟩ => by cases hx
  | some x => exact decidable_of_iff (0 <= e.node /\ EventAt x e) ⟨fun h => ⟨h.1, x, rfl, h.2⟩, fun ⟨h1, y, hy, h2⟩ => ⟨h1, by cases hy; exact h2⟩⟩
theorem EventIs.lt {t : List Node} {e : Event} (h : EventIs t e) : 0 <= e.node /\ e.node.toNat < t.length := by
  obtain ⟨h0, x, hx, _⟩ := h
  exact ⟨h0, lt_of_get hx⟩
theorem EventIs.at {t : List Node} {e : Event} {x : Node} (hx : t[e.node.toNat]? = some x) (h0 : 0 <= e.node) : EventIs t e ↔ EventAt x e :=
  ⟨fun ⟨_, y, hy, h⟩ => by rw [hx] at hy; cases hy; exact h, fun h => ⟨h0, x, hx, h⟩⟩

def lastTime (l : List Event) (n : Int) : Prop := ∀ y ∈ l.getLast?, y.time <= n
instance (l : List Event) (n : Int) : Decidable (lastTime l n) := by
  unfold lastTime
  cases l.getLast? with
  | none => exact isTrue fun y hy => by cases hy
  | some y => exact decidable_of_iff (y.time <= n) ⟨fun h z hz => by cases hz; exact h, fun h => h y rfl⟩

def EvFits (t : List Node) (l : List Event) (e : Event) : Prop := EventIs t e /\ lastTime l e.time /\ NoEv t l e.node
instance (t : List Node) (l : List Event) (e : Event) : Decidable (EvFits t l e) := by unfold EvFits; infer_instance
def EventsOk (t : List Node) (l : List Event) : Prop := TreeOk t /\ ∀ p ∈ l.zipIdx, EvFits t (l.take p.2) p.1
instance (t : List Node) (l : List Event) : Decidable (EventsOk t l) := by unfold EventsOk; infer_instance
theorem EventsOk.get {t : List Node} {l : List Event} (h : EventsOk t l) {j : Nat} {x : Event} (hx : l[j]? = some x) : EvFits t (l.take j) x := h.2 (x, j) (List.mem_zipIdx_iff_getElem?.2 hx)
theorem EventsOk.of {t : List Node} {l : List Event} (h1 : TreeOk t) (h2 : ∀ (j : Nat) (x : Event), l[j]? = some x -> EvFits t (l.take j) x) : EventsOk t l := ⟨h1, fun p hp => h2 p.2 p.1 (List.mem_zipIdx_iff_getElem?.1 hp)⟩

theorem lastTime_take {l : List Event} {i : Nat} {y : Event} (hy : l[i]? = some y) {n : Int} : lastTime (l.take (i + 1)) n ↔ y.time <= n := by
  rw [take_next hy]
  unfold lastTime
  simp

theorem times_rise {t : List Node} {l : List Event} (h : EventsOk t l) {i : Nat} : ∀ {j : Nat} {x y : Event}, i <= j -> l[i]? = some x -> l[j]? = some y -> x.time <= y.time
  | 0, x, y, hij, hx, hy => by
    obtain rfl : i = 0 := by omega
    rw [hx] at hy; cases hy; exact Int.le_refl _
  | j + 1, x, y, hij, hx, hy => by
    by_cases e : i = j + 1
    · subst e; rw [hx] at hy; cases hy; exact Int.le_refl _
    · obtain ⟨z, hz⟩ : ∃ z, l[j]? = some z := get_of_lt (by have := lt_of_get hy; omega)
      have h1 := times_rise h (j := j) (by omega) hx hz
      have h2 := (lastTime_take (n := y.time) hz).1 (h.get hy).2.1
      omega

theorem times_in {t : List Node} {l : List Event} (h : EventsOk t l) {now : Int} {a b : Event} (ha : l[0]? = some a) (hb : l[l.length - 1]? = some b) : (0 <= a.time /\ b.time <= now) ↔ ∀ e ∈ l, 0 <= e.time /\ e.time <= now := by
  constructor
  · intro ⟨h1, h2⟩ e he
    obtain ⟨j, hj⟩ := List.getElem?_of_mem he
    have h3 := times_rise h (Nat.zero_le j) ha hj
    have h4 := times_rise h (i := j) (j := l.length - 1) (by have := lt_of_get hj; omega) hj hb
    omega
  · intro hh
    exact ⟨(hh a (mem_at ha)).1, (hh b (mem_at hb)).2⟩

end Go.Proofs.YtihfpbhalnedcaaGreat.AM
