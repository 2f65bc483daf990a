/- Contracts: instructions, programs. (printed by gw3.py) -/
import Derived.Test.YtihfpbhalnedcaaGreatW2
set_option linter.unusedVariables false
set_option linter.unusedSimpArgs false
namespace Go.Proofs.YtihfpbhalnedcaaGreat.AM
open Go Go.Proofs

set_option maxRecDepth 100000
set_option maxHeartbeats 4000000

variable {P : Program} {A : Sy}

theorem indexFuncIns_c (S : Se P A) (F : FuncId) (q : Ins -> Prop) (hF : ∀ x : Ins, Tests P F [.agg (cIns x)] (q x)) (l : List Ins) : Nums P 347 [.ro (A.enc cIns l), .fn F [] []] (fun r => 0 <= r /\ (∃ x, l[r.toNat]? = some x /\ q x) /\ Upto (fun _ x => ¬ q x) l r ∨ r = -1 /\ ∀ x ∈ l, ¬ q x) := by
  refine S.cx.by (S.prog ▸ Tryz.func347) rfl rfl rfl rfl (fun hv ho => ?_)
  cbv
  refine LenR.nat S.cx (fun N hN hm => ?_); cbv
  refine ALoop.goD (ι := Int) (fun i => [(8, .int .i64 i)]) [] (fun i => []) (fun i => 0 <= i /\ Upto (fun _ x => ¬ q x) l i) (fun i => (l.length - i).toNat) (0) S.cx.tab S.cx.mix S.eq ?_ ?_ ?_
  · exact ⟨Int.le_refl _, .zero⟩
  · (cbv; exact Less.toA [])
  · rintro i ⟨h0, hu⟩
    cbv
    refine Test.lss (fun h => ?_) (fun h => ?_) <;> cbv
    · refine ElemRo.enc S.cx (fun _ => rfl) (by lia) (by lia) (fun x hx => ?_); cbv
      refine ACall.testD (dp := false) (hF x) .go rfl (fun h2 => ?_) (fun h2 => ?_) <;> cbv
      · exact Done.num (.inl ⟨h0, ⟨x, hx, h2⟩, hu⟩)
      · refine Arith.go (by lia) (fun i' hi' => ?_); cbv
        refine Again.on i' (by lia) ⟨by lia, hu.next h0 hx h2 hi'⟩ ?_
        (cbv; exact Less.toA [])
    · exact Done.num (.inr ⟨rfl, hu.mem (by lia)⟩)

theorem containsFuncIns_c (S : Se P A) (F : FuncId) (q : Ins -> Prop) (hF : ∀ x : Ins, Tests P F [.agg (cIns x)] (q x)) (l : List Ins) : Tests P 290 [.ro (A.enc cIns l), .fn F [] []] (∃ x ∈ l, q x) := by
  refine S.cx.by (S.prog ▸ Tryz.func290) rfl rfl rfl rfl (fun hv ho => ?_)
  cbv
  refine ACall.num (dp := false) (indexFuncIns_c S F q hF l) .go (fun r hr => ?_); cbv
  refine Test.geq (fun h => ?_) (fun h => ?_) <;> cbv
  · refine Done.yes ?_
    rcases hr with ⟨_, ⟨x, hx, hq⟩, _⟩ | ⟨rfl, _⟩
    · exact ⟨x, mem_at hx, hq⟩
    · exact absurd h (by decide)
  · refine Done.no fun ⟨x, hx, hq⟩ => ?_
    rcases hr with ⟨h0, _⟩ | ⟨_, hr⟩
    · lia
    · exact hr x hx hq

def InsOk (i : Ins) : Prop :=
  (i.op = 0 /\ (0 <= i.a /\ i.a <= 90) /\ i.b = 0) ∨ ((i.op = 1 ∨ i.op = 2 ∨ i.op = 9) /\ (-1 <= i.a /\ i.a <= 59) /\ i.b = 0) ∨ (i.op = 3 /\ (-1 <= i.a /\ i.a <= 59) /\ 0 <= i.b /\ i.b <= 1000) ∨
  (i.op = 4 /\ (-1 <= i.a /\ i.a <= 59) /\ 0 <= i.b /\ i.b <= 999) ∨ (i.op = 5 /\ (0 <= i.a /\ i.a <= 12) /\ i.b = 0) ∨ ((i.op = 6 ∨ i.op = 7) /\ (0 <= i.a /\ i.a <= 7) /\ 0 <= i.b /\ i.b <= 7) ∨
  (i.op = 8 /\ (0 <= i.a /\ i.a <= 7) /\ i.b = 0) ∨ (i.op = 10 /\ (-1 <= i.a /\ i.a <= 59) /\ 1 <= i.b /\ i.b <= 9)
instance (i : Ins) : Decidable (InsOk i) := by unfold InsOk; infer_instance
def ProgOk (l : List Ins) : Prop := l.length <= 12 /\ ∀ i ∈ l, InsOk i
instance (l : List Ins) : Decidable (ProgOk l) := by unfold ProgOk; infer_instance

theorem hasNode_c (S : Se P A) (op : Int) : Tests P 348 [.int .i64 op] ((1 <= op /\ op <= 4) ∨ op = 9 ∨ op = 10) := by
  refine S.cx.by (S.prog ▸ Tryz.func348) rfl rfl rfl rfl (fun hv ho => ?_)
  cbv
  repeat' (first
    | (refine ACall.testD (dp := false) (within_c S _ _ _) ⟨rfl, (by repeat' (first | exact trivial | exact rfl | refine ⟨?_, ?_⟩)), trivial⟩ rfl (fun _ => ?_) (fun _ => ?_) <;> cbv)
    | (refine Test.eql (fun _ => ?_) (fun _ => ?_) <;> cbv)
    | (refine Test.neq (fun _ => ?_) (fun _ => ?_) <;> cbv)
    | (refine Test.lss (fun _ => ?_) (fun _ => ?_) <;> cbv)
    | (refine Test.leq (fun _ => ?_) (fun _ => ?_) <;> cbv)
    | (refine Test.gtr (fun _ => ?_) (fun _ => ?_) <;> cbv)
    | (refine Test.geq (fun _ => ?_) (fun _ => ?_) <;> cbv)
    | (refine ⟨⟨by kernel_rfl, fun _ => ?_⟩⟩)
    | (refine LenR.nat S.cx (fun N hN hm => ?_); cbv)
    | exact Done.yes (by omega)
    | exact Done.no (by omega))

theorem hasB_c (S : Se P A) (op : Int) : Tests P 349 [.int .i64 op] (op = 3 ∨ op = 4 ∨ op = 6 ∨ op = 7 ∨ op = 10) := by
  refine S.cx.by (S.prog ▸ Tryz.func349) rfl rfl rfl rfl (fun hv ho => ?_)
  cbv
  repeat' (first
    | (refine Test.eql (fun _ => ?_) (fun _ => ?_) <;> cbv)
    | (refine Test.neq (fun _ => ?_) (fun _ => ?_) <;> cbv)
    | (refine Test.lss (fun _ => ?_) (fun _ => ?_) <;> cbv)
    | (refine Test.leq (fun _ => ?_) (fun _ => ?_) <;> cbv)
    | (refine Test.gtr (fun _ => ?_) (fun _ => ?_) <;> cbv)
    | (refine Test.geq (fun _ => ?_) (fun _ => ?_) <;> cbv)
    | (refine ⟨⟨by kernel_rfl, fun _ => ?_⟩⟩)
    | (refine LenR.nat S.cx (fun N hN hm => ?_); cbv)
    | exact Done.yes (by omega)
    | exact Done.no (by omega))

theorem implInsOk_c (S : Se P A) (op a b : Int) : Tests P 292 [.agg (cIns ⟨op, a, b⟩)] (InsOk ⟨op, a, b⟩) := by
  refine S.cx.by (S.prog ▸ Tryz.func292) rfl rfl rfl rfl (fun hv ho => ?_)
  cbv
  clear hv ho
  repeat' (first
    | (refine ACall.testD (dp := false) (within_c S _ _ _) ⟨rfl, (by repeat' (first | exact trivial | exact rfl | refine ⟨?_, ?_⟩)), trivial⟩ rfl (fun _ => ?_) (fun _ => ?_) <;> cbv)
    | (refine ACall.testD (dp := false) (hasNode_c S _) ⟨rfl, (by repeat' (first | exact trivial | exact rfl | refine ⟨?_, ?_⟩)), trivial⟩ rfl (fun _ => ?_) (fun _ => ?_) <;> cbv)
    | (refine ACall.testD (dp := false) (hasB_c S _) ⟨rfl, (by repeat' (first | exact trivial | exact rfl | refine ⟨?_, ?_⟩)), trivial⟩ rfl (fun _ => ?_) (fun _ => ?_) <;> cbv)
    | (refine Test.eql (fun _ => ?_) (fun _ => ?_) <;> first | (exfalso; omega) | cbv)
    | (refine Test.neq (fun _ => ?_) (fun _ => ?_) <;> first | (exfalso; omega) | cbv)
    | (refine Test.lss (fun _ => ?_) (fun _ => ?_) <;> first | (exfalso; omega) | cbv)
    | (refine Test.leq (fun _ => ?_) (fun _ => ?_) <;> first | (exfalso; omega) | cbv)
    | (refine Test.gtr (fun _ => ?_) (fun _ => ?_) <;> first | (exfalso; omega) | cbv)
    | (refine Test.geq (fun _ => ?_) (fun _ => ?_) <;> first | (exfalso; omega) | cbv)
    | (refine ⟨⟨by kernel_rfl, fun _ => ?_⟩⟩)
    | (refine LenR.nat S.cx (fun N hN hm => ?_); cbv)
    | exact Done.yes (by simp only [InsOk]; omega)
    | exact Done.no (by simp only [InsOk]; omega))

theorem l9Leash_c (S : Se P A) (n : Int) : Tests P 344 [.int .i64 n] (-1 <= n /\ n <= 59) := by
  refine S.cx.by (S.prog ▸ Tryz.func344) rfl rfl rfl rfl (fun hv ho => ?_)
  cbv
  repeat' (first
    | (refine ACall.testD (dp := false) (l1In_c S _ _ _) ⟨rfl, (by repeat' (first | exact trivial | exact rfl | refine ⟨?_, ?_⟩)), trivial⟩ rfl (fun _ => ?_) (fun _ => ?_) <;> cbv)
    | (refine Test.eql (fun _ => ?_) (fun _ => ?_) <;> cbv)
    | (refine Test.neq (fun _ => ?_) (fun _ => ?_) <;> cbv)
    | (refine Test.lss (fun _ => ?_) (fun _ => ?_) <;> cbv)
    | (refine Test.leq (fun _ => ?_) (fun _ => ?_) <;> cbv)
    | (refine Test.gtr (fun _ => ?_) (fun _ => ?_) <;> cbv)
    | (refine Test.geq (fun _ => ?_) (fun _ => ?_) <;> cbv)
    | (refine ⟨⟨by kernel_rfl, fun _ => ?_⟩⟩)
    | (refine LenR.nat S.cx (fun N hN hm => ?_); cbv)
    | exact Done.yes (by omega)
    | exact Done.no (by omega))

theorem specInsOk_c (S : Se P A) (op a b : Int) : Tests P 284 [.agg (cIns ⟨op, a, b⟩)] (InsOk ⟨op, a, b⟩) := by
  refine S.cx.by (S.prog ▸ Tryz.func284) rfl rfl rfl rfl (fun hv ho => ?_)
  cbv
  clear hv ho
  repeat' (first
    | (refine ACall.testD (dp := false) (l1In_c S _ _ _) ⟨rfl, (by repeat' (first | exact trivial | exact rfl | refine ⟨?_, ?_⟩)), trivial⟩ rfl (fun _ => ?_) (fun _ => ?_) <;> cbv)
    | (refine ACall.testD (dp := false) (l9Leash_c S _) ⟨rfl, (by repeat' (first | exact trivial | exact rfl | refine ⟨?_, ?_⟩)), trivial⟩ rfl (fun _ => ?_) (fun _ => ?_) <;> cbv)
    | (refine Test.eql (fun _ => ?_) (fun _ => ?_) <;> first | (exfalso; omega) | cbv)
    | (refine Test.neq (fun _ => ?_) (fun _ => ?_) <;> first | (exfalso; omega) | cbv)
    | (refine Test.lss (fun _ => ?_) (fun _ => ?_) <;> first | (exfalso; omega) | cbv)
    | (refine Test.leq (fun _ => ?_) (fun _ => ?_) <;> first | (exfalso; omega) | cbv)
    | (refine Test.gtr (fun _ => ?_) (fun _ => ?_) <;> first | (exfalso; omega) | cbv)
    | (refine Test.geq (fun _ => ?_) (fun _ => ?_) <;> first | (exfalso; omega) | cbv)
    | (refine ⟨⟨by kernel_rfl, fun _ => ?_⟩⟩)
    | (refine LenR.nat S.cx (fun N hN hm => ?_); cbv)
    | exact Done.yes (by simp only [InsOk]; omega)
    | exact Done.no (by simp only [InsOk]; omega))

theorem progOk1_c (S : Se P A) (x : Ins) : Tests P 291 [.agg (cIns x)] (¬ InsOk x) := by
  refine S.cx.by (S.prog ▸ Tryz.func291) rfl rfl rfl rfl (fun hv ho => ?_)
  cbv
  refine ACall.testD (dp := false) (implInsOk_c S x.op x.a x.b) .go rfl (fun h => ?_) (fun h => ?_) <;> cbv
  · exact Done.no (fun e => e h)
  · exact Done.yes h

theorem implProgOk_c (S : Se P A) (l : List Ins) : Tests P 225 [.ro (A.enc cIns l)] (ProgOk l) := by
  refine S.cx.by (S.prog ▸ Tryz.func225) rfl rfl rfl rfl (fun hv ho => ?_)
  cbv
  refine LenR.nat S.cx (fun N hN hm => ?_); cbv
  refine Test.leq (fun h => ?_) (fun h => ?_) <;> cbv
  · refine ACall.testD (dp := false) (containsFuncIns_c S _ _ (progOk1_c S) l) .go rfl (fun h2 => ?_) (fun h2 => ?_) <;> cbv
    · exact Done.no (fun e => by obtain ⟨x, hx, hn⟩ := h2; exact hn (e.2 x hx))
    · exact Done.yes ⟨by omega, fun x hx => Classical.byContradiction fun hn => h2 ⟨x, hx, hn⟩⟩
  · exact Done.no (fun e => by have := e.1; omega)

theorem specProgOk_c (S : Se P A) (l : List Ins) : Tests P 212 [.ro (A.enc cIns l)] (ProgOk l) := by
  refine S.cx.by (S.prog ▸ Tryz.func212) rfl rfl rfl rfl (fun hv ho => ?_)
  cbv
  refine ALoop.goD (ι := Int) (fun i => [(3, .int .i64 i)]) [] (fun i => []) (fun i => 0 <= i /\ Upto (fun _ x => InsOk x) l i) (fun i => (l.length - i).toNat) (0) S.cx.tab S.cx.mix S.eq ?_ ?_ ?_
  · exact ⟨Int.le_refl _, .zero⟩
  · (cbv; exact Less.toA [])
  · rintro i ⟨h0, hu⟩
    cbv
    refine LenR.nat S.cx (fun N hN hm => ?_); cbv
    refine Test.lss (fun h => ?_) (fun h => ?_) <;> cbv
    · refine ElemRo.enc S.cx (fun _ => rfl) (by lia) (by lia) (fun x hx => ?_); cbv
      refine ACall.testD (dp := false) (specInsOk_c S x.op x.a x.b) .go rfl (fun h2 => ?_) (fun h2 => ?_) <;> cbv
      · refine Arith.go (by lia) (fun i' hi' => ?_); cbv
        refine Again.on i' (by lia) ⟨by lia, hu.next h0 hx h2 hi'⟩ ?_
        (cbv; exact Less.toA [])
      · exact Done.no (fun e => h2 (e.2 x (mem_at hx)))
    · have hu := hu.mem (by lia)
      refine LenR.nat S.cx (fun M hM hm2 => ?_); cbv
      refine Test.leq (fun h2 => ?_) (fun h2 => ?_) <;> cbv
      · exact Done.yes ⟨by omega, hu⟩
      · exact Done.no (fun e => by have := e.1; omega)

theorem l13Progs_c (S : Se P A) (l : List (List Ins)) : Tests P 130 [.ro (A.enc (roProg A) l)] (l.length <= 8 /\ ∀ p ∈ l, ProgOk p) := by
  refine S.cx.by (S.prog ▸ Tryz.func130) rfl rfl rfl rfl (fun hv ho => ?_)
  cbv
  refine ALoop.goD (ι := Int) (fun i => [(3, .int .i64 i)]) [] (fun i => []) (fun i => 0 <= i /\ Upto (fun _ x => ProgOk x) l i) (fun i => (l.length - i).toNat) (0) S.cx.tab S.cx.mix S.eq ?_ ?_ ?_
  · exact ⟨Int.le_refl _, .zero⟩
  · (cbv; exact Less.toA [])
  · rintro i ⟨h0, hu⟩
    cbv
    refine LenR.nat S.cx (fun N hN hm => ?_); cbv
    refine Test.lss (fun h => ?_) (fun h => ?_) <;> cbv
    · refine ElemRo.enc S.cx (fun _ => rfl) (by lia) (by lia) (fun x hx => ?_); cbv
      refine ACall.testD (dp := false) (specProgOk_c S x) .go rfl (fun h2 => ?_) (fun h2 => ?_) <;> cbv
      · refine Arith.go (by lia) (fun i' hi' => ?_); cbv
        refine Again.on i' (by lia) ⟨by lia, hu.next h0 hx h2 hi'⟩ ?_
        (cbv; exact Less.toA [])
      · exact Done.no (fun e => h2 (e.2 x (mem_at hx)))
    · have hu := hu.mem (by lia)
      refine LenR.nat S.cx (fun M hM hm2 => ?_); cbv
      refine Test.leq (fun h2 => ?_) (fun h2 => ?_) <;> cbv
      · exact Done.yes ⟨by omega, hu⟩
      · exact Done.no (fun e => by have := e.1; omega)

theorem l13Numbers_c (S : Se P A) (l : List Int) (most : Int) : Tests P 138 [.ro (A.enc cInt64 l), .int .i64 most] (l.length <= 2000 /\ ∀ n ∈ l, 0 <= n /\ n <= most) := by
  refine S.cx.by (S.prog ▸ Tryz.func138) rfl rfl rfl rfl (fun hv ho => ?_)
  cbv
  refine ALoop.goD (ι := Int) (fun i => [(5, .int .i64 i)]) [] (fun i => []) (fun i => 0 <= i /\ Upto (fun _ x => 0 <= x /\ x <= most) l i) (fun i => (l.length - i).toNat) (0) S.cx.tab S.cx.mix S.eq ?_ ?_ ?_
  · exact ⟨Int.le_refl _, .zero⟩
  · (cbv; exact Less.toA [])
  · rintro i ⟨h0, hu⟩
    cbv
    refine LenR.nat S.cx (fun N hN hm => ?_); cbv
    refine Test.lss (fun h => ?_) (fun h => ?_) <;> cbv
    · refine ElemRo.enc S.cx (fun _ => rfl) (by lia) (by lia) (fun x hx => ?_); cbv
      refine ACall.testD (dp := false) (l1In_c S x 0 most) .go rfl (fun h2 => ?_) (fun h2 => ?_) <;> cbv
      · refine Arith.go (by lia) (fun i' hi' => ?_); cbv
        refine Again.on i' (by lia) ⟨by lia, hu.next h0 hx h2 hi'⟩ ?_
        (cbv; exact Less.toA [])
      · exact Done.no (fun e => h2 (e.2 x (mem_at hx)))
    · have hu := hu.mem (by lia)
      refine LenR.nat S.cx (fun M hM hm2 => ?_); cbv
      refine Test.leq (fun h2 => ?_) (fun h2 => ?_) <;> cbv
      · exact Done.yes ⟨by omega, hu⟩
      · exact Done.no (fun e => by have := e.1; omega)

end Go.Proofs.YtihfpbhalnedcaaGreat.AM
