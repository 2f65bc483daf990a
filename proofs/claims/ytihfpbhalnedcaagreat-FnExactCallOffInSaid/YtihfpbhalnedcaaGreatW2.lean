/- Contracts: what holds of all elements. (printed by gw2.py) -/
import Derived.Test.YtihfpbhalnedcaaGreatDA
import Derived.Test.YtihfpbhalnedcaaGreatHA
import Derived.Test.YtihfpbhalnedcaaGreatBC
set_option linter.unusedVariables false
set_option linter.unusedSimpArgs false
namespace Go.Proofs.YtihfpbhalnedcaaGreat.AM
open Go Go.Proofs

set_option maxRecDepth 100000
set_option maxHeartbeats 4000000

variable {P : Program} {A : Sy}

theorem indexFuncProgW_c (S : Se P A) (F : FuncId) (c1 : List AV) (q : List Ins -> Prop) (l : List (List Ins)) (hF : ∀ x ∈ l, Tests P F [.ro (A.enc cIns x), .rptr c1] (q x)) : Nums P 346 [.ro (A.enc (roProg A) l), .fn F [] [.rptr c1]] (fun r => 0 <= r /\ (∃ x, l[r.toNat]? = some x /\ q x) /\ Upto (fun _ x => ¬ q x) l r ∨ r = -1 /\ ∀ x ∈ l, ¬ q x) := by
  refine S.cx.by (S.prog ▸ Tryz.func346) rfl rfl rfl rfl (fun hv ho => ?_)
  cbv
  refine LenR.nat S.cx (fun N hN hm => ?_); cbv
  refine ALoop.goD (ι := Int) (fun i => [(8, .int .i64 i)]) [] (fun i => []) (fun i => 0 <= i /\ Upto (fun _ x => ¬ q x) l i) (fun i => (l.length - i).toNat) (0) S.cx.tab S.cx.mix S.eq ?_ ?_ ?_
  · exact ⟨Int.le_refl _, .zero⟩
  · (cbv; exact Less.toA [])
  · rintro i ⟨h0, hu⟩
    cbv
    refine Test.lss (fun h => ?_) (fun h => ?_) <;> cbv
    · refine ElemRo.enc S.cx (fun _ => rfl) (by lia) (by lia) (fun x hx => ?_); cbv
      refine ACall.testX (dp := false) (hF x (mem_at hx)) .go rfl (fun h2 => ?_) (fun h2 => ?_) <;> cbv
      · exact Done.num (.inl ⟨h0, ⟨x, hx, h2⟩, hu⟩)
      · refine Arith.go (by lia) (fun i' hi' => ?_); cbv
        refine Again.on i' (by lia) ⟨by lia, hu.next h0 hx h2 hi'⟩ ?_
        (cbv; exact Less.toA [])
    · exact Done.num (.inr ⟨rfl, hu.mem (by lia)⟩)

theorem containsFuncProgW_c (S : Se P A) (F : FuncId) (c1 : List AV) (q : List Ins -> Prop) (l : List (List Ins)) (hF : ∀ x ∈ l, Tests P F [.ro (A.enc cIns x), .rptr c1] (q x)) : Tests P 288 [.ro (A.enc (roProg A) l), .fn F [] [.rptr c1]] (∃ x ∈ l, q x) := by
  refine S.cx.by (S.prog ▸ Tryz.func288) rfl rfl rfl rfl (fun hv ho => ?_)
  cbv
  refine ACall.num (dp := false) (indexFuncProgW_c S F c1 q l hF) .go (fun r hr => ?_); cbv
  refine Test.geq (fun h => ?_) (fun h => ?_) <;> cbv
  · refine Done.yes ?_
    rcases hr with ⟨_, ⟨x, hx, hq⟩, _⟩ | ⟨rfl, _⟩
    · exact ⟨x, mem_at hx, hq⟩
    · exact absurd h (by decide)
  · refine Done.no fun ⟨x, hx, hq⟩ => ?_
    rcases hr with ⟨h0, _⟩ | ⟨_, hr⟩
    · lia
    · exact hr x hx hq

theorem allProg01_c (S : Se P A) (F : FuncId) (q : List Ins -> Prop) (l : List (List Ins)) (hF : ∀ x ∈ l, Tests P F [.ro (A.enc cIns x)] (q x)) (x : List Ins) (hx : x ∈ l) : Tests P 289 [.ro (A.enc cIns x), .rptr [.fn F [] []]] (¬ q x) := by
  refine S.cx.by (S.prog ▸ Tryz.func289) rfl rfl rfl rfl (fun hv ho => ?_)
  cbv
  refine ACall.testX (dp := false) (hF x hx) .go rfl (fun h => ?_) (fun h => ?_) <;> cbv
  · exact Done.no (fun e => e h)
  · exact Done.yes h

theorem allProg0_c (S : Se P A) (F : FuncId) (q : List Ins -> Prop) (l : List (List Ins)) (hF : ∀ x ∈ l, Tests P F [.ro (A.enc cIns x)] (q x)) : Tests P 224 [.ro (A.enc (roProg A) l), .fn F [] []] (∀ x ∈ l, q x) := by
  refine S.cx.by (S.prog ▸ Tryz.func224) rfl rfl rfl rfl (fun hv ho => ?_)
  cbv
  refine ACall.testX (dp := false) (containsFuncProgW_c S _ _ _ l (fun x hx => allProg01_c S F q l hF x hx)) .go rfl (fun h => ?_) (fun h => ?_) <;> cbv
  · exact Done.no (fun e => by obtain ⟨x, hx, hn⟩ := h; exact hn (e x hx))
  · exact Done.yes (fun x hx => Classical.byContradiction fun hn => h ⟨x, hx, hn⟩)

theorem indexFuncEventW_c (S : Se P A) (F : FuncId) (c1 : List AV) (q : Event -> Prop) (l : List (Event)) (hF : ∀ x ∈ l, Tests P F [.agg (cEvent x), .rptr c1] (q x)) : Nums P 352 [.ro (A.enc cEvent l), .fn F [] [.rptr c1]] (fun r => 0 <= r /\ (∃ x, l[r.toNat]? = some x /\ q x) /\ Upto (fun _ x => ¬ q x) l r ∨ r = -1 /\ ∀ x ∈ l, ¬ q x) := by
  refine S.cx.by (S.prog ▸ Tryz.func352) rfl rfl rfl rfl (fun hv ho => ?_)
  cbv
  refine LenR.nat S.cx (fun N hN hm => ?_); cbv
  refine ALoop.goD (ι := Int) (fun i => [(8, .int .i64 i)]) [] (fun i => []) (fun i => 0 <= i /\ Upto (fun _ x => ¬ q x) l i) (fun i => (l.length - i).toNat) (0) S.cx.tab S.cx.mix S.eq ?_ ?_ ?_
  · exact ⟨Int.le_refl _, .zero⟩
  · (cbv; exact Less.toA [])
  · rintro i ⟨h0, hu⟩
    cbv
    refine Test.lss (fun h => ?_) (fun h => ?_) <;> cbv
    · refine ElemRo.enc S.cx (fun _ => rfl) (by lia) (by lia) (fun x hx => ?_); cbv
      refine ACall.testX (dp := false) (hF x (mem_at hx)) .go rfl (fun h2 => ?_) (fun h2 => ?_) <;> cbv
      · exact Done.num (.inl ⟨h0, ⟨x, hx, h2⟩, hu⟩)
      · refine Arith.go (by lia) (fun i' hi' => ?_); cbv
        refine Again.on i' (by lia) ⟨by lia, hu.next h0 hx h2 hi'⟩ ?_
        (cbv; exact Less.toA [])
    · exact Done.num (.inr ⟨rfl, hu.mem (by lia)⟩)

theorem containsFuncEventW_c (S : Se P A) (F : FuncId) (c1 : List AV) (q : Event -> Prop) (l : List (Event)) (hF : ∀ x ∈ l, Tests P F [.agg (cEvent x), .rptr c1] (q x)) : Tests P 296 [.ro (A.enc cEvent l), .fn F [] [.rptr c1]] (∃ x ∈ l, q x) := by
  refine S.cx.by (S.prog ▸ Tryz.func296) rfl rfl rfl rfl (fun hv ho => ?_)
  cbv
  refine ACall.num (dp := false) (indexFuncEventW_c S F c1 q l hF) .go (fun r hr => ?_); cbv
  refine Test.geq (fun h => ?_) (fun h => ?_) <;> cbv
  · refine Done.yes ?_
    rcases hr with ⟨_, ⟨x, hx, hq⟩, _⟩ | ⟨rfl, _⟩
    · exact ⟨x, mem_at hx, hq⟩
    · exact absurd h (by decide)
  · refine Done.no fun ⟨x, hx, hq⟩ => ?_
    rcases hr with ⟨h0, _⟩ | ⟨_, hr⟩
    · lia
    · exact hr x hx hq

theorem allEventC1_c (S : Se P A) (F : FuncId) (c1 : List AV) (q : Event -> Prop) (l : List (Event)) (hF : ∀ x ∈ l, Tests P F [.agg (cEvent x), .rptr c1] (q x)) (x : Event) (hx : x ∈ l) : Tests P 297 [.agg (cEvent x), .rptr [.fn F [] [.rptr c1]]] (¬ q x) := by
  refine S.cx.by (S.prog ▸ Tryz.func297) rfl rfl rfl rfl (fun hv ho => ?_)
  cbv
  refine ACall.testX (dp := false) (hF x hx) .go rfl (fun h => ?_) (fun h => ?_) <;> cbv
  · exact Done.no (fun e => e h)
  · exact Done.yes h

theorem allEventC_c (S : Se P A) (F : FuncId) (c1 : List AV) (q : Event -> Prop) (l : List (Event)) (hF : ∀ x ∈ l, Tests P F [.agg (cEvent x), .rptr c1] (q x)) : Tests P 228 [.ro (A.enc cEvent l), .fn F [] [.rptr c1]] (∀ x ∈ l, q x) := by
  refine S.cx.by (S.prog ▸ Tryz.func228) rfl rfl rfl rfl (fun hv ho => ?_)
  cbv
  refine ACall.testX (dp := false) (containsFuncEventW_c S _ _ _ l (fun x hx => allEventC1_c S F c1 q l hF x hx)) .go rfl (fun h => ?_) (fun h => ?_) <;> cbv
  · exact Done.no (fun e => by obtain ⟨x, hx, hn⟩ := h; exact hn (e x hx))
  · exact Done.yes (fun x hx => Classical.byContradiction fun hn => h ⟨x, hx, hn⟩)

theorem indexFuncTimerW_c (S : Se P A) (F : FuncId) (c1 : List AV) (q : Timer -> Prop) (l : List (Timer)) (hF : ∀ x ∈ l, Tests P F [.agg (cTimer x), .rptr c1] (q x)) : Nums P 277 [.ro (A.enc cTimer l), .fn F [] [.rptr c1]] (fun r => 0 <= r /\ (∃ x, l[r.toNat]? = some x /\ q x) /\ Upto (fun _ x => ¬ q x) l r ∨ r = -1 /\ ∀ x ∈ l, ¬ q x) := by
  refine S.cx.by (S.prog ▸ Tryz.func277) rfl rfl rfl rfl (fun hv ho => ?_)
  cbv
  refine LenR.nat S.cx (fun N hN hm => ?_); cbv
  refine ALoop.goD (ι := Int) (fun i => [(8, .int .i64 i)]) [] (fun i => []) (fun i => 0 <= i /\ Upto (fun _ x => ¬ q x) l i) (fun i => (l.length - i).toNat) (0) S.cx.tab S.cx.mix S.eq ?_ ?_ ?_
  · exact ⟨Int.le_refl _, .zero⟩
  · (cbv; exact Less.toA [])
  · rintro i ⟨h0, hu⟩
    cbv
    refine Test.lss (fun h => ?_) (fun h => ?_) <;> cbv
    · refine ElemRo.enc S.cx (fun _ => rfl) (by lia) (by lia) (fun x hx => ?_); cbv
      refine ACall.testX (dp := false) (hF x (mem_at hx)) .go rfl (fun h2 => ?_) (fun h2 => ?_) <;> cbv
      · exact Done.num (.inl ⟨h0, ⟨x, hx, h2⟩, hu⟩)
      · refine Arith.go (by lia) (fun i' hi' => ?_); cbv
        refine Again.on i' (by lia) ⟨by lia, hu.next h0 hx h2 hi'⟩ ?_
        (cbv; exact Less.toA [])
    · exact Done.num (.inr ⟨rfl, hu.mem (by lia)⟩)

theorem containsFuncTimerW_c (S : Se P A) (F : FuncId) (c1 : List AV) (q : Timer -> Prop) (l : List (Timer)) (hF : ∀ x ∈ l, Tests P F [.agg (cTimer x), .rptr c1] (q x)) : Tests P 301 [.ro (A.enc cTimer l), .fn F [] [.rptr c1]] (∃ x ∈ l, q x) := by
  refine S.cx.by (S.prog ▸ Tryz.func301) rfl rfl rfl rfl (fun hv ho => ?_)
  cbv
  refine ACall.num (dp := false) (indexFuncTimerW_c S F c1 q l hF) .go (fun r hr => ?_); cbv
  refine Test.geq (fun h => ?_) (fun h => ?_) <;> cbv
  · refine Done.yes ?_
    rcases hr with ⟨_, ⟨x, hx, hq⟩, _⟩ | ⟨rfl, _⟩
    · exact ⟨x, mem_at hx, hq⟩
    · exact absurd h (by decide)
  · refine Done.no fun ⟨x, hx, hq⟩ => ?_
    rcases hr with ⟨h0, _⟩ | ⟨_, hr⟩
    · lia
    · exact hr x hx hq

theorem allTimerR1_c (S : Se P A) (F : FuncId) (w : World) (q : Timer -> Prop) (l : List (Timer)) (hF : ∀ x ∈ l, Tests P F [.agg (roWorld A w), .agg (cTimer x)] (q x)) (x : Timer) (hx : x ∈ l) : Tests P 302 [.agg (cTimer x), .rptr [.fn F [.agg (roWorld A w)] []]] (¬ q x) := by
  refine S.cx.by (S.prog ▸ Tryz.func302) rfl rfl rfl rfl (fun hv ho => ?_)
  cbv
  refine ACall.testX (dp := false) (hF x hx) .go rfl (fun h => ?_) (fun h => ?_) <;> cbv
  · exact Done.no (fun e => e h)
  · exact Done.yes h

theorem allTimerR_c (S : Se P A) (F : FuncId) (w : World) (q : Timer -> Prop) (l : List (Timer)) (hF : ∀ x ∈ l, Tests P F [.agg (roWorld A w), .agg (cTimer x)] (q x)) : Tests P 231 [.ro (A.enc cTimer l), .fn F [.agg (roWorld A w)] []] (∀ x ∈ l, q x) := by
  refine S.cx.by (S.prog ▸ Tryz.func231) rfl rfl rfl rfl (fun hv ho => ?_)
  cbv
  refine ACall.testX (dp := false) (containsFuncTimerW_c S _ _ _ l (fun x hx => allTimerR1_c S F w q l hF x hx)) .go rfl (fun h => ?_) (fun h => ?_) <;> cbv
  · exact Done.no (fun e => by obtain ⟨x, hx, hn⟩ := h; exact hn (e x hx))
  · exact Done.yes (fun x hx => Classical.byContradiction fun hn => h ⟨x, hx, hn⟩)

theorem indexFuncAfterW_c (S : Se P A) (F : FuncId) (c1 : List AV) (q : After -> Prop) (l : List (After)) (hF : ∀ x ∈ l, Tests P F [.agg (cAfter x), .rptr c1] (q x)) : Nums P 271 [.ro (A.enc cAfter l), .fn F [] [.rptr c1]] (fun r => 0 <= r /\ (∃ x, l[r.toNat]? = some x /\ q x) /\ Upto (fun _ x => ¬ q x) l r ∨ r = -1 /\ ∀ x ∈ l, ¬ q x) := by
  refine S.cx.by (S.prog ▸ Tryz.func271) rfl rfl rfl rfl (fun hv ho => ?_)
  cbv
  refine LenR.nat S.cx (fun N hN hm => ?_); cbv
  refine ALoop.goD (ι := Int) (fun i => [(8, .int .i64 i)]) [] (fun i => []) (fun i => 0 <= i /\ Upto (fun _ x => ¬ q x) l i) (fun i => (l.length - i).toNat) (0) S.cx.tab S.cx.mix S.eq ?_ ?_ ?_
  · exact ⟨Int.le_refl _, .zero⟩
  · (cbv; exact Less.toA [])
  · rintro i ⟨h0, hu⟩
    cbv
    refine Test.lss (fun h => ?_) (fun h => ?_) <;> cbv
    · refine ElemRo.enc S.cx (fun _ => rfl) (by lia) (by lia) (fun x hx => ?_); cbv
      refine ACall.testX (dp := false) (hF x (mem_at hx)) .go rfl (fun h2 => ?_) (fun h2 => ?_) <;> cbv
      · exact Done.num (.inl ⟨h0, ⟨x, hx, h2⟩, hu⟩)
      · refine Arith.go (by lia) (fun i' hi' => ?_); cbv
        refine Again.on i' (by lia) ⟨by lia, hu.next h0 hx h2 hi'⟩ ?_
        (cbv; exact Less.toA [])
    · exact Done.num (.inr ⟨rfl, hu.mem (by lia)⟩)

theorem containsFuncAfterW_c (S : Se P A) (F : FuncId) (c1 : List AV) (q : After -> Prop) (l : List (After)) (hF : ∀ x ∈ l, Tests P F [.agg (cAfter x), .rptr c1] (q x)) : Tests P 308 [.ro (A.enc cAfter l), .fn F [] [.rptr c1]] (∃ x ∈ l, q x) := by
  refine S.cx.by (S.prog ▸ Tryz.func308) rfl rfl rfl rfl (fun hv ho => ?_)
  cbv
  refine ACall.num (dp := false) (indexFuncAfterW_c S F c1 q l hF) .go (fun r hr => ?_); cbv
  refine Test.geq (fun h => ?_) (fun h => ?_) <;> cbv
  · refine Done.yes ?_
    rcases hr with ⟨_, ⟨x, hx, hq⟩, _⟩ | ⟨rfl, _⟩
    · exact ⟨x, mem_at hx, hq⟩
    · exact absurd h (by decide)
  · refine Done.no fun ⟨x, hx, hq⟩ => ?_
    rcases hr with ⟨h0, _⟩ | ⟨_, hr⟩
    · lia
    · exact hr x hx hq

theorem allAfterC1_c (S : Se P A) (F : FuncId) (c1 : List AV) (q : After -> Prop) (l : List (After)) (hF : ∀ x ∈ l, Tests P F [.agg (cAfter x), .rptr c1] (q x)) (x : After) (hx : x ∈ l) : Tests P 309 [.agg (cAfter x), .rptr [.fn F [] [.rptr c1]]] (¬ q x) := by
  refine S.cx.by (S.prog ▸ Tryz.func309) rfl rfl rfl rfl (fun hv ho => ?_)
  cbv
  refine ACall.testX (dp := false) (hF x hx) .go rfl (fun h => ?_) (fun h => ?_) <;> cbv
  · exact Done.no (fun e => e h)
  · exact Done.yes h

theorem allAfterC_c (S : Se P A) (F : FuncId) (c1 : List AV) (q : After -> Prop) (l : List (After)) (hF : ∀ x ∈ l, Tests P F [.agg (cAfter x), .rptr c1] (q x)) : Tests P 234 [.ro (A.enc cAfter l), .fn F [] [.rptr c1]] (∀ x ∈ l, q x) := by
  refine S.cx.by (S.prog ▸ Tryz.func234) rfl rfl rfl rfl (fun hv ho => ?_)
  cbv
  refine ACall.testX (dp := false) (containsFuncAfterW_c S _ _ _ l (fun x hx => allAfterC1_c S F c1 q l hF x hx)) .go rfl (fun h => ?_) (fun h => ?_) <;> cbv
  · exact Done.no (fun e => by obtain ⟨x, hx, hn⟩ := h; exact hn (e x hx))
  · exact Done.yes (fun x hx => Classical.byContradiction fun hn => h ⟨x, hx, hn⟩)

theorem indexFuncTaskW_c (S : Se P A) (F : FuncId) (c1 : List AV) (q : Task -> Prop) (l : List (Task)) (hF : ∀ x ∈ l, Tests P F [.agg (cTask x), .rptr c1] (q x)) : Nums P 357 [.ro (A.enc cTask l), .fn F [] [.rptr c1]] (fun r => 0 <= r /\ (∃ x, l[r.toNat]? = some x /\ q x) /\ Upto (fun _ x => ¬ q x) l r ∨ r = -1 /\ ∀ x ∈ l, ¬ q x) := by
  refine S.cx.by (S.prog ▸ Tryz.func357) rfl rfl rfl rfl (fun hv ho => ?_)
  cbv
  refine LenR.nat S.cx (fun N hN hm => ?_); cbv
  refine ALoop.goD (ι := Int) (fun i => [(8, .int .i64 i)]) [] (fun i => []) (fun i => 0 <= i /\ Upto (fun _ x => ¬ q x) l i) (fun i => (l.length - i).toNat) (0) S.cx.tab S.cx.mix S.eq ?_ ?_ ?_
  · exact ⟨Int.le_refl _, .zero⟩
  · (cbv; exact Less.toA [])
  · rintro i ⟨h0, hu⟩
    cbv
    refine Test.lss (fun h => ?_) (fun h => ?_) <;> cbv
    · refine ElemRo.enc S.cx (fun _ => rfl) (by lia) (by lia) (fun x hx => ?_); cbv
      refine ACall.testX (dp := false) (hF x (mem_at hx)) .go rfl (fun h2 => ?_) (fun h2 => ?_) <;> cbv
      · exact Done.num (.inl ⟨h0, ⟨x, hx, h2⟩, hu⟩)
      · refine Arith.go (by lia) (fun i' hi' => ?_); cbv
        refine Again.on i' (by lia) ⟨by lia, hu.next h0 hx h2 hi'⟩ ?_
        (cbv; exact Less.toA [])
    · exact Done.num (.inr ⟨rfl, hu.mem (by lia)⟩)

theorem containsFuncTaskW_c (S : Se P A) (F : FuncId) (c1 : List AV) (q : Task -> Prop) (l : List (Task)) (hF : ∀ x ∈ l, Tests P F [.agg (cTask x), .rptr c1] (q x)) : Tests P 310 [.ro (A.enc cTask l), .fn F [] [.rptr c1]] (∃ x ∈ l, q x) := by
  refine S.cx.by (S.prog ▸ Tryz.func310) rfl rfl rfl rfl (fun hv ho => ?_)
  cbv
  refine ACall.num (dp := false) (indexFuncTaskW_c S F c1 q l hF) .go (fun r hr => ?_); cbv
  refine Test.geq (fun h => ?_) (fun h => ?_) <;> cbv
  · refine Done.yes ?_
    rcases hr with ⟨_, ⟨x, hx, hq⟩, _⟩ | ⟨rfl, _⟩
    · exact ⟨x, mem_at hx, hq⟩
    · exact absurd h (by decide)
  · refine Done.no fun ⟨x, hx, hq⟩ => ?_
    rcases hr with ⟨h0, _⟩ | ⟨_, hr⟩
    · lia
    · exact hr x hx hq

theorem allTaskR1_c (S : Se P A) (F : FuncId) (w : World) (q : Task -> Prop) (l : List (Task)) (hF : ∀ x ∈ l, Tests P F [.agg (roWorld A w), .agg (cTask x)] (q x)) (x : Task) (hx : x ∈ l) : Tests P 312 [.agg (cTask x), .rptr [.fn F [.agg (roWorld A w)] []]] (¬ q x) := by
  refine S.cx.by (S.prog ▸ Tryz.func312) rfl rfl rfl rfl (fun hv ho => ?_)
  cbv
  refine ACall.testX (dp := false) (hF x hx) .go rfl (fun h => ?_) (fun h => ?_) <;> cbv
  · exact Done.no (fun e => e h)
  · exact Done.yes h

theorem allTaskR_c (S : Se P A) (F : FuncId) (w : World) (q : Task -> Prop) (l : List (Task)) (hF : ∀ x ∈ l, Tests P F [.agg (roWorld A w), .agg (cTask x)] (q x)) : Tests P 237 [.ro (A.enc cTask l), .fn F [.agg (roWorld A w)] []] (∀ x ∈ l, q x) := by
  refine S.cx.by (S.prog ▸ Tryz.func237) rfl rfl rfl rfl (fun hv ho => ?_)
  cbv
  refine ACall.testX (dp := false) (containsFuncTaskW_c S _ _ _ l (fun x hx => allTaskR1_c S F w q l hF x hx)) .go rfl (fun h => ?_) (fun h => ?_) <;> cbv
  · exact Done.no (fun e => by obtain ⟨x, hx, hn⟩ := h; exact hn (e x hx))
  · exact Done.yes (fun x hx => Classical.byContradiction fun hn => h ⟨x, hx, hn⟩)

theorem indexFuncGroupW_c (S : Se P A) (F : FuncId) (c1 : List AV) (q : Group -> Prop) (l : List (Group)) (hF : ∀ x ∈ l, Tests P F [.agg (roGroup A x), .rptr c1] (q x)) : Nums P 359 [.ro (A.enc (roGroup A) l), .fn F [] [.rptr c1]] (fun r => 0 <= r /\ (∃ x, l[r.toNat]? = some x /\ q x) /\ Upto (fun _ x => ¬ q x) l r ∨ r = -1 /\ ∀ x ∈ l, ¬ q x) := by
  refine S.cx.by (S.prog ▸ Tryz.func359) rfl rfl rfl rfl (fun hv ho => ?_)
  cbv
  refine LenR.nat S.cx (fun N hN hm => ?_); cbv
  refine ALoop.goD (ι := Int) (fun i => [(8, .int .i64 i)]) [] (fun i => []) (fun i => 0 <= i /\ Upto (fun _ x => ¬ q x) l i) (fun i => (l.length - i).toNat) (0) S.cx.tab S.cx.mix S.eq ?_ ?_ ?_
  · exact ⟨Int.le_refl _, .zero⟩
  · (cbv; exact Less.toA [])
  · rintro i ⟨h0, hu⟩
    cbv
    refine Test.lss (fun h => ?_) (fun h => ?_) <;> cbv
    · refine ElemRo.enc S.cx (fun _ => rfl) (by lia) (by lia) (fun x hx => ?_); cbv
      refine ACall.testX (dp := false) (hF x (mem_at hx)) .go rfl (fun h2 => ?_) (fun h2 => ?_) <;> cbv
      · exact Done.num (.inl ⟨h0, ⟨x, hx, h2⟩, hu⟩)
      · refine Arith.go (by lia) (fun i' hi' => ?_); cbv
        refine Again.on i' (by lia) ⟨by lia, hu.next h0 hx h2 hi'⟩ ?_
        (cbv; exact Less.toA [])
    · exact Done.num (.inr ⟨rfl, hu.mem (by lia)⟩)

theorem containsFuncGroupW_c (S : Se P A) (F : FuncId) (c1 : List AV) (q : Group -> Prop) (l : List (Group)) (hF : ∀ x ∈ l, Tests P F [.agg (roGroup A x), .rptr c1] (q x)) : Tests P 315 [.ro (A.enc (roGroup A) l), .fn F [] [.rptr c1]] (∃ x ∈ l, q x) := by
  refine S.cx.by (S.prog ▸ Tryz.func315) rfl rfl rfl rfl (fun hv ho => ?_)
  cbv
  refine ACall.num (dp := false) (indexFuncGroupW_c S F c1 q l hF) .go (fun r hr => ?_); cbv
  refine Test.geq (fun h => ?_) (fun h => ?_) <;> cbv
  · refine Done.yes ?_
    rcases hr with ⟨_, ⟨x, hx, hq⟩, _⟩ | ⟨rfl, _⟩
    · exact ⟨x, mem_at hx, hq⟩
    · exact absurd h (by decide)
  · refine Done.no fun ⟨x, hx, hq⟩ => ?_
    rcases hr with ⟨h0, _⟩ | ⟨_, hr⟩
    · lia
    · exact hr x hx hq

theorem allGroupR1_c (S : Se P A) (F : FuncId) (w : World) (q : Group -> Prop) (l : List (Group)) (hF : ∀ x ∈ l, Tests P F [.agg (roWorld A w), .agg (roGroup A x)] (q x)) (x : Group) (hx : x ∈ l) : Tests P 316 [.agg (roGroup A x), .rptr [.fn F [.agg (roWorld A w)] []]] (¬ q x) := by
  refine S.cx.by (S.prog ▸ Tryz.func316) rfl rfl rfl rfl (fun hv ho => ?_)
  cbv
  refine ACall.testX (dp := false) (hF x hx) .go rfl (fun h => ?_) (fun h => ?_) <;> cbv
  · exact Done.no (fun e => e h)
  · exact Done.yes h

theorem allGroupR_c (S : Se P A) (F : FuncId) (w : World) (q : Group -> Prop) (l : List (Group)) (hF : ∀ x ∈ l, Tests P F [.agg (roWorld A w), .agg (roGroup A x)] (q x)) : Tests P 239 [.ro (A.enc (roGroup A) l), .fn F [.agg (roWorld A w)] []] (∀ x ∈ l, q x) := by
  refine S.cx.by (S.prog ▸ Tryz.func239) rfl rfl rfl rfl (fun hv ho => ?_)
  cbv
  refine ACall.testX (dp := false) (containsFuncGroupW_c S _ _ _ l (fun x hx => allGroupR1_c S F w q l hF x hx)) .go rfl (fun h => ?_) (fun h => ?_) <;> cbv
  · exact Done.no (fun e => by obtain ⟨x, hx, hn⟩ := h; exact hn (e x hx))
  · exact Done.yes (fun x hx => Classical.byContradiction fun hn => h ⟨x, hx, hn⟩)

theorem indexFuncSightW_c (S : Se P A) (F : FuncId) (c1 : List AV) (q : Sight -> Prop) (l : List (Sight)) (hF : ∀ x ∈ l, Tests P F [.agg (cSight x), .rptr c1] (q x)) : Nums P 360 [.ro (A.enc cSight l), .fn F [] [.rptr c1]] (fun r => 0 <= r /\ (∃ x, l[r.toNat]? = some x /\ q x) /\ Upto (fun _ x => ¬ q x) l r ∨ r = -1 /\ ∀ x ∈ l, ¬ q x) := by
  refine S.cx.by (S.prog ▸ Tryz.func360) rfl rfl rfl rfl (fun hv ho => ?_)
  cbv
  refine LenR.nat S.cx (fun N hN hm => ?_); cbv
  refine ALoop.goD (ι := Int) (fun i => [(8, .int .i64 i)]) [] (fun i => []) (fun i => 0 <= i /\ Upto (fun _ x => ¬ q x) l i) (fun i => (l.length - i).toNat) (0) S.cx.tab S.cx.mix S.eq ?_ ?_ ?_
  · exact ⟨Int.le_refl _, .zero⟩
  · (cbv; exact Less.toA [])
  · rintro i ⟨h0, hu⟩
    cbv
    refine Test.lss (fun h => ?_) (fun h => ?_) <;> cbv
    · refine ElemRo.enc S.cx (fun _ => rfl) (by lia) (by lia) (fun x hx => ?_); cbv
      refine ACall.testX (dp := false) (hF x (mem_at hx)) .go rfl (fun h2 => ?_) (fun h2 => ?_) <;> cbv
      · exact Done.num (.inl ⟨h0, ⟨x, hx, h2⟩, hu⟩)
      · refine Arith.go (by lia) (fun i' hi' => ?_); cbv
        refine Again.on i' (by lia) ⟨by lia, hu.next h0 hx h2 hi'⟩ ?_
        (cbv; exact Less.toA [])
    · exact Done.num (.inr ⟨rfl, hu.mem (by lia)⟩)

theorem containsFuncSightW_c (S : Se P A) (F : FuncId) (c1 : List AV) (q : Sight -> Prop) (l : List (Sight)) (hF : ∀ x ∈ l, Tests P F [.agg (cSight x), .rptr c1] (q x)) : Tests P 319 [.ro (A.enc cSight l), .fn F [] [.rptr c1]] (∃ x ∈ l, q x) := by
  refine S.cx.by (S.prog ▸ Tryz.func319) rfl rfl rfl rfl (fun hv ho => ?_)
  cbv
  refine ACall.num (dp := false) (indexFuncSightW_c S F c1 q l hF) .go (fun r hr => ?_); cbv
  refine Test.geq (fun h => ?_) (fun h => ?_) <;> cbv
  · refine Done.yes ?_
    rcases hr with ⟨_, ⟨x, hx, hq⟩, _⟩ | ⟨rfl, _⟩
    · exact ⟨x, mem_at hx, hq⟩
    · exact absurd h (by decide)
  · refine Done.no fun ⟨x, hx, hq⟩ => ?_
    rcases hr with ⟨h0, _⟩ | ⟨_, hr⟩
    · lia
    · exact hr x hx hq

theorem allSightR1_c (S : Se P A) (F : FuncId) (w : World) (q : Sight -> Prop) (l : List (Sight)) (hF : ∀ x ∈ l, Tests P F [.agg (roWorld A w), .agg (cSight x)] (q x)) (x : Sight) (hx : x ∈ l) : Tests P 320 [.agg (cSight x), .rptr [.fn F [.agg (roWorld A w)] []]] (¬ q x) := by
  refine S.cx.by (S.prog ▸ Tryz.func320) rfl rfl rfl rfl (fun hv ho => ?_)
  cbv
  refine ACall.testX (dp := false) (hF x hx) .go rfl (fun h => ?_) (fun h => ?_) <;> cbv
  · exact Done.no (fun e => e h)
  · exact Done.yes h

theorem allSightR_c (S : Se P A) (F : FuncId) (w : World) (q : Sight -> Prop) (l : List (Sight)) (hF : ∀ x ∈ l, Tests P F [.agg (roWorld A w), .agg (cSight x)] (q x)) : Tests P 241 [.ro (A.enc cSight l), .fn F [.agg (roWorld A w)] []] (∀ x ∈ l, q x) := by
  refine S.cx.by (S.prog ▸ Tryz.func241) rfl rfl rfl rfl (fun hv ho => ?_)
  cbv
  refine ACall.testX (dp := false) (containsFuncSightW_c S _ _ _ l (fun x hx => allSightR1_c S F w q l hF x hx)) .go rfl (fun h => ?_) (fun h => ?_) <;> cbv
  · exact Done.no (fun e => by obtain ⟨x, hx, hn⟩ := h; exact hn (e x hx))
  · exact Done.yes (fun x hx => Classical.byContradiction fun hn => h ⟨x, hx, hn⟩)

theorem indexFuncInt64W_c (S : Se P A) (F : FuncId) (c1 : List AV) (q : Int -> Prop) (l : List (Int)) (hF : ∀ x ∈ l, Tests P F [.int .i64 x, .rptr c1] (q x)) : Nums P 351 [.ro (A.enc cInt64 l), .fn F [] [.rptr c1]] (fun r => 0 <= r /\ (∃ x, l[r.toNat]? = some x /\ q x) /\ Upto (fun _ x => ¬ q x) l r ∨ r = -1 /\ ∀ x ∈ l, ¬ q x) := by
  refine S.cx.by (S.prog ▸ Tryz.func351) rfl rfl rfl rfl (fun hv ho => ?_)
  cbv
  refine LenR.nat S.cx (fun N hN hm => ?_); cbv
  refine ALoop.goD (ι := Int) (fun i => [(8, .int .i64 i)]) [] (fun i => []) (fun i => 0 <= i /\ Upto (fun _ x => ¬ q x) l i) (fun i => (l.length - i).toNat) (0) S.cx.tab S.cx.mix S.eq ?_ ?_ ?_
  · exact ⟨Int.le_refl _, .zero⟩
  · (cbv; exact Less.toA [])
  · rintro i ⟨h0, hu⟩
    cbv
    refine Test.lss (fun h => ?_) (fun h => ?_) <;> cbv
    · refine ElemRo.enc S.cx (fun _ => rfl) (by lia) (by lia) (fun x hx => ?_); cbv
      refine ACall.testX (dp := false) (hF x (mem_at hx)) .go rfl (fun h2 => ?_) (fun h2 => ?_) <;> cbv
      · exact Done.num (.inl ⟨h0, ⟨x, hx, h2⟩, hu⟩)
      · refine Arith.go (by lia) (fun i' hi' => ?_); cbv
        refine Again.on i' (by lia) ⟨by lia, hu.next h0 hx h2 hi'⟩ ?_
        (cbv; exact Less.toA [])
    · exact Done.num (.inr ⟨rfl, hu.mem (by lia)⟩)

theorem containsFuncInt64W_c (S : Se P A) (F : FuncId) (c1 : List AV) (q : Int -> Prop) (l : List (Int)) (hF : ∀ x ∈ l, Tests P F [.int .i64 x, .rptr c1] (q x)) : Tests P 294 [.ro (A.enc cInt64 l), .fn F [] [.rptr c1]] (∃ x ∈ l, q x) := by
  refine S.cx.by (S.prog ▸ Tryz.func294) rfl rfl rfl rfl (fun hv ho => ?_)
  cbv
  refine ACall.num (dp := false) (indexFuncInt64W_c S F c1 q l hF) .go (fun r hr => ?_); cbv
  refine Test.geq (fun h => ?_) (fun h => ?_) <;> cbv
  · refine Done.yes ?_
    rcases hr with ⟨_, ⟨x, hx, hq⟩, _⟩ | ⟨rfl, _⟩
    · exact ⟨x, mem_at hx, hq⟩
    · exact absurd h (by decide)
  · refine Done.no fun ⟨x, hx, hq⟩ => ?_
    rcases hr with ⟨h0, _⟩ | ⟨_, hr⟩
    · lia
    · exact hr x hx hq

theorem allInt6401_c (S : Se P A) (F : FuncId) (q : Int -> Prop) (l : List (Int)) (hF : ∀ x ∈ l, Tests P F [.int .i64 x] (q x)) (x : Int) (hx : x ∈ l) : Tests P 321 [.int .i64 x, .rptr [.fn F [] []]] (¬ q x) := by
  refine S.cx.by (S.prog ▸ Tryz.func321) rfl rfl rfl rfl (fun hv ho => ?_)
  cbv
  refine ACall.testX (dp := false) (hF x hx) .go rfl (fun h => ?_) (fun h => ?_) <;> cbv
  · exact Done.no (fun e => e h)
  · exact Done.yes h

theorem allInt640_c (S : Se P A) (F : FuncId) (q : Int -> Prop) (l : List (Int)) (hF : ∀ x ∈ l, Tests P F [.int .i64 x] (q x)) : Tests P 243 [.ro (A.enc cInt64 l), .fn F [] []] (∀ x ∈ l, q x) := by
  refine S.cx.by (S.prog ▸ Tryz.func243) rfl rfl rfl rfl (fun hv ho => ?_)
  cbv
  refine ACall.testX (dp := false) (containsFuncInt64W_c S _ _ _ l (fun x hx => allInt6401_c S F q l hF x hx)) .go rfl (fun h => ?_) (fun h => ?_) <;> cbv
  · exact Done.no (fun e => by obtain ⟨x, hx, hn⟩ := h; exact hn (e x hx))
  · exact Done.yes (fun x hx => Classical.byContradiction fun hn => h ⟨x, hx, hn⟩)

end Go.Proofs.YtihfpbhalnedcaaGreat.AM
