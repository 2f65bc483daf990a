/- Contracts: chains, events. (printed by gw4.py) -/
import Derived.Test.YtihfpbhalnedcaaGreatTA
import Derived.Test.YtihfpbhalnedcaaGreatHA
import Derived.Test.YtihfpbhalnedcaaGreatBD
set_option linter.unusedVariables false
set_option linter.unusedSimpArgs false
namespace Go.Proofs.YtihfpbhalnedcaaGreat.AM
open Go Go.Proofs

set_option maxRecDepth 100000
set_option maxHeartbeats 4000000

variable {P : Program} {A : Sy}

theorem implIsDueW_c (S : Se P A) (now d : Int) : Tests P 328 [.int .i64 now, .int .i64 d] (d <= now /\ d ≠ 9223372036854775807) := by
  refine S.cx.by (S.prog ▸ Tryz.func328) rfl rfl rfl rfl (fun hv ho => ?_)
  cbv
  repeat' (first
    | (refine Test.eql (fun _ => ?_) (fun _ => ?_) <;> cbv)
    | (refine Test.neq (fun _ => ?_) (fun _ => ?_) <;> cbv)
    | (refine Test.lss (fun _ => ?_) (fun _ => ?_) <;> cbv)
    | (refine Test.leq (fun _ => ?_) (fun _ => ?_) <;> cbv)
    | (refine Test.gtr (fun _ => ?_) (fun _ => ?_) <;> cbv)
    | (refine Test.geq (fun _ => ?_) (fun _ => ?_) <;> cbv)
    | (refine ⟨⟨by kernel_rfl, fun _ => ?_⟩⟩)
    | (refine LenR.nat S.cx (fun N hN hm => ?_); cbv)
    | exact Done.yes (by omega)
    | exact Done.no (by omega))

theorem specIsDueW_c (S : Se P A) (now d : Int) : Tests P 345 [.int .i64 now, .int .i64 d] (d <= now /\ d ≠ 9223372036854775807) := by
  refine S.cx.by (S.prog ▸ Tryz.func345) rfl rfl rfl rfl (fun hv ho => ?_)
  cbv
  repeat' (first
    | (refine Test.eql (fun _ => ?_) (fun _ => ?_) <;> cbv)
    | (refine Test.neq (fun _ => ?_) (fun _ => ?_) <;> cbv)
    | (refine Test.lss (fun _ => ?_) (fun _ => ?_) <;> cbv)
    | (refine Test.leq (fun _ => ?_) (fun _ => ?_) <;> cbv)
    | (refine Test.gtr (fun _ => ?_) (fun _ => ?_) <;> cbv)
    | (refine Test.geq (fun _ => ?_) (fun _ => ?_) <;> cbv)
    | (refine ⟨⟨by kernel_rfl, fun _ => ?_⟩⟩)
    | (refine LenR.nat S.cx (fun N hN hm => ?_); cbv)
    | exact Done.yes (by omega)
    | exact Done.no (by omega))

structure CSt where
  l : List Int
  i : Int
  k : Nat

theorem implChain_c (S : Se P A) (t : List Node) (m : Int) (ht : TreeOk t) (hm : 0 <= m /\ m.toNat < t.length) : Is1 P 329 [.ro (A.enc cNode t), .int .i64 m] (rInt64 A (chainL t m)) := by
  have ht60 := ht.1
  refine S.cx.by (S.prog ▸ Tryz.func329) rfl rfl rfl rfl (fun hv ho => ?_)
  cbv
  refine ALoop.pre (Less.told S.cx cInt64 [m] (t := 5) rfl rfl rfl) ?_
  cbv
  refine ALoop.goF (ι := CSt) (fun i => [(1, .int .i64 i.i), (5, .ref false 2010000 0 i.k)]) [7] [2010000] (fun i => [(2010000, .arr 1 true (A.enc cInt64 i.l))]) (fun i => (0 <= i.i /\ i.i.toNat < t.length) /\ i.k = i.l.length /\ (∃ p, i.l = p ++ [i.i] /\ p ++ chain t (i.i.toNat + 1) i.i = chainL t m) /\ i.l.length + i.i.toNat <= m.toNat + 1) (fun i => i.i.toNat) (⟨[m], m, 1⟩) S.cx.tab S.cx.mix S.eq ?_ ?_ ?_
  · exact ⟨hm, rfl, ⟨[], rfl, rfl⟩, by simp; omega⟩
  · (cbv; exact Less.toA [])
  rintro ⟨l, i, k⟩ hk
  dsimp only at hk
  obtain ⟨hi, hkl, ⟨p, hp, hch⟩, hle⟩ := hk
  obtain ⟨x, hx⟩ := get_of_lt hi.2
  rw [chain_one ht hi.1 hx] at hch
  have hup := up_less ht hi.1 hx
  obtain ⟨kind, up, due, key, value⟩ := x
  dsimp only at hch hup
  refine Rnd.mk ?_; cbv
  refine ElemRo.at S.cx (x := (⟨kind, up, due, key, value⟩ : Node)) rfl hi.1 hx ?_; cbv
  refine Test.neq (fun g0 => ?_) (fun g0 => ?_) <;> cbv
  rotate_left
  · exact Done.isA (r := rInt64 A) (x := l) (by rw [<- hch, if_pos (.inl g0), hp])
  refine ElemRo.at S.cx (x := (⟨kind, up, due, key, value⟩ : Node)) rfl hi.1 hx ?_; cbv
  refine Test.neq (fun g4 => ?_) (fun g4 => ?_) <;> cbv
  rotate_left
  · exact Done.isA (r := rInt64 A) (x := l) (by rw [<- hch, if_pos (.inr g4), hp])
  have hup := hup g0
  rw [if_neg (by omega)] at hch
  refine ElemRo.at S.cx (x := (⟨kind, up, due, key, value⟩ : Node)) rfl hi.1 hx ?_; cbv
  refine Part.one ?_; cbv
  refine AppRef.push S.cx up (by assumption) rfl rfl plainInt64 (fun _ => rfl) (by simp only [maxBytes]; omega) (fun m9 w hw hml9 => ?_); cbv
  refine Again.on (⟨w, up, m9⟩ : CSt) (by dsimp only; lia) ⟨⟨hup.1, by dsimp only; lia⟩, hml9, ⟨l, hw, by dsimp only; rw [<- hch, hp]; simp⟩, by dsimp only; rw [hw, List.length_append]; simp only [List.length_cons, List.length_nil]; lia⟩ ?_
  (cbv; exact Less.toA [(2010000, (5030000, 0))])

theorem chainOf_c (S : Se P A) (t : List Node) (m : Int) (hok : TreeOk t /\ 0 <= m /\ m.toNat < t.length) : Is1 P 332 [.ro (A.enc cNode t), .int .i64 m] (rInt64 A (chainL t m)) := by
  have ht := hok.1
  have ht60 := ht.1
  refine S.cx.byC [99999] (S.prog ▸ Tryz.func332) rfl rfl rfl rfl (fun ln hln hv ho => ?_)
  cbv
  refine ACall.testD (dp := false) (l5Has_c S t m) .go rfl (fun h1 => ?_) (fun h1 => ?_) <;> cbv
  rotate_left
  · exact absurd hok h1
  refine ALoop.pre (Less.initE S.cx cInt64 999000001 1 true (t := 5) rfl (by first | exact .inr rfl | exact .inl rfl) rfl) ?_
  cbv
  refine ALoop.goC (ι := CSt) (fun i => [(5, .ref false 999000001 0 i.k), (6, .int .i64 i.i)]) [] [999000001] (fun i => [(999000001, .arr 1 true (A.enc cInt64 i.l))]) (fun i => (0 <= i.i /\ i.i.toNat < t.length) /\ i.k = i.l.length /\ i.l ++ chain t (i.i.toNat + 1) i.i = chainL t m /\ i.l.length + i.i.toNat <= m.toNat) (fun i => i.i.toNat) (⟨[], m, 0⟩) [99999] S.cx.tab S.cx.mix S.eq ?_ ?_ ?_
  · exact ⟨hok.2, rfl, rfl, by simp⟩
  · (cbv; exact Less.toA [])
  rintro ⟨l, i, k⟩ hk
  dsimp only at hk
  obtain ⟨hi, hkl, hch, hle⟩ := hk
  obtain ⟨x, hx⟩ := get_of_lt hi.2
  rw [chain_one ht hi.1 hx] at hch
  have hup := up_less ht hi.1 hx
  obtain ⟨kind, up, due, key, value⟩ := x
  dsimp only at hch hup
  refine Rnd.mk ?_; cbv
  refine Part.one ?_; cbv
  refine AppRef.push S.cx i (by assumption) rfl rfl plainInt64 (fun _ => rfl) (by simp only [maxBytes]; omega) (fun m9 w hw hml9 => ?_); cbv
  refine ElemRo.at S.cx (x := (⟨kind, up, due, key, value⟩ : Node)) rfl hi.1 hx ?_; cbv
  refine Test.eql (fun g0 => ?_) (fun g0 => ?_) <;> cbv
  · exact Done.isA (r := rInt64 A) (x := w) (by rw [<- hch, if_pos (.inl g0), hw])
  refine ElemRo.at S.cx (x := (⟨kind, up, due, key, value⟩ : Node)) rfl hi.1 hx ?_; cbv
  refine Test.eql (fun g4 => ?_) (fun g4 => ?_) <;> cbv
  · exact Done.isA (r := rInt64 A) (x := w) (by rw [<- hch, if_pos (.inr g4), hw])
  have hup := hup g0
  rw [if_neg (by omega)] at hch
  refine ElemRo.at S.cx (x := (⟨kind, up, due, key, value⟩ : Node)) rfl hi.1 hx ?_; cbv
  refine Again.on (⟨w, up, m9⟩ : CSt) (by dsimp only; lia) ⟨⟨hup.1, by dsimp only; lia⟩, hml9, by dsimp only; rw [<- hch, hw]; simp, by dsimp only; rw [hw, List.length_append]; simp only [List.length_cons, List.length_nil]; lia⟩ ?_
  (cbv; exact Less.toA [(999000001, (7030000, 0))])

def event0 : Event := ⟨0, 0, 0, 0⟩
def FirstE (t : List Node) (l : List Event) (n : Int) : Event × Bool := match l.find? (fun e => decide (e.node ∈ chainL t n)) with
  | some e => (e, true)
  | none => (event0, false)
def rEB (x : Event × Bool) : AV := .tup [.agg (cEvent x.1), .bool x.2]

theorem firstE_some {t : List Node} {l : List Event} {n i : Int} {x : Event} (h0 : 0 <= i) (hx : l[i.toNat]? = some x) (hq : x.node ∈ chainL t n) (hu : Upto (fun _ e => e.node ∉ chainL t n) l i) : FirstE t l n = (x, true) := by
  have : l.find? (fun e => decide (e.node ∈ chainL t n)) = some x := by
    refine List.find?_eq_some_iff_getElem.2 ⟨by simpa using hq, i.toNat, lt_of_get hx, (List.getElem?_eq_some_iff.1 hx).2, fun j hj => ?_⟩
    have hjl : j < l.length := by have := lt_of_get hx; omega
    have := hu j l[j] (by omega) (List.getElem?_eq_getElem hjl)
    simpa using this
  unfold FirstE; rw [this]
theorem firstE_none {t : List Node} {l : List Event} {n : Int} (h : NoEv t l n) : FirstE t l n = (event0, false) := by
  have : l.find? (fun e => decide (e.node ∈ chainL t n)) = none := List.find?_eq_none.2 fun x hx => by simpa using h x hx
  unfold FirstE; rw [this]
theorem firstE_false {t : List Node} {l : List Event} {n : Int} : (FirstE t l n).2 = false ↔ NoEv t l n := by
  constructor
  · intro h x hx hc
    unfold FirstE at h
    split at h
    · cases h
    · rename_i hn
      have := List.find?_eq_none.1 hn x hx
      simp at this; exact this hc
  · intro h; rw [firstE_none h]

theorem firstOf_c (S : Se P A) (t : List Node) (l : List Event) (n : Int) (ht : TreeOk t) (hn : 0 <= n /\ n.toNat < t.length) : Is1 P 263 [.ro (A.enc cNode t), .ro (A.enc cEvent l), .int .i64 n] (rEB (FirstE t l n)) := by
  have ht60 := ht.1
  refine S.cx.by (S.prog ▸ Tryz.func263) rfl rfl rfl rfl (fun hv ho => ?_)
  cbv
  refine ACall.valN (r := rInt64 A) (os := fun _ => []) (dp := false) S.cx (implChain_c S t n ht hn) .go rfl (fun ln hln up hx => ⟨rfl, ?_⟩)
  cbv
  have hN := hln cInt64 up
  generalize ln (A.enc cInt64 up) = N at hN ⊢
  refine LenR.nat S.cx (fun M hM hm => ?_); cbv
  refine ALoop.goS (ι := Int) (fun i => [(16, .int .i64 i)]) [] (fun i => []) (fun i => 0 <= i /\ Upto (fun _ e => e.node ∉ chainL t n) l i) (fun i => (l.length - i).toNat) (0) S.cx.tab S.cx.mix S.eq ?_ ?_ ?_
  · exact ⟨Int.le_refl _, .zero⟩
  · (cbv; exact Less.toA [])
  rintro i ⟨h0, hu⟩
  refine Rnd.mk ?_; cbv
  refine Test.lss (fun h => ?_) (fun h => ?_) <;> cbv
  · refine ElemRo.enc S.cx (fun _ => rfl) (by lia) (by lia) (fun x hx2 => ?_); cbv
    obtain ⟨node, err, cause, time⟩ := x
    cbv
    refine ACall.testD (dp := false) (contains_c S up node) .go rfl (fun h2 => ?_) (fun h2 => ?_) <;> cbv
    · exact Done.isA (r := rEB) (x := (⟨node, err, cause, time⟩, true)) (firstE_some h0 hx2 (by rw [<- hx]; exact h2) hu)
    · refine Arith.go (by lia) (fun i' hi' => ?_); cbv
      refine Again.on i' (by lia) ⟨by lia, hu.next h0 hx2 (by rw [<- hx]; exact h2) hi'⟩ ?_
      (cbv; exact Less.toA [])
  · exact Done.isA (r := rEB) (x := (event0, false)) (firstE_none fun e he => hu.mem (by lia) e he)

theorem SoundM.knownW {f : FuncId} {args : List AV} {p : Int -> Prop} {e : Int} (h : Nums P f args p) (hu : ∀ n, p n -> n = e) : Is1 P f args (.int .i64 e) :=
  h.mono fun v os ⟨⟨n, hn, hv⟩, ho⟩ => ⟨by rw [hv, hu n hn], ho⟩

theorem l6First_c (S : Se P A) (t : List Node) (l : List Event) (n : Int) (ht : TreeOk t) (hn : 0 <= n /\ n.toNat < t.length) : Is1 P 266 [.ro (A.enc cNode t), .ro (A.enc cEvent l), .int .i64 n] (.int .i64 (firstIdx t l n)) := by
  refine SoundM.knownW (p := fun r => 0 <= r /\ (∃ x, l[r.toNat]? = some x /\ x.node ∈ chainL t n) /\ Upto (fun _ x => ¬ x.node ∈ chainL t n) l r ∨ r = -1 /\ ∀ x ∈ l, ¬ x.node ∈ chainL t n) ?_ (fun _ h => firstIdx_known h)
  have ht60 := ht.1
  refine S.cx.by (S.prog ▸ Tryz.func266) rfl rfl rfl rfl (fun hv ho => ?_)
  cbv
  refine ACall.valN (r := rInt64 A) (os := fun _ => []) (dp := false) S.cx (chainOf_c S t n ⟨ht, hn⟩) .go rfl (fun ln hln up hx => ⟨rfl, ?_⟩)
  cbv
  have hN := hln cInt64 up
  generalize ln (A.enc cInt64 up) = N at hN ⊢
  refine ALoop.goS (ι := Int) (fun i => [(8, .int .i64 i)]) [] (fun i => []) (fun i => 0 <= i /\ Upto (fun _ e => e.node ∉ chainL t n) l i) (fun i => (l.length - i).toNat) (0) S.cx.tab S.cx.mix S.eq ?_ ?_ ?_
  · exact ⟨Int.le_refl _, .zero⟩
  · (cbv; exact Less.toA [])
  rintro i ⟨h0, hu⟩
  refine Rnd.mk ?_; cbv
  refine LenR.nat S.cx (fun M hM hm => ?_); cbv
  refine Test.lss (fun h => ?_) (fun h => ?_) <;> cbv
  · refine ElemRo.enc S.cx (fun _ => rfl) (by lia) (by lia) (fun x hx2 => ?_); cbv
    refine ACall.testD (dp := false) (l6In_c S up x.node) .go rfl (fun h2 => ?_) (fun h2 => ?_) <;> cbv
    · exact Done.num (.inl ⟨h0, ⟨x, hx2, by rw [<- hx]; exact h2⟩, hu⟩)
    · refine Arith.go (by lia) (fun i' hi' => ?_); cbv
      refine Again.on i' (by lia) ⟨by lia, hu.next h0 hx2 (by rw [<- hx]; exact h2) hi'⟩ ?_
      (cbv; exact Less.toA [])
  · exact Done.num (.inr ⟨rfl, hu.mem (by lia)⟩)

theorem isEvent_c (S : Se P A) (node err cause time : Int) (t : List Node) : Tests P 262 [.agg (cEvent ⟨node, err, cause, time⟩), .ro (A.enc cNode t)] (EventIs t ⟨node, err, cause, time⟩) := by
  refine S.cx.by (S.prog ▸ Tryz.func262) rfl rfl rfl rfl (fun hv ho => ?_)
  cbv
  refine ACall.testD (dp := false) (isInNode_c S node t) .go rfl (fun h => ?_) (fun h => ?_) <;> cbv
  rotate_left
  · exact Done.no (fun e => h e.lt)
  obtain ⟨x, hx⟩ := get_of_lt h.2
  have hat := EventIs.at (e := ⟨node, err, cause, time⟩) hx h.1
  obtain ⟨kind, up, due, key, value⟩ := x
  simp only [EventAt] at hat
  refine ElemRo.at S.cx (x := (⟨kind, up, due, key, value⟩ : Node)) rfl h.1 hx ?_; cbv
  clear hv ho
  repeat' (first
    | (refine Test.eql (fun _ => ?_) (fun _ => ?_) <;> cbv)
    | (refine ACall.testD (dp := false) (within_c S _ _ _) ⟨rfl, (by repeat' (first | exact trivial | exact rfl | refine ⟨?_, ?_⟩)), trivial⟩ rfl (fun _ => ?_) (fun _ => ?_) <;> cbv)
    | (refine ACall.testD (dp := false) (implIsDueW_c S _ _) ⟨rfl, (by repeat' (first | exact trivial | exact rfl | refine ⟨?_, ?_⟩)), trivial⟩ rfl (fun _ => ?_) (fun _ => ?_) <;> cbv)
    | (refine Drawn.mk ⟨by kernel_rfl, fun _ => ?_⟩)
    | (refine ElemRo.at S.cx (x := (⟨kind, up, due, key, value⟩ : Node)) rfl h.1 hx ?_; cbv)
    | exact Done.yes (by rw [hat]; omega)
    | exact Done.no (by rw [hat]; omega))

theorem l6Event_c (S : Se P A) (node err cause time : Int) (t : List Node) : Tests P 285 [.ro (A.enc cNode t), .agg (cEvent ⟨node, err, cause, time⟩)] (EventIs t ⟨node, err, cause, time⟩) := by
  refine S.cx.by (S.prog ▸ Tryz.func285) rfl rfl rfl rfl (fun hv ho => ?_)
  cbv
  refine LenR.nat S.cx (fun N hN hm => ?_); cbv
  refine Arith.go (by lia) (fun z hz => ?_); replace hz : z = N - 1 := hz; cbv
  refine ACall.testD (dp := false) (l1In_c S node 0 z) .go rfl (fun h => ?_) (fun h => ?_) <;> cbv
  rotate_left
  · exact Done.no (fun e => h (by have := e.lt; dsimp only at this; omega))
  have h : 0 <= node /\ node.toNat < t.length := by omega
  obtain ⟨x, hx⟩ := get_of_lt h.2
  have hat := EventIs.at (e := ⟨node, err, cause, time⟩) hx h.1
  obtain ⟨kind, up, due, key, value⟩ := x
  simp only [EventAt] at hat
  refine ElemRo.at S.cx (x := (⟨kind, up, due, key, value⟩ : Node)) rfl h.1 hx ?_; cbv
  clear hv ho
  repeat' (first
    | (refine Test.eql (fun _ => ?_) (fun _ => ?_) <;> cbv)
    | (refine ACall.testD (dp := false) (l1In_c S _ _ _) ⟨rfl, (by repeat' (first | exact trivial | exact rfl | refine ⟨?_, ?_⟩)), trivial⟩ rfl (fun _ => ?_) (fun _ => ?_) <;> cbv)
    | (refine ACall.testD (dp := false) (specIsDueW_c S _ _) ⟨rfl, (by repeat' (first | exact trivial | exact rfl | refine ⟨?_, ?_⟩)), trivial⟩ rfl (fun _ => ?_) (fun _ => ?_) <;> cbv)
    | exact Done.yes (by rw [hat]; omega)
    | exact Done.no (by rw [hat]; omega))

theorem lastTime_last {l : List Event} {n : Int} {x : Event} (hx : l[l.length - 1]? = some x) : lastTime l n ↔ x.time <= n := by
  unfold lastTime
  rw [List.getLast?_eq_getElem?, hx]
  simp
theorem lastTime_nil {l : List Event} {n : Int} (h : l.length = 0) : lastTime l n := by
  obtain rfl := List.eq_nil_of_length_eq_zero h
  intro y hy; cases hy

theorem fits_c (S : Se P A) (node err cause time : Int) (t : List Node) (l : List Event) (ht : TreeOk t) : Tests P 190 [.agg (cEvent ⟨node, err, cause, time⟩), .ro (A.enc cNode t), .ro (A.enc cEvent l)] (EvFits t l ⟨node, err, cause, time⟩) := by
  refine S.cx.by (S.prog ▸ Tryz.func190) rfl rfl rfl rfl (fun hv ho => ?_)
  cbv
  have hlen := (hv (.ro (A.enc cEvent l)) (by simp)).len
  rw [S.cx.lenE'] at hlen
  simp only [maxLen] at hlen
  try (refine Drawn.mk ⟨by kernel_rfl, fun _ => ?_⟩)
  refine ACall.testD (dp := false) (isEvent_c S node err cause time t) .go rfl (fun h => ?_) (fun h => ?_) <;> cbv
  rotate_left
  · exact Done.no (fun e => h e.1)
  refine LenR.natD S.cx (by omega) (fun N hN => ?_); cbv
  have fin : lastTime l time -> True := fun _ => trivial
  refine Test.gtr (fun h1 => ?_) (fun h1 => ?_) <;> cbv
  · refine LenR.natD S.cx (by omega) (fun N2 hN2 => ?_); cbv
    refine Arith.go (by lia) (fun z hz => ?_); replace hz : z = N2 - 1 := hz; cbv
    obtain ⟨x, hx⟩ : ∃ x, l[l.length - 1]? = some x := get_of_lt (by omega)
    refine ElemRo.at S.cx (x := x) rfl (by omega) (by rw [show z.toNat = l.length - 1 by omega]; exact hx) ?_; cbv
    have hl := lastTime_last (n := time) hx
    refine Test.gtr (fun h2 => ?_) (fun h2 => ?_) <;> cbv
    · exact Done.no (fun e => by have := hl.1 e.2.1; omega)
    refine ACall.valN (r := rEB) (os := fun _ => []) (dp := false) S.cx (firstOf_c S t l node ht h.lt) .go rfl (fun ln hln x hx => ⟨rfl, ?_⟩)
    obtain ⟨⟨a1, a2, a3, a4⟩, b⟩ := x
    cbv
    have hf := firstE_false (t := t) (l := l) (n := node)
    rw [<- hx] at hf
    cases b <;> cbv
    · exact Done.yes ⟨h, hl.2 h2, hf.1 rfl⟩
    · exact Done.no (fun e => by have := hf.2 e.2.2; cases this)
  · refine ACall.valN (r := rEB) (os := fun _ => []) (dp := false) S.cx (firstOf_c S t l node ht h.lt) .go rfl (fun ln hln x hx => ⟨rfl, ?_⟩)
    obtain ⟨⟨a1, a2, a3, a4⟩, b⟩ := x
    cbv
    have hf := firstE_false (t := t) (l := l) (n := node)
    rw [<- hx] at hf
    cases b <;> cbv
    · exact Done.yes ⟨h, lastTime_nil (by omega), hf.1 rfl⟩
    · exact Done.no (fun e => by have := hf.2 e.2.2; cases this)

theorem implEventsOk_c (S : Se P A) (t : List Node) (l : List Event) : Tests P 226 [.ro (A.enc cNode t), .ro (A.enc cEvent l)] (EventsOk t l) := by
  refine S.cx.by (S.prog ▸ Tryz.func226) rfl rfl rfl rfl (fun hv ho => ?_)
  cbv
  refine ACall.testD (dp := false) (implTreeOk_c S t) .go rfl (fun ht => ?_) (fun ht => ?_) <;> cbv
  rotate_left
  · exact Done.no (fun e => ht e.1)
  refine LenR.nat S.cx (fun N hN hm => ?_); cbv
  refine ALoop.goS (ι := Int) (fun i => [(12, .int .i64 i)]) [] (fun i => []) (fun i => 0 <= i /\ Upto (fun j x => EvFits t (l.take j) x) l i) (fun i => (l.length - i).toNat) (0) S.cx.tab S.cx.mix S.eq ?_ ?_ ?_
  · exact ⟨Int.le_refl _, .zero⟩
  · (cbv; exact Less.toA [])
  rintro i ⟨h0, hu⟩
  refine Rnd.mk ?_; cbv
  refine Test.lss (fun h => ?_) (fun h => ?_) <;> cbv
  rotate_left
  · exact Done.yes (.of ht (hu.all (by lia)))
  refine ElemRo.enc S.cx (fun _ => rfl) (by lia) (by lia) (fun x hx => ?_); cbv
  obtain ⟨node, err, cause, time⟩ := x
  cbv
  try (refine Drawn.mk ⟨by kernel_rfl, fun _ => ?_⟩)
  refine CutRo.enc S.cx (fun _ => rfl) (by lia) (by lia) (by lia) (fun l' hl' => ?_); cbv
  simp only [List.drop_zero, show (0 : Int).toNat = 0 from rfl] at hl'
  refine ACall.testD (dp := false) (fits_c S node err cause time t l' ht) .go rfl (fun h2 => ?_) (fun h2 => ?_) <;> cbv
  · refine Arith.go (by lia) (fun i' hi' => ?_); cbv
    refine Again.on i' (by lia) ⟨by lia, hu.next h0 hx (by rw [<- hl']; exact h2) hi'⟩ ?_
    (cbv; exact Less.toA [])
  · exact Done.no (fun e => h2 (by rw [hl']; exact e.get hx))

theorem specEventsOk_c (S : Se P A) (t : List Node) (l : List Event) : Tests P 213 [.ro (A.enc cNode t), .ro (A.enc cEvent l)] (EventsOk t l) := by
  refine S.cx.by (S.prog ▸ Tryz.func213) rfl rfl rfl rfl (fun hv ho => ?_)
  cbv
  have hlen := (hv (.ro (A.enc cEvent l)) (by simp)).len
  rw [S.cx.lenE'] at hlen
  simp only [maxLen] at hlen
  refine ACall.testD (dp := false) (specTreeOk_c S t) .go rfl (fun ht => ?_) (fun ht => ?_) <;> cbv
  rotate_left
  · exact Done.no (fun e => ht e.1)
  refine ALoop.goS (ι := Int) (fun i => [(5, .int .i64 i)]) [] (fun i => []) (fun i => 0 <= i /\ Upto (fun j x => EvFits t (l.take j) x) l i) (fun i => (l.length - i).toNat) (0) S.cx.tab S.cx.mix S.eq ?_ ?_ ?_
  · exact ⟨Int.le_refl _, .zero⟩
  · (cbv; exact Less.toA [])
  rintro i ⟨h0, hu⟩
  refine Rnd.mk ?_; cbv
  refine LenR.nat S.cx (fun N hN hm => ?_); cbv
  refine Test.lss (fun h => ?_) (fun h => ?_) <;> cbv
  rotate_left
  · exact Done.yes (.of ht (hu.all (by lia)))
  obtain ⟨x, hx⟩ := get_of_lt (l := l) (i := i.toNat) (by omega)
  have hgo : ∀ i', i' = i + 1 -> EvFits t (l.take i.toNat) x -> 0 <= i' /\ Upto (fun j x => EvFits t (l.take j) x) l i' := fun i' hi' hf => ⟨by omega, hu.next h0 hx hf hi'⟩
  have hno : EventsOk t l -> EvFits t (l.take i.toNat) x := fun e => e.get hx
  obtain ⟨node, err, cause, time⟩ := x
  try (refine Drawn.mk ⟨by kernel_rfl, fun _ => ?_⟩)
  refine ElemRo.at S.cx (x := (⟨node, err, cause, time⟩ : Event)) rfl h0 hx ?_; cbv
  refine ACall.testD (dp := false) (l6Event_c S node err cause time t) .go rfl (fun h2 => ?_) (fun h2 => ?_) <;> cbv
  rotate_left
  · exact Done.no (fun e => h2 (hno e).1)
  refine Test.gtr (fun h3 => ?_) (fun h3 => ?_) <;> cbv
  · refine ElemRo.at S.cx (x := (⟨node, err, cause, time⟩ : Event)) rfl h0 hx ?_; cbv
    refine Arith.go (by lia) (fun z hz => ?_); replace hz : z = i - 1 := hz; cbv
    obtain ⟨y, hy⟩ := get_of_lt (l := l) (i := z.toNat) (by omega)
    refine ElemRo.at S.cx (x := y) rfl (by omega) hy ?_; cbv
    have hl : lastTime (l.take i.toNat) time ↔ y.time <= time := by rw [show i.toNat = z.toNat + 1 by omega]; exact lastTime_take hy
    refine Test.lss (fun h4 => ?_) (fun h4 => ?_) <;> cbv
    · exact Done.no (fun e => by have := hl.1 (hno e).2.1; omega)
    refine CutRo.enc S.cx (fun _ => rfl) (by lia) (by lia) (by lia) (fun l' hl' => ?_); cbv
    simp only [List.drop_zero, show (0 : Int).toNat = 0 from rfl] at hl'
    refine ElemRo.at S.cx (x := (⟨node, err, cause, time⟩ : Event)) rfl h0 hx ?_; cbv
    refine ACall.int (dp := false) (l6First_c S t l' node ht h2.lt) .go rfl (fun r hr => ?_); cbv
    have hf := firstIdx_neg (t := t) (l := l') (n := node)
    rw [<- hr, hl'] at hf
    refine Test.geq (fun h5 => ?_) (fun h5 => ?_) <;> cbv
    · exact Done.no (fun e => by have := hf.2 (hno e).2.2; omega)
    · refine Arith.go (by lia) (fun i' hi' => ?_); cbv
      refine Again.on i' (by lia) (hgo i' hi' ⟨h2, hl.2 h4, hf.1 (by omega)⟩) ?_
      (cbv; exact Less.toA [])
  · refine CutRo.enc S.cx (fun _ => rfl) (by lia) (by lia) (by lia) (fun l' hl' => ?_); cbv
    simp only [List.drop_zero, show (0 : Int).toNat = 0 from rfl] at hl'
    refine ElemRo.at S.cx (x := (⟨node, err, cause, time⟩ : Event)) rfl h0 hx ?_; cbv
    refine ACall.int (dp := false) (l6First_c S t l' node ht h2.lt) .go rfl (fun r hr => ?_); cbv
    have hf := firstIdx_neg (t := t) (l := l') (n := node)
    rw [<- hr, hl'] at hf
    refine Test.geq (fun h5 => ?_) (fun h5 => ?_) <;> cbv
    · exact Done.no (fun e => by have := hf.2 (hno e).2.2; omega)
    · refine Arith.go (by lia) (fun i' hi' => ?_); cbv
      refine Again.on i' (by lia) (hgo i' hi' ⟨h2, lastTime_nil (by simp; omega), hf.1 (by omega)⟩) ?_
      (cbv; exact Less.toA [])

end Go.Proofs.YtihfpbhalnedcaaGreat.AM
