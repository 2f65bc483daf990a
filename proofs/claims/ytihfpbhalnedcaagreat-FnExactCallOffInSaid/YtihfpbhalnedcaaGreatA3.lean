/- Contracts: deferred functions queued, registered. (printed by ga3.py) -/
import Derived.Test.YtihfpbhalnedcaaGreatQA
import Derived.Test.YtihfpbhalnedcaaGreatBC
set_option linter.unusedVariables false
set_option linter.unusedSimpArgs false
namespace Go.Proofs.YtihfpbhalnedcaaGreat.AM
open Go Go.Proofs

set_option maxRecDepth 100000
set_option maxHeartbeats 4000000

variable {P : Program} {A : Sy}

def MapTo {α : Type} (q : α -> α) (l m : List α) (i : Int) : Prop := ∀ j : Nat, m[j]? = (l[j]?).map fun x => if (j : Int) < i then q x else x

theorem MapTo.zero {α : Type} {q : α -> α} {l : List α} : MapTo q l l 0 := fun j => by
  have : ¬ ((j : Int) < 0) := by omega
  simp [this]
theorem MapTo.len {α : Type} {q : α -> α} {l m : List α} {i : Int} (h : MapTo q l m i) : m.length = l.length := by
  have h1 : m[l.length]? = none := (h l.length).trans (by rw [List.getElem?_eq_none (Nat.le_refl _)]; rfl)
  have h2 := Option.map_eq_none_iff.1 ((h m.length).symm.trans (List.getElem?_eq_none (Nat.le_refl _)))
  exact Nat.le_antisymm (List.getElem?_eq_none_iff.1 h1) (List.getElem?_eq_none_iff.1 h2)
theorem MapTo.get {α : Type} {q : α -> α} {l m : List α} {i : Int} {x : α} (h : MapTo q l m i) (h0 : 0 <= i) (hx : l[i.toNat]? = some x) : m[i.toNat]? = some x := by
  rw [h i.toNat, hx, Option.map_some, if_neg (by omega)]
theorem MapTo.next {α : Type} {q : α -> α} {l m m' : List α} {i i' : Int} {x : α} (h : MapTo q l m i) (h0 : 0 <= i) (hx : l[i.toNat]? = some x) (hm : m' = m.set i.toNat (q x)) (hi : i' = i + 1) : MapTo q l m' i' := fun j => by
  have hl := h.len
  have hlt := lt_of_get hx
  rw [hm]
  by_cases hj : i.toNat = j
  · subst hj
    rw [List.getElem?_set_self (by omega), hx, Option.map_some, if_pos (by omega)]
  · rw [List.getElem?_set_ne hj, h j]
    congr 1
    funext y
    by_cases h1 : (j : Int) < i
    · rw [if_pos h1, if_pos (by omega)]
    · rw [if_neg h1, if_neg (by omega)]
theorem MapTo.skip {α : Type} {q : α -> α} {l m : List α} {i i' : Int} {x : α} (h : MapTo q l m i) (h0 : 0 <= i) (hx : l[i.toNat]? = some x) (hq : q x = x) (hi : i' = i + 1) : MapTo q l m i' := by
  refine h.next h0 hx ?_ hi
  rw [hq]
  refine List.ext_getElem? fun j => ?_
  by_cases hj : i.toNat = j
  · subst hj
    rw [h.get h0 hx]
    have : i.toNat < m.length := by rw [h.len]; exact lt_of_get hx
    simp [this]
  · rw [List.getElem?_set_ne hj]
theorem MapTo.done {α : Type} {q : α -> α} {l m : List α} {i : Int} (h : MapTo q l m i) (hi : (l.length : Int) <= i) : m = l.map q := by
  refine List.ext_getElem? fun j => ?_
  rw [h j, List.getElem?_map]
  cases hx : l[j]? with
  | none => rfl
  | some x =>
    have := lt_of_get hx
    rw [Option.map_some, Option.map_some, if_pos (by omega)]

def queueIf (node : Int) (x : After) : After := if x.node = node then { x with queued := true } else x
def QueuedBy (a : Afters) (node : Int) : Afters := if AftersOk a then { a with list := a.list.map (queueIf node) } else afters0
def oA (A : Sy) (x : Afters) : List (Option Obj) := [some (.box (ownAfters A x))]

theorem queue_c (S : Se P A) (ages : List Int) (used : List Bool) (list : List After) (node : Int) : SoundM P 112 false [.ptr 1000 0 0, .int .i64 node] [.box (ownAfters A ⟨⟨ages, used⟩, list⟩)]
    (fun v os => v = .tup [] /\ os = oA A ⟨⟨ages, used⟩, list.map (queueIf node)⟩) := by
  refine S.cx.byN (S.prog ▸ Tryz.func112) rfl rfl rfl rfl (fun ln hln hv ho => ?_)
  cbv
  have hN := hln cInt64 ages
  generalize ln (A.enc cInt64 ages) = N at hN ⊢
  have hM := hln cBool used
  generalize ln (A.enc cBool used) = M at hM ⊢
  have hK := hln cAfter list
  generalize ln (A.enc cAfter list) = K at hK ⊢
  refine Len.nat (fun L hL hmx => ?_); cbv
  refine ALoop.goS (ι := Int × List After) (fun i => [(10, .int .i64 i.1)]) [1003] (fun i => [(1003, .arr 5 true (A.enc cAfter i.2))]) (fun i => 0 <= i.1 /\ MapTo (queueIf node) list i.2 i.1) (fun i => (list.length - i.1).toNat) (0, list) S.cx.tab S.cx.mix S.eq ?_ ?_ ?_
  · exact ⟨Int.le_refl _, .zero⟩
  · (cbv; exact Less.toA [])
  rintro ⟨i, m⟩ ⟨h0, hm⟩
  dsimp only at h0 hm
  have hml := hm.len
  refine Rnd.mk ?_; cbv
  refine Test.lss (fun h => ?_) (fun h => ?_) <;> cbv
  · obtain ⟨x, hx⟩ : ∃ x, list[i.toNat]? = some x := get_of_lt (by lia)
    have hmx2 := hm.get h0 hx
    refine ElemRef.go rfl h0 (by lia) (by rw [S.cx.lenE']; lia) (fun row hrow => ?_); cbv
    have hr : row = i.toNat := by omega
    refine Row.enc S.cx (by lia) (fun y hy => ?_)
    obtain rfl : y = x := by rw [hr, hmx2] at hy; exact (Option.some.inj hy).symm
    cbv
    refine Test.eql (fun h2 => ?_) (fun h2 => ?_) <;> cbv
    · refine ElemRef.go rfl h0 (by lia) (by rw [S.cx.lenE']; lia) (fun row2 hrow2 => ?_); cbv
      have hr2 : row2 = i.toNat := by omega
      refine RowSet.enc S.cx y { y with queued := true } (by rw [hr2]; exact hmx2) rfl (by rw [len_cAfter]; decide) rfl (fun m' hm' => ?_); cbv
      refine Arith.go (by lia) (fun i' hi' => ?_); cbv
      refine Again.on (i', m') (by dsimp only; lia) ⟨by dsimp only; lia, hm.next h0 hx (by rw [hm', hr2, queueIf, if_pos h2]) hi'⟩ ?_
      (cbv; exact Less.toA [])
    · refine Arith.go (by lia) (fun i' hi' => ?_); cbv
      refine Again.on (i', m) (by dsimp only; lia) ⟨by dsimp only; lia, hm.skip h0 hx (by rw [queueIf, if_neg h2]) hi'⟩ ?_
      (cbv; exact Less.toA [])
  · have hall := hm.done (i := i) (by lia)
    have hK' : K = m.length := by rw [hK, hml]
    refine Done.toA (.tup []) (oA A ⟨⟨ages, used⟩, m⟩) ⟨rfl, by rw [hall]⟩

theorem specQueuedBy_c (S : Se P A) (ages : List Int) (used : List Bool) (list : List After) (node : Int) : Is1 P 109 [.agg (roAfters A ⟨⟨ages, used⟩, list⟩), .int .i64 node] (rA A (QueuedBy ⟨⟨ages, used⟩, list⟩ node)) := by
  refine S.cx.by (S.prog ▸ Tryz.func109) rfl rfl rfl rfl (fun hv ho => ?_)
  cbv
  refine ACall.testD (dp := false) (specAftersOk_c S ages used list) .go rfl (fun hok => ?_) (fun hok => ?_) <;> cbv
  rotate_left
  · exact Done.isA (r := rA A) (x := afters0) (if_neg hok)
  have b1 : ages.length <= 64 := hok.1.1.2
  have b2 : used.length = ages.length := hok.1.2.1
  have b3 : list.length = usedN used := hok.2.1
  have b4 := usedN_le used
  have b5 : ages.length <= 4294967296 := by omega
  have b6 : used.length <= 4294967296 := by omega
  have b7 : list.length <= 4294967296 := by omega
  refine ACall.valN (r := rA A) (os := fun _ => []) (dp := false) S.cx (l8Copy_c S ages used list b5 b6 b7) .go rfl (fun ln hln x hx => ⟨rfl, ?_⟩)
  obtain ⟨⟨ages', used'⟩, list'⟩ := x
  cases hx
  cbv
  have hN := hln cInt64 ages
  generalize ln (A.enc cInt64 ages) = N at hN ⊢
  have hM := hln cBool used
  generalize ln (A.enc cBool used) = M at hM ⊢
  have hK := hln cAfter list
  generalize ln (A.enc cAfter list) = K at hK ⊢
  refine ALoop.goS (ι := Int × List After) (fun i => [(6, .int .i64 i.1)]) [4010002] (fun i => [(4010002, .arr 5 true (A.enc cAfter i.2))]) (fun i => 0 <= i.1 /\ MapTo (queueIf node) list i.2 i.1) (fun i => (list.length - i.1).toNat) (0, list) S.cx.tab S.cx.mix S.eq ?_ ?_ ?_
  · exact ⟨Int.le_refl _, .zero⟩
  · (cbv; exact Less.toA [])
  rintro ⟨i, m⟩ ⟨h0, hm⟩
  dsimp only at h0 hm
  have hml := hm.len
  refine Rnd.mk ?_; cbv
  refine Len.nat (fun L hL hmx => ?_); cbv
  refine Test.lss (fun h => ?_) (fun h => ?_) <;> cbv
  · obtain ⟨x, hx⟩ : ∃ x, list[i.toNat]? = some x := get_of_lt (by lia)
    have hmx2 := hm.get h0 hx
    refine ElemRef.go rfl h0 (by lia) (by rw [S.cx.lenE']; lia) (fun row hrow => ?_); cbv
    have hr : row = i.toNat := by omega
    refine Row.enc S.cx (by lia) (fun y hy => ?_)
    obtain rfl : y = x := by rw [hr, hmx2] at hy; exact (Option.some.inj hy).symm
    cbv
    refine Test.eql (fun h2 => ?_) (fun h2 => ?_) <;> cbv
    · refine ElemRef.go rfl h0 (by lia) (by rw [S.cx.lenE']; lia) (fun row2 hrow2 => ?_); cbv
      have hr2 : row2 = i.toNat := by omega
      refine RowSet.enc S.cx y { y with queued := true } (by rw [hr2]; exact hmx2) rfl (by rw [len_cAfter]; decide) rfl (fun m' hm' => ?_); cbv
      refine Arith.go (by lia) (fun i' hi' => ?_); cbv
      refine Again.on (i', m') (by dsimp only; lia) ⟨by dsimp only; lia, hm.next h0 hx (by rw [hm', hr2, queueIf, if_pos h2]) hi'⟩ ?_
      (cbv; exact Less.toA [])
    · refine Arith.go (by lia) (fun i' hi' => ?_); cbv
      refine Again.on (i', m) (by dsimp only; lia) ⟨by dsimp only; lia, hm.skip h0 hx (by rw [queueIf, if_neg h2]) hi'⟩ ?_
      (cbv; exact Less.toA [])
  · have hall := hm.done (i := i) (by lia)
    have hK' : K = m.length := by rw [hK, hml]
    exact Done.isA (r := rA A) (x := ⟨⟨ages, used⟩, m⟩) ((if_pos hok).trans (by rw [hall]))

end Go.Proofs.YtihfpbhalnedcaaGreat.AM
