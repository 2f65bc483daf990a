/- Contracts: timers stopped, armed, reset, fired, forgotten in the spec. (printed by ge20.py) -/
import Derived.Test.YtihfpbhalnedcaaGreatE18
import Derived.Test.YtihfpbhalnedcaaGreatEB
set_option linter.unusedVariables false
set_option linter.unusedSimpArgs false
namespace Go.Proofs.YtihfpbhalnedcaaGreat.AM
open Go Go.Proofs

set_option maxRecDepth 100000
set_option maxHeartbeats 4000000

variable {P : Program} {A : Sy}

theorem set_same {l : List Timer} {i : Nat} {x : Timer} (h : l[i]? = some x) : l.set i x = l := by
  obtain ⟨hl, hg⟩ := List.getElem?_eq_some_iff.1 h
  rw [<- hg]; exact List.set_getElem_self hl

theorem stop_is {t : Timers} {q : Int} {y : Timer} (hok : TimersOk t) (h0 : 0 <= timIdx t.list q) (hy : t.list[(timIdx t.list q).toNat]? = some y) (hq : y.seq = q) :
    stopT t q = (⟨(Without t.heap q).1, t.list.set (timIdx t.list q).toNat { y with armed := false }, t.next⟩, y.armed) := by
  have hw : (Without t.heap q).1 = withoutL t.heap q := by unfold Without; rw [if_pos hok.2.2.1]
  have hg := stopT_gone (q := q) hok
  cases ha : y.armed with
  | true =>
    unfold stopT
    rw [if_pos h0, hy]
    dsimp only
    rw [if_pos ha, hw]
  | false =>
    have e : stopT t q = (t, false) := by
      unfold stopT
      rw [if_pos h0, hy]
      dsimp only
      rw [if_neg (by simp [ha])]
    rw [e] at hg ⊢
    obtain ⟨hk, hf⟩ := heapOf_is hok.2.2.1.2.2
    have e1 : withoutL t.heap q = t.heap := by
      unfold withoutL
      rw [Heap.without_none hk (by rw [heapOf_seqs hok.2.2.1.2.2]; exact hg), hf]
    have e2 : ({ y with armed := false } : Timer) = y := by cases y; dsimp only at ha; rw [ha]
    rw [hw, e1, e2, set_same hy]

theorem specStopped_c (S : Se P A) (heap : List Twig) (list : List Timer) (next q : Int) (h1 : heap.length <= 4294967296) (h2 : list.length <= 4294967296) : Is1 P 114 [.agg (roTimers A ⟨heap, list, next⟩), .int .i64 q] (rTB A (Stopped ⟨heap, list, next⟩ q)) := by
  refine S.cx.by (S.prog ▸ Tryz.func114) rfl rfl rfl rfl (fun hv ho => ?_)
  cbv
  refine ACall.testD (dp := false) (specTimersOk_c S heap list next) .go rfl (fun hok => ?_) (fun hok => ?_) <;> cbv
  rotate_left
  · exact Done.isA (r := rTB A) (x := (timers0, false)) (if_neg hok)
  have hst : Stopped ⟨heap, list, next⟩ q = stopT ⟨heap, list, next⟩ q := if_pos hok
  have hb1 := hok.2.2.1.1
  have hb2 := hok.2.1
  dsimp only at hb1 hb2
  refine ACall.valN (r := rT A) (os := fun _ => []) (dp := false) S.cx (l4Copy_c S heap list next h1 h2) .go rfl (fun ln hln x hx => ⟨rfl, ?_⟩)
  obtain ⟨heap', list', next'⟩ := x
  cases hx
  cbv
  have hN := hln cTwig heap
  generalize ln (A.enc cTwig heap) = N at hN ⊢
  have hK := hln cTimer list
  generalize ln (A.enc cTimer list) = K at hK ⊢
  refine ACall.int (dp := false) (l4At_c S heap list next q) .go rfl (fun r hr => ?_); cbv
  refine Test.lss (fun h => ?_) (fun h => ?_) <;> cbv
  · exact Done.isA (r := rTB A) (x := ((⟨heap, list, next⟩ : Timers), false)) (by rw [hst, stop_none (t := ⟨heap, list, next⟩) (by rw [<- hr]; exact h)])
  have hs := fun y => stop_is (q := q) (y := y) hok
  have hso := @timIdx_some list q
  dsimp only at hs
  rw [<- hr] at hs hso
  obtain ⟨⟨ys, yd, yw, yh, ya⟩, hy, he⟩ := hso (by omega)
  have hs := hs _ (by omega) hy he
  have hlt := (List.getElem?_eq_some_iff.1 hy).1
  refine ElemRef.go rfl (by lia) (by lia) (by rw [S.cx.lenE']; lia) (fun row2 hrow2 => ?_); cbv
  refine RowSet.enc S.cx (⟨ys, yd, yw, yh, ya⟩ : Timer) ⟨ys, yd, yw, yh, false⟩ (by rw [show row2 = r.toNat by omega]; exact hy) rfl (Nat.le_refl _) rfl (fun list' hlist' => ?_); cbv
  have hK' : K = list'.length := by rw [hlist', List.length_set]; exact hK
  refine ACall.valN (r := rTwB A) (os := fun _ => []) (dp := false) S.cx (specWithout_c S heap q) .go rfl (fun ln hln x hx => ⟨rfl, ?_⟩)
  obtain ⟨w, b⟩ := x
  cbv
  have hW := hln cTwig w
  generalize ln (A.enc cTwig w) = W at hW ⊢
  try (refine Drawn.mk ⟨by kernel_rfl, fun _ => ?_⟩)
  refine ElemRo.at S.cx (x := (⟨ys, yd, yw, yh, ya⟩ : Timer)) rfl (by lia) hy ?_; cbv
  exact Done.isA (r := rTB A) (x := ((⟨w, list', next⟩ : Timers), ya)) (by rw [hst, hs, <- hx, hlist', show row2 = r.toNat by omega])

theorem specArmed_c (S : Se P A) (heap : List Twig) (list : List Timer) (next due what whom : Int) (h1 : heap.length <= 4294967296) (h2 : list.length <= 4294967296) : Is1 P 118 [.agg (roTimers A ⟨heap, list, next⟩), .int .i64 due, .int .i64 what, .int .i64 whom] (rTI A (Armed ⟨heap, list, next⟩ due what whom)) := by
  refine S.cx.by (S.prog ▸ Tryz.func118) rfl rfl rfl rfl (fun hv ho => ?_)
  cbv
  refine ACall.testD (dp := false) (specTimersOk_c S heap list next) .go rfl (fun hok => ?_) (fun hok => ?_) <;> cbv
  rotate_left
  · exact Done.isA (r := rTI A) (x := (timers0, -1)) (if_neg hok)
  have hst : Armed ⟨heap, list, next⟩ due what whom = armT ⟨heap, list, next⟩ due what whom := if_pos hok
  have hno : ∀ h : list.length = 64 ∨ next = 1000000 ∨ ¬ (0 <= what /\ what <= 2) ∨ ¬ (0 <= whom /\ whom <= 99), armT ⟨heap, list, next⟩ due what whom = (⟨heap, list, next⟩, -1) := fun h => if_pos h
  have hb1 := hok.2.2.1.1
  have hb2 := hok.2.1
  have hn := hok.1
  dsimp only at hb1 hb2 hn
  refine ACall.valN (r := rT A) (os := fun _ => []) (dp := false) S.cx (l4Copy_c S heap list next h1 h2) .go rfl (fun ln hln x hx => ⟨rfl, ?_⟩)
  obtain ⟨heap', list', next'⟩ := x
  cases hx
  cbv
  have hN := hln cTwig heap
  generalize ln (A.enc cTwig heap) = N at hN ⊢
  have hK := hln cTimer list
  generalize ln (A.enc cTimer list) = K at hK ⊢
  refine LenR.nat S.cx (fun M hM hm => ?_); cbv
  refine Test.eql (fun h3 => ?_) (fun h3 => ?_) <;> cbv
  · exact Done.isA (r := rTI A) (x := ((⟨heap, list, next⟩ : Timers), -1)) (by rw [hst, hno (.inl (by lia))])
  refine Test.eql (fun h4 => ?_) (fun h4 => ?_) <;> cbv
  · exact Done.isA (r := rTI A) (x := ((⟨heap, list, next⟩ : Timers), -1)) (by rw [hst, hno (.inr (.inl h4))])
  refine Arith.go (by lia) (fun nx hnx => ?_); replace hnx : nx = next + 1 := hnx; cbv
  refine ACall.testD (dp := false) (l4Timer_c S next due what whom true nx (by lia)) .go rfl (fun h5 => ?_) (fun h5 => ?_) <;> cbv
  rotate_left
  · exact Done.isA (r := rTI A) (x := ((⟨heap, list, next⟩ : Timers), -1)) (by
      rw [hst]
      refine hno (.inr (.inr ?_))
      by_cases g1 : 0 <= what /\ what <= 2
      · exact .inr fun g2 => h5 ⟨⟨hn.1, by dsimp only; omega⟩, g1, g2⟩
      · exact .inl g1)
  have hyes : armT ⟨heap, list, next⟩ due what whom = (⟨putL heap due next, list ++ [⟨next, due, what, whom, true⟩], next + 1⟩, next) := by
    refine if_neg fun h => ?_
    rcases h with h | h | h | h
    · dsimp only at h; exact h3 (by lia)
    · exact h4 h
    · exact h h5.2.1
    · exact h h5.2.2
  have hmem : next ∉ heap.map (·.seq) := fun hm => by
    obtain ⟨w, hw, e1⟩ := List.mem_map.1 hm
    obtain ⟨z, hz, g1, g2, g3⟩ := hok.2.2.2.2.2.2 w hw
    have := (hok.2.2.2.1 z hz).1.2
    dsimp only at this
    omega
  have hlt : heap.length < 64 := by
    have g1 := hok.2.2.2.2.2.1
    have g2 := armedN_le list
    dsimp only at g1
    have : list.length ≠ 64 := by lia
    omega
  refine Part.one ?_; cbv
  refine AppRef.push S.cx (⟨next, due, what, whom, true⟩ : Timer) (by assumption) rfl rfl plainTimer (fun _ => rfl) (by simp only [maxBytes]; omega) (fun m w hw hml => ?_); cbv
  refine ACall.valN (r := rTwB A) (os := fun _ => []) (dp := false) S.cx (specPut_c S heap due next) .go rfl (fun ln hln x hx => ⟨rfl, ?_⟩)
  obtain ⟨l2, b2⟩ := x
  cbv
  have hN2 := hln cTwig l2
  generalize ln (A.enc cTwig l2) = N2 at hN2 ⊢
  rw [merged_put hok.2.2.1 hmem hlt] at hx
  simp only [Prod.mk.injEq] at hx
  obtain ⟨hx1, hx2⟩ := hx
  refine Arith.go (by lia) (fun ny hny => ?_); replace hny : ny = next + 1 := hny; cbv
  try (refine Drawn.mk ⟨by kernel_rfl, fun _ => ?_⟩)
  exact Done.isA (r := rTI A) (x := ((⟨l2, w, ny⟩ : Timers), next)) (by rw [hst, hyes, hx1, hw, hny])

end Go.Proofs.YtihfpbhalnedcaaGreat.AM
