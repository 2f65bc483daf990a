/- Contracts: heaps joined and merged by the spec. (printed by ge15.py) -/
import Derived.Test.YtihfpbhalnedcaaGreatEB
import Derived.Test.YtihfpbhalnedcaaGreatBD
set_option linter.unusedVariables false
set_option linter.unusedSimpArgs false
namespace Go.Proofs.YtihfpbhalnedcaaGreat.AM
open Go Go.Proofs

set_option maxRecDepth 100000
set_option maxHeartbeats 4000000

variable {P : Program} {A : Sy}

theorem l3Copy_c (S : Se P A) (l : List Twig) (hb : l.length <= 4294967296) : Is1 P 218 [.ro (A.enc cTwig l)] (rTwig A l) := by
  refine S.cx.by (S.prog ▸ Tryz.func218) rfl rfl rfl rfl (fun hv ho => ?_)
  cbv
  refine AppNew.enc S.cx plainTwig (.inr (.inr trivial)) (fun _ => rfl) (by simp only [maxBytes]; omega) (fun n hn => ?_); cbv
  exact Done.isA (r := rTwig A) (x := l) (rfl)

theorem l4Copy_c (S : Se P A) (heap : List Twig) (list : List Timer) (next : Int) (h1 : heap.length <= 4294967296) (h2 : list.length <= 4294967296) : Is1 P 143 [.agg (roTimers A ⟨heap, list, next⟩)] (rT A ⟨heap, list, next⟩) := by
  refine S.cx.by (S.prog ▸ Tryz.func143) rfl rfl rfl rfl (fun hv ho => ?_)
  cbv
  try (refine Drawn.mk ⟨by kernel_rfl, fun _ => ?_⟩)
  refine ACall.valN (r := rTwig A) (os := fun _ => []) (dp := false) S.cx (l3Copy_c S heap h1) .go rfl (fun ln hln l1 hx => ⟨rfl, ?_⟩)
  cases hx
  cbv
  have hN1 := hln cTwig heap
  generalize ln (A.enc cTwig heap) = N1 at hN1 ⊢
  refine AppNew.enc S.cx plainTimer (.inr (.inr trivial)) (fun _ => rfl) (by simp only [maxBytes]; omega) (fun n hn => ?_); cbv
  exact Done.isA (r := rT A) (x := (⟨heap, list, next⟩ : Timers)) (rfl)

theorem AppRef.lit {T : Nat -> Option TI} (C : Cx P T A) {α : Type} {f : α -> List AV} (x : α) {rows : List (List AV)} {m : List α} {kd : SK} {fl p : Bool} {s size bytes : Nat} {K : Bool -> Nat -> List (List AV) -> Prop} (hr : rows = [f x]) (hs : s = size) (hp : Plain f) (hsz : ∀ x, (f x).length = size) (hb : (1 + m.length) * bytes <= maxBytes)
    (h : ∀ (n : Nat) (l' : List α), l' = x :: m -> n = l'.length -> K false n (A.enc f l')) : AppRef kd fl p 0 1 s size bytes rows (A.enc f m) K := by
  rw [hr, show [f x] = A.enc f [x] from (C.enc f [x]).symm]
  refine AppRef.pushAll C rfl hs hp hsz (by simpa using hb) (fun n l' hl hn => h n l' (by rw [hl]; rfl) hn)

theorem l3Join_c (S : Se P A) (d s l0 : Int) (a b : Heap) (la lb : List Twig) (ha : a.flat = la) (hb : b.flat = lb) (hao : a.ok) (hbo : b.ok) (hal : la.length <= 1073741824) (hbl : lb.length <= 1073741824) : Is1 P 337 [.agg (cTwig ⟨d, s, l0⟩), .ro (A.enc cTwig la), .ro (A.enc cTwig lb)] (rTwig A (Heap.join d s a b).flat) := by
  refine S.cx.byC [4, 5] (S.prog ▸ Tryz.func337) rfl rfl rfl rfl (fun ln hln hv ho => ?_)
  cbv
  refine ACall.int (dp := false) (l3Rank_c S la (by omega)) .go rfl (fun x hx => ?_); cbv
  refine ACall.int (dp := false) (l3Rank_c S lb (by omega)) .go rfl (fun y hy => ?_); cbv
  rw [rankL_is hao ha] at hx
  rw [rankL_is hbo hb] at hy
  refine Test.lss (fun h => ?_) (fun h => ?_) <;> cbv
  · refine ASeq.on [4, 5] S.cx.tab S.cx.mix S.eq ?_; cbv
    refine Later.mk ?_; cbv
    refine ASeq.on [4, 5] S.cx.tab S.cx.mix S.eq ?_; cbv
    refine Later.mk ?_; cbv
    refine LenR.nat S.cx (fun n hn hm => ?_); cbv
    refine AppRef.lit S.cx (⟨d, s, n⟩ : Twig) rfl rfl plainTwig (fun _ => rfl) (by simp only [maxBytes]; omega) (fun n1 l1 hl1 hn1 => ?_); cbv
    have hl1l : l1.length = lb.length + 1 := by rw [hl1]; rfl
    refine AppRef.pushAll S.cx hn1 rfl plainTwig (fun _ => rfl) (by simp only [maxBytes]; omega) (fun n2 l2 hl2 hn2 => ?_); cbv
    exact Done.isA (r := rTwig A) (x := l2) (joinR hb ha (by lia) ⟨hn.1, hn.2⟩ (by rw [hl2, hl1]; rfl))
  · refine LenR.nat S.cx (fun n hn hm => ?_); cbv
    refine AppRef.lit S.cx (⟨d, s, n⟩ : Twig) rfl rfl plainTwig (fun _ => rfl) (by simp only [maxBytes]; omega) (fun n1 l1 hl1 hn1 => ?_); cbv
    have hl1l : l1.length = la.length + 1 := by rw [hl1]; rfl
    refine AppRef.pushAll S.cx hn1 rfl plainTwig (fun _ => rfl) (by simp only [maxBytes]; omega) (fun n2 l2 hl2 hn2 => ?_); cbv
    exact Done.isA (r := rTwig A) (x := l2) (joinL ha hb (by lia) ⟨hn.1, hn.2⟩ (by rw [hl2, hl1]; rfl))

end Go.Proofs.YtihfpbhalnedcaaGreat.AM
