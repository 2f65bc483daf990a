/- Contracts: timers reset, fired, forgotten. (printed by ge19.py) -/
import Derived.Test.YtmbckmfihcojoaaE16
import Derived.Test.YtmbckmfihcojoaaE10
namespace Go.Proofs.Ytmbckmfihcojoaa.AM
open Go Go.Proofs

set_option maxRecDepth 100000
set_option maxHeartbeats 4000000
set_option linter.unusedVariables false
set_option linter.unusedSimpArgs false

variable {P : Program} {A : Sy}

theorem resPartT {T : Nat → Option TI} (C : Cx P T A) {al : Bool} {st : St} {p : Bool} {id off n s : Nat} {α : Type} {f : α → List AV} {l m : List α} (hq : lk st.sto id = some (.arr s true (A.enc f l))) (hn : off + n ≤ l.length) (hm : m = (l.drop off).take n) : resOk al st (.ref p id off n) (.own s true (A.enc f m)) := by
  show resCell al st (.ref p id off n) (.own s true (A.enc f m))
  exact resPart C hq hn hm

theorem deleteAtTimer_c (S : Se P A) (l : List Timer) (i j : Int) (h0 : 0 ≤ i) (hi : i.toNat < l.length) (hj : j = i + 1) (n : Nat) (hn : n = l.length) (hb : l.length ≤ 4294967296) : SoundM P 178 false [.ref false 1000 0 n, .int .i64 i, .int .i64 j] [.arr 5 true (A.enc cTimer l)]
    (fun v os => v = rTimer A (l.eraseIdx i.toNat) ∧ os = [none]) := by
  refine S.cx.by (S.prog ▸ Try.func178) rfl rfl rfl rfl (fun hv ho => ?_)
  cbv
  refine Len.nat (fun N hN hm => ?_); cbv
  refine AOp.slice3 S.cx.tab rfl rfl rfl rfl rfl rfl rfl rfl h0 (by lia) (by lia) (by lia) ?_; cbv
  refine Test.eql (fun h1 => ?_) (fun h1 => ?_) <;> cbv
  · exfalso; lia
  refine Len.nat (fun M hM hm2 => ?_); cbv
  try (refine Drawn.mk ⟨by kernel_rfl, fun _ => ?_⟩)
  refine CutRef.goP rfl (by decide) h0 (by lia) (by rw [S.cx.lenE']; lia) (fun p1 off1 len1 hp1 hoff1 hlen1 => ?_); cbv
  have hp1 : p1 = true := by rw [hp1, S.cx.lenE']; simp; lia
  refine CutRef.go rfl (by lia) (by lia) (by lia) (by rw [S.cx.lenE']; lia) (fun p2 off2 len2 hoff2 hlen2 => ?_); cbv
  refine Part.enc S.cx (by lia) (fun m hm3 => ?_); cbv
  have hml : m.length = l.length - (i.toNat + 1) := by rw [hm3]; simp; lia
  refine AppRef.inPlace S.cx rfl plainTimer (fun _ => rfl) ?_ ?_ (fun k l' hk hl' => ?_)
  · exact .inl hp1
  · lia
  cbv
  have hk2 : k = l.length - 1 := by lia
  have hl2 : l'.length = l.length := by rw [hl']; simp; lia
  have hl3 : l'.take k = l.eraseIdx i.toNat := by
    rw [List.eraseIdx_eq_take_drop_succ, hl', show off1 + len1 = i.toNat by lia]
    have e1 : (l.take i.toNat ++ m).length = k := by simp; lia
    have e2 : (l.take i.toNat ++ m).take k = l.take i.toNat ++ m := List.take_of_length_le (by rw [e1]; exact Nat.le_refl _)
    have e3 : m = l.drop (i.toNat + 1) := by
      rw [hm3, show off2 = i.toNat + 1 by lia]
      exact List.take_of_length_le (by simp; lia)
    rw [List.take_append_of_le_length (by rw [e1]; exact Nat.le_refl _), e2, ← e3]
  refine Len.nat (fun K hK hm4 => ?_); cbv
  refine CutRef.cap rfl (by first | exact hp1 | rfl) (by lia) (by lia) (by rw [S.cx.lenE']; lia) (by rw [S.cx.lenE']; lia) (fun p3 off3 len3 hoff3 hlen3 => ?_); cbv
  refine ⟨⟨rfl⟩, Clear.enc S.cx (⟨0, 0, 0, 0, false⟩ : Timer) rfl rfl ?_ (fun l4 hl4 => ?_)⟩
  · lia
  cbv
  have hl5 : l4.take k = l'.take k := by
    rw [hl4, List.append_assoc, List.take_append_of_le_length (by simp; lia), List.take_take]; congr 1; lia
  refine Done.to (rTimer A (l.eraseIdx i.toNat)) [none] rfl ?_ trivial ⟨rfl, rfl⟩
  have h9 : 0 + k ≤ l4.length := by rw [hl4]; simp; lia
  refine resPartT S.cx (f := cTimer) (l := l4) rfl ?_ ?_
  · lia
  · rw [← hl3, ← hl5, show off1 = 0 by lia]
    rfl

theorem implIsDue_c (S : Se P A) (now d : Int) : Tests P 163 [.int .i64 now, .int .i64 d] (d ≤ now ∧ d ≠ 9223372036854775807) := by
  refine S.cx.by (S.prog ▸ Try.func163) rfl rfl rfl rfl (fun hv ho => ?_)
  cbv
  refine Test.leq (fun h1 => ?_) (fun h1 => ?_) <;> cbv
  · refine Test.neq (fun h2 => ?_) (fun h2 => ?_) <;> cbv
    · exact Done.yes ⟨h1, h2⟩
    · exact Done.no fun e => e.2 h2
  · exact Done.no fun e => by omega

theorem again_none {t : Timers} {q due : Int} (h : timIdx t.list q < 0) : againT t q due = t := if_neg (by omega)
theorem again_some {t : Timers} {q due : Int} {x : Timer} (h : 0 ≤ timIdx t.list q) (hx : t.list[(timIdx t.list q).toNat]? = some x) : againT t q due = ⟨putL t.heap due q, t.list.set (timIdx t.list q).toNat { x with due := due, armed := true }, t.next⟩ := by
  unfold againT; rw [if_pos h, hx]

theorem reset_c (S : Se P A) (heap : List Twig) (list : List Timer) (next q due : Int) (hok : TimersOk ⟨heap, list, next⟩) : SoundM P 126 false [.ptr 1000 0 0, .int .i64 q, .int .i64 due] [.box (ownTimers A ⟨heap, list, next⟩)]
    (fun v os => v = rTB1 (resetT ⟨heap, list, next⟩ q due) ∧ os = oTB A (resetT ⟨heap, list, next⟩ q due)) := by
  have hsk := stopT_ok q hok
  refine S.cx.byN (S.prog ▸ Try.func126) rfl rfl rfl rfl (fun ln hln hv ho => ?_)
  cbv
  have hN := hln cTwig heap
  generalize ln (A.enc cTwig heap) = N at hN ⊢
  have hK := hln cTimer list
  generalize ln (A.enc cTimer list) = K at hK ⊢
  refine ACall.valN (r := rTB1) (os := oTB A) (dp := false) S.cx (stop_c S heap list next q hok) ⟨rfl, (by repeat' (first | exact trivial | exact rfl | exact Nat.le_refl _ | exact S.cx.giveEq | exact S.cx.lendLe (by assumption) | exact S.cx.lendEq (by assumption) | exact S.cx.lendLe0 | exact S.cx.lendEq0 | exact S.cx.partLe (by assumption) | exact S.cx.partEq (by assumption) | exact .inl rfl | refine ⟨?_, ?_⟩)), (by repeat' (first | exact trivial | exact rfl | exact Nat.le_refl _ | exact S.cx.giveEq | exact S.cx.lendLe (by assumption) | exact S.cx.lendEq (by assumption) | exact S.cx.lendLe0 | exact S.cx.lendEq0 | exact S.cx.partLe (by assumption) | exact S.cx.partEq (by assumption) | exact .inl rfl | refine ⟨?_, ?_⟩))⟩ rfl (fun ln hln x hx => ⟨rfl, ?_⟩)
  obtain ⟨⟨heap1, list1, next1⟩, b⟩ := x
  cbv
  have hN1 := hln cTwig heap1
  generalize ln (A.enc cTwig heap1) = N1 at hN1 ⊢
  have hK1 := hln cTimer list1
  generalize ln (A.enc cTimer list1) = K1 at hK1 ⊢
  have hres : resetT ⟨heap, list, next⟩ q due = (againT ⟨heap1, list1, next1⟩ q due, b) := by unfold resetT; rw [← hx]
  rw [← hx] at hsk
  rw [hres]
  have hb1 : heap1.length ≤ 64 := hsk.2.2.1.1
  have hb2 : list1.length ≤ 64 := hsk.2.1
  refine ACall.int (dp := false) (timAt_c S heap1 list1 next1 q) ⟨rfl, (by repeat' (first | exact trivial | exact rfl | exact Nat.le_refl _ | exact S.cx.giveEq | exact S.cx.lendLe (by assumption) | exact S.cx.lendEq (by assumption) | exact S.cx.lendLe0 | exact S.cx.lendEq0 | exact S.cx.partLe (by assumption) | exact S.cx.partEq (by assumption) | exact .inl rfl | refine ⟨?_, ?_⟩)), (by repeat' (first | exact trivial | exact rfl | exact Nat.le_refl _ | exact S.cx.giveEq | exact S.cx.lendLe (by assumption) | exact S.cx.lendEq (by assumption) | exact S.cx.lendLe0 | exact S.cx.lendEq0 | exact S.cx.partLe (by assumption) | exact S.cx.partEq (by assumption) | exact .inl rfl | refine ⟨?_, ?_⟩))⟩ rfl (fun r hr => ?_); cbv
  refine Test.geq (fun h1 => ?_) (fun h1 => ?_) <;> cbv
  rotate_left
  · rw [again_none (t := ⟨heap1, list1, next1⟩) (by rw [← hr]; omega)]
    exact Done.to (rTB1 (⟨heap1, list1, next1⟩, b)) (oTB A (⟨heap1, list1, next1⟩, b)) rfl (by repeat' (first | exact trivial | exact rfl | exact resOwn S.cx rfl (by assumption) | exact resOwn S.cx rfl (S.cx.lenE _ _) | exact resOwn1 S.cx rfl (by assumption) | exact resOwnT S.cx rfl (by assumption) | exact S.cx.enc _ [] | refine ⟨?_, ?_⟩)) (by repeat' (first | exact trivial | exact rfl | exact resOwn S.cx rfl (by assumption) | exact resOwn S.cx rfl (S.cx.lenE _ _) | exact resOwn1 S.cx rfl (by assumption) | exact resOwnT S.cx rfl (by assumption) | exact S.cx.enc _ [] | refine ⟨?_, ?_⟩)) ⟨rfl, rfl⟩
  have hs := fun x => again_some (t := ⟨heap1, list1, next1⟩) (q := q) (due := due) (x := x)
  dsimp only at hs
  have hso := @timIdx_some list1 q
  rw [← hr] at hs hso
  obtain ⟨⟨ys, yd, yw, yh, ya⟩, hy, he⟩ := hso (by omega)
  dsimp only at he
  have hs := hs _ (by omega) hy
  rw [hs]
  have hlt := (List.getElem?_eq_some_iff.1 hy).1
  have hhp := heapOf_is hsk.2.2.1.2.2
  try (refine Drawn.mk ⟨by kernel_rfl, fun _ => ?_⟩)
  refine ElemRef.go rfl (by lia) (by lia) (by rw [S.cx.lenE']; lia) (fun row2 hrow2 => ?_); cbv
  refine RowSet.enc S.cx (⟨ys, yd, yw, yh, ya⟩ : Timer) ⟨ys, due, yw, yh, ya⟩ (by rw [show row2 = r.toNat by omega]; exact hy) rfl (by show (2 : Nat) ≤ 5; decide) rfl (fun list2 hlist2 => ?_); cbv
  have hy2 : list2[r.toNat]? = some ⟨ys, due, yw, yh, ya⟩ := by rw [hlist2, show row2 = r.toNat by omega, List.getElem?_set_self hlt]
  have hl2 : list2.length = list1.length := by rw [hlist2, List.length_set]
  have hK2 : K1 = list2.length := by rw [hl2]; exact hK1
  refine ElemRef.go rfl (by lia) (by lia) (by rw [S.cx.lenE']; lia) (fun row3 hrow3 => ?_); cbv
  refine RowSet.enc S.cx (⟨ys, due, yw, yh, ya⟩ : Timer) ⟨ys, due, yw, yh, true⟩ (by rw [show row3 = r.toNat by omega]; exact hy2) rfl (Nat.le_refl _) rfl (fun list3 hlist3 => ?_); cbv
  have hl3 : list3.length = list1.length := by rw [hlist3, List.length_set, hl2]
  have hK3 : K1 = list3.length := by rw [hl3]; exact hK1
  have hlist : list3 = list1.set r.toNat ⟨ys, due, yw, yh, true⟩ := by rw [hlist3, hlist2, show row3 = r.toNat by omega, show row2 = r.toNat by omega, List.set_set]
  refine ACall.valN (r := rTwig A) (os := fun _ => []) (dp := false) S.cx (put_c S (heapOf heap1) heap1 hhp.2 (by omega) due q) ⟨rfl, (by repeat' (first | exact trivial | exact rfl | exact Nat.le_refl _ | exact S.cx.giveEq | exact S.cx.lendLe (by assumption) | exact S.cx.lendEq (by assumption) | exact S.cx.lendLe0 | exact S.cx.lendEq0 | exact S.cx.partLe (by assumption) | exact S.cx.partEq (by assumption) | exact .inl rfl | refine ⟨?_, ?_⟩)), (by repeat' (first | exact trivial | exact rfl | exact Nat.le_refl _ | exact S.cx.giveEq | exact S.cx.lendLe (by assumption) | exact S.cx.lendEq (by assumption) | exact S.cx.lendLe0 | exact S.cx.lendEq0 | exact S.cx.partLe (by assumption) | exact S.cx.partEq (by assumption) | exact .inl rfl | refine ⟨?_, ?_⟩))⟩ rfl (fun ln hln l2 hx => ⟨rfl, ?_⟩)
  cbv
  have hN2 := hln cTwig l2
  generalize ln (A.enc cTwig l2) = N2 at hN2 ⊢
  have e1 : putL heap1 due q = l2 := hx.symm
  dsimp only
  rw [e1, ← hlist]
  exact Done.to (rTB1 (⟨l2, list3, next1⟩, b)) (oTB A (⟨l2, list3, next1⟩, b)) rfl (by repeat' (first | exact trivial | exact rfl | exact resOwn S.cx rfl (by assumption) | exact resOwn S.cx rfl (S.cx.lenE _ _) | exact resOwn1 S.cx rfl (by assumption) | exact resOwnT S.cx rfl (by assumption) | exact S.cx.enc _ [] | refine ⟨?_, ?_⟩)) (by repeat' (first | exact trivial | exact rfl | exact resOwn S.cx rfl (by assumption) | exact resOwn S.cx rfl (S.cx.lenE _ _) | exact resOwn1 S.cx rfl (by assumption) | exact resOwnT S.cx rfl (by assumption) | exact S.cx.enc _ [] | refine ⟨?_, ?_⟩)) ⟨rfl, rfl⟩

def rTimB (x : Timers × Timer × Bool) : AV := .tup [.agg (cTimer x.2.1), .bool x.2.2]
def oTimB (A : Sy) (x : Timers × Timer × Bool) : List (Option Obj) := [some (.box (ownTimers A x.1))]
def rTTimB (A : Sy) (x : Timers × Timer × Bool) : AV := .tup [.agg (ownTimers A x.1), .agg (cTimer x.2.1), .bool x.2.2]

theorem fire_some {t : Timers} {now : Int} {w : Twig} {r : List Twig} {x : Timer} (hw : t.heap = w :: r) (hd : w.due ≤ now ∧ w.due ≠ 9223372036854775807) (hx : t.list[(timIdx t.list w.seq).toNat]? = some x) : fireT t now = ((stopT t w.seq).1, x, true) := by
  unfold fireT; rw [hw]; dsimp only; rw [if_pos hd, hx]
theorem fire_late {t : Timers} {now : Int} {w : Twig} {r : List Twig} (hw : t.heap = w :: r) (hd : ¬ (w.due ≤ now ∧ w.due ≠ 9223372036854775807)) : fireT t now = (t, timer0, false) := by
  unfold fireT; rw [hw]; dsimp only; rw [if_neg hd]
theorem fire_nil {t : Timers} {now : Int} (hw : t.heap = []) : fireT t now = (t, timer0, false) := by
  unfold fireT; rw [hw]

theorem fire_c (S : Se P A) (heap : List Twig) (list : List Timer) (next now : Int) (hok : TimersOk ⟨heap, list, next⟩) : SoundM P 101 false [.ptr 1000 0 0, .int .i64 now] [.box (ownTimers A ⟨heap, list, next⟩)]
    (fun v os => v = rTimB (fireT ⟨heap, list, next⟩ now) ∧ os = oTimB A (fireT ⟨heap, list, next⟩ now)) := by
  have hb1 : heap.length ≤ 64 := hok.2.2.1.1
  have hb2 : list.length ≤ 64 := hok.2.1
  refine S.cx.byN (S.prog ▸ Try.func101) rfl rfl rfl rfl (fun ln hln hv ho => ?_)
  cbv
  have hN := hln cTwig heap
  generalize ln (A.enc cTwig heap) = N at hN ⊢
  have hK := hln cTimer list
  generalize ln (A.enc cTimer list) = K at hK ⊢
  refine Len.nat (fun M hM hm => ?_); cbv
  refine Test.eql (fun h1 => ?_) (fun h1 => ?_) <;> cbv
  · have e : heap = [] := List.length_eq_zero_iff.1 (by lia)
    rw [fire_nil (t := ⟨heap, list, next⟩) e]
    exact Done.to (rTimB (⟨heap, list, next⟩, timer0, false)) (oTimB A (⟨heap, list, next⟩, timer0, false)) rfl (by repeat' (first | exact trivial | exact rfl | exact resOwn S.cx rfl (by assumption) | exact resOwn S.cx rfl (S.cx.lenE _ _) | exact resOwn1 S.cx rfl (by assumption) | exact resOwnT S.cx rfl (by assumption) | exact S.cx.enc _ [] | refine ⟨?_, ?_⟩)) (by repeat' (first | exact trivial | exact rfl | exact resOwn S.cx rfl (by assumption) | exact resOwn S.cx rfl (S.cx.lenE _ _) | exact resOwn1 S.cx rfl (by assumption) | exact resOwnT S.cx rfl (by assumption) | exact S.cx.enc _ [] | refine ⟨?_, ?_⟩)) ⟨rfl, rfl⟩
  obtain ⟨w, r, hwr⟩ : ∃ w r, heap = w :: r := by
    cases heap with
    | nil => simp at hN; omega
    | cons w r => exact ⟨w, r, rfl⟩
  have hw0 : heap[(0 : Nat)]? = some w := by rw [hwr]; rfl
  have hfs := fun x => fire_some (t := ⟨heap, list, next⟩) (now := now) (x := x) hwr
  have hfl := fire_late (t := ⟨heap, list, next⟩) (now := now) hwr
  obtain ⟨h0, ⟨ys, yd, yw, yh, ya⟩, hy, hq, ha, hdu⟩ := first_in hok hwr
  obtain ⟨wd, ws, wk⟩ := w
  dsimp only at hfs hfl h0 hy hq ha hdu
  refine ElemRef.go rfl (by lia) (by lia) (by rw [S.cx.lenE']; lia) (fun row hrow => ?_); cbv
  have hrow0 : row = 0 := by omega
  refine Row.enc S.cx (by lia) (fun w' hw' => ?_)
  obtain rfl : w' = ⟨wd, ws, wk⟩ := by rw [hrow0, hw0] at hw'; exact (Option.some.inj hw').symm
  cbv
  refine ACall.testD (dp := false) (implIsDue_c S now wd) ⟨rfl, (by repeat' (first | exact trivial | exact rfl | exact Nat.le_refl _ | exact S.cx.giveEq | exact S.cx.lendLe (by assumption) | exact S.cx.lendEq (by assumption) | exact S.cx.lendLe0 | exact S.cx.lendEq0 | exact S.cx.partLe (by assumption) | exact S.cx.partEq (by assumption) | exact .inl rfl | refine ⟨?_, ?_⟩)), (by repeat' (first | exact trivial | exact rfl | exact Nat.le_refl _ | exact S.cx.giveEq | exact S.cx.lendLe (by assumption) | exact S.cx.lendEq (by assumption) | exact S.cx.lendLe0 | exact S.cx.lendEq0 | exact S.cx.partLe (by assumption) | exact S.cx.partEq (by assumption) | exact .inl rfl | refine ⟨?_, ?_⟩))⟩ rfl (fun h2 => ?_) (fun h2 => ?_) <;> cbv
  rotate_left
  · rw [hfl h2]
    exact Done.to (rTimB (⟨heap, list, next⟩, timer0, false)) (oTimB A (⟨heap, list, next⟩, timer0, false)) rfl (by repeat' (first | exact trivial | exact rfl | exact resOwn S.cx rfl (by assumption) | exact resOwn S.cx rfl (S.cx.lenE _ _) | exact resOwn1 S.cx rfl (by assumption) | exact resOwnT S.cx rfl (by assumption) | exact S.cx.enc _ [] | refine ⟨?_, ?_⟩)) (by repeat' (first | exact trivial | exact rfl | exact resOwn S.cx rfl (by assumption) | exact resOwn S.cx rfl (S.cx.lenE _ _) | exact resOwn1 S.cx rfl (by assumption) | exact resOwnT S.cx rfl (by assumption) | exact S.cx.enc _ [] | refine ⟨?_, ?_⟩)) ⟨rfl, rfl⟩
  rw [hfs _ h2 hy]
  try (refine Drawn.mk ⟨by kernel_rfl, fun _ => ?_⟩)
  refine ElemRef.go rfl (by lia) (by lia) (by rw [S.cx.lenE']; lia) (fun row2 hrow2 => ?_); cbv
  have hrow20 : row2 = 0 := by omega
  refine Row.enc S.cx (by lia) (fun w' hw' => ?_)
  obtain rfl : w' = ⟨wd, ws, wk⟩ := by rw [hrow20, hw0] at hw'; exact (Option.some.inj hw').symm
  cbv
  refine ACall.int (dp := false) (timAt_c S heap list next ws) ⟨rfl, (by repeat' (first | exact trivial | exact rfl | exact Nat.le_refl _ | exact S.cx.giveEq | exact S.cx.lendLe (by assumption) | exact S.cx.lendEq (by assumption) | exact S.cx.lendLe0 | exact S.cx.lendEq0 | exact S.cx.partLe (by assumption) | exact S.cx.partEq (by assumption) | exact .inl rfl | refine ⟨?_, ?_⟩)), (by repeat' (first | exact trivial | exact rfl | exact Nat.le_refl _ | exact S.cx.giveEq | exact S.cx.lendLe (by assumption) | exact S.cx.lendEq (by assumption) | exact S.cx.lendLe0 | exact S.cx.lendEq0 | exact S.cx.partLe (by assumption) | exact S.cx.partEq (by assumption) | exact .inl rfl | refine ⟨?_, ?_⟩))⟩ rfl (fun i hi => ?_); cbv
  rw [← hi] at h0 hy
  have hlt := (List.getElem?_eq_some_iff.1 hy).1
  refine ElemRef.go rfl (by lia) (by lia) (by rw [S.cx.lenE']; lia) (fun row3 hrow3 => ?_); cbv
  refine Row.enc S.cx (by lia) (fun y' hy' => ?_)
  obtain rfl : y' = ⟨ys, yd, yw, yh, ya⟩ := by rw [show row3 = i.toNat by omega, hy] at hy'; exact (Option.some.inj hy').symm
  cbv
  rw [← hq]
  refine ACall.valN (r := rTB1) (os := oTB A) (dp := false) S.cx (stop_c S heap list next ys hok) ⟨rfl, (by repeat' (first | exact trivial | exact rfl | exact Nat.le_refl _ | exact S.cx.giveEq | exact S.cx.lendLe (by assumption) | exact S.cx.lendEq (by assumption) | exact S.cx.lendLe0 | exact S.cx.lendEq0 | exact S.cx.partLe (by assumption) | exact S.cx.partEq (by assumption) | exact .inl rfl | refine ⟨?_, ?_⟩)), (by repeat' (first | exact trivial | exact rfl | exact Nat.le_refl _ | exact S.cx.giveEq | exact S.cx.lendLe (by assumption) | exact S.cx.lendEq (by assumption) | exact S.cx.lendLe0 | exact S.cx.lendEq0 | exact S.cx.partLe (by assumption) | exact S.cx.partEq (by assumption) | exact .inl rfl | refine ⟨?_, ?_⟩))⟩ rfl (fun ln hln x hx => ⟨rfl, ?_⟩)
  obtain ⟨⟨heap1, list1, next1⟩, b⟩ := x
  cbv
  have hN1 := hln cTwig heap1
  generalize ln (A.enc cTwig heap1) = N1 at hN1 ⊢
  have hK1 := hln cTimer list1
  generalize ln (A.enc cTimer list1) = K1 at hK1 ⊢
  rw [← hx]
  exact Done.to (rTimB (⟨heap1, list1, next1⟩, ⟨ys, yd, yw, yh, ya⟩, true)) (oTimB A (⟨heap1, list1, next1⟩, ⟨ys, yd, yw, yh, ya⟩, true)) rfl (by repeat' (first | exact trivial | exact rfl | exact resOwn S.cx rfl (by assumption) | exact resOwn S.cx rfl (S.cx.lenE _ _) | exact resOwn1 S.cx rfl (by assumption) | exact resOwnT S.cx rfl (by assumption) | exact S.cx.enc _ [] | refine ⟨?_, ?_⟩)) (by repeat' (first | exact trivial | exact rfl | exact resOwn S.cx rfl (by assumption) | exact resOwn S.cx rfl (S.cx.lenE _ _) | exact resOwn1 S.cx rfl (by assumption) | exact resOwnT S.cx rfl (by assumption) | exact S.cx.enc _ [] | refine ⟨?_, ?_⟩)) ⟨rfl, rfl⟩

theorem forget_some {t : Timers} {q : Int} (h : 0 ≤ timIdx t.list q) : forgetT t q = (⟨(stopT t q).1.heap, (stopT t q).1.list.eraseIdx (timIdx t.list q).toNat, t.next⟩, true) := if_pos h
theorem forget_none {t : Timers} {q : Int} (h : timIdx t.list q < 0) : forgetT t q = (t, false) := if_neg (by omega)

theorem forget_c (S : Se P A) (heap : List Twig) (list : List Timer) (next q : Int) (hok : TimersOk ⟨heap, list, next⟩) : SoundM P 127 false [.ptr 1000 0 0, .int .i64 q] [.box (ownTimers A ⟨heap, list, next⟩)]
    (fun v os => v = rTB1 (forgetT ⟨heap, list, next⟩ q) ∧ os = oTB A (forgetT ⟨heap, list, next⟩ q)) := by
  have hsk := stopT_ok q hok
  have hsi := stopT_idx ⟨heap, list, next⟩ q q
  have hsn := stopT_next ⟨heap, list, next⟩ q
  have hfs := forget_some (t := ⟨heap, list, next⟩) (q := q)
  refine S.cx.byN (S.prog ▸ Try.func127) rfl rfl rfl rfl (fun ln hln hv ho => ?_)
  cbv
  have hN := hln cTwig heap
  generalize ln (A.enc cTwig heap) = N at hN ⊢
  have hK := hln cTimer list
  generalize ln (A.enc cTimer list) = K at hK ⊢
  refine ACall.valN (r := rTB1) (os := oTB A) (dp := false) S.cx (stop_c S heap list next q hok) ⟨rfl, (by repeat' (first | exact trivial | exact rfl | exact Nat.le_refl _ | exact S.cx.giveEq | exact S.cx.lendLe (by assumption) | exact S.cx.lendEq (by assumption) | exact S.cx.lendLe0 | exact S.cx.lendEq0 | exact S.cx.partLe (by assumption) | exact S.cx.partEq (by assumption) | exact .inl rfl | refine ⟨?_, ?_⟩)), (by repeat' (first | exact trivial | exact rfl | exact Nat.le_refl _ | exact S.cx.giveEq | exact S.cx.lendLe (by assumption) | exact S.cx.lendEq (by assumption) | exact S.cx.lendLe0 | exact S.cx.lendEq0 | exact S.cx.partLe (by assumption) | exact S.cx.partEq (by assumption) | exact .inl rfl | refine ⟨?_, ?_⟩))⟩ rfl (fun ln hln x hx => ⟨rfl, ?_⟩)
  obtain ⟨⟨heap1, list1, next1⟩, b⟩ := x
  cbv
  have hN1 := hln cTwig heap1
  generalize ln (A.enc cTwig heap1) = N1 at hN1 ⊢
  have hK1 := hln cTimer list1
  generalize ln (A.enc cTimer list1) = K1 at hK1 ⊢
  rw [← hx] at hsk hsi hsn hfs
  dsimp only at hsi hsn hfs
  have hb1 : heap1.length ≤ 64 := hsk.2.2.1.1
  have hb2 : list1.length ≤ 64 := hsk.2.1
  refine ACall.int (dp := false) (timAt_c S heap1 list1 next1 q) ⟨rfl, (by repeat' (first | exact trivial | exact rfl | exact Nat.le_refl _ | exact S.cx.giveEq | exact S.cx.lendLe (by assumption) | exact S.cx.lendEq (by assumption) | exact S.cx.lendLe0 | exact S.cx.lendEq0 | exact S.cx.partLe (by assumption) | exact S.cx.partEq (by assumption) | exact .inl rfl | refine ⟨?_, ?_⟩)), (by repeat' (first | exact trivial | exact rfl | exact Nat.le_refl _ | exact S.cx.giveEq | exact S.cx.lendLe (by assumption) | exact S.cx.lendEq (by assumption) | exact S.cx.lendLe0 | exact S.cx.lendEq0 | exact S.cx.partLe (by assumption) | exact S.cx.partEq (by assumption) | exact .inl rfl | refine ⟨?_, ?_⟩))⟩ rfl (fun r hr => ?_); cbv
  rw [← hr] at hsi
  refine Test.lss (fun h1 => ?_) (fun h1 => ?_) <;> cbv
  · have e := stop_none (t := ⟨heap, list, next⟩) (q := q) (by dsimp only; omega)
    rw [e] at hx
    have hx1 : (⟨heap1, list1, next1⟩ : Timers) = ⟨heap, list, next⟩ := congrArg Prod.fst hx
    rw [forget_none (t := ⟨heap, list, next⟩) (q := q) (by dsimp only; omega), ← hx1]
    exact Done.to (rTB1 (⟨heap1, list1, next1⟩, false)) (oTB A (⟨heap1, list1, next1⟩, false)) rfl (by repeat' (first | exact trivial | exact rfl | exact resOwn S.cx rfl (by assumption) | exact resOwn S.cx rfl (S.cx.lenE _ _) | exact resOwn1 S.cx rfl (by assumption) | exact resOwnT S.cx rfl (by assumption) | exact S.cx.enc _ [] | refine ⟨?_, ?_⟩)) (by repeat' (first | exact trivial | exact rfl | exact resOwn S.cx rfl (by assumption) | exact resOwn S.cx rfl (S.cx.lenE _ _) | exact resOwn1 S.cx rfl (by assumption) | exact resOwnT S.cx rfl (by assumption) | exact S.cx.enc _ [] | refine ⟨?_, ?_⟩)) ⟨rfl, rfl⟩
  rw [hfs (by omega), ← hsi, ← hsn]
  have hso := @timIdx_some list1 q
  rw [← hr] at hso
  obtain ⟨y, hy, he⟩ := hso (by omega)
  have hlt := (List.getElem?_eq_some_iff.1 hy).1
  refine Arith.go (by lia) (fun j hj => ?_); replace hj : j = r + 1 := hj; cbv
  refine ACall.valN (r := rTimer A) (os := fun _ => [none]) (dp := false) S.cx (deleteAtTimer_c S list1 r j (by omega) hlt hj K1 hK1 (by omega)) ⟨rfl, (by repeat' (first | exact trivial | exact rfl | exact Nat.le_refl _ | exact S.cx.giveEq | exact S.cx.lendLe (by assumption) | exact S.cx.lendEq (by assumption) | exact S.cx.lendLe0 | exact S.cx.lendEq0 | exact S.cx.partLe (by assumption) | exact S.cx.partEq (by assumption) | exact .inl rfl | refine ⟨?_, ?_⟩)), (by repeat' (first | exact trivial | exact rfl | exact Nat.le_refl _ | exact S.cx.giveEq | exact S.cx.lendLe (by assumption) | exact S.cx.lendEq (by assumption) | exact S.cx.lendLe0 | exact S.cx.lendEq0 | exact S.cx.partLe (by assumption) | exact S.cx.partEq (by assumption) | exact .inl rfl | refine ⟨?_, ?_⟩))⟩ rfl (fun ln hln w hx => ⟨rfl, ?_⟩)
  cbv
  have hW := hln cTimer w
  generalize ln (A.enc cTimer w) = W at hW ⊢
  rw [← hx]
  exact Done.to (rTB1 (⟨heap1, w, next1⟩, true)) (oTB A (⟨heap1, w, next1⟩, true)) rfl (by repeat' (first | exact trivial | exact rfl | exact resOwn S.cx rfl (by assumption) | exact resOwn S.cx rfl (S.cx.lenE _ _) | exact resOwn1 S.cx rfl (by assumption) | exact resOwnT S.cx rfl (by assumption) | exact S.cx.enc _ [] | refine ⟨?_, ?_⟩)) (by repeat' (first | exact trivial | exact rfl | exact resOwn S.cx rfl (by assumption) | exact resOwn S.cx rfl (S.cx.lenE _ _) | exact resOwn1 S.cx rfl (by assumption) | exact resOwnT S.cx rfl (by assumption) | exact S.cx.enc _ [] | refine ⟨?_, ?_⟩)) ⟨rfl, rfl⟩

theorem implReset_c (S : Se P A) (heap : List Twig) (list : List Timer) (next q due : Int) (h1 : heap.length ≤ 4294967296) (h2 : list.length ≤ 4294967296) : Is1 P 56 [.agg (roTimers A ⟨heap, list, next⟩), .int .i64 q, .int .i64 due] (rTB A (Reset ⟨heap, list, next⟩ q due)) := by
  refine S.cx.by (S.prog ▸ Try.func56) rfl rfl rfl rfl (fun hv ho => ?_)
  cbv
  refine ACall.testD (dp := false) (implTimersOk_c S heap list next) ⟨rfl, (by repeat' (first | exact trivial | exact rfl | exact Nat.le_refl _ | exact S.cx.giveEq | exact S.cx.lendLe (by assumption) | exact S.cx.lendEq (by assumption) | exact S.cx.lendLe0 | exact S.cx.lendEq0 | exact S.cx.partLe (by assumption) | exact S.cx.partEq (by assumption) | exact .inl rfl | refine ⟨?_, ?_⟩)), (by repeat' (first | exact trivial | exact rfl | exact Nat.le_refl _ | exact S.cx.giveEq | exact S.cx.lendLe (by assumption) | exact S.cx.lendEq (by assumption) | exact S.cx.lendLe0 | exact S.cx.lendEq0 | exact S.cx.partLe (by assumption) | exact S.cx.partEq (by assumption) | exact .inl rfl | refine ⟨?_, ?_⟩))⟩ rfl (fun hok => ?_) (fun hok => ?_) <;> cbv
  rotate_left
  · exact Done.is (r := rTB A) (x := (timers0, false)) (by repeat' (first | exact trivial | exact rfl | exact resOwn S.cx rfl (by assumption) | exact resOwn S.cx rfl (S.cx.lenE _ _) | exact resOwn1 S.cx rfl (by assumption) | exact resOwnT S.cx rfl (by assumption) | exact S.cx.enc _ [] | refine ⟨?_, ?_⟩)) rfl (if_neg hok)
  refine ACall.valN (r := rT A) (os := fun _ => []) (dp := false) S.cx (timCloned_c S heap list next h1 h2) ⟨rfl, (by repeat' (first | exact trivial | exact rfl | exact Nat.le_refl _ | exact S.cx.giveEq | exact S.cx.lendLe (by assumption) | exact S.cx.lendEq (by assumption) | exact S.cx.lendLe0 | exact S.cx.lendEq0 | exact S.cx.partLe (by assumption) | exact S.cx.partEq (by assumption) | exact .inl rfl | refine ⟨?_, ?_⟩)), (by repeat' (first | exact trivial | exact rfl | exact Nat.le_refl _ | exact S.cx.giveEq | exact S.cx.lendLe (by assumption) | exact S.cx.lendEq (by assumption) | exact S.cx.lendLe0 | exact S.cx.lendEq0 | exact S.cx.partLe (by assumption) | exact S.cx.partEq (by assumption) | exact .inl rfl | refine ⟨?_, ?_⟩))⟩ rfl (fun ln hln x hx => ⟨rfl, ?_⟩)
  obtain ⟨heap', list', next'⟩ := x
  cases hx
  cbv
  have hN := hln cTwig heap
  generalize ln (A.enc cTwig heap) = N at hN ⊢
  have hK := hln cTimer list
  generalize ln (A.enc cTimer list) = K at hK ⊢
  refine ACall.valN (r := rTB1) (os := oTB A) (dp := false) S.cx (reset_c S heap list next q due hok) ⟨rfl, (by repeat' (first | exact trivial | exact rfl | exact Nat.le_refl _ | exact S.cx.giveEq | exact S.cx.lendLe (by assumption) | exact S.cx.lendEq (by assumption) | exact S.cx.lendLe0 | exact S.cx.lendEq0 | exact S.cx.partLe (by assumption) | exact S.cx.partEq (by assumption) | exact .inl rfl | refine ⟨?_, ?_⟩)), (by repeat' (first | exact trivial | exact rfl | exact Nat.le_refl _ | exact S.cx.giveEq | exact S.cx.lendLe (by assumption) | exact S.cx.lendEq (by assumption) | exact S.cx.lendLe0 | exact S.cx.lendEq0 | exact S.cx.partLe (by assumption) | exact S.cx.partEq (by assumption) | exact .inl rfl | refine ⟨?_, ?_⟩))⟩ rfl (fun ln hln x hx => ⟨rfl, ?_⟩)
  obtain ⟨⟨heap1, list1, next1⟩, b⟩ := x
  cbv
  have hN1 := hln cTwig heap1
  generalize ln (A.enc cTwig heap1) = N1 at hN1 ⊢
  have hK1 := hln cTimer list1
  generalize ln (A.enc cTimer list1) = K1 at hK1 ⊢
  exact Done.is (r := rTB A) (x := (⟨heap1, list1, next1⟩, b)) (by repeat' (first | exact trivial | exact rfl | exact resOwn S.cx rfl (by assumption) | exact resOwn S.cx rfl (S.cx.lenE _ _) | exact resOwn1 S.cx rfl (by assumption) | exact resOwnT S.cx rfl (by assumption) | exact S.cx.enc _ [] | refine ⟨?_, ?_⟩)) rfl ((if_pos hok).trans hx.symm)

theorem implFired_c (S : Se P A) (heap : List Twig) (list : List Timer) (next now : Int) (h1 : heap.length ≤ 4294967296) (h2 : list.length ≤ 4294967296) : Is1 P 43 [.agg (roTimers A ⟨heap, list, next⟩), .int .i64 now] (rTTimB A (Fired ⟨heap, list, next⟩ now)) := by
  refine S.cx.by (S.prog ▸ Try.func43) rfl rfl rfl rfl (fun hv ho => ?_)
  cbv
  refine ACall.testD (dp := false) (implTimersOk_c S heap list next) ⟨rfl, (by repeat' (first | exact trivial | exact rfl | exact Nat.le_refl _ | exact S.cx.giveEq | exact S.cx.lendLe (by assumption) | exact S.cx.lendEq (by assumption) | exact S.cx.lendLe0 | exact S.cx.lendEq0 | exact S.cx.partLe (by assumption) | exact S.cx.partEq (by assumption) | exact .inl rfl | refine ⟨?_, ?_⟩)), (by repeat' (first | exact trivial | exact rfl | exact Nat.le_refl _ | exact S.cx.giveEq | exact S.cx.lendLe (by assumption) | exact S.cx.lendEq (by assumption) | exact S.cx.lendLe0 | exact S.cx.lendEq0 | exact S.cx.partLe (by assumption) | exact S.cx.partEq (by assumption) | exact .inl rfl | refine ⟨?_, ?_⟩))⟩ rfl (fun hok => ?_) (fun hok => ?_) <;> cbv
  rotate_left
  · exact Done.is (r := rTTimB A) (x := (timers0, timer0, false)) (by repeat' (first | exact trivial | exact rfl | exact resOwn S.cx rfl (by assumption) | exact resOwn S.cx rfl (S.cx.lenE _ _) | exact resOwn1 S.cx rfl (by assumption) | exact resOwnT S.cx rfl (by assumption) | exact S.cx.enc _ [] | refine ⟨?_, ?_⟩)) rfl (if_neg hok)
  refine ACall.valN (r := rT A) (os := fun _ => []) (dp := false) S.cx (timCloned_c S heap list next h1 h2) ⟨rfl, (by repeat' (first | exact trivial | exact rfl | exact Nat.le_refl _ | exact S.cx.giveEq | exact S.cx.lendLe (by assumption) | exact S.cx.lendEq (by assumption) | exact S.cx.lendLe0 | exact S.cx.lendEq0 | exact S.cx.partLe (by assumption) | exact S.cx.partEq (by assumption) | exact .inl rfl | refine ⟨?_, ?_⟩)), (by repeat' (first | exact trivial | exact rfl | exact Nat.le_refl _ | exact S.cx.giveEq | exact S.cx.lendLe (by assumption) | exact S.cx.lendEq (by assumption) | exact S.cx.lendLe0 | exact S.cx.lendEq0 | exact S.cx.partLe (by assumption) | exact S.cx.partEq (by assumption) | exact .inl rfl | refine ⟨?_, ?_⟩))⟩ rfl (fun ln hln x hx => ⟨rfl, ?_⟩)
  obtain ⟨heap', list', next'⟩ := x
  cases hx
  cbv
  have hN := hln cTwig heap
  generalize ln (A.enc cTwig heap) = N at hN ⊢
  have hK := hln cTimer list
  generalize ln (A.enc cTimer list) = K at hK ⊢
  refine ACall.valN (r := rTimB) (os := oTimB A) (dp := false) S.cx (fire_c S heap list next now hok) ⟨rfl, (by repeat' (first | exact trivial | exact rfl | exact Nat.le_refl _ | exact S.cx.giveEq | exact S.cx.lendLe (by assumption) | exact S.cx.lendEq (by assumption) | exact S.cx.lendLe0 | exact S.cx.lendEq0 | exact S.cx.partLe (by assumption) | exact S.cx.partEq (by assumption) | exact .inl rfl | refine ⟨?_, ?_⟩)), (by repeat' (first | exact trivial | exact rfl | exact Nat.le_refl _ | exact S.cx.giveEq | exact S.cx.lendLe (by assumption) | exact S.cx.lendEq (by assumption) | exact S.cx.lendLe0 | exact S.cx.lendEq0 | exact S.cx.partLe (by assumption) | exact S.cx.partEq (by assumption) | exact .inl rfl | refine ⟨?_, ?_⟩))⟩ rfl (fun ln hln x hx => ⟨rfl, ?_⟩)
  obtain ⟨⟨heap1, list1, next1⟩, ⟨ys, yd, yw, yh, ya⟩, b⟩ := x
  cbv
  have hN1 := hln cTwig heap1
  generalize ln (A.enc cTwig heap1) = N1 at hN1 ⊢
  have hK1 := hln cTimer list1
  generalize ln (A.enc cTimer list1) = K1 at hK1 ⊢
  try (refine Drawn.mk ⟨by kernel_rfl, fun _ => ?_⟩)
  exact Done.is (r := rTTimB A) (x := (⟨heap1, list1, next1⟩, ⟨ys, yd, yw, yh, ya⟩, b)) (by repeat' (first | exact trivial | exact rfl | exact resOwn S.cx rfl (by assumption) | exact resOwn S.cx rfl (S.cx.lenE _ _) | exact resOwn1 S.cx rfl (by assumption) | exact resOwnT S.cx rfl (by assumption) | exact S.cx.enc _ [] | refine ⟨?_, ?_⟩)) rfl ((if_pos hok).trans hx.symm)

theorem implForgotten_c (S : Se P A) (heap : List Twig) (list : List Timer) (next q : Int) (h1 : heap.length ≤ 4294967296) (h2 : list.length ≤ 4294967296) : Is1 P 58 [.agg (roTimers A ⟨heap, list, next⟩), .int .i64 q] (rTB A (Forgotten ⟨heap, list, next⟩ q)) := by
  refine S.cx.by (S.prog ▸ Try.func58) rfl rfl rfl rfl (fun hv ho => ?_)
  cbv
  refine ACall.testD (dp := false) (implTimersOk_c S heap list next) ⟨rfl, (by repeat' (first | exact trivial | exact rfl | exact Nat.le_refl _ | exact S.cx.giveEq | exact S.cx.lendLe (by assumption) | exact S.cx.lendEq (by assumption) | exact S.cx.lendLe0 | exact S.cx.lendEq0 | exact S.cx.partLe (by assumption) | exact S.cx.partEq (by assumption) | exact .inl rfl | refine ⟨?_, ?_⟩)), (by repeat' (first | exact trivial | exact rfl | exact Nat.le_refl _ | exact S.cx.giveEq | exact S.cx.lendLe (by assumption) | exact S.cx.lendEq (by assumption) | exact S.cx.lendLe0 | exact S.cx.lendEq0 | exact S.cx.partLe (by assumption) | exact S.cx.partEq (by assumption) | exact .inl rfl | refine ⟨?_, ?_⟩))⟩ rfl (fun hok => ?_) (fun hok => ?_) <;> cbv
  rotate_left
  · exact Done.is (r := rTB A) (x := (timers0, false)) (by repeat' (first | exact trivial | exact rfl | exact resOwn S.cx rfl (by assumption) | exact resOwn S.cx rfl (S.cx.lenE _ _) | exact resOwn1 S.cx rfl (by assumption) | exact resOwnT S.cx rfl (by assumption) | exact S.cx.enc _ [] | refine ⟨?_, ?_⟩)) rfl (if_neg hok)
  refine ACall.valN (r := rT A) (os := fun _ => []) (dp := false) S.cx (timCloned_c S heap list next h1 h2) ⟨rfl, (by repeat' (first | exact trivial | exact rfl | exact Nat.le_refl _ | exact S.cx.giveEq | exact S.cx.lendLe (by assumption) | exact S.cx.lendEq (by assumption) | exact S.cx.lendLe0 | exact S.cx.lendEq0 | exact S.cx.partLe (by assumption) | exact S.cx.partEq (by assumption) | exact .inl rfl | refine ⟨?_, ?_⟩)), (by repeat' (first | exact trivial | exact rfl | exact Nat.le_refl _ | exact S.cx.giveEq | exact S.cx.lendLe (by assumption) | exact S.cx.lendEq (by assumption) | exact S.cx.lendLe0 | exact S.cx.lendEq0 | exact S.cx.partLe (by assumption) | exact S.cx.partEq (by assumption) | exact .inl rfl | refine ⟨?_, ?_⟩))⟩ rfl (fun ln hln x hx => ⟨rfl, ?_⟩)
  obtain ⟨heap', list', next'⟩ := x
  cases hx
  cbv
  have hN := hln cTwig heap
  generalize ln (A.enc cTwig heap) = N at hN ⊢
  have hK := hln cTimer list
  generalize ln (A.enc cTimer list) = K at hK ⊢
  refine ACall.valN (r := rTB1) (os := oTB A) (dp := false) S.cx (forget_c S heap list next q hok) ⟨rfl, (by repeat' (first | exact trivial | exact rfl | exact Nat.le_refl _ | exact S.cx.giveEq | exact S.cx.lendLe (by assumption) | exact S.cx.lendEq (by assumption) | exact S.cx.lendLe0 | exact S.cx.lendEq0 | exact S.cx.partLe (by assumption) | exact S.cx.partEq (by assumption) | exact .inl rfl | refine ⟨?_, ?_⟩)), (by repeat' (first | exact trivial | exact rfl | exact Nat.le_refl _ | exact S.cx.giveEq | exact S.cx.lendLe (by assumption) | exact S.cx.lendEq (by assumption) | exact S.cx.lendLe0 | exact S.cx.lendEq0 | exact S.cx.partLe (by assumption) | exact S.cx.partEq (by assumption) | exact .inl rfl | refine ⟨?_, ?_⟩))⟩ rfl (fun ln hln x hx => ⟨rfl, ?_⟩)
  obtain ⟨⟨heap1, list1, next1⟩, b⟩ := x
  cbv
  have hN1 := hln cTwig heap1
  generalize ln (A.enc cTwig heap1) = N1 at hN1 ⊢
  have hK1 := hln cTimer list1
  generalize ln (A.enc cTimer list1) = K1 at hK1 ⊢
  exact Done.is (r := rTB A) (x := (⟨heap1, list1, next1⟩, b)) (by repeat' (first | exact trivial | exact rfl | exact resOwn S.cx rfl (by assumption) | exact resOwn S.cx rfl (S.cx.lenE _ _) | exact resOwn1 S.cx rfl (by assumption) | exact resOwnT S.cx rfl (by assumption) | exact S.cx.enc _ [] | refine ⟨?_, ?_⟩)) rfl ((if_pos hok).trans hx.symm)

end Go.Proofs.Ytmbckmfihcojoaa.AM
