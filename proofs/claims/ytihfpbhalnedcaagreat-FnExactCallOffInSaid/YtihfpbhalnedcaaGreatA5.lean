/- Contracts: deferred functions called off. (printed by ga5.py) -/
import Derived.Test.YtihfpbhalnedcaaGreatA4
import Derived.Test.YtihfpbhalnedcaaGreatBC
set_option linter.unusedVariables false
set_option linter.unusedSimpArgs false
namespace Go.Proofs.YtihfpbhalnedcaaGreat.AM
open Go Go.Proofs

set_option maxRecDepth 100000
set_option maxHeartbeats 4000000

variable {P : Program} {A : Sy}

theorem resPart1A {T : Nat -> Option TI} (C : Cx P T A) {al : Bool} {st : St} {p : Bool} {id off n s : Nat} {α : Type} {f : α -> List AV} {l m : List α} (hq : lk st.sto id = some (.arr s true (A.enc f l))) (hn : off + n <= l.length) (hm : m = (l.drop off).take n) : resOk al st (.ref p id off n) (.own s true (A.enc f m)) := by
  show resCell al st (.ref p id off n) (.own s true (A.enc f m))
  exact resPart C hq hn hm

theorem deleteAtAfter_c (S : Se P A) (l : List After) (i j : Int) (h0 : 0 <= i) (hi : i.toNat < l.length) (hj : j = i + 1) (n : Nat) (hn : n = l.length) (hb : l.length <= 4294967296) : SoundM P 274 false [.ref false 1000 0 n, .int .i64 i, .int .i64 j] [.arr 5 true (A.enc cAfter l)]
    (fun v os => v = rAfter A (l.eraseIdx i.toNat) /\ os = [none]) := by
  refine S.cx.by (S.prog ▸ Tryz.func274) rfl rfl rfl rfl (fun hv ho => ?_)
  cbv
  refine Len.nat (fun N hN hm => ?_); cbv
  refine AOp.slice3 S.cx.tab rfl rfl rfl rfl rfl rfl rfl rfl h0 (by lia) (by lia) (by lia) ?_; cbv
  refine Test.eql (fun h1 => ?_) (fun h1 => ?_) <;> cbv
  · exfalso; lia
  refine Len.nat (fun M hM hm2 => ?_); cbv
  try (refine Drawn.mk ⟨by kernel_rfl, fun _ => ?_⟩)
  refine CutRef.goP rfl (by decide) h0 (by lia) (by rw [S.cx.lenE']; lia) (fun p1 off1 len1 hp1 hoff1 hlen1 => ?_); cbv
  have hp1 : p1 = true := by rw [hp1, S.cx.lenE']; simp; lia
  refine CutRef.go rfl (by lia) (by lia) (by lia) (by rw [S.cx.lenE']; lia) (fun p2 off2 len2 hoff2 hlen2 => ?_); cbv
  refine Part.enc S.cx (by lia) (fun m hm3 => ?_); cbv
  have hml : m.length = l.length - (i.toNat + 1) := by rw [hm3]; simp; lia
  refine AppRef.inPlace S.cx rfl plainAfter (fun _ => rfl) ?_ ?_ (fun k l' hk hl' => ?_)
  · exact .inl hp1
  · lia
  cbv
  have hk2 : k = l.length - 1 := by lia
  have hl2 : l'.length = l.length := by rw [hl']; simp; lia
  have hl3 : l'.take k = l.eraseIdx i.toNat := by
    rw [List.eraseIdx_eq_take_drop_succ, hl', show off1 + len1 = i.toNat by lia]
    have e1 : (l.take i.toNat ++ m).length = k := by simp; lia
    have e2 : (l.take i.toNat ++ m).take k = l.take i.toNat ++ m := List.take_of_length_le (by rw [e1]; exact Nat.le_refl _)
    have e3 : m = l.drop (i.toNat + 1) := by
      rw [hm3, show off2 = i.toNat + 1 by lia]
      exact List.take_of_length_le (by simp; lia)
    rw [List.take_append_of_le_length (by rw [e1]; exact Nat.le_refl _), e2, <- e3]
  refine Len.nat (fun K hK hm4 => ?_); cbv
  refine CutRef.cap rfl (by first | exact hp1 | rfl) (by lia) (by lia) (by rw [S.cx.lenE']; lia) (by rw [S.cx.lenE']; lia) (fun p3 off3 len3 hoff3 hlen3 => ?_); cbv
  refine ⟨⟨rfl⟩, Clear.enc S.cx (⟨0, 0, 0, 0, false⟩ : After) rfl rfl ?_ (fun l4 hl4 => ?_)⟩
  · lia
  cbv
  have hl5 : l4.take k = l'.take k := by
    rw [hl4, List.append_assoc, List.take_append_of_le_length (by simp; lia), List.take_take]; congr 1; lia
  refine Done.to (rAfter A (l.eraseIdx i.toNat)) [none] rfl ?_ trivial ⟨rfl, rfl⟩
  have h9 : 0 + k <= l4.length := by rw [hl4]; simp; lia
  refine resPart1A S.cx (f := cAfter) (l := l4) rfl ?_ ?_
  · lia
  · rw [<- hl3, <- hl5, show off1 = 0 by lia]
    rfl

def Remove (a : Afters) (i : Nat) : Afters × Bool :=
  match a.list[i]? with
  | some x => if (Drop a.slots x.handle).2 = true then (⟨(Drop a.slots x.handle).1, a.list.eraseIdx i⟩, true) else (a, false)
  | none => (a, false)
theorem remove_some {a : Afters} {i : Nat} {x : After} (hx : a.list[i]? = some x) : Remove a i = if (Drop a.slots x.handle).2 = true then (⟨(Drop a.slots x.handle).1, a.list.eraseIdx i⟩, true) else (a, false) := by
  unfold Remove; rw [hx]
def rAB2 (x : Afters × Bool) : AV := .bool x.2
def oAB (A : Sy) (x : Afters × Bool) : List (Option Obj) := [some (.box (ownAfters A x.1))]
def rAB (A : Sy) (x : Afters × Bool) : AV := .tup [.agg (ownAfters A x.1), .bool x.2]

theorem drop_len (s : Slots) (h : Handle) : (Drop s h).1.ages.length = s.ages.length /\ (Drop s h).1.used.length = s.used.length := by
  unfold Drop; split <;> simp
theorem drop_stay {s : Slots} {h : Handle} (e : (Drop s h).2 = false) : Drop s h = (s, false) := by
  unfold Drop at e ⊢
  split at e
  · cases e
  · rename_i hn; rw [if_neg hn]

theorem remove_c (S : Se P A) (ages : List Int) (used : List Bool) (list : List After) (hl : used.length = ages.length) (hag : ∀ a ∈ ages, 0 <= a /\ a <= 1000000) (hb : list.length <= 4294967296) (i : Int) (h0 : 0 <= i) (hi : i.toNat < list.length) : SoundM P 199 false [.ptr 1000 0 0, .int .i64 i] [.box (ownAfters A ⟨⟨ages, used⟩, list⟩)]
    (fun v os => v = rAB2 (Remove ⟨⟨ages, used⟩, list⟩ i.toNat) /\ os = oAB A (Remove ⟨⟨ages, used⟩, list⟩ i.toNat)) := by
  obtain ⟨x, hx⟩ := get_of_lt hi
  refine S.cx.byN (S.prog ▸ Tryz.func199) rfl rfl rfl rfl (fun ln hln hv ho => ?_)
  cbv
  have hN := hln cInt64 ages
  generalize ln (A.enc cInt64 ages) = N at hN ⊢
  have hM := hln cBool used
  generalize ln (A.enc cBool used) = M at hM ⊢
  have hK := hln cAfter list
  generalize ln (A.enc cAfter list) = K at hK ⊢
  try (refine Drawn.mk ⟨by kernel_rfl, fun _ => ?_⟩)
  refine ElemRef.go rfl h0 (by lia) (by rw [S.cx.lenE']; lia) (fun row hrow => ?_); cbv
  refine Row.enc S.cx (by lia) (fun y hy => ?_)
  obtain rfl : y = x := by rw [show row = i.toNat by omega, hx] at hy; exact (Option.some.inj hy).symm
  cbv
  have hxl := hx
  refine ACall.valN (r := rB) (os := oB A) (dp := false) S.cx (drop_c S ages used y.slot y.age N M hN hM hl hag) .go rfl (fun ln hln x hx => ⟨rfl, ?_⟩)
  obtain ⟨⟨ages', used'⟩, b⟩ := x
  cbv
  have hx2 : Drop ⟨ages, used⟩ y.handle = (⟨ages', used'⟩, b) := (show (⟨⟨ages', used'⟩, b⟩ : Slots × Bool) = Drop ⟨ages, used⟩ ⟨y.slot, y.age⟩ from by assumption).symm
  have hlen := drop_len ⟨ages, used⟩ y.handle
  rw [hx2] at hlen
  dsimp only at hlen
  have hN' : N = ages'.length := by omega
  have hM' : M = used'.length := by omega
  cases b <;> cbv
  · have e := hx2.symm.trans (drop_stay (by rw [hx2]))
    injection e with e1 _
    injection e1 with e1 e2
    have hR : Remove ⟨⟨ages, used⟩, list⟩ i.toNat = (⟨⟨ages', used'⟩, list⟩, false) := by
      rw [remove_some (a := ⟨⟨ages, used⟩, list⟩) hxl, if_neg (by dsimp only; rw [hx2]; simp), e1, e2]
    rw [hR]
    exact Done.toA (rAB2 (⟨⟨ages', used'⟩, list⟩, false)) (oAB A (⟨⟨ages', used'⟩, list⟩, false)) ⟨rfl, rfl⟩
  refine Arith.go (by lia) (fun j hj => ?_); replace hj : j = i + 1 := hj; cbv
  have hR : Remove ⟨⟨ages, used⟩, list⟩ i.toNat = (⟨⟨ages', used'⟩, list.eraseIdx i.toNat⟩, true) := by
    rw [remove_some (a := ⟨⟨ages, used⟩, list⟩) hxl, if_pos (by dsimp only; rw [hx2])]
    dsimp only
    rw [hx2]
  refine ACall.valN (r := rAfter A) (os := fun _ => [none]) (dp := false) S.cx (deleteAtAfter_c S list i j h0 hi hj K hK hb) .go rfl (fun ln hln w hx => ⟨rfl, ?_⟩)
  cbv
  have hW := hln cAfter w
  generalize ln (A.enc cAfter w) = W at hW ⊢
  rw [hR, <- hx]
  exact Done.toA (rAB2 (⟨⟨ages', used'⟩, w⟩, true)) (oAB A (⟨⟨ages', used'⟩, w⟩, true)) ⟨rfl, rfl⟩

end Go.Proofs.YtihfpbhalnedcaaGreat.AM
