import Derived.Test.YtihfpbhalnedcaaGreatTA
import Derived.Test.YtihfpbhalnedcaaGreatBC
/- In one: Q2 A1 A2 -/
set_option linter.unusedVariables false
set_option linter.unusedSimpArgs false
namespace Go.Proofs.YtihfpbhalnedcaaGreat.AM
open Go Go.Proofs

set_option maxRecDepth 100000
set_option maxHeartbeats 4000000

variable {P : Program} {A : Sy}

def isFree (s : Slots) (j : Nat) : Prop := s.used[j]? = some false /\ s.ages[j]? ≠ some 1000000
instance (s : Slots) (j : Nat) : Decidable (isFree s j) := by unfold isFree; infer_instance
def firstFree (s : Slots) : Option Nat := (List.range s.ages.length).find? fun j => decide (isFree s j)

def Take (s : Slots) : Slots × Handle × Bool :=
  match firstFree s with
  | some j => ({ s with used := s.used.set j true }, ⟨j, s.ages[j]?.getD 0⟩, true)
  | none => (s, handle0, false)

def Taken (s : Slots) : Slots × Handle × Bool := if SlotsOk s then Take s else (slots0, handle0, false)

def Holds (s : Slots) (h : Handle) : Prop := (0 <= h.slot /\ h.slot.toNat < s.ages.length) /\ s.used[h.slot.toNat]? = some true /\ s.ages[h.slot.toNat]? = some h.age
instance (s : Slots) (h : Handle) : Decidable (Holds s h) := by unfold Holds; infer_instance

def Drop (s : Slots) (h : Handle) : Slots × Bool :=
  if Holds s h /\ h.age ≠ 1000000 then (⟨s.ages.set h.slot.toNat (h.age + 1), s.used.set h.slot.toNat false⟩, true) else (s, false)

def Dropped (s : Slots) (h : Handle) : Slots × Bool := if SlotsOk s then Drop s h else (slots0, false)

theorem take_some {s : Slots} {i : Int} {a : Int} (h0 : 0 <= i) (hu : Upto (fun j _ => ¬ isFree s j) s.ages i) (ha : s.ages[i.toNat]? = some a) (hf : isFree s i.toNat) {i' : Int} (hi : i' = i) : Take s = ({ s with used := s.used.set i.toNat true }, ⟨i', a⟩, true) := by
  have : firstFree s = some i.toNat := by
    refine List.find?_range_eq_some.2 ⟨by simpa using hf, by simpa using lt_of_get ha, fun j hj => ?_⟩
    obtain ⟨x, hx⟩ : ∃ x, s.ages[j]? = some x := get_of_lt (Nat.lt_trans hj (lt_of_get ha))
    simpa using hu j x (by omega) hx
  rw [Take, this]
  simp only [ha, Option.getD_some]
  rw [show ((i.toNat : Nat) : Int) = i' by omega]

theorem take_none {s : Slots} {i : Int} (hu : Upto (fun j _ => ¬ isFree s j) s.ages i) (hi : (s.ages.length : Int) <= i) : Take s = (s, handle0, false) := by
  have : firstFree s = none := by
    refine List.find?_range_eq_none.2 fun j hj => ?_
    obtain ⟨x, hx⟩ : ∃ x, s.ages[j]? = some x := get_of_lt hj
    simpa using hu.all hi j x hx
  rw [Take, this]

def rHB (x : Slots × Handle × Bool) : AV := .tup [.agg (cHandle x.2.1), .bool x.2.2]
def oHB (A : Sy) (x : Slots × Handle × Bool) : List (Option Obj) := [some (.arr 1 true (A.enc cInt64 x.1.ages)), some (.arr 1 true (A.enc cBool x.1.used))]
def rSHB (A : Sy) (x : Slots × Handle × Bool) : AV := .tup [.agg (ownSlots A x.1), .agg (cHandle x.2.1), .bool x.2.2]
def rSB (A : Sy) (x : Slots × Bool) : AV := .tup [.agg (ownSlots A x.1), .bool x.2]
def rB (x : Slots × Bool) : AV := .bool x.2
def oB (A : Sy) (x : Slots × Bool) : List (Option Obj) := [some (.arr 1 true (A.enc cInt64 x.1.ages)), some (.arr 1 true (A.enc cBool x.1.used))]

theorem take_c (S : Se P A) (ages : List Int) (used : List Bool) (n m : Nat) (hn : n = ages.length) (hm : m = used.length) (hl : used.length = ages.length) : SoundM P 202 false [.agg [.ref false 1000 0 n, .ref false 2000 0 m]] [.arr 1 true (A.enc cInt64 ages), .arr 1 true (A.enc cBool used)]
    (fun v os => v = rHB (Take ⟨ages, used⟩) /\ os = oHB A (Take ⟨ages, used⟩)) := by
  refine S.cx.by (S.prog ▸ Tryz.func202) rfl rfl rfl rfl (fun hv ho => ?_)
  cbv
  refine Len.nat (fun N hN hmx => ?_); cbv
  refine ALoop.goD (ι := Int) (fun i => [(9, .int .i64 i)]) [] (fun i => []) (fun i => 0 <= i /\ Upto (fun j _ => ¬ isFree ⟨ages, used⟩ j) ages i) (fun i => (ages.length - i).toNat) (0) S.cx.tab S.cx.mix S.eq ?_ ?_ ?_
  · exact ⟨Int.le_refl _, .zero⟩
  · (cbv; exact Less.toA [])
  rintro i ⟨h0, hu⟩
  cbv
  refine Test.lss (fun h => ?_) (fun h => ?_) <;> cbv
  · refine ElemRef.go rfl h0 (by lia) (by rw [S.cx.lenE']; lia) (fun row hrow => ?_); cbv
    refine Row.enc S.cx (by lia) (fun a ha => ?_); cbv
    refine ElemRef.go rfl h0 (by lia) (by rw [S.cx.lenE']; lia) (fun row2 hrow2 => ?_); cbv
    refine Row.enc S.cx (by lia) (fun u hu2 => ?_); cbv
    have ha' : ages[i.toNat]? = some a := by rw [<- ha, hrow]; congr 1; omega
    have hu' : used[i.toNat]? = some u := by rw [<- hu2, hrow2]; congr 1; omega
    cases u <;> cbv
    · refine Test.neq (fun h2 => ?_) (fun h2 => ?_) <;> cbv
      · have hf : isFree ⟨ages, used⟩ i.toNat := ⟨hu', fun e => h2 (by rw [ha'] at e; exact Option.some.inj e)⟩
        refine ElemRef.go rfl h0 (by lia) (by rw [S.cx.lenE']; lia) (fun row3 hrow3 => ?_); cbv
        refine RowSet.enc S.cx false true (by rw [show row3 = row2 by omega]; exact hu2) rfl (Nat.le_refl _) rfl (fun used' hused => ?_); cbv
        rw [take_some (i' := i) h0 hu ha' hf rfl]
        refine Done.to (rHB (⟨ages, used'⟩, ⟨i, a⟩, true)) (oHB A (⟨ages, used'⟩, ⟨i, a⟩, true)) rfl ?_ ?_ ⟨rfl, by rw [hused, show row3 = i.toNat by omega]⟩
        · repeat' (first | exact trivial | exact rfl | exact S.ra rfl ‹_› | exact S.rb rfl | exact S.rc rfl ‹_› | exact S.rd rfl ‹_› | exact S.gh | exact S.re rfl ‹_› | exact S.rf rfl ‹_› | exact S.rg rfl ‹_› | refine ⟨?_, ?_⟩)
        · repeat' (first | exact trivial | exact rfl | exact S.ra rfl ‹_› | exact S.rb rfl | exact S.rc rfl ‹_› | exact S.rd rfl ‹_› | exact S.gh | exact S.re rfl ‹_› | exact S.rf rfl ‹_› | exact S.rg rfl ‹_› | refine ⟨?_, ?_⟩)
      · refine Arith.go (by lia) (fun i' hi' => ?_); cbv
        refine Again.on i' (by lia) ⟨by lia, hu.next h0 ha' (fun hf => hf.2 (by rw [h2] at ha'; exact ha')) hi'⟩ ?_
        (cbv; exact Less.toA [])
    · refine Arith.go (by lia) (fun i' hi' => ?_); cbv
      refine Again.on i' (by lia) ⟨by lia, hu.next h0 ha' (fun hf => by have := hf.1; rw [hu'] at this; cases this) hi'⟩ ?_
      (cbv; exact Less.toA [])
  · rw [take_none hu (by dsimp only; lia)]
    refine Done.to (rHB (⟨ages, used⟩, handle0, false)) (oHB A (⟨ages, used⟩, handle0, false)) rfl ?_ ?_ ⟨rfl, rfl⟩
    · repeat' (first | exact trivial | exact rfl | exact S.ra rfl ‹_› | exact S.rb rfl | exact S.rc rfl ‹_› | exact S.rd rfl ‹_› | exact S.gh | exact S.re rfl ‹_› | exact S.rf rfl ‹_› | exact S.rg rfl ‹_› | refine ⟨?_, ?_⟩)
    · repeat' (first | exact trivial | exact rfl | exact S.ra rfl ‹_› | exact S.rb rfl | exact S.rc rfl ‹_› | exact S.rd rfl ‹_› | exact S.gh | exact S.re rfl ‹_› | exact S.rf rfl ‹_› | exact S.rg rfl ‹_› | refine ⟨?_, ?_⟩)

theorem holds_c (S : Se P A) (ages : List Int) (used : List Bool) (slot age : Int) (hl : used.length = ages.length) : Tests P 307 [.agg (roSlots A ⟨ages, used⟩), .agg (cHandle ⟨slot, age⟩)] (Holds ⟨ages, used⟩ ⟨slot, age⟩) := by
  refine S.cx.by (S.prog ▸ Tryz.func307) rfl rfl rfl rfl (fun hv ho => ?_)
  cbv
  try (refine Drawn.mk ⟨by kernel_rfl, fun _ => ?_⟩)
  refine ACall.testD (dp := false) (isInInt64_c S slot ages) .go rfl (fun h => ?_) (fun h => ?_) <;> cbv
  rotate_left
  · exact Done.no (fun e => h e.1)
  refine ElemRo.enc S.cx (fun _ => rfl) h.1 (by lia) (fun u hu => ?_); cbv
  cases u <;> cbv
  · exact Done.no (fun e => by have := e.2.1; dsimp only at this; rw [hu] at this; cases this)
  refine ElemRo.enc S.cx (fun _ => rfl) h.1 (by lia) (fun a ha => ?_); cbv
  refine Test.eql (fun h2 => ?_) (fun h2 => ?_) <;> cbv
  · exact Done.yes ⟨h, hu, by rw [<- h2]; exact ha⟩
  · exact Done.no (fun e => h2 (by have := e.2.2; dsimp only at this; rw [ha] at this; exact Option.some.inj this))

theorem specHolds_c (S : Se P A) (ages : List Int) (used : List Bool) (slot age : Int) : Tests P 269 [.agg (roSlots A ⟨ages, used⟩), .agg (cHandle ⟨slot, age⟩)] (SlotsOk ⟨ages, used⟩ /\ Holds ⟨ages, used⟩ ⟨slot, age⟩) := by
  refine S.cx.by (S.prog ▸ Tryz.func269) rfl rfl rfl rfl (fun hv ho => ?_)
  cbv
  try (refine Drawn.mk ⟨by kernel_rfl, fun _ => ?_⟩)
  refine ACall.testD (dp := false) (specSlotsOk_c S ages used) .go rfl (fun hok => ?_) (fun hok => ?_) <;> cbv
  rotate_left
  · exact Done.no (fun e => hok e.1)
  have hlen : ages.length <= 64 := hok.1.2
  have hl : used.length = ages.length := hok.2.1
  refine LenR.natD S.cx (by omega) (fun N hN => ?_); cbv
  refine Arith.go (by lia) (fun m hm => ?_); cbv
  replace hm : m = N - 1 := hm
  refine ACall.testD (dp := false) (l1In_c S slot 0 m) .go rfl (fun h => ?_) (fun h => ?_) <;> cbv
  rotate_left
  · exact Done.no (fun e => h (by have := e.2.1; dsimp only at this; omega))
  have h : 0 <= slot /\ slot.toNat < ages.length := by omega
  refine ElemRo.enc S.cx (fun _ => rfl) h.1 (by lia) (fun u hu => ?_); cbv
  cases u <;> cbv
  · exact Done.no (fun e => by have := e.2.2.1; dsimp only at this; rw [hu] at this; cases this)
  refine ElemRo.enc S.cx (fun _ => rfl) h.1 (by lia) (fun a ha => ?_); cbv
  refine Test.eql (fun h2 => ?_) (fun h2 => ?_) <;> cbv
  · exact Done.yes ⟨hok, h, hu, by rw [<- h2]; exact ha⟩
  · exact Done.no (fun e => h2 (by have := e.2.2.2; dsimp only at this; rw [ha] at this; exact Option.some.inj this))

theorem drop_c (S : Se P A) (ages : List Int) (used : List Bool) (slot age : Int) (n m : Nat) (hn : n = ages.length) (hm : m = used.length) (hl : used.length = ages.length) (hag : ∀ a ∈ ages, 0 <= a /\ a <= 1000000) : SoundM P 273 false [.agg [.ref false 1000 0 n, .ref false 2000 0 m], .agg (cHandle ⟨slot, age⟩)] [.arr 1 true (A.enc cInt64 ages), .arr 1 true (A.enc cBool used)]
    (fun v os => v = rB (Drop ⟨ages, used⟩ ⟨slot, age⟩) /\ os = oB A (Drop ⟨ages, used⟩ ⟨slot, age⟩)) := by
  refine S.cx.by (S.prog ▸ Tryz.func273) rfl rfl rfl rfl (fun hv ho => ?_)
  cbv
  refine ACall.testD (dp := false) (holds_c S ages used slot age hl) .go rfl (fun h => ?_) (fun h => ?_) <;> cbv
  rotate_left
  · rw [Drop, if_neg (fun e => h e.1)]
    refine Done.to (rB (⟨ages, used⟩, false)) (oB A (⟨ages, used⟩, false)) rfl ?_ ?_ ⟨rfl, rfl⟩
    · repeat' (first | exact trivial | exact rfl | exact S.ra rfl ‹_› | exact S.rb rfl | exact S.rc rfl ‹_› | exact S.rd rfl ‹_› | exact S.gh | exact S.re rfl ‹_› | exact S.rf rfl ‹_› | exact S.rg rfl ‹_› | refine ⟨?_, ?_⟩)
    · repeat' (first | exact trivial | exact rfl | exact S.ra rfl ‹_› | exact S.rb rfl | exact S.rc rfl ‹_› | exact S.rd rfl ‹_› | exact S.gh | exact S.re rfl ‹_› | exact S.rf rfl ‹_› | exact S.rg rfl ‹_› | refine ⟨?_, ?_⟩)
  refine Test.eql (fun h2 => ?_) (fun h2 => ?_) <;> cbv
  · rw [Drop, if_neg (fun e => e.2 h2)]
    refine Done.to (rB (⟨ages, used⟩, false)) (oB A (⟨ages, used⟩, false)) rfl ?_ ?_ ⟨rfl, rfl⟩
    · repeat' (first | exact trivial | exact rfl | exact S.ra rfl ‹_› | exact S.rb rfl | exact S.rc rfl ‹_› | exact S.rd rfl ‹_› | exact S.gh | exact S.re rfl ‹_› | exact S.rf rfl ‹_› | exact S.rg rfl ‹_› | refine ⟨?_, ?_⟩)
    · repeat' (first | exact trivial | exact rfl | exact S.ra rfl ‹_› | exact S.rb rfl | exact S.rc rfl ‹_› | exact S.rd rfl ‹_› | exact S.gh | exact S.re rfl ‹_› | exact S.rf rfl ‹_› | exact S.rg rfl ‹_› | refine ⟨?_, ?_⟩)
  obtain ⟨⟨h0, hlt⟩, hu, ha⟩ := id h
  dsimp only at h0 hlt hu ha
  refine ElemRef.go rfl h0 (by lia) (by rw [S.cx.lenE']; lia) (fun row hrow => ?_); cbv
  have hr : row = slot.toNat := by omega
  refine RowSet.enc S.cx true false (by rw [hr]; exact hu) rfl (Nat.le_refl _) rfl (fun used' hused => ?_); cbv
  refine ElemRef.go rfl h0 (by lia) (by rw [S.cx.lenE']; lia) (fun row2 hrow2 => ?_); cbv
  have hr2 : row2 = slot.toNat := by omega
  refine Row.enc S.cx (by lia) (fun a ha2 => ?_); cbv
  obtain rfl : a = age := by rw [hr2, ha] at ha2; exact (Option.some.inj ha2).symm
  have hb := hag a (mem_at ha)
  refine Arith.go (by lia) (fun z hz => ?_); cbv
  refine ElemRef.go rfl h0 (by lia) (by rw [S.cx.lenE']; lia) (fun row3 hrow3 => ?_); cbv
  have hr3 : row3 = slot.toNat := by omega
  refine RowSet.enc S.cx a z (by rw [hr3]; exact ha) rfl (Nat.le_refl _) rfl (fun ages' hages => ?_); cbv
  rw [Drop, if_pos ⟨h, h2⟩]
  refine Done.to (rB (⟨ages', used'⟩, true)) (oB A (⟨ages', used'⟩, true)) rfl ?_ ?_ ⟨rfl, by rw [hages, hused, hr, hr3, hz]⟩
  · repeat' (first | exact trivial | exact rfl | exact S.ra rfl ‹_› | exact S.rb rfl | exact S.rc rfl ‹_› | exact S.rd rfl ‹_› | exact S.gh | exact S.re rfl ‹_› | exact S.rf rfl ‹_› | exact S.rg rfl ‹_› | refine ⟨?_, ?_⟩)
  · repeat' (first | exact trivial | exact rfl | exact S.ra rfl ‹_› | exact S.rb rfl | exact S.rc rfl ‹_› | exact S.rd rfl ‹_› | exact S.gh | exact S.re rfl ‹_› | exact S.rf rfl ‹_› | exact S.rg rfl ‹_› | refine ⟨?_, ?_⟩)

end Go.Proofs.YtihfpbhalnedcaaGreat.AM

namespace Go.Proofs.YtihfpbhalnedcaaGreat.AM
open Go Go.Proofs

set_option maxRecDepth 100000
set_option maxHeartbeats 4000000

variable {P : Program} {A : Sy}

theorem plainAfter : Plain cAfter := fun _ => rfl
def rAfter (A : Sy) (l : List After) : AV := .own 5 true (A.enc cAfter l)

theorem cloneAfter_c (S : Se P A) (l : List After) (hb : l.length <= 4294967296) : Is1 P 327 [.ro (A.enc cAfter l)] (rAfter A l) := by
  refine S.cx.by (S.prog ▸ Tryz.func327) rfl rfl rfl rfl (fun hv ho => ?_)
  cbv
  refine NilT.ro S.cx (fun h => ?_) ?_ <;> cbv
  · subst h
    exact Done.isA (r := rAfter A) (x := []) (rfl)
  · refine AppNew.enc S.cx plainAfter (.inr (.inr trivial)) (fun _ => rfl) (by simp only [maxBytes]; omega) (fun n hn => ?_); cbv
    exact Done.isA (r := rAfter A) (x := l) (rfl)

theorem sizeAfter_c (S : Se P A) (l : List After) : Nums P 305 [.ro (A.enc cAfter l)] (fun n => 0 <= n /\ n.toNat = l.length) := by
  refine S.cx.by (S.prog ▸ Tryz.func305) rfl rfl rfl rfl (fun hv ho => ?_)
  cbv
  refine LenR.nat S.cx (fun N hN hm => ?_); cbv
  exact Done.num hN

theorem indexFuncAfter1_c (S : Se P A) (F : FuncId) (c1 : List AV) (q : After -> Prop) (hF : ∀ x : After, Tests P F [.agg (cAfter x), .rptr c1] (q x)) (l : List After) : Nums P 271 [.ro (A.enc cAfter l), .fn F [] [.rptr c1]] (fun r => 0 <= r /\ (∃ x, l[r.toNat]? = some x /\ q x) /\ Upto (fun _ x => ¬ q x) l r ∨ r = -1 /\ ∀ x ∈ l, ¬ q x) := by
  refine S.cx.by (S.prog ▸ Tryz.func271) rfl rfl rfl rfl (fun hv ho => ?_)
  cbv
  refine LenR.nat S.cx (fun N hN hm => ?_); cbv
  refine ALoop.goD (ι := Int) (fun i => [(8, .int .i64 i)]) [] (fun i => []) (fun i => 0 <= i /\ Upto (fun _ x => ¬ q x) l i) (fun i => (l.length - i).toNat) (0) S.cx.tab S.cx.mix S.eq ?_ ?_ ?_
  · exact ⟨Int.le_refl _, .zero⟩
  · (cbv; exact Less.toA [])
  · rintro i ⟨h0, hu⟩
    cbv
    refine Test.lss (fun h => ?_) (fun h => ?_) <;> cbv
    · refine ElemRo.enc S.cx (fun _ => rfl) (by lia) (by lia) (fun x hx => ?_); cbv
      refine ACall.testX (dp := false) (hF x) .go rfl (fun h2 => ?_) (fun h2 => ?_) <;> cbv
      · exact Done.num (.inl ⟨h0, ⟨x, hx, h2⟩, hu⟩)
      · refine Arith.go (by lia) (fun i' hi' => ?_); cbv
        refine Again.on i' (by lia) ⟨by lia, hu.next h0 hx h2 hi'⟩ ?_
        (cbv; exact Less.toA [])
    · exact Done.num (.inr ⟨rfl, hu.mem (by lia)⟩)

theorem SEq.go {us vs : List AV} {K : Bool -> Prop} (h1 : us = vs -> K true) (h2 : ¬ us = vs -> K false) : SEq us vs K :=
  ⟨fun b hb => by
    cases b with
    | true => exact h1 (hb.1 rfl)
    | false => exact h2 fun e => by cases hb.2 e⟩

theorem SoundM.known {f : FuncId} {args : List AV} {p : Int -> Prop} {e : Int} (h : Nums P f args p) (hu : ∀ n, p n -> n = e) : Is1 P f args (.int .i64 e) :=
  h.mono fun v os ⟨⟨n, hn, hv⟩, ho⟩ => ⟨by rw [<- hu n hn]; exact hv, ho⟩

def usedN (l : List Bool) : Nat := (l.filter id).length

theorem usedN_next {l : List Bool} {i i' : Int} {b : Bool} (h0 : 0 <= i) (hb : l[i.toNat]? = some b) (hi : i' = i + 1) : usedN (l.take i'.toNat) = usedN (l.take i.toNat) + (if b then 1 else 0) := by
  rw [show i'.toNat = i.toNat + 1 by omega, take_next hb, usedN, List.filter_append]
  cases b <;> simp [usedN]

theorem usedN_le (l : List Bool) : usedN l <= l.length := List.length_filter_le _ _

theorem used_c (S : Se P A) (ages : List Int) (used : List Bool) : Nums P 306 [.agg (roSlots A ⟨ages, used⟩)] (fun n => 0 <= n /\ n.toNat = usedN used) := by
  refine S.cx.by (S.prog ▸ Tryz.func306) rfl rfl rfl rfl (fun hv ho => ?_)
  cbv
  refine LenR.nat S.cx (fun N hN hm => ?_); cbv
  refine ALoop.goD (ι := Int × Int) (fun i => [(9, .int .i64 i.1), (3, .int .i64 i.2)]) [] (fun i => []) (fun i => 0 <= i.1 /\ (0 <= i.2 /\ i.2 <= i.1) /\ i.2.toNat = usedN (used.take i.1.toNat)) (fun i => (used.length - i.1).toNat) (0, 0) S.cx.tab S.cx.mix S.eq ?_ ?_ ?_
  · exact ⟨Int.le_refl _, ⟨Int.le_refl _, Int.le_refl _⟩, by simp [usedN]⟩
  · (cbv; exact Less.toA [])
  rintro ⟨i, k⟩ ⟨h0, ⟨hk0, hk1⟩, hk⟩
  dsimp only at h0 hk0 hk1 hk
  cbv
  refine Test.lss (fun h => ?_) (fun h => ?_) <;> cbv
  · refine ElemRo.enc S.cx (fun _ => rfl) h0 (by lia) (fun b hb => ?_); cbv
    cases b <;> cbv
    · refine Arith.go (by lia) (fun i' hi' => ?_); cbv
      refine Again.on (i', k) (by dsimp only; lia) ⟨by dsimp only; lia, ⟨hk0, by dsimp only; lia⟩, by dsimp only; rw [usedN_next h0 hb hi']; simpa using hk⟩ ?_
      (cbv; exact Less.toA [])
    · refine Arith.go (by lia) (fun k' hk' => ?_); replace hk' : k' = k + 1 := hk'; cbv
      refine Arith.go (by lia) (fun i' hi' => ?_); cbv
      refine Again.on (i', k') (by dsimp only; lia) ⟨by dsimp only; lia, ⟨by dsimp only; lia, by dsimp only; lia⟩, by dsimp only; rw [usedN_next h0 hb hi', <- hk]; simp; omega⟩ ?_
      (cbv; exact Less.toA [])
  · exact Done.num ⟨hk0, by rw [hk, take_all (by lia)]⟩

theorem usedIn_c (S : Se P A) (ages : List Int) (used : List Bool) (hok : SlotsOk ⟨ages, used⟩) : Nums P 268 [.agg (roSlots A ⟨ages, used⟩)] (fun n => 0 <= n /\ n.toNat = usedN used) := by
  refine S.cx.by (S.prog ▸ Tryz.func268) rfl rfl rfl rfl (fun hv ho => ?_)
  cbv
  refine ACall.testD (dp := false) (specSlotsOk_c S ages used) .go rfl (fun hh => ?_) (fun hh => ?_) <;> cbv
  rotate_left
  · exact absurd hok hh
  refine ALoop.goD (ι := Int × Int) (fun i => [(4, .int .i64 i.1), (3, .int .i64 i.2)]) [] (fun i => []) (fun i => 0 <= i.1 /\ (0 <= i.2 /\ i.2 <= i.1) /\ i.2.toNat = usedN (used.take i.1.toNat)) (fun i => (used.length - i.1).toNat) (0, 0) S.cx.tab S.cx.mix S.eq ?_ ?_ ?_
  · exact ⟨Int.le_refl _, ⟨Int.le_refl _, Int.le_refl _⟩, by simp [usedN]⟩
  · (cbv; exact Less.toA [])
  rintro ⟨i, k⟩ ⟨h0, ⟨hk0, hk1⟩, hk⟩
  dsimp only at h0 hk0 hk1 hk
  cbv
  refine LenR.nat S.cx (fun N hN hm => ?_); cbv
  refine Test.lss (fun h => ?_) (fun h => ?_) <;> cbv
  · refine ElemRo.enc S.cx (fun _ => rfl) h0 (by lia) (fun b hb => ?_); cbv
    cases b <;> cbv
    · refine Arith.go (by lia) (fun i' hi' => ?_); cbv
      refine Again.on (i', k) (by dsimp only; lia) ⟨by dsimp only; lia, ⟨hk0, by dsimp only; lia⟩, by dsimp only; rw [usedN_next h0 hb hi']; simpa using hk⟩ ?_
      (cbv; exact Less.toA [])
    · refine Arith.go (by lia) (fun k' hk' => ?_); replace hk' : k' = k + 1 := hk'; cbv
      refine Arith.go (by lia) (fun i' hi' => ?_); cbv
      refine Again.on (i', k') (by dsimp only; lia) ⟨by dsimp only; lia, ⟨by dsimp only; lia, by dsimp only; lia⟩, by dsimp only; rw [usedN_next h0 hb hi', <- hk]; simp; omega⟩ ?_
      (cbv; exact Less.toA [])
  · exact Done.num ⟨hk0, by rw [hk, take_all (by lia)]⟩

def After.handle (x : After) : Handle := ⟨x.slot, x.age⟩
def AfterOk (s : Slots) (before : List After) (x : After) : Prop := Holds s x.handle /\ (0 <= x.node /\ x.node <= 59) /\ (0 <= x.func /\ x.func <= 99) /\ ∀ y ∈ before, y.handle ≠ x.handle
instance (s : Slots) (b : List After) (x : After) : Decidable (AfterOk s b x) := by unfold AfterOk; infer_instance
def AftersOk (a : Afters) : Prop := SlotsOk a.slots /\ a.list.length = usedN a.slots.used /\ ∀ p ∈ a.list.zipIdx, AfterOk a.slots (a.list.take p.2) p.1
instance (a : Afters) : Decidable (AftersOk a) := by unfold AftersOk; infer_instance
theorem AftersOk.get {a : Afters} (h : AftersOk a) {j : Nat} {x : After} (hx : a.list[j]? = some x) : AfterOk a.slots (a.list.take j) x := h.2.2 (x, j) (List.mem_zipIdx_iff_getElem?.2 hx)
theorem AftersOk.of {a : Afters} (h0 : SlotsOk a.slots) (h1 : a.list.length = usedN a.slots.used) (h2 : ∀ (j : Nat) (x : After), a.list[j]? = some x -> AfterOk a.slots (a.list.take j) x) : AftersOk a := ⟨h0, h1, fun p hp => h2 p.2 p.1 (List.mem_zipIdx_iff_getElem?.1 hp)⟩
def afters0 : Afters := ⟨⟨[], []⟩, []⟩

theorem isAfter_c (S : Se P A) (node fn : Int) : Tests P 201 [.int .i64 node, .int .i64 fn] ((0 <= node /\ node <= 59) /\ 0 <= fn /\ fn <= 99) := by
  refine S.cx.by (S.prog ▸ Tryz.func201) rfl rfl rfl rfl (fun hv ho => ?_)
  cbv
  repeat' (first
    | (refine ACall.testD (dp := false) (within_c S _ _ _) ⟨rfl, (by repeat' (first | exact trivial | exact rfl | refine ⟨?_, ?_⟩)), trivial⟩ rfl (fun _ => ?_) (fun _ => ?_) <;> cbv)
    | (refine Test.eql (fun _ => ?_) (fun _ => ?_) <;> cbv)
    | (refine Test.neq (fun _ => ?_) (fun _ => ?_) <;> cbv)
    | (refine Test.lss (fun _ => ?_) (fun _ => ?_) <;> cbv)
    | (refine Test.leq (fun _ => ?_) (fun _ => ?_) <;> cbv)
    | (refine Test.gtr (fun _ => ?_) (fun _ => ?_) <;> cbv)
    | (refine Test.geq (fun _ => ?_) (fun _ => ?_) <;> cbv)
    | (refine ⟨⟨by kernel_rfl, fun _ => ?_⟩⟩)
    | (refine LenR.nat S.cx (fun N hN hm => ?_); cbv)
    | exact Done.yes (by omega)
    | exact Done.no (by omega))

theorem at1_c (S : Se P A) (slot age : Int) (x : After) : Tests P 272 [.agg (cAfter x), .rptr [.int .i64 slot, .int .i64 age]] (x.handle = ⟨slot, age⟩) := by
  refine S.cx.by (S.prog ▸ Tryz.func272) rfl rfl rfl rfl (fun hv ho => ?_)
  cbv
  refine ⟨⟨by rw [S.prog]; kernel_rfl⟩, SEq.go (fun h => ?_) (fun h => ?_)⟩ <;> cbv
  · refine Done.yes ?_
    injection h with h1 h2; injection h1 with _ h1; injection h2 with h2 _; injection h2 with _ h2
    simp [After.handle, h1, h2]
  · refine Done.no fun e => h ?_
    injection e with e1 e2
    rw [e1, e2]

theorem afterAt_c (S : Se P A) (ages : List Int) (used : List Bool) (list : List After) (slot age : Int) : Nums P 198 [.agg (roAfters A ⟨⟨ages, used⟩, list⟩), .agg (cHandle ⟨slot, age⟩)] (fun r => 0 <= r /\ (∃ x, list[r.toNat]? = some x /\ x.handle = ⟨slot, age⟩) /\ Upto (fun _ x => ¬ x.handle = ⟨slot, age⟩) list r ∨ r = -1 /\ ∀ x ∈ list, ¬ x.handle = ⟨slot, age⟩) := by
  refine S.cx.by (S.prog ▸ Tryz.func198) rfl rfl rfl rfl (fun hv ho => ?_)
  cbv
  refine ACall.num (dp := false) (indexFuncAfter1_c S _ _ _ (at1_c S slot age) list) .go (fun r hr => ?_); cbv
  exact Done.num hr

end Go.Proofs.YtihfpbhalnedcaaGreat.AM

namespace Go.Proofs.YtihfpbhalnedcaaGreat.AM
open Go Go.Proofs

set_option maxRecDepth 100000
set_option maxHeartbeats 4000000

variable {P : Program} {A : Sy}

theorem Upto.take {α : Type} {p : α -> Prop} {l : List α} {i : Int} (h : Upto (fun _ y => p y) l i) : ∀ y ∈ l.take i.toNat, p y := fun y hy => by
  obtain ⟨k, hk⟩ := List.getElem?_of_mem hy
  rw [List.getElem?_take] at hk
  split at hk
  · rename_i hkr; exact h k y (by omega) hk
  · cases hk

theorem mem_take_at {α : Type} {l : List α} {i j : Nat} {y : α} (h : l[j]? = some y) (hj : j < i) : y ∈ l.take i := by
  refine List.mem_of_getElem? (i := j) ?_
  rw [List.getElem?_take, if_pos hj]; exact h

theorem implAftersOk_c (S : Se P A) (ages : List Int) (used : List Bool) (list : List After) : Tests P 233 [.agg (roAfters A ⟨⟨ages, used⟩, list⟩)] (AftersOk ⟨⟨ages, used⟩, list⟩) := by
  refine S.cx.by (S.prog ▸ Tryz.func233) rfl rfl rfl rfl (fun hv ho => ?_)
  cbv
  try (refine Drawn.mk ⟨by kernel_rfl, fun _ => ?_⟩)
  refine ACall.testD (dp := false) (implSlotsOk_c S ages used) .go rfl (fun hok => ?_) (fun hok => ?_) <;> cbv
  rotate_left
  · exact Done.no (fun e => hok e.1)
  refine ACall.int (dp := false) (SoundM.known (e := (list.length : Int)) (sizeAfter_c S list) (fun n h => by omega)) .go rfl (fun N hN => ?_); cbv
  refine ACall.int (dp := false) (SoundM.known (e := (usedN used : Int)) (used_c S ages used) (fun n h => by omega)) .go rfl (fun M hM => ?_); cbv
  refine Test.neq (fun h1 => ?_) (fun h1 => ?_) <;> cbv
  · exact Done.no (fun e => h1 (by rw [hN, hM]; exact congrArg Int.ofNat e.2.1))
  have hlen : list.length = usedN used := by lia
  have hl : used.length = ages.length := hok.2.1
  refine LenR.nat S.cx (fun K hK hm => ?_); cbv
  refine ALoop.goD (ι := Int) (fun i => [(21, .int .i64 i)]) [] (fun i => []) (fun i => 0 <= i /\ Upto (fun j x => AfterOk ⟨ages, used⟩ (list.take j) x) list i) (fun i => (list.length - i).toNat) (0) S.cx.tab S.cx.mix S.eq ?_ ?_ ?_
  · exact ⟨Int.le_refl _, .zero⟩
  · (cbv; exact Less.toA [])
  rintro i ⟨h0, hu⟩
  cbv
  refine Test.lss (fun h2 => ?_) (fun h2 => ?_) <;> cbv
  · refine ElemRo.enc S.cx (fun _ => rfl) (by lia) (by lia) (fun x hx => ?_); cbv
    have hno : ∀ {p : Prop}, (AfterOk ⟨ages, used⟩ (list.take i.toNat) x -> p) -> AftersOk ⟨⟨ages, used⟩, list⟩ -> p := fun hp e => hp (e.get hx)
    refine ACall.testD (dp := false) (isAfter_c S x.node x.func) .go rfl (fun h3 => ?_) (fun h3 => ?_) <;> cbv
    rotate_left
    · exact Done.no (hno fun e => h3 ⟨e.2.1, e.2.2.1⟩)
    refine ACall.testD (dp := false) (holds_c S ages used x.slot x.age hl) .go rfl (fun h4 => ?_) (fun h4 => ?_) <;> cbv
    rotate_left
    · exact Done.no (hno fun e => h4 e.1)
    refine ACall.num (dp := false) (afterAt_c S ages used list x.slot x.age) .go (fun r hr => ?_); cbv
    refine Test.neq (fun h5 => ?_) (fun h5 => ?_) <;> cbv
    · refine Done.no (hno fun e => h5 ?_)
      rcases hr with ⟨hr0, ⟨y, hy, hyx⟩, hru⟩ | ⟨_, hr⟩
      · rcases Int.lt_trichotomy r i with hlt | heq | hgt
        · exact absurd hyx (e.2.2.2 y (mem_take_at hy (by omega)))
        · exact heq
        · exact absurd rfl (hru i.toNat x (by omega) hx)
      · exact absurd rfl (hr x (mem_at hx))
    · have hall : ∀ y ∈ list.take i.toNat, y.handle ≠ x.handle := by
        rcases hr with ⟨hr0, _, hru⟩ | ⟨hr0, _⟩
        · rw [h5] at hru; exact hru.take
        · omega
      refine Arith.go (by lia) (fun i' hi' => ?_); cbv
      refine Again.on i' (by lia) ⟨by lia, hu.next h0 hx ⟨h4, h3.1, h3.2, hall⟩ hi'⟩ ?_
      (cbv; exact Less.toA [])
  · exact Done.yes (.of hok hlen (hu.all (by omega)))

theorem specAftersOk_c (S : Se P A) (ages : List Int) (used : List Bool) (list : List After) : Tests P 196 [.agg (roAfters A ⟨⟨ages, used⟩, list⟩)] (AftersOk ⟨⟨ages, used⟩, list⟩) := by
  have hreal := @AV.real.len
  refine S.cx.by (S.prog ▸ Tryz.func196) rfl rfl rfl rfl (fun hv ho => ?_)
  cbv
  have hll : list.length <= 9223372036854775807 := by
    have h1 := AV.real.len ((hv _ (List.mem_singleton.2 rfl)).agg (v := .ro (A.enc cAfter list)) (by simp [roAfters]))
    rw [S.cx.lenE'] at h1; simp only [maxLen] at h1; omega
  try (refine Drawn.mk ⟨by kernel_rfl, fun _ => ?_⟩)
  refine ACall.testD (dp := false) (specSlotsOk_c S ages used) .go rfl (fun hok => ?_) (fun hok => ?_) <;> cbv
  rotate_left
  · exact Done.no (fun e => hok e.1)
  refine LenR.natD S.cx hll (fun N hN => ?_); cbv
  refine ACall.int (dp := false) (SoundM.known (e := (usedN used : Int)) (usedIn_c S ages used hok) (fun n h => by omega)) .go rfl (fun M hM => ?_); cbv
  refine Test.neq (fun h1 => ?_) (fun h1 => ?_) <;> cbv
  · exact Done.no (fun e => h1 (by rw [hM]; have := e.2.1; dsimp only at this; lia))
  have hlen : list.length = usedN used := by lia
  have hl : used.length = ages.length := hok.2.1
  refine ALoop.goD (ι := Int) (fun i => [(3, .int .i64 i)]) [] (fun i => []) (fun i => 0 <= i /\ Upto (fun j x => AfterOk ⟨ages, used⟩ (list.take j) x) list i) (fun i => (list.length - i).toNat) (0) S.cx.tab S.cx.mix S.eq ?_ ?_ ?_
  · exact ⟨Int.le_refl _, .zero⟩
  · (cbv; exact Less.toA [])
  rintro i ⟨h0, hu⟩
  cbv
  refine LenR.nat S.cx (fun K hK hm => ?_); cbv
  refine Test.lss (fun h2 => ?_) (fun h2 => ?_) <;> cbv
  · refine ElemRo.enc S.cx (fun _ => rfl) (by lia) (by lia) (fun x hx => ?_); cbv
    have hno : ∀ {p : Prop}, (AfterOk ⟨ages, used⟩ (list.take i.toNat) x -> p) -> AftersOk ⟨⟨ages, used⟩, list⟩ -> p := fun hp e => hp (e.get hx)
    refine ACall.testD (dp := false) (specHolds_c S ages used x.slot x.age) .go rfl (fun h4 => ?_) (fun h4 => ?_) <;> cbv
    rotate_left
    · exact Done.no (hno fun e => h4 ⟨hok, e.1⟩)
    refine ACall.testD (dp := false) (l1In_c S x.node _ _) .go rfl (fun h3 => ?_) (fun h3 => ?_) <;> cbv
    rotate_left
    · exact Done.no (hno fun e => h3 e.2.1)
    refine ACall.testD (dp := false) (l1In_c S x.func _ _) .go rfl (fun h3' => ?_) (fun h3' => ?_) <;> cbv
    rotate_left
    · exact Done.no (hno fun e => h3' e.2.2.1)
    refine ALoop.goD (ι := Int) (fun i => [(5, .int .i64 i)]) [] (fun i => []) (fun i => 0 <= i /\ Upto (fun _ y => y.handle ≠ x.handle) list i) (fun i => (list.length - i).toNat) (0) S.cx.tab S.cx.mix S.eq ?_ ?_ ?_
    · exact ⟨Int.le_refl _, .zero⟩
    · (cbv; exact Less.toA [])
    intro k hk
    have hk0 : 0 <= k := hk.1
    have hku : Upto (fun _ y => y.handle ≠ x.handle) list k := hk.2
    clear hk
    cbv
    refine Test.lss (fun h5 => ?_) (fun h5 => ?_) <;> cbv
    · try (refine Drawn.mk ⟨by kernel_rfl, fun _ => ?_⟩)
      refine ElemRo.enc S.cx (fun _ => rfl) (by lia) (by lia) (fun y hy => ?_); cbv
      refine ⟨⟨by rw [S.prog]; kernel_rfl⟩, SEq.go (fun h => ?_) (fun h => ?_)⟩ <;> cbv
      · refine Done.no (hno fun e => e.2.2.2 y (mem_take_at hy (by omega)) ?_)
        injection h with h1 h2; injection h1 with _ h1; injection h2 with h2 _; injection h2 with _ h2
        simp [After.handle, h1, h2]
      · refine Arith.go (by lia) (fun k' hk' => ?_); cbv
        refine Again.on k' (by lia) ⟨by lia, hku.next hk0 hy (fun e => h ?_) hk'⟩ ?_
        · injection e with e1 e2
          rw [e1, e2]
        · (cbv; exact Less.toA [])
    · have hall : ∀ y ∈ list.take i.toNat, y.handle ≠ x.handle := fun y hy => Upto.take (i := i) (p := fun y : After => y.handle ≠ x.handle) (fun j z hj hz => hku j z (by omega) hz) y hy
      refine Arith.go (by lia) (fun i' hi' => ?_); cbv
      refine Again.on i' (by lia) ⟨by lia, hu.next h0 hx ⟨h4.2, h3, h3', hall⟩ hi'⟩ ?_
      (cbv; exact Less.toA [])
  · exact Done.yes (.of hok hlen (hu.all (by omega)))

def rA (A : Sy) (x : Afters) : AV := .agg (ownAfters A x)

theorem clonedAfters_c (S : Se P A) (ages : List Int) (used : List Bool) (list : List After) (h1 : ages.length <= 4294967296) (h2 : used.length <= 4294967296) (h3 : list.length <= 4294967296) : Is1 P 251 [.agg (roAfters A ⟨⟨ages, used⟩, list⟩)] (rA A ⟨⟨ages, used⟩, list⟩) := by
  refine S.cx.by (S.prog ▸ Tryz.func251) rfl rfl rfl rfl (fun hv ho => ?_)
  cbv
  try (refine Drawn.mk ⟨by kernel_rfl, fun _ => ?_⟩)
  refine ACall.valN (r := rS A) (os := fun _ => []) (dp := false) S.cx (clonedSlots_c S ages used h1 h2) .go rfl (fun ln hln x hx => ⟨rfl, ?_⟩)
  obtain ⟨ages', used'⟩ := x
  cases hx
  cbv
  have hN := hln cInt64 ages
  generalize ln (A.enc cInt64 ages) = N at hN ⊢
  have hM := hln cBool used
  generalize ln (A.enc cBool used) = M at hM ⊢
  refine ACall.valN (r := rAfter A) (os := fun _ => []) (dp := false) S.cx (cloneAfter_c S list h3) .go rfl (fun ln hln l' hx => ⟨rfl, ?_⟩)
  cases hx
  cbv
  have hK := hln cAfter list
  generalize ln (A.enc cAfter list) = K at hK ⊢
  exact Done.isA (r := rA A) (x := ⟨⟨ages, used⟩, list⟩) (rfl)

theorem l8Copy_c (S : Se P A) (ages : List Int) (used : List Bool) (list : List After) (h1 : ages.length <= 4294967296) (h2 : used.length <= 4294967296) (h3 : list.length <= 4294967296) : Is1 P 144 [.agg (roAfters A ⟨⟨ages, used⟩, list⟩)] (rA A ⟨⟨ages, used⟩, list⟩) := by
  refine S.cx.by (S.prog ▸ Tryz.func144) rfl rfl rfl rfl (fun hv ho => ?_)
  cbv
  try (refine Drawn.mk ⟨by kernel_rfl, fun _ => ?_⟩)
  refine ACall.valN (r := rS A) (os := fun _ => []) (dp := false) S.cx (l1CopySlots_c S ages used h1 h2) .go rfl (fun ln hln x hx => ⟨rfl, ?_⟩)
  obtain ⟨ages', used'⟩ := x
  cases hx
  cbv
  have hN := hln cInt64 ages
  generalize ln (A.enc cInt64 ages) = N at hN ⊢
  have hM := hln cBool used
  generalize ln (A.enc cBool used) = M at hM ⊢
  refine AppNew.enc S.cx plainAfter (.inr (.inr trivial)) (fun _ => rfl) (by simp only [maxBytes]; omega) (fun n hn => ?_); cbv
  exact Done.isA (r := rA A) (x := ⟨⟨ages, used⟩, list⟩) (rfl)

end Go.Proofs.YtihfpbhalnedcaaGreat.AM
