/- Contracts: deferred functions called off, of both. (printed by ga6.py) -/
import Derived.Test.YtihfpbhalnedcaaGreatA5
set_option linter.unusedVariables false
set_option linter.unusedSimpArgs false
namespace Go.Proofs.YtihfpbhalnedcaaGreat.AM
open Go Go.Proofs

set_option maxRecDepth 100000
set_option maxHeartbeats 4000000

variable {P : Program} {A : Sy}

def afterAt (list : List After) (h : Handle) : Int := match list.findIdx? (fun x => decide (x.handle = h)) with
  | some i => (i : Int)
  | none => -1
theorem afterAt_spec (list : List After) (h : Handle) : 0 <= afterAt list h /\ (∃ x, list[(afterAt list h).toNat]? = some x /\ x.handle = h) /\ Upto (fun _ x => ¬ x.handle = h) list (afterAt list h) ∨ afterAt list h = -1 /\ ∀ x ∈ list, ¬ x.handle = h := by
  unfold afterAt
  cases hf : list.findIdx? (fun x => decide (x.handle = h)) with
  | none => exact .inr ⟨rfl, fun x hx => by simpa using List.findIdx?_eq_none_iff.1 hf x hx⟩
  | some i =>
    obtain ⟨hi, h1, h2⟩ := List.findIdx?_eq_some_iff_getElem.1 hf
    refine .inl ⟨by dsimp only; omega, ⟨list[i], by simp, by simpa using h1⟩, fun j y hj hy => ?_⟩
    have hjl := lt_of_get hy
    have := h2 j (by dsimp only at hj; omega)
    rw [(List.getElem?_eq_some_iff.1 hy).2] at this
    simpa using this
theorem afterAt_uniq {list : List After} {h : Handle} {r : Int} (hr : 0 <= r /\ (∃ x, list[r.toNat]? = some x /\ x.handle = h) /\ Upto (fun _ x => ¬ x.handle = h) list r ∨ r = -1 /\ ∀ x ∈ list, ¬ x.handle = h) : r = afterAt list h := by
  rcases afterAt_spec list h with ⟨h0, ⟨x, hx, hxh⟩, hu⟩ | ⟨h0, hn⟩ <;> rcases hr with ⟨r0, ⟨y, hy, hyh⟩, ru⟩ | ⟨r0, rn⟩
  · rcases Int.lt_trichotomy r (afterAt list h) with e | e | e
    · exact absurd hyh (hu r.toNat y (by omega) hy)
    · exact e
    · exact absurd hxh (ru _ x (by omega) hx)
  · exact absurd hxh (rn x (mem_at hx))
  · exact absurd hyh (hn y (mem_at hy))
  · omega

theorem afterAt_d (S : Se P A) (ages : List Int) (used : List Bool) (list : List After) (slot age : Int) : Is1 P 198 [.agg (roAfters A ⟨⟨ages, used⟩, list⟩), .agg (cHandle ⟨slot, age⟩)] (.int .i64 (afterAt list ⟨slot, age⟩)) :=
  SoundM.known (afterAt_c S ages used list slot age) fun n h => afterAt_uniq h

def CallOff (a : Afters) (h : Handle) : Afters × Bool :=
  match a.list.findIdx? (fun x => decide (x.handle = h)) with
  | some i => if a.list[i]?.map (·.queued) = some false then Remove a i else (a, false)
  | none => (a, false)
def CalledOff (a : Afters) (h : Handle) : Afters × Bool := if AftersOk a then CallOff a h else (afters0, false)

theorem callOff_none {a : Afters} {h : Handle} (hn : ∀ x ∈ a.list, ¬ x.handle = h) : CallOff a h = (a, false) := by
  have : a.list.findIdx? (fun x => decide (x.handle = h)) = none := List.findIdx?_eq_none_iff.2 fun x hx => by simpa using hn x hx
  rw [CallOff, this]

theorem callOff_at {a : Afters} {h : Handle} {i : Nat} {x : After} (hx : a.list[i]? = some x) (hh : x.handle = h) (hu : ∀ j y, j < i -> a.list[j]? = some y -> ¬ y.handle = h) : CallOff a h = if x.queued = false then Remove a i else (a, false) := by
  have : a.list.findIdx? (fun x => decide (x.handle = h)) = some i := by
    refine List.findIdx?_eq_some_iff_getElem.2 ⟨lt_of_get hx, ?_, fun j hj => ?_⟩
    · rw [(List.getElem?_eq_some_iff.1 hx).2]; simpa using hh
    · have hlt : j < a.list.length := Nat.lt_trans hj (lt_of_get hx)
      simpa using hu j a.list[j] hj (List.getElem?_eq_getElem hlt)
  rw [CallOff, this]
  simp [hx]

theorem callOff_c (S : Se P A) (ages : List Int) (used : List Bool) (list : List After) (hl : used.length = ages.length) (hag : ∀ a ∈ ages, 0 <= a /\ a <= 1000000) (hb : list.length <= 4294967296) (slot age : Int) : SoundM P 107 false [.ptr 1000 0 0, .agg (cHandle ⟨slot, age⟩)] [.box (ownAfters A ⟨⟨ages, used⟩, list⟩)]
    (fun v os => v = rAB2 (CallOff ⟨⟨ages, used⟩, list⟩ ⟨slot, age⟩) /\ os = oAB A (CallOff ⟨⟨ages, used⟩, list⟩ ⟨slot, age⟩)) := by
  refine S.cx.byN (S.prog ▸ Tryz.func107) rfl rfl rfl rfl (fun ln hln hv ho => ?_)
  cbv
  have hN := hln cInt64 ages
  generalize ln (A.enc cInt64 ages) = N at hN ⊢
  have hM := hln cBool used
  generalize ln (A.enc cBool used) = M at hM ⊢
  have hK := hln cAfter list
  generalize ln (A.enc cAfter list) = K at hK ⊢
  try (refine Drawn.mk ⟨by kernel_rfl, fun _ => ?_⟩)
  have hreal : True := trivial
  refine ACall.int (dp := false) (afterAt_d S ages used list slot age) .go rfl (fun r hr => ?_); cbv
  have hfin := afterAt_spec list ⟨slot, age⟩
  rw [<- hr] at hfin
  refine Test.geq (fun h => ?_) (fun h => ?_) <;> cbv
  rotate_left
  · have hno : ∀ x ∈ list, ¬ x.handle = ⟨slot, age⟩ := by rcases hfin with ⟨h1, _⟩ | ⟨_, h1⟩; omega; exact h1
    rw [callOff_none (a := ⟨⟨ages, used⟩, list⟩) hno]
    exact Done.toA (rAB2 (⟨⟨ages, used⟩, list⟩, false)) (oAB A (⟨⟨ages, used⟩, list⟩, false)) ⟨rfl, rfl⟩
  obtain ⟨hr0, ⟨x, hx, hxh⟩, hru⟩ : 0 <= r /\ (∃ x, list[r.toNat]? = some x /\ x.handle = ⟨slot, age⟩) /\ Upto (fun _ x => ¬ x.handle = ⟨slot, age⟩) list r := by
    rcases hfin with h1 | ⟨h1, _⟩
    · exact h1
    · omega
  have hlt := lt_of_get hx
  have hC : CallOff ⟨⟨ages, used⟩, list⟩ ⟨slot, age⟩ = if x.queued = false then Remove ⟨⟨ages, used⟩, list⟩ r.toNat else (⟨⟨ages, used⟩, list⟩, false) := callOff_at (a := ⟨⟨ages, used⟩, list⟩) hx hxh fun j y hj hy => hru j y (by omega) hy
  refine ElemRef.go rfl hr0 (by lia) (by rw [S.cx.lenE']; lia) (fun row hrow => ?_); cbv
  refine Row.enc S.cx (by lia) (fun y hy => ?_)
  obtain rfl : y = x := by rw [show row = r.toNat by omega, hx] at hy; exact (Option.some.inj hy).symm
  obtain ⟨xs, xa, xn, xf, xq⟩ := y
  cbv
  cases xq <;> cbv
  rotate_left
  · rw [hC, if_neg (by simp)]
    exact Done.toA (rAB2 (⟨⟨ages, used⟩, list⟩, false)) (oAB A (⟨⟨ages, used⟩, list⟩, false)) ⟨rfl, rfl⟩
  rw [hC, if_pos rfl]
  refine ACall.valN (r := rAB2) (os := oAB A) (dp := false) S.cx (remove_c S ages used list hl hag hb r hr0 hlt) .go rfl (fun ln hln x hx => ⟨rfl, ?_⟩)
  obtain ⟨⟨⟨ages2, used2⟩, list2⟩, b⟩ := x
  cbv
  have hN2 := hln cInt64 ages2
  generalize ln (A.enc cInt64 ages2) = N2 at hN2 ⊢
  have hM2 := hln cBool used2
  generalize ln (A.enc cBool used2) = M2 at hM2 ⊢
  have hK2 := hln cAfter list2
  generalize ln (A.enc cAfter list2) = K2 at hK2 ⊢
  have hx9 : (⟨⟨⟨ages2, used2⟩, list2⟩, b⟩ : Afters × Bool) = Remove ⟨⟨ages, used⟩, list⟩ r.toNat := by assumption
  rw [<- hx9]
  cases b <;> cbv
  · exact Done.toA (rAB2 (⟨⟨ages2, used2⟩, list2⟩, false)) (oAB A (⟨⟨ages2, used2⟩, list2⟩, false)) ⟨rfl, rfl⟩
  · exact Done.toA (rAB2 (⟨⟨ages2, used2⟩, list2⟩, true)) (oAB A (⟨⟨ages2, used2⟩, list2⟩, true)) ⟨rfl, rfl⟩

theorem l8Away_c (S : Se P A) (ages : List Int) (used : List Bool) (list : List After) (hok : AftersOk ⟨⟨ages, used⟩, list⟩) (i : Int) (h0 : 0 <= i) (x : After) (hx : list[i.toNat]? = some x) : Is1 P 197 [.agg (roAfters A ⟨⟨ages, used⟩, list⟩), .int .i64 i] (rA A ⟨(Drop ⟨ages, used⟩ x.handle).1, list.eraseIdx i.toNat⟩) := by
  have hxx := hx
  have b1 : ages.length <= 64 := hok.1.1.2
  have b2 : used.length = ages.length := hok.1.2.1
  have b3 : list.length = usedN used := hok.2.1
  have b4 := usedN_le used
  have b5 : ages.length <= 4294967296 := by omega
  have b6 : used.length <= 4294967296 := by omega
  have b7 : list.length <= 4294967296 := by omega
  have hlt := lt_of_get hx
  refine S.cx.by (S.prog ▸ Tryz.func197) rfl rfl rfl rfl (fun hv ho => ?_)
  cbv
  refine ACall.valN (r := rA A) (os := fun _ => []) (dp := false) S.cx (l8Copy_c S ages used list b5 b6 b7) .go rfl (fun ln hln x hx => ⟨rfl, ?_⟩)
  obtain ⟨⟨ages', used'⟩, list'⟩ := x
  cases hx
  cbv
  have hN := hln cInt64 ages
  generalize ln (A.enc cInt64 ages) = N at hN ⊢
  have hM := hln cBool used
  generalize ln (A.enc cBool used) = M at hM ⊢
  have hK := hln cAfter list
  generalize ln (A.enc cAfter list) = K at hK ⊢
  try (refine Drawn.mk ⟨by kernel_rfl, fun _ => ?_⟩)
  refine ElemRo.at S.cx (x := x) rfl h0 hxx ?_; cbv
  refine ACall.valN (r := rSB A) (os := fun _ => []) (dp := false) S.cx (specDropped_c S ages used x.slot x.age) .go rfl (fun ln hln x hx => ⟨rfl, ?_⟩)
  obtain ⟨⟨ages2, used2⟩, b⟩ := x
  cbv
  have hN2 := hln cInt64 ages2
  generalize ln (A.enc cInt64 ages2) = N2 at hN2 ⊢
  have hM2 := hln cBool used2
  generalize ln (A.enc cBool used2) = M2 at hM2 ⊢
  have hd : Drop ⟨ages, used⟩ x.handle = (⟨ages2, used2⟩, b) := (if_pos hok.1).symm.trans (show (⟨⟨ages2, used2⟩, b⟩ : Slots × Bool) = Dropped ⟨ages, used⟩ ⟨x.slot, x.age⟩ from by assumption).symm
  rw [hd]
  try (refine Drawn.mk ⟨by kernel_rfl, fun _ => ?_⟩)
  refine CutRo.enc S.cx (fun _ => rfl) (by lia) h0 (by lia) (fun l1 hl1 => ?_); cbv
  have hl1l : l1.length = i.toNat := by rw [hl1]; simp; lia
  refine AppNew.enc S.cx plainAfter (.inr (.inr trivial)) (fun _ => rfl) (by simp only [maxBytes]; omega) (fun n1 hn1 => ?_); cbv
  refine Arith.go (by lia) (fun j hj => ?_); replace hj : j = i + 1 := hj; cbv
  refine CutRoE.enc S.cx (fun _ => rfl) (by lia) (by lia) (fun l2 hl2 => ?_); cbv
  have hl2l : l2.length = list.length - (i.toNat + 1) := by rw [hl2]; simp; lia
  refine AppRef.pushAll S.cx hn1 rfl plainAfter (fun _ => rfl) (by simp only [maxBytes]; omega) (fun n3 l3 hl3 hn3 => ?_); cbv
  have he : l3 = list.eraseIdx i.toNat := by
    rw [List.eraseIdx_eq_take_drop_succ, hl3, hl1, hl2, show j.toNat = i.toNat + 1 by omega]; simp
  exact Done.isA (r := rA A) (x := ⟨⟨ages2, used2⟩, l3⟩) (by rw [he])

theorem specCalledOff_c (S : Se P A) (ages : List Int) (used : List Bool) (list : List After) (slot age : Int) : Is1 P 105 [.agg (roAfters A ⟨⟨ages, used⟩, list⟩), .agg (cHandle ⟨slot, age⟩)] (rAB A (CalledOff ⟨⟨ages, used⟩, list⟩ ⟨slot, age⟩)) := by
  refine S.cx.by (S.prog ▸ Tryz.func105) rfl rfl rfl rfl (fun hv ho => ?_)
  cbv
  refine ACall.testD (dp := false) (specAftersOk_c S ages used list) .go rfl (fun hok => ?_) (fun hok => ?_) <;> cbv
  rotate_left
  · exact Done.isA (r := rAB A) (x := (afters0, false)) (if_neg hok)
  have b1 : ages.length <= 64 := hok.1.1.2
  have b2 : used.length = ages.length := hok.1.2.1
  have b3 : list.length = usedN used := hok.2.1
  have b4 := usedN_le used
  have b5 : ages.length <= 4294967296 := by omega
  have b6 : used.length <= 4294967296 := by omega
  have b7 : list.length <= 4294967296 := by omega
  refine ALoop.goS (ι := Int) (fun i => [(6, .int .i64 i)]) [] (fun i => []) (fun i => 0 <= i /\ Upto (fun _ x => ¬ (x.handle = ⟨slot, age⟩ /\ x.queued = false /\ age < 1000000)) list i) (fun i => (list.length - i).toNat) (0) S.cx.tab S.cx.mix S.eq ?_ ?_ ?_
  · exact ⟨Int.le_refl _, .zero⟩
  · (cbv; exact Less.toA [])
  rintro i ⟨h0, hu⟩
  refine Rnd.mk ?_; cbv
  refine LenR.nat S.cx (fun L hL hm => ?_); cbv
  refine Test.lss (fun h => ?_) (fun h => ?_) <;> cbv
  · try (refine Drawn.mk ⟨by kernel_rfl, fun _ => ?_⟩)
    refine ElemRo.enc S.cx (fun _ => rfl) (by lia) (by lia) (fun x hx => ?_); cbv
    have hgo : ¬ (x.handle = ⟨slot, age⟩ /\ x.queued = false /\ age < 1000000) -> ∀ i', i' = i + 1 -> 0 <= i' /\ Upto (fun _ x => ¬ (x.handle = ⟨slot, age⟩ /\ x.queued = false /\ age < 1000000)) list i' := fun hn i' hi' => ⟨by omega, hu.next h0 hx hn hi'⟩
    refine ⟨⟨by rw [S.prog]; kernel_rfl⟩, SEq.go (fun h1 => ?_) (fun h1 => ?_)⟩ <;> cbv
    rotate_left
    · refine Arith.go (by lia) (fun i' hi' => ?_); cbv
      refine Again.on i' (by lia) (hgo (fun e => h1 (by obtain ⟨e, _⟩ := e; injection e with e1 e2; rw [e1, e2])) i' hi') ?_
      (cbv; exact Less.toA [])
    have hh : x.handle = ⟨slot, age⟩ := by
      injection h1 with h1 h2; injection h1 with _ h1; injection h2 with h2 _; injection h2 with _ h2
      simp [After.handle, h1, h2]
    refine ElemRo.at S.cx (x := x) rfl h0 hx ?_
    obtain ⟨xs, xa, xn, xf, xq⟩ := x
    cbv
    cases xq <;> cbv
    rotate_left
    · refine Arith.go (by lia) (fun i' hi' => ?_); cbv
      refine Again.on i' (by lia) (hgo (fun e => by have := e.2.1; cases this) i' hi') ?_
      (cbv; exact Less.toA [])
    refine Test.lss (fun h2 => ?_) (fun h2 => ?_) <;> cbv
    rotate_left
    · refine Arith.go (by lia) (fun i' hi' => ?_); cbv
      refine Again.on i' (by lia) (hgo (fun e => by have := e.2.2; omega) i' hi') ?_
      (cbv; exact Less.toA [])
    have hxx := hx
    have hA := hok.get (a := ⟨⟨ages, used⟩, list⟩) hxx
    have hD : (Drop ⟨ages, used⟩ (⟨slot, age⟩ : Handle)).2 = true := by
      have := hA.1
      rw [hh] at this
      rw [Drop, if_pos ⟨this, by dsimp only; omega⟩]
    have hC : CallOff ⟨⟨ages, used⟩, list⟩ ⟨slot, age⟩ = (⟨(Drop ⟨ages, used⟩ (⟨slot, age⟩ : Handle)).1, list.eraseIdx i.toNat⟩, true) := by
      rw [callOff_at (a := ⟨⟨ages, used⟩, list⟩) hxx hh fun j y hj hy e => hA.2.2.2 y (mem_take_at hy hj) (e.trans hh.symm), if_pos rfl, remove_some (a := ⟨⟨ages, used⟩, list⟩) hxx, hh, if_pos hD]
    refine ACall.valN (r := rA A) (os := fun _ => []) (dp := false) S.cx (l8Away_c S ages used list hok i h0 _ hxx) .go rfl (fun ln hln x hx => ⟨rfl, ?_⟩)
    obtain ⟨⟨ages2, used2⟩, list2⟩ := x
    cbv
    have hN2 := hln cInt64 ages2
    generalize ln (A.enc cInt64 ages2) = N2 at hN2 ⊢
    have hM2 := hln cBool used2
    generalize ln (A.enc cBool used2) = M2 at hM2 ⊢
    have hK2 := hln cAfter list2
    generalize ln (A.enc cAfter list2) = K2 at hK2 ⊢
    have hx9 : (⟨⟨ages2, used2⟩, list2⟩ : Afters) = ⟨(Drop ⟨ages, used⟩ (⟨slot, age⟩ : Handle)).1, list.eraseIdx i.toNat⟩ := by rw [<- hh]; assumption
    exact Done.isA (r := rAB A) (x := (⟨⟨ages2, used2⟩, list2⟩, true)) ((if_pos hok).trans (by rw [hC, hx9]))
  · have hall := hu.mem (by lia)
    have hC : CallOff ⟨⟨ages, used⟩, list⟩ ⟨slot, age⟩ = (⟨⟨ages, used⟩, list⟩, false) := by
      rcases afterAt_spec list ⟨slot, age⟩ with ⟨hr0, ⟨x, hx, hxh⟩, hru⟩ | ⟨_, hn⟩
      · have hA := hok.get (a := ⟨⟨ages, used⟩, list⟩) hx
        rw [callOff_at (a := ⟨⟨ages, used⟩, list⟩) hx hxh fun j y hj hy => hru j y (by omega) hy]
        split
        · rename_i hq
          rw [remove_some (a := ⟨⟨ages, used⟩, list⟩) hx, if_neg]
          intro hD
          have hn := hall x (mem_at hx)
          have hage : ¬ age < 1000000 := fun e => hn ⟨hxh, hq, e⟩
          rw [hxh] at hD
          have hH := hA.1
          rw [hxh] at hH
          have hle := (hok.1.2.2 age (mem_at hH.2.2)).2
          rw [Drop, if_neg (fun e => e.2 (by dsimp only; omega))] at hD
          cases hD
        · rfl
      · exact callOff_none (a := ⟨⟨ages, used⟩, list⟩) hn
    refine ACall.valN (r := rA A) (os := fun _ => []) (dp := false) S.cx (l8Copy_c S ages used list b5 b6 b7) .go rfl (fun ln hln x hx => ⟨rfl, ?_⟩)
    obtain ⟨⟨ages', used'⟩, list'⟩ := x
    cases hx
    cbv
    have hN := hln cInt64 ages
    generalize ln (A.enc cInt64 ages) = N at hN ⊢
    have hM := hln cBool used
    generalize ln (A.enc cBool used) = M at hM ⊢
    have hK := hln cAfter list
    generalize ln (A.enc cAfter list) = K at hK ⊢
    exact Done.isA (r := rAB A) (x := (⟨⟨ages, used⟩, list⟩, false)) ((if_pos hok).trans hC)

end Go.Proofs.YtihfpbhalnedcaaGreat.AM
