/- Contracts: deferred functions registered. (printed by ga4.py) -/
import Derived.Test.YtihfpbhalnedcaaGreatA3
import Derived.Test.YtihfpbhalnedcaaGreatQ3
set_option linter.unusedVariables false
set_option linter.unusedSimpArgs false
namespace Go.Proofs.YtihfpbhalnedcaaGreat.AM
open Go Go.Proofs

set_option maxRecDepth 100000
set_option maxHeartbeats 4000000

variable {P : Program} {A : Sy}

def Register (a : Afters) (node fn : Int) : Afters × Handle × Bool :=
  if ((0 <= node /\ node <= 59) /\ 0 <= fn /\ fn <= 99) /\ (Take a.slots).2.2 = true then (⟨(Take a.slots).1, a.list ++ [⟨(Take a.slots).2.1.slot, (Take a.slots).2.1.age, node, fn, false⟩]⟩, (Take a.slots).2.1, true) else (a, handle0, false)
def Registered (a : Afters) (node fn : Int) : Afters × Handle × Bool := if AftersOk a then Register a node fn else (afters0, handle0, false)
def rHB3 (x : Afters × Handle × Bool) : AV := .tup [.agg (cHandle x.2.1), .bool x.2.2]
def oA3 (A : Sy) (x : Afters × Handle × Bool) : List (Option Obj) := [some (.box (ownAfters A x.1))]
def rAHB (A : Sy) (x : Afters × Handle × Bool) : AV := .tup [.agg (ownAfters A x.1), .agg (cHandle x.2.1), .bool x.2.2]

theorem take_stay {s : Slots} (h : (Take s).2.2 = false) : Take s = (s, handle0, false) := by
  unfold Take at h ⊢
  split at h
  · cases h
  · rfl
theorem take_len (s : Slots) : (Take s).1.ages.length = s.ages.length /\ (Take s).1.used.length = s.used.length := by
  unfold Take; split <;> simp

theorem register_c (S : Se P A) (ages : List Int) (used : List Bool) (list : List After) (hl : used.length = ages.length) (hb : list.length <= 4294967200) (node fn : Int) : SoundM P 111 false [.ptr 1000 0 0, .int .i64 node, .int .i64 fn] [.box (ownAfters A ⟨⟨ages, used⟩, list⟩)]
    (fun v os => v = rHB3 (Register ⟨⟨ages, used⟩, list⟩ node fn) /\ os = oA3 A (Register ⟨⟨ages, used⟩, list⟩ node fn)) := by
  refine S.cx.byN (S.prog ▸ Tryz.func111) rfl rfl rfl rfl (fun ln hln hv ho => ?_)
  cbv
  have hN := hln cInt64 ages
  generalize ln (A.enc cInt64 ages) = N at hN ⊢
  have hM := hln cBool used
  generalize ln (A.enc cBool used) = M at hM ⊢
  have hK := hln cAfter list
  generalize ln (A.enc cAfter list) = K at hK ⊢
  refine ACall.testD (dp := false) (isAfter_c S node fn) .go rfl (fun h => ?_) (fun h => ?_) <;> cbv
  rotate_left
  · rw [Register, if_neg (fun e => h e.1)]
    exact Done.toA (rHB3 (⟨⟨ages, used⟩, list⟩, handle0, false)) (oA3 A (⟨⟨ages, used⟩, list⟩, handle0, false)) ⟨rfl, rfl⟩
  refine ACall.valN (r := rHB) (os := oHB A) (dp := false) S.cx (take_c S ages used N M hN hM hl) .go rfl (fun ln hln x hx => ⟨rfl, ?_⟩)
  obtain ⟨⟨ages', used'⟩, ⟨slot, age⟩, b⟩ := x
  cbv
  have hlen := take_len ⟨ages, used⟩
  have hx2 : Take ⟨ages, used⟩ = (⟨ages', used'⟩, ⟨slot, age⟩, b) := hx.symm
  rw [hx2] at hlen
  dsimp only at hlen
  have hN' : N = ages'.length := by omega
  have hM' : M = used'.length := by omega
  cases b <;> cbv
  · have hst := take_stay (s := ⟨ages, used⟩) (by rw [hx2])
    rw [Register, if_neg (fun e => by have := e.2; dsimp only at this; rw [hx2] at this; cases this)]
    have e := hx2.symm.trans hst
    injection e with e1 e2
    injection e1 with e1 e1'
    injection e2 with e2 _
    injection e2 with e2 e2'
    exact Done.toA (rHB3 (⟨⟨ages', used'⟩, list⟩, ⟨slot, age⟩, false)) (oA3 A (⟨⟨ages', used'⟩, list⟩, ⟨slot, age⟩, false)) ⟨by rw [e2, e2']; rfl, by rw [e1, e1']; rfl⟩
  try (refine Drawn.mk ⟨by kernel_rfl, fun _ => ?_⟩)
  refine Part.one ?_; cbv
  refine AppRef.push S.cx (⟨slot, age, node, fn, false⟩ : After) (by assumption) rfl rfl plainAfter (fun _ => rfl) (by simp only [maxBytes]; omega) (fun m w hw hml => ?_); cbv
  have hR : Register ⟨⟨ages, used⟩, list⟩ node fn = (⟨⟨ages', used'⟩, w⟩, ⟨slot, age⟩, true) := by rw [Register, if_pos ⟨h, by rw [hx2]⟩, hx2, hw]
  rw [hR]
  exact Done.toA (rHB3 (⟨⟨ages', used'⟩, w⟩, ⟨slot, age⟩, true)) (oA3 A (⟨⟨ages', used'⟩, w⟩, ⟨slot, age⟩, true)) ⟨rfl, rfl⟩

theorem specRegistered_c (S : Se P A) (ages : List Int) (used : List Bool) (list : List After) (node fn : Int) : Is1 P 108 [.agg (roAfters A ⟨⟨ages, used⟩, list⟩), .int .i64 node, .int .i64 fn] (rAHB A (Registered ⟨⟨ages, used⟩, list⟩ node fn)) := by
  refine S.cx.by (S.prog ▸ Tryz.func108) rfl rfl rfl rfl (fun hv ho => ?_)
  cbv
  refine ACall.testD (dp := false) (specAftersOk_c S ages used list) .go rfl (fun hok => ?_) (fun hok => ?_) <;> cbv
  rotate_left
  · exact Done.isA (r := rAHB A) (x := (afters0, handle0, false)) (if_neg hok)
  have b1 : ages.length <= 64 := hok.1.1.2
  have b2 : used.length = ages.length := hok.1.2.1
  have b3 : list.length = usedN used := hok.2.1
  have b4 := usedN_le used
  have b5 : ages.length <= 4294967296 := by omega
  have b6 : used.length <= 4294967296 := by omega
  have b7 : list.length <= 4294967296 := by omega
  refine ACall.valN (r := rA A) (os := fun _ => []) (dp := false) S.cx (l8Copy_c S ages used list b5 b6 b7) .go rfl (fun ln hln x hx => ⟨rfl, ?_⟩)
  obtain ⟨⟨ages', used'⟩, list'⟩ := x
  cases hx
  cbv
  have hN := hln cInt64 ages
  generalize ln (A.enc cInt64 ages) = N at hN ⊢
  have hM := hln cBool used
  generalize ln (A.enc cBool used) = M at hM ⊢
  have hK := hln cAfter list
  generalize ln (A.enc cAfter list) = K at hK ⊢
  refine ACall.valN (r := rSHB A) (os := fun _ => []) (dp := false) S.cx (specTaken_c S ages used) .go rfl (fun ln hln x hx => ⟨rfl, ?_⟩)
  obtain ⟨⟨ages2, used2⟩, ⟨slot, age⟩, b⟩ := x
  cbv
  have hN2 := hln cInt64 ages2
  generalize ln (A.enc cInt64 ages2) = N2 at hN2 ⊢
  have hM2 := hln cBool used2
  generalize ln (A.enc cBool used2) = M2 at hM2 ⊢
  have hx2 : Take ⟨ages, used⟩ = (⟨ages2, used2⟩, ⟨slot, age⟩, b) := (if_pos hok.1).symm.trans hx.symm
  cases b <;> cbv
  · exact Done.isA (r := rAHB A) (x := (⟨⟨ages, used⟩, list⟩, handle0, false)) ((if_pos hok).trans (if_neg (fun e => by have := e.2; dsimp only at this; rw [hx2] at this; cases this)))
  refine ACall.testD (dp := false) (l1In_c S node _ _) .go rfl (fun h1 => ?_) (fun h1 => ?_) <;> cbv
  rotate_left
  · exact Done.isA (r := rAHB A) (x := (⟨⟨ages, used⟩, list⟩, handle0, false)) ((if_pos hok).trans (if_neg (fun e => h1 e.1.1)))
  refine ACall.testD (dp := false) (l1In_c S fn _ _) .go rfl (fun h2 => ?_) (fun h2 => ?_) <;> cbv
  rotate_left
  · exact Done.isA (r := rAHB A) (x := (⟨⟨ages, used⟩, list⟩, handle0, false)) ((if_pos hok).trans (if_neg (fun e => h2 e.1.2)))
  refine Part.one ?_; cbv
  refine AppRef.push S.cx (⟨slot, age, node, fn, false⟩ : After) (by assumption) rfl rfl plainAfter (fun _ => rfl) (by simp only [maxBytes]; omega) (fun m w hw hml => ?_); cbv
  try (refine Drawn.mk ⟨by kernel_rfl, fun _ => ?_⟩)
  exact Done.isA (r := rAHB A) (x := (⟨⟨ages2, used2⟩, w⟩, ⟨slot, age⟩, true)) ((if_pos hok).trans ((if_pos ⟨⟨h1, h2⟩, by rw [hx2]⟩).trans (by rw [hx2, hw])))

end Go.Proofs.YtihfpbhalnedcaaGreat.AM
