/- Contracts: new worlds. (printed by gw20.py) -/
import Derived.Test.YtgooambndfkgkaaGreatW8
import Derived.Test.YtgooambndfkgkaaGreatW9
namespace Go.Proofs.YtgooambndfkgkaaGreat.AM
open Go Go.Proofs

set_option maxRecDepth 100000
set_option maxHeartbeats 4000000
set_option linter.unusedVariables false
set_option linter.unusedSimpArgs false

variable {P : Program} {A : Sy}

theorem plainIns : Plain cIns := fun _ => rfl
def rIns (A : Sy) (l : List Ins) : AV := .own 3 true (A.enc cIns l)

theorem cloneIns_c (S : Se P A) (l : List Ins) (hb : l.length ≤ 4294967296) : Is1 P 126 [.ro (A.enc cIns l)] (rIns A l) := by
  refine S.cx.by (S.prog ▸ Tryz.func126) rfl rfl rfl rfl (fun hv ho => ?_)
  cbv
  refine NilT.ro S.cx (fun h => ?_) ?_ <;> cbv
  · subst h
    exact Done.is (r := rIns A) (x := []) (by repeat' (first | exact trivial | exact rfl | exact S.ra rfl ‹_› | exact S.rb rfl | exact S.rc rfl ‹_› | exact S.rd rfl ‹_› | exact S.gh | exact S.re rfl ‹_› | exact S.rf rfl ‹_› | exact S.rg rfl ‹_› | exact Nat.le_refl _ | exact S.cx.enc _ _ | exact (S.cx.enc _ _).symm | refine ⟨?_, ?_⟩)) rfl (rfl)
  · refine AppNew.enc S.cx plainIns (.inr (.inr trivial)) (fun _ => rfl) (by simp only [maxBytes]; omega) (fun n hn => ?_); cbv
    exact Done.is (r := rIns A) (x := l) (by repeat' (first | exact trivial | exact rfl | exact S.ra rfl ‹_› | exact S.rb rfl | exact S.rc rfl ‹_› | exact S.rd rfl ‹_› | exact S.gh | exact S.re rfl ‹_› | exact S.rf rfl ‹_› | exact S.rg rfl ‹_› | exact Nat.le_refl _ | exact S.cx.enc _ _ | exact (S.cx.enc _ _).symm | refine ⟨?_, ?_⟩)) rfl (rfl)

theorem AppRef.pushF {T : Nat → Option TI} (C : Cx P T A) {α : Type} {f : α → List AV} {l : List α} (x : α) {ys : List (List AV)} {p : Bool} {len s size bytes : Nat} {K : Bool → Nat → List (List AV) → Prop} (hN : len = l.length) (hy : ys = [f x]) (hs : s = size) (hsz : (f x).length = size) (ho : ∀ v ∈ f x, v.isOwn = false) (hb : (l.length + 1) * bytes ≤ maxBytes)
    (h : ∀ (n : Nat) (l' : List α), l' = l ++ [x] → n = l'.length → K false n (A.enc f l')) : AppRef .raw false p 0 len s size bytes (A.enc f l) ys K := by
  subst hy
  refine ⟨hs, fun r hr v hv => ?_, fun r hr => ?_, .inl ⟨by rw [C.lenE']; omega, ?_, ?_⟩⟩
  · rw [List.mem_singleton.1 hr] at hv; exact ho v hv
  · rw [List.mem_singleton.1 hr]; exact hsz
  · rw [hN]; exact hb
  · have := h (len + 1) (l ++ [x]) rfl (by rw [hN]; simp)
    rw [C.enc, List.map_append] at this
    rw [List.drop_zero, hN, ← C.lenE' f l, List.take_length, C.enc]
    rw [hN] at this
    simpa using this

theorem noRefsNil : noRefs [] := fun _ h => nomatch h

theorem clonedProgs_c (S : Se P A) (l : List (List Ins)) (hb : l.length ≤ 1048576) (hb2 : ∀ p ∈ l, p.length ≤ 1048576) : Is1 P 30 [.ro (A.enc (roProg A) l)] (.own 1 false (A.enc (ownProg A) l)) := by
  refine S.cx.by (S.prog ▸ Tryz.func30) rfl rfl rfl rfl (fun hv ho => ?_)
  cbv
  refine LenR.nat S.cx (fun n hn hm => ?_); cbv
  refine ALoop.pre (Less.initE S.cx (cPC A) 999000000 1 false (t := 3) rfl (by first | exact .inr rfl | exact .inl rfl) rfl) ?_
  cbv
  refine ALoop.goS (ι := Int × List PC × Nat) (fun i => [(9, .int .i64 i.1), (3, .ref false 999000000 0 i.2.2)]) [999000000] (fun i => [(999000000, .arr 1 false (A.enc (cPC A) i.2.1))]) (fun i => 0 ≤ i.1 ∧ i.1.toNat ≤ l.length ∧ i.2.2 = i.2.1.length ∧ i.2.1 = (l.take i.1.toNat).map PC.own) (fun i => (l.length - i.1.toNat)) ((0, [], 0)) S.cx.tab S.cx.mix S.eq ?_ ?_ ?_
  · exact ⟨Int.le_refl _, Nat.zero_le _, rfl, rfl⟩
  · (cbv; refine Less.to [] rfl rfl ?_ ?_ <;> repeat' (first | exact trivial | exact ⟨rfl, rfl⟩ | exact ⟨_, rfl, Nat.zero_le _, rfl⟩ | apply And.intro | exact rfl))
    · exact noRefsPC S.cx (fun x hx => by cases hx)
    · exact noRefsNil
  rintro ⟨i, m, k⟩ ⟨h1, h2, h3, h4⟩
  dsimp only at h1 h2 h3 h4
  have hml : m.length = i.toNat := by rw [h4]; simp; omega
  refine Rnd.mk ?_; cbv
  refine Test.lss (fun h => ?_) (fun h => ?_) <;> cbv
  · refine ElemRo.enc S.cx (fun _ => rfl) (by lia) (by lia) (fun x hx => ?_); cbv
    refine ACall.valN (r := rIns A) (os := fun _ => []) (dp := false) S.cx (cloneIns_c S x (Nat.le_trans (hb2 x (mem_at hx)) (by decide))) (.of rfl (by repeat' (first | exact trivial | exact rfl | exact Nat.le_refl _ | exact S.ga | exact S.gb ‹_› | exact S.gc ‹_› | exact S.gd | exact S.ge | exact S.gf ‹_› | exact S.gg ‹_› | exact S.gh | exact .inl rfl | exact S.gi ‹_› | exact S.gj ‹_› | exact S.gk | exact S.gl | exact Nat.le_refl _ | exact S.cx.enc _ _ | exact (S.cx.enc _ _).symm | refine ⟨?_, ?_⟩))) rfl (fun ln hln x0 hx => ⟨rfl, ?_⟩)
    cases hx
    cbv
    have hq := hln cIns x
    generalize ln (A.enc cIns x) = q at hq ⊢
    refine Part.one ?_; cbv
    refine AppRef.pushF S.cx (PC.ref 6020000 q) h3 rfl rfl rfl (fun v hv => by rw [List.mem_singleton.1 hv]; rfl) (by simp only [maxBytes]; omega) (fun n' m' hm' hn' => ?_); cbv
    refine Arith.go (by omega) (fun i' hi' => ?_); cbv
    replace hi' : i' = i + 1 := hi'
    obtain ⟨m2, hm2⟩ : ∃ m2, m2 = m'.set i.toNat (PC.own x) := ⟨_, rfl⟩
    have hmx : m'[i.toNat]? = some (PC.ref 6020000 q) := by rw [hm', ← hml]; simp
    have hm3 : m2 = (l.take i'.toNat).map PC.own := by
      rw [hm2, hm', show i'.toNat = i.toNat + 1 by omega, take_next hx, List.map_append, ← h4, ← hml]
      simp
    refine Again.on (i', m2, n') (by dsimp only; omega) ⟨by dsimp only; omega, by dsimp only; have := lt_of_get hx; omega, by dsimp only; rw [hn', set_len hm2], hm3⟩ ?_
    refine Less.trans (Less.fold S.cx (id := 6040000) (L := 6020000) (i := i.toNat) (j := 0) (m := m') (PC.ref 6020000 q) (PC.own x) rfl hmx rfl rfl hq rfl rfl hm2) ?_
    (cbv; refine Less.to [(999000000, (6040000, 0))] rfl rfl ?_ ?_ <;> repeat' (first | exact trivial | exact ⟨rfl, rfl⟩ | exact ⟨_, rfl, Nat.zero_le _, rfl⟩ | apply And.intro | exact rfl))
    · exact noRefsPC S.cx (fun c hc => by rw [hm3] at hc; obtain ⟨_, _, rfl⟩ := List.mem_map.1 hc; trivial)
    · exact noRefsNil
  · have e : m = l.map PC.own := by rw [h4, take_all (by omega)]
    subst e
    exact Done.to _ [] rfl (resOwnF1 S.cx fre_ownProg (by show some (Obj.arr 1 false (A.enc (cPC A) (l.map PC.own))) = _; rw [encPC S.cx]) (by rw [h3]; simp)) trivial ⟨rfl, rfl⟩

theorem l13CopyProgs_c (S : Se P A) (l : List (List Ins)) (hb : l.length ≤ 1048576) (hb2 : ∀ p ∈ l, p.length ≤ 1048576) : Is1 P 33 [.ro (A.enc (roProg A) l)] (.own 1 false (A.enc (ownProg A) l)) := by
  refine S.cx.by (S.prog ▸ Tryz.func33) rfl rfl rfl rfl (fun hv ho => ?_)
  cbv
  refine ALoop.pre (Less.initE S.cx (cPC A) 999000000 1 false (t := 3) rfl (by first | exact .inr rfl | exact .inl rfl) rfl) ?_
  cbv
  refine ALoop.goS (ι := Int × List PC × Nat) (fun i => [(4, .int .i64 i.1), (3, .ref false 999000000 0 i.2.2)]) [999000000] (fun i => [(999000000, .arr 1 false (A.enc (cPC A) i.2.1))]) (fun i => 0 ≤ i.1 ∧ i.1.toNat ≤ l.length ∧ i.2.2 = i.2.1.length ∧ i.2.1 = (l.take i.1.toNat).map PC.own) (fun i => (l.length - i.1.toNat)) ((0, [], 0)) S.cx.tab S.cx.mix S.eq ?_ ?_ ?_
  · exact ⟨Int.le_refl _, Nat.zero_le _, rfl, rfl⟩
  · (cbv; refine Less.to [] rfl rfl ?_ ?_ <;> repeat' (first | exact trivial | exact ⟨rfl, rfl⟩ | exact ⟨_, rfl, Nat.zero_le _, rfl⟩ | apply And.intro | exact rfl))
    · exact noRefsPC S.cx (fun x hx => by cases hx)
    · exact noRefsNil
  rintro ⟨i, m, k⟩ ⟨h1, h2, h3, h4⟩
  dsimp only at h1 h2 h3 h4
  have hml : m.length = i.toNat := by rw [h4]; simp; omega
  refine Rnd.mk ?_; cbv
  refine LenR.nat S.cx (fun n hn hm => ?_); cbv
  refine Test.lss (fun h => ?_) (fun h => ?_) <;> cbv
  · refine ElemRo.enc S.cx (fun _ => rfl) (by lia) (by lia) (fun x hx => ?_); cbv
    have hxb := hb2 x (mem_at hx)
    refine AppNew.enc S.cx plainIns (.inr (.inr trivial)) (fun _ => rfl) (by simp only [maxBytes]; omega) (fun q hq => ?_); cbv
    refine Part.one ?_; cbv
    refine AppRef.pushF S.cx (PC.ref 6060000 q) h3 rfl rfl rfl (fun v hv => by rw [List.mem_singleton.1 hv]; rfl) (by simp only [maxBytes]; omega) (fun n' m' hm' hn' => ?_); cbv
    refine Arith.go (by omega) (fun i' hi' => ?_); cbv
    replace hi' : i' = i + 1 := hi'
    obtain ⟨m2, hm2⟩ : ∃ m2, m2 = m'.set i.toNat (PC.own x) := ⟨_, rfl⟩
    have hmx : m'[i.toNat]? = some (PC.ref 6060000 q) := by rw [hm', ← hml]; simp
    have hm3 : m2 = (l.take i'.toNat).map PC.own := by
      rw [hm2, hm', show i'.toNat = i.toNat + 1 by omega, take_next hx, List.map_append, ← h4, ← hml]
      simp
    refine Again.on (i', m2, n') (by dsimp only; omega) ⟨by dsimp only; omega, by dsimp only; have := lt_of_get hx; omega, by dsimp only; rw [hn', set_len hm2], hm3⟩ ?_
    refine Less.trans (Less.fold S.cx (id := 6080000) (L := 6060000) (i := i.toNat) (j := 0) (m := m') (PC.ref 6060000 q) (PC.own x) rfl hmx rfl rfl hq rfl rfl hm2) ?_
    (cbv; refine Less.to [(999000000, (6080000, 0))] rfl rfl ?_ ?_ <;> repeat' (first | exact trivial | exact ⟨rfl, rfl⟩ | exact ⟨_, rfl, Nat.zero_le _, rfl⟩ | apply And.intro | exact rfl))
    · exact noRefsPC S.cx (fun c hc => by rw [hm3] at hc; obtain ⟨_, _, rfl⟩ := List.mem_map.1 hc; trivial)
    · exact noRefsNil
  · have e : m = l.map PC.own := by rw [h4, take_all (by omega)]
    subst e
    exact Done.to _ [] rfl (resOwnF1 S.cx fre_ownProg (by show some (Obj.arr 1 false (A.enc (cPC A) (l.map PC.own))) = _; rw [encPC S.cx]) (by rw [h3]; simp)) trivial ⟨rfl, rfl⟩

def newSlots (n : Int) : Slots := ⟨List.replicate n.toNat 0, List.replicate n.toNat false⟩
def NewSlots (n : Int) : Slots × Bool := if 1 ≤ n ∧ n ≤ 64 then (newSlots n, true) else (slots0, false)
def NewAfters (n : Int) : Afters × Bool := if 1 ≤ n ∧ n ≤ 64 then (⟨newSlots n, []⟩, true) else (afters0, false)
def rAfB (A : Sy) (x : Afters × Bool) : AV := .tup [.agg (ownAfters A x.1), .bool x.2]
def newWorld (progs : List (List Ins)) (n : Int) : World := ⟨0, progs, [⟨0, -1, 9223372036854775807, 0, 0⟩], [], ⟨[false], []⟩, ⟨[], [], 0⟩, ⟨newSlots n, []⟩, [], [], [], [], []⟩
def NewFits (progs : List (List Ins)) (n : Int) : Prop := (1 ≤ n ∧ n ≤ 64) ∧ progs.length ≤ 8 ∧ ∀ p ∈ progs, ProgOk p
instance (progs : List (List Ins)) (n : Int) : Decidable (NewFits progs n) := by unfold NewFits; infer_instance
def NewWorld (progs : List (List Ins)) (n : Int) : World × Bool := if NewFits progs n then (newWorld progs n, true) else (world0, false)
def rWB (A : Sy) (x : World × Bool) : AV := .tup [.agg (ownWorld A x.1), .bool x.2]

theorem usedN_replicate (n : Nat) : usedN (List.replicate n false) = 0 := by
  unfold usedN
  rw [List.filter_replicate]
  rfl

theorem worldOk_new {progs : List (List Ins)} {n : Int} (h : NewFits progs n) : WorldOk (newWorld progs n) := by
  obtain ⟨h1, h2, h3⟩ := h
  have hr : TreeOk [⟨0, -1, 9223372036854775807, 0, 0⟩] := .of (by decide) (fun j x hx => by
    cases j with
    | zero => cases hx; exact ⟨by decide, .inr rfl, .inl ⟨rfl, rfl⟩, .inr ⟨by decide, rfl, rfl⟩⟩
    | succ j => cases hx)
  have hs : SlotsOk (newSlots n) := ⟨by simp only [newSlots, List.length_replicate]; omega, by simp [newSlots], fun a ha => by
    rw [List.eq_of_mem_replicate ha]; decide⟩
  refine ⟨Int.le_refl _, ⟨h2, h3⟩, ⟨hr, by simp [newWorld]⟩, ⟨rfl, Nat.zero_le _, by simp [newWorld]⟩, by simp [newWorld], ⟨⟨⟨Int.le_refl _, by show (0 : Int) ≤ 1000000; decide⟩, Nat.zero_le _, ⟨Nat.zero_le _, by simp [newWorld], ⟨.nil, trivial, rfl⟩⟩, by simp [newWorld], .nil, rfl, by simp [newWorld]⟩, by simp [newWorld]⟩, ⟨⟨hs, ?_, by simp [newWorld]⟩, by simp [newWorld]⟩,
    ⟨⟨Nat.zero_le _, by simp [newWorld]⟩, by simp [newWorld]⟩, ⟨Nat.zero_le _, by simp [newWorld]⟩, ⟨Nat.zero_le _, by simp [newWorld]⟩, ⟨Nat.zero_le _, by simp [newWorld]⟩, ⟨Nat.zero_le _, by simp [newWorld]⟩⟩
  show ([] : List After).length = usedN (newSlots n).used
  rw [newSlots, usedN_replicate]; rfl

theorem implNewSlots_c (S : Se P A) (n : Int) : Is1 P 125 [.int .i64 n] (rSB A (NewSlots n)) := by
  refine S.cx.by (S.prog ▸ Tryz.func125) rfl rfl rfl rfl (fun hv ho => ?_)
  cbv
  refine ACall.testD (dp := false) (within_c S n 1 64) (.of rfl (by repeat' (first | exact trivial | exact rfl | exact Nat.le_refl _ | exact S.ga | exact S.gb ‹_› | exact S.gc ‹_› | exact S.gd | exact S.ge | exact S.gf ‹_› | exact S.gg ‹_› | exact S.gh | exact .inl rfl | exact S.gi ‹_› | exact S.gj ‹_› | exact S.gk | exact S.gl | exact Nat.le_refl _ | exact S.cx.enc _ _ | exact (S.cx.enc _ _).symm | refine ⟨?_, ?_⟩))) rfl (fun h => ?_) (fun h => ?_) <;> cbv
  rotate_left
  · exact Done.is (r := rSB A) (x := (slots0, false)) (by repeat' (first | exact trivial | exact rfl | exact S.ra rfl ‹_› | exact S.rb rfl | exact S.rc rfl ‹_› | exact S.rd rfl ‹_› | exact S.gh | exact S.re rfl ‹_› | exact S.rf rfl ‹_› | exact S.rg rfl ‹_› | exact Nat.le_refl _ | exact S.cx.enc _ _ | exact (S.cx.enc _ _).symm | refine ⟨?_, ?_⟩)) rfl (if_neg h)
  try (refine Drawn.mk ⟨by kernel_rfl, fun _ => ?_⟩)
  refine MakeS.enc S.cx (f := cInt64) (0 : Int) rfl (by omega) (by simp only [maxBytes]; omega) (fun N z hN hz => ?_); cbv
  refine MakeS.enc S.cx (f := cBool) (false : Bool) rfl (by omega) (by simp only [maxBytes]; omega) (fun M z2 hM hz2 => ?_); cbv
  have hz1 : N = z.length := by rw [hz]; simp
  have hz3 : M = z2.length := by rw [hz2]; simp
  have hNn : N = n.toNat := by lia
  have hMn : M = n.toNat := by lia
  exact Done.is (r := rSB A) (x := (⟨z, z2⟩, true)) (by repeat' (first | exact trivial | exact rfl | exact S.ra rfl ‹_› | exact S.rb rfl | exact S.rc rfl ‹_› | exact S.rd rfl ‹_› | exact S.gh | exact S.re rfl ‹_› | exact S.rf rfl ‹_› | exact S.rg rfl ‹_› | exact Nat.le_refl _ | exact S.cx.enc _ _ | exact (S.cx.enc _ _).symm | refine ⟨?_, ?_⟩)) rfl (by rw [NewSlots, if_pos h, newSlots, hz, hz2, hNn, hMn])

theorem implNewAfters_c (S : Se P A) (n : Int) : Is1 P 29 [.int .i64 n] (rAfB A (NewAfters n)) := by
  refine S.cx.by (S.prog ▸ Tryz.func29) rfl rfl rfl rfl (fun hv ho => ?_)
  cbv
  refine ACall.valN (r := rSB A) (os := fun _ => []) (dp := false) S.cx (implNewSlots_c S n) (.of rfl (by repeat' (first | exact trivial | exact rfl | exact Nat.le_refl _ | exact S.ga | exact S.gb ‹_› | exact S.gc ‹_› | exact S.gd | exact S.ge | exact S.gf ‹_› | exact S.gg ‹_› | exact S.gh | exact .inl rfl | exact S.gi ‹_› | exact S.gj ‹_› | exact S.gk | exact S.gl | exact Nat.le_refl _ | exact S.cx.enc _ _ | exact (S.cx.enc _ _).symm | refine ⟨?_, ?_⟩))) rfl (fun ln hln x hx => ⟨rfl, ?_⟩)
  obtain ⟨⟨ages, used⟩, b⟩ := x
  cbv
  have hN := hln cInt64 ages
  generalize ln (A.enc cInt64 ages) = N at hN ⊢
  have hM := hln cBool used
  generalize ln (A.enc cBool used) = M at hM ⊢
  exact Done.is (r := rAfB A) (x := (⟨⟨ages, used⟩, []⟩, b)) (by repeat' (first | exact trivial | exact rfl | exact S.ra rfl ‹_› | exact S.rb rfl | exact S.rc rfl ‹_› | exact S.rd rfl ‹_› | exact S.gh | exact S.re rfl ‹_› | exact S.rf rfl ‹_› | exact S.rg rfl ‹_› | exact Nat.le_refl _ | exact S.cx.enc _ _ | exact (S.cx.enc _ _).symm | refine ⟨?_, ?_⟩)) rfl (by unfold NewSlots at hx; rw [NewAfters]; split at hx <;> rename_i h <;> cases hx <;> simp [h, newSlots, afters0, slots0])

theorem specNewSlots_c (S : Se P A) (n : Int) : Is1 P 127 [.int .i64 n] (rSB A (NewSlots n)) := by
  refine S.cx.by (S.prog ▸ Tryz.func127) rfl rfl rfl rfl (fun hv ho => ?_)
  cbv
  refine ACall.testD (dp := false) (l1In_c S n 1 64) (.of rfl (by repeat' (first | exact trivial | exact rfl | exact Nat.le_refl _ | exact S.ga | exact S.gb ‹_› | exact S.gc ‹_› | exact S.gd | exact S.ge | exact S.gf ‹_› | exact S.gg ‹_› | exact S.gh | exact .inl rfl | exact S.gi ‹_› | exact S.gj ‹_› | exact S.gk | exact S.gl | exact Nat.le_refl _ | exact S.cx.enc _ _ | exact (S.cx.enc _ _).symm | refine ⟨?_, ?_⟩))) rfl (fun h => ?_) (fun h => ?_) <;> cbv
  rotate_left
  · exact Done.is (r := rSB A) (x := (slots0, false)) (by repeat' (first | exact trivial | exact rfl | exact S.ra rfl ‹_› | exact S.rb rfl | exact S.rc rfl ‹_› | exact S.rd rfl ‹_› | exact S.gh | exact S.re rfl ‹_› | exact S.rf rfl ‹_› | exact S.rg rfl ‹_› | exact Nat.le_refl _ | exact S.cx.enc _ _ | exact (S.cx.enc _ _).symm | refine ⟨?_, ?_⟩)) rfl (if_neg h)
  try (refine Drawn.mk ⟨by kernel_rfl, fun _ => ?_⟩)
  refine MakeS.enc S.cx (f := cInt64) (0 : Int) rfl (by omega) (by simp only [maxBytes]; omega) (fun N z hN hz => ?_); cbv
  refine MakeS.enc S.cx (f := cBool) (false : Bool) rfl (by omega) (by simp only [maxBytes]; omega) (fun M z2 hM hz2 => ?_); cbv
  have hz1 : N = z.length := by rw [hz]; simp
  have hz3 : M = z2.length := by rw [hz2]; simp
  have hNn : N = n.toNat := by lia
  have hMn : M = n.toNat := by lia
  exact Done.is (r := rSB A) (x := (⟨z, z2⟩, true)) (by repeat' (first | exact trivial | exact rfl | exact S.ra rfl ‹_› | exact S.rb rfl | exact S.rc rfl ‹_› | exact S.rd rfl ‹_› | exact S.gh | exact S.re rfl ‹_› | exact S.rf rfl ‹_› | exact S.rg rfl ‹_› | exact Nat.le_refl _ | exact S.cx.enc _ _ | exact (S.cx.enc _ _).symm | refine ⟨?_, ?_⟩)) rfl (by rw [NewSlots, if_pos h, newSlots, hz, hz2, hNn, hMn])

theorem specNewAfters_c (S : Se P A) (n : Int) : Is1 P 31 [.int .i64 n] (rAfB A (NewAfters n)) := by
  refine S.cx.by (S.prog ▸ Tryz.func31) rfl rfl rfl rfl (fun hv ho => ?_)
  cbv
  refine ACall.valN (r := rSB A) (os := fun _ => []) (dp := false) S.cx (specNewSlots_c S n) (.of rfl (by repeat' (first | exact trivial | exact rfl | exact Nat.le_refl _ | exact S.ga | exact S.gb ‹_› | exact S.gc ‹_› | exact S.gd | exact S.ge | exact S.gf ‹_› | exact S.gg ‹_› | exact S.gh | exact .inl rfl | exact S.gi ‹_› | exact S.gj ‹_› | exact S.gk | exact S.gl | exact Nat.le_refl _ | exact S.cx.enc _ _ | exact (S.cx.enc _ _).symm | refine ⟨?_, ?_⟩))) rfl (fun ln hln x hx => ⟨rfl, ?_⟩)
  obtain ⟨⟨ages, used⟩, b⟩ := x
  cbv
  have hN := hln cInt64 ages
  generalize ln (A.enc cInt64 ages) = N at hN ⊢
  have hM := hln cBool used
  generalize ln (A.enc cBool used) = M at hM ⊢
  exact Done.is (r := rAfB A) (x := (⟨⟨ages, used⟩, []⟩, b)) (by repeat' (first | exact trivial | exact rfl | exact S.ra rfl ‹_› | exact S.rb rfl | exact S.rc rfl ‹_› | exact S.rd rfl ‹_› | exact S.gh | exact S.re rfl ‹_› | exact S.rf rfl ‹_› | exact S.rg rfl ‹_› | exact Nat.le_refl _ | exact S.cx.enc _ _ | exact (S.cx.enc _ _).symm | refine ⟨?_, ?_⟩)) rfl (by unfold NewSlots at hx; rw [NewAfters]; split at hx <;> rename_i h <;> cases hx <;> simp [h, newSlots, afters0, slots0])

theorem newAfters_not {n : Int} {x : Afters × Bool} (h : x = NewAfters n) : (x.2 = true ↔ 1 ≤ n ∧ n ≤ 64) ∧ (1 ≤ n ∧ n ≤ 64 → x.1 = ⟨newSlots n, []⟩) := by
  subst h
  unfold NewAfters
  split <;> rename_i h <;> simp [h]

theorem node1 {T : Nat → Option TI} (C : Cx P T A) (x : Node) : A.enc cNode [x] = [cNode x] := C.enc _ _
theorem bool1 {T : Nat → Option TI} (C : Cx P T A) (x : Bool) : A.enc cBool [x] = [cBool x] := C.enc _ _

--@LIT

theorem implNewWorld_c (S : Se P A) (progs : List (List Ins)) (slots : Int) (hb2 : ∀ p ∈ progs, p.length ≤ 1048576) : Is1 P 8 [.ro (A.enc (roProg A) progs), .int .i64 slots] (rWB A (NewWorld progs slots)) := by
  refine S.cx.byS [99999] (S.prog ▸ Tryz.func8) rfl rfl rfl rfl (fun ln hln hv ho => ?_)
  (cbv; repeat (refine Later.mk ?_; cbv))
  clear hv ho
  have no : ¬ NewFits progs slots → NewWorld progs slots = (world0, false) := fun h => if_neg h
  refine ACall.valN (r := rAfB A) (os := fun _ => []) (dp := false) S.cx (implNewAfters_c S slots) (.of rfl (by repeat' (first | exact trivial | exact rfl | exact Nat.le_refl _ | exact S.ga | exact S.gb ‹_› | exact S.gc ‹_› | exact S.gd | exact S.ge | exact S.gf ‹_› | exact S.gg ‹_› | exact S.gh | exact .inl rfl | exact S.gi ‹_› | exact S.gj ‹_› | exact S.gk | exact S.gl | exact Nat.le_refl _ | exact S.cx.enc _ _ | exact (S.cx.enc _ _).symm | refine ⟨?_, ?_⟩))) rfl (fun ln hln x hx => ⟨rfl, ?_⟩)
  obtain ⟨⟨⟨ages, used⟩, list⟩, b⟩ := x
  (cbv; repeat (refine Later.mk ?_; cbv))
  have hn_ages := hln cInt64 ages
  generalize ln (A.enc cInt64 ages) = n_ages at hn_ages ⊢
  have hn_used := hln cBool used
  generalize ln (A.enc cBool used) = n_used at hn_used ⊢
  have hn_list := hln cAfter list
  generalize ln (A.enc cAfter list) = n_list at hn_list ⊢
  obtain ⟨k1, k2⟩ := newAfters_not hx
  clear hx
  cases b <;> (cbv; repeat (refine Later.mk ?_; cbv))
  · exact Done.is (r := rWB A) (x := (world0, false)) (by repeat' (first | exact trivial | exact rfl | exact S.ra rfl ‹_› | exact S.rb rfl | exact S.rc rfl ‹_› | exact S.rd rfl ‹_› | exact S.gh | exact S.re rfl ‹_› | exact S.rf rfl ‹_› | exact S.rg rfl ‹_› | exact Nat.le_refl _ | exact S.cx.enc _ _ | exact (S.cx.enc _ _).symm | refine ⟨?_, ?_⟩)) rfl (no fun e => by have := k1.2 e.1; cases this)
  have k3 := k1.1 rfl
  have k2 := k2 k3
  refine LenR.nat S.cx (fun n hn hm => ?_); (cbv; repeat (refine Later.mk ?_; cbv))
  refine Test.gtr (fun h1 => ?_) (fun h1 => ?_) <;> (cbv; repeat (refine Later.mk ?_; cbv))
  · exact Done.is (r := rWB A) (x := (world0, false)) (by repeat' (first | exact trivial | exact rfl | exact S.ra rfl ‹_› | exact S.rb rfl | exact S.rc rfl ‹_› | exact S.rd rfl ‹_› | exact S.gh | exact S.re rfl ‹_› | exact S.rf rfl ‹_› | exact S.rg rfl ‹_› | exact Nat.le_refl _ | exact S.cx.enc _ _ | exact (S.cx.enc _ _).symm | refine ⟨?_, ?_⟩)) rfl (no fun e => by have := e.2.1; omega)
  (try (refine Drawn.mk ⟨by kernel_rfl, fun _ => ?_⟩)); (repeat (refine Later.mk ?_; cbv))
  refine ACall.valN (r := (fun x : List (List Ins) => .own 1 false (A.enc (ownProg A) x))) (os := fun _ => []) (dp := false) S.cx (clonedProgs_c S progs (by omega) hb2) (.of rfl (by repeat' (first | exact trivial | exact rfl | exact Nat.le_refl _ | exact S.ga | exact S.gb ‹_› | exact S.gc ‹_› | exact S.gd | exact S.ge | exact S.gf ‹_› | exact S.gg ‹_› | exact S.gh | exact .inl rfl | exact S.gi ‹_› | exact S.gj ‹_› | exact S.gk | exact S.gl | exact Nat.le_refl _ | exact S.cx.enc _ _ | exact (S.cx.enc _ _).symm | refine ⟨?_, ?_⟩))) rfl (fun ln hln progs0 hx => ⟨rfl, ?_⟩)
  cases hx
  (cbv; repeat (refine Later.mk ?_; cbv))
  have hn_progs := hln (ownProg A) progs
  generalize ln (A.enc (ownProg A) progs) = n_progs at hn_progs ⊢
  refine ACall.testD (dp := false) (implWorldOk_c S 0 progs [⟨0, -1, 9223372036854775807, 0, 0⟩] [] [false] [] [] [] 0 ages used list [] [] [] [] []) (.of rfl (by repeat' (first | exact trivial | exact rfl | exact Nat.le_refl _ | exact S.ga | exact S.gb ‹_› | exact S.gc ‹_› | exact S.gd | exact S.ge | exact S.gf ‹_› | exact S.gg ‹_› | exact S.gh | exact .inl rfl | exact S.gi ‹_› | exact S.gj ‹_› | exact S.gk | exact S.gl | exact Nat.le_refl _ | exact S.cx.enc _ _ | exact (S.cx.enc _ _).symm | refine ⟨?_, ?_⟩))) rfl (fun h2 => ?_) (fun h2 => ?_) <;> (cbv; repeat (refine Later.mk ?_; cbv))
  · exact Done.is (r := rWB A) (x := (⟨0, progs, [⟨0, -1, 9223372036854775807, 0, 0⟩], [], ⟨[false], []⟩, ⟨[], [], 0⟩, ⟨⟨ages, used⟩, list⟩, [], [], [], [], []⟩, true)) (by repeat' (first | exact trivial | exact rfl | exact S.ra rfl ‹_› | exact S.rb rfl | exact S.rc rfl ‹_› | exact S.rd rfl ‹_› | exact S.gh | exact S.re rfl ‹_› | exact S.rf rfl ‹_› | exact S.rg rfl ‹_› | exact Nat.le_refl _ | exact S.cx.enc _ _ | exact (S.cx.enc _ _).symm | refine ⟨?_, ?_⟩)) rfl (by rw [NewWorld, if_pos ⟨k3, by omega, h2.2.1.2⟩, newWorld, ← k2])
  · exact Done.is (r := rWB A) (x := (world0, false)) (by repeat' (first | exact trivial | exact rfl | exact S.ra rfl ‹_› | exact S.rb rfl | exact S.rc rfl ‹_› | exact S.rd rfl ‹_› | exact S.gh | exact S.re rfl ‹_› | exact S.rf rfl ‹_› | exact S.rg rfl ‹_› | exact Nat.le_refl _ | exact S.cx.enc _ _ | exact (S.cx.enc _ _).symm | refine ⟨?_, ?_⟩)) rfl (no fun e => h2 (by have := worldOk_new e; rw [newWorld, ← k2] at this; exact this))

theorem specNewWorld_c (S : Se P A) (progs : List (List Ins)) (slots : Int) (hb2 : ∀ p ∈ progs, p.length ≤ 1048576) : Is1 P 9 [.ro (A.enc (roProg A) progs), .int .i64 slots] (rWB A (NewWorld progs slots)) := by
  refine S.cx.byS [99999] (S.prog ▸ Tryz.func9) rfl rfl rfl rfl (fun ln hln hv ho => ?_)
  (cbv; repeat (refine Later.mk ?_; cbv))
  clear hv ho
  have no : ¬ NewFits progs slots → NewWorld progs slots = (world0, false) := fun h => if_neg h
  refine ACall.valN (r := rAfB A) (os := fun _ => []) (dp := false) S.cx (specNewAfters_c S slots) (.of rfl (by repeat' (first | exact trivial | exact rfl | exact Nat.le_refl _ | exact S.ga | exact S.gb ‹_› | exact S.gc ‹_› | exact S.gd | exact S.ge | exact S.gf ‹_› | exact S.gg ‹_› | exact S.gh | exact .inl rfl | exact S.gi ‹_› | exact S.gj ‹_› | exact S.gk | exact S.gl | exact Nat.le_refl _ | exact S.cx.enc _ _ | exact (S.cx.enc _ _).symm | refine ⟨?_, ?_⟩))) rfl (fun ln hln x hx => ⟨rfl, ?_⟩)
  obtain ⟨⟨⟨ages, used⟩, list⟩, b⟩ := x
  (cbv; repeat (refine Later.mk ?_; cbv))
  have hn_ages := hln cInt64 ages
  generalize ln (A.enc cInt64 ages) = n_ages at hn_ages ⊢
  have hn_used := hln cBool used
  generalize ln (A.enc cBool used) = n_used at hn_used ⊢
  have hn_list := hln cAfter list
  generalize ln (A.enc cAfter list) = n_list at hn_list ⊢
  obtain ⟨k1, k2⟩ := newAfters_not hx
  clear hx
  cases b <;> (cbv; repeat (refine Later.mk ?_; cbv))
  · exact Done.is (r := rWB A) (x := (world0, false)) (by repeat' (first | exact trivial | exact rfl | exact S.ra rfl ‹_› | exact S.rb rfl | exact S.rc rfl ‹_› | exact S.rd rfl ‹_› | exact S.gh | exact S.re rfl ‹_› | exact S.rf rfl ‹_› | exact S.rg rfl ‹_› | exact Nat.le_refl _ | exact S.cx.enc _ _ | exact (S.cx.enc _ _).symm | refine ⟨?_, ?_⟩)) rfl (no fun e => by have := k1.2 e.1; cases this)
  have k3 := k1.1 rfl
  have k2 := k2 k3
  refine ACall.testD (dp := false) (l13Progs_c S progs) (.of rfl (by repeat' (first | exact trivial | exact rfl | exact Nat.le_refl _ | exact S.ga | exact S.gb ‹_› | exact S.gc ‹_› | exact S.gd | exact S.ge | exact S.gf ‹_› | exact S.gg ‹_› | exact S.gh | exact .inl rfl | exact S.gi ‹_› | exact S.gj ‹_› | exact S.gk | exact S.gl | exact Nat.le_refl _ | exact S.cx.enc _ _ | exact (S.cx.enc _ _).symm | refine ⟨?_, ?_⟩))) rfl (fun h1 => ?_) (fun h1 => ?_) <;> (cbv; repeat (refine Later.mk ?_; cbv))
  rotate_left
  · exact Done.is (r := rWB A) (x := (world0, false)) (by repeat' (first | exact trivial | exact rfl | exact S.ra rfl ‹_› | exact S.rb rfl | exact S.rc rfl ‹_› | exact S.rd rfl ‹_› | exact S.gh | exact S.re rfl ‹_› | exact S.rf rfl ‹_› | exact S.rg rfl ‹_› | exact Nat.le_refl _ | exact S.cx.enc _ _ | exact (S.cx.enc _ _).symm | refine ⟨?_, ?_⟩)) rfl (no fun e => h1 e.2)
  (try (refine Drawn.mk ⟨by kernel_rfl, fun _ => ?_⟩)); (repeat (refine Later.mk ?_; cbv))
  refine ACall.valN (r := (fun x : List (List Ins) => .own 1 false (A.enc (ownProg A) x))) (os := fun _ => []) (dp := false) S.cx (l13CopyProgs_c S progs (by omega) hb2) (.of rfl (by repeat' (first | exact trivial | exact rfl | exact Nat.le_refl _ | exact S.ga | exact S.gb ‹_› | exact S.gc ‹_› | exact S.gd | exact S.ge | exact S.gf ‹_› | exact S.gg ‹_› | exact S.gh | exact .inl rfl | exact S.gi ‹_› | exact S.gj ‹_› | exact S.gk | exact S.gl | exact Nat.le_refl _ | exact S.cx.enc _ _ | exact (S.cx.enc _ _).symm | refine ⟨?_, ?_⟩))) rfl (fun ln hln progs0 hx => ⟨rfl, ?_⟩)
  cases hx
  (cbv; repeat (refine Later.mk ?_; cbv))
  have hn_progs := hln (ownProg A) progs
  generalize ln (A.enc (ownProg A) progs) = n_progs at hn_progs ⊢
  exact Done.is (r := rWB A) (x := (⟨0, progs, [⟨0, -1, 9223372036854775807, 0, 0⟩], [], ⟨[false], []⟩, ⟨[], [], 0⟩, ⟨⟨ages, used⟩, list⟩, [], [], [], [], []⟩, true)) (by repeat' (first | exact trivial | exact rfl | exact S.ra rfl ‹_› | exact S.rb rfl | exact S.rc rfl ‹_› | exact S.rd rfl ‹_› | exact S.gh | exact S.re rfl ‹_› | exact S.rf rfl ‹_› | exact S.rg rfl ‹_› | exact Nat.le_refl _ | exact S.cx.enc _ _ | exact (S.cx.enc _ _).symm | refine ⟨?_, ?_⟩)) rfl (by rw [NewWorld, if_pos ⟨k3, h1⟩, newWorld, ← k2])

end Go.Proofs.YtgooambndfkgkaaGreat.AM
