/- Contracts: new worlds. (printed by gw20.py) -/
import Derived.Test.YtihfpbhalnedcaaGreatW8
import Derived.Test.YtihfpbhalnedcaaGreatW9
set_option linter.unusedVariables false
set_option linter.unusedSimpArgs false
namespace Go.Proofs.YtihfpbhalnedcaaGreat.AM
open Go Go.Proofs

set_option maxRecDepth 100000
set_option maxHeartbeats 4000000

variable {P : Program} {A : Sy}

theorem plainIns : Plain cIns := fun _ => rfl
def rIns (A : Sy) (l : List Ins) : AV := .own 3 true (A.enc cIns l)

theorem cloneIns_c (S : Se P A) (l : List Ins) (hb : l.length <= 4294967296) : Is1 P 322 [.ro (A.enc cIns l)] (rIns A l) := by
  refine S.cx.by (S.prog ▸ Tryz.func322) rfl rfl rfl rfl (fun hv ho => ?_)
  cbv
  refine NilT.ro S.cx (fun h => ?_) ?_ <;> cbv
  · subst h
    exact Done.is (r := rIns A) (x := []) (by repeat' (first | exact trivial | exact rfl | exact S.ra rfl ‹_› | exact S.rb rfl | exact S.rc rfl ‹_› | exact S.rd rfl ‹_› | exact S.gh | exact S.re rfl ‹_› | exact S.rf rfl ‹_› | exact S.rg rfl ‹_› | exact Nat.le_refl _ | exact S.cx.enc _ _ | exact (S.cx.enc _ _).symm | refine ⟨?_, ?_⟩)) rfl (rfl)
  · refine AppNew.enc S.cx plainIns (.inr (.inr trivial)) (fun _ => rfl) (by simp only [maxBytes]; omega) (fun n hn => ?_); cbv
    exact Done.is (r := rIns A) (x := l) (by repeat' (first | exact trivial | exact rfl | exact S.ra rfl ‹_› | exact S.rb rfl | exact S.rc rfl ‹_› | exact S.rd rfl ‹_› | exact S.gh | exact S.re rfl ‹_› | exact S.rf rfl ‹_› | exact S.rg rfl ‹_› | exact Nat.le_refl _ | exact S.cx.enc _ _ | exact (S.cx.enc _ _).symm | refine ⟨?_, ?_⟩)) rfl (rfl)

theorem AppRef.pushF {T : Nat -> Option TI} (C : Cx P T A) {α : Type} {f : α -> List AV} {l : List α} (x : α) {ys : List (List AV)} {p : Bool} {len s size bytes : Nat} {K : Bool -> Nat -> List (List AV) -> Prop} (hN : len = l.length) (hy : ys = [f x]) (hs : s = size) (hsz : (f x).length = size) (ho : ∀ v ∈ f x, v.isOwn = false) (hb : (l.length + 1) * bytes <= maxBytes)
    (h : ∀ (n : Nat) (l' : List α), l' = l ++ [x] -> n = l'.length -> K false n (A.enc f l')) : AppRef .raw false p 0 len s size bytes (A.enc f l) ys K := by
  subst hy
  refine ⟨hs, fun r hr v hv => ?_, fun r hr => ?_, .inl ⟨by rw [C.lenE']; omega, ?_, ?_⟩⟩
  · rw [List.mem_singleton.1 hr] at hv; exact ho v hv
  · rw [List.mem_singleton.1 hr]; exact hsz
  · rw [hN]; exact hb
  · have := h (len + 1) (l ++ [x]) rfl (by rw [hN]; simp)
    rw [C.enc, List.map_append] at this
    rw [List.drop_zero, hN, <- C.lenE' f l, List.take_length, C.enc]
    rw [hN] at this
    simpa using this

theorem noRefsNil : noRefs [] := fun _ h => nomatch h

theorem clonedProgs_c (S : Se P A) (l : List (List Ins)) (hb : l.length <= 1048576) (hb2 : ∀ p ∈ l, p.length <= 1048576) : Is1 P 246 [.ro (A.enc (roProg A) l)] (.own 1 false (A.enc (ownProg A) l)) := by
  refine S.cx.by (S.prog ▸ Tryz.func246) rfl rfl rfl rfl (fun hv ho => ?_)
  cbv
  refine LenR.nat S.cx (fun n hn hm => ?_); cbv
  refine ALoop.pre (Less.initE S.cx (cPC A) 999000000 1 false (t := 3) rfl (by first | exact .inr rfl | exact .inl rfl) rfl) ?_
  cbv
  refine ALoop.goS (ι := Int × List PC × Nat) (fun i => [(9, .int .i64 i.1), (3, .ref false 999000000 0 i.2.2)]) [999000000] (fun i => [(999000000, .arr 1 false (A.enc (cPC A) i.2.1))]) (fun i => 0 <= i.1 /\ i.1.toNat <= l.length /\ i.2.2 = i.2.1.length /\ i.2.1 = (l.take i.1.toNat).map PC.own) (fun i => (l.length - i.1.toNat)) ((0, [], 0)) S.cx.tab S.cx.mix S.eq ?_ ?_ ?_
  · exact ⟨Int.le_refl _, Nat.zero_le _, rfl, rfl⟩
  · (cbv; refine Less.to [] rfl rfl ?_ ?_ <;> repeat' (first | exact trivial | exact ⟨rfl, rfl⟩ | exact ⟨_, rfl, Nat.zero_le _, rfl⟩ | apply And.intro | exact rfl))
    · exact noRefsPC S.cx (fun x hx => by cases hx)
    · exact noRefsNil
  rintro ⟨i, m, k⟩ ⟨h1, h2, h3, h4⟩
  dsimp only at h1 h2 h3 h4
  have hml : m.length = i.toNat := by rw [h4]; simp; omega
  refine Rnd.mk ?_; cbv
  refine Test.lss (fun h => ?_) (fun h => ?_) <;> cbv
  · refine ElemRo.enc S.cx (fun _ => rfl) (by lia) (by lia) (fun x hx => ?_); cbv
    refine ACall.valN (r := rIns A) (os := fun _ => []) (dp := false) S.cx (cloneIns_c S x (Nat.le_trans (hb2 x (mem_at hx)) (by decide))) (.of rfl (by repeat' (first | exact trivial | exact rfl | exact Nat.le_refl _ | exact S.ga | exact S.gb ‹_› | exact S.gc ‹_› | exact S.gd | exact S.ge | exact S.gf ‹_› | exact S.gg ‹_› | exact S.gh | exact .inl rfl | exact S.gi ‹_› | exact S.gj ‹_› | exact S.gk | exact S.gl | exact Nat.le_refl _ | exact S.cx.enc _ _ | exact (S.cx.enc _ _).symm | refine ⟨?_, ?_⟩))) rfl (fun ln hln x0 hx => ⟨rfl, ?_⟩)
    cases hx
    cbv
    have hq := hln cIns x
    generalize ln (A.enc cIns x) = q at hq ⊢
    refine Part.one ?_; cbv
    refine AppRef.pushF S.cx (PC.ref 6020000 q) h3 rfl rfl rfl (fun v hv => by rw [List.mem_singleton.1 hv]; rfl) (by simp only [maxBytes]; omega) (fun n' m' hm' hn' => ?_); cbv
    refine Arith.go (by omega) (fun i' hi' => ?_); cbv
    replace hi' : i' = i + 1 := hi'
    obtain ⟨m2, hm2⟩ : ∃ m2, m2 = m'.set i.toNat (PC.own x) := ⟨_, rfl⟩
    have hmx : m'[i.toNat]? = some (PC.ref 6020000 q) := by rw [hm', <- hml]; simp
    have hm3 : m2 = (l.take i'.toNat).map PC.own := by
      rw [hm2, hm', show i'.toNat = i.toNat + 1 by omega, take_next hx, List.map_append, <- h4, <- hml]
      simp
    refine Again.on (i', m2, n') (by dsimp only; omega) ⟨by dsimp only; omega, by dsimp only; have := lt_of_get hx; omega, by dsimp only; rw [hn', set_len hm2], hm3⟩ ?_
    refine Less.trans (Less.fold S.cx (id := 6040000) (L := 6020000) (i := i.toNat) (j := 0) (m := m') (PC.ref 6020000 q) (PC.own x) rfl hmx rfl rfl hq rfl rfl hm2) ?_
    (cbv; refine Less.to [(999000000, (6040000, 0))] rfl rfl ?_ ?_ <;> repeat' (first | exact trivial | exact ⟨rfl, rfl⟩ | exact ⟨_, rfl, Nat.zero_le _, rfl⟩ | apply And.intro | exact rfl))
    · exact noRefsPC S.cx (fun c hc => by rw [hm3] at hc; obtain ⟨_, _, rfl⟩ := List.mem_map.1 hc; trivial)
    · exact noRefsNil
  · have e : m = l.map PC.own := by rw [h4, take_all (by omega)]
    subst e
    exact Done.to _ [] rfl (resOwnF1 S.cx fre_ownProg (by show some (Obj.arr 1 false (A.enc (cPC A) (l.map PC.own))) = _; rw [encPC S.cx]) (by rw [h3]; simp)) trivial ⟨rfl, rfl⟩

theorem l13CopyProgs_c (S : Se P A) (l : List (List Ins)) (hb : l.length <= 1048576) (hb2 : ∀ p ∈ l, p.length <= 1048576) : Is1 P 139 [.ro (A.enc (roProg A) l)] (.own 1 false (A.enc (ownProg A) l)) := by
  refine S.cx.by (S.prog ▸ Tryz.func139) rfl rfl rfl rfl (fun hv ho => ?_)
  cbv
  refine ALoop.pre (Less.initE S.cx (cPC A) 999000000 1 false (t := 3) rfl (by first | exact .inr rfl | exact .inl rfl) rfl) ?_
  cbv
  refine ALoop.goS (ι := Int × List PC × Nat) (fun i => [(4, .int .i64 i.1), (3, .ref false 999000000 0 i.2.2)]) [999000000] (fun i => [(999000000, .arr 1 false (A.enc (cPC A) i.2.1))]) (fun i => 0 <= i.1 /\ i.1.toNat <= l.length /\ i.2.2 = i.2.1.length /\ i.2.1 = (l.take i.1.toNat).map PC.own) (fun i => (l.length - i.1.toNat)) ((0, [], 0)) S.cx.tab S.cx.mix S.eq ?_ ?_ ?_
  · exact ⟨Int.le_refl _, Nat.zero_le _, rfl, rfl⟩
  · (cbv; refine Less.to [] rfl rfl ?_ ?_ <;> repeat' (first | exact trivial | exact ⟨rfl, rfl⟩ | exact ⟨_, rfl, Nat.zero_le _, rfl⟩ | apply And.intro | exact rfl))
    · exact noRefsPC S.cx (fun x hx => by cases hx)
    · exact noRefsNil
  rintro ⟨i, m, k⟩ ⟨h1, h2, h3, h4⟩
  dsimp only at h1 h2 h3 h4
  have hml : m.length = i.toNat := by rw [h4]; simp; omega
  refine Rnd.mk ?_; cbv
  refine LenR.nat S.cx (fun n hn hm => ?_); cbv
  refine Test.lss (fun h => ?_) (fun h => ?_) <;> cbv
  · refine ElemRo.enc S.cx (fun _ => rfl) (by lia) (by lia) (fun x hx => ?_); cbv
    have hxb := hb2 x (mem_at hx)
    refine AppNew.enc S.cx plainIns (.inr (.inr trivial)) (fun _ => rfl) (by simp only [maxBytes]; omega) (fun q hq => ?_); cbv
    refine Part.one ?_; cbv
    refine AppRef.pushF S.cx (PC.ref 6060000 q) h3 rfl rfl rfl (fun v hv => by rw [List.mem_singleton.1 hv]; rfl) (by simp only [maxBytes]; omega) (fun n' m' hm' hn' => ?_); cbv
    refine Arith.go (by omega) (fun i' hi' => ?_); cbv
    replace hi' : i' = i + 1 := hi'
    obtain ⟨m2, hm2⟩ : ∃ m2, m2 = m'.set i.toNat (PC.own x) := ⟨_, rfl⟩
    have hmx : m'[i.toNat]? = some (PC.ref 6060000 q) := by rw [hm', <- hml]; simp
    have hm3 : m2 = (l.take i'.toNat).map PC.own := by
      rw [hm2, hm', show i'.toNat = i.toNat + 1 by omega, take_next hx, List.map_append, <- h4, <- hml]
      simp
    refine Again.on (i', m2, n') (by dsimp only; omega) ⟨by dsimp only; omega, by dsimp only; have := lt_of_get hx; omega, by dsimp only; rw [hn', set_len hm2], hm3⟩ ?_
    refine Less.trans (Less.fold S.cx (id := 6080000) (L := 6060000) (i := i.toNat) (j := 0) (m := m') (PC.ref 6060000 q) (PC.own x) rfl hmx rfl rfl hq rfl rfl hm2) ?_
    (cbv; refine Less.to [(999000000, (6080000, 0))] rfl rfl ?_ ?_ <;> repeat' (first | exact trivial | exact ⟨rfl, rfl⟩ | exact ⟨_, rfl, Nat.zero_le _, rfl⟩ | apply And.intro | exact rfl))
    · exact noRefsPC S.cx (fun c hc => by rw [hm3] at hc; obtain ⟨_, _, rfl⟩ := List.mem_map.1 hc; trivial)
    · exact noRefsNil
  · have e : m = l.map PC.own := by rw [h4, take_all (by omega)]
    subst e
    exact Done.to _ [] rfl (resOwnF1 S.cx fre_ownProg (by show some (Obj.arr 1 false (A.enc (cPC A) (l.map PC.own))) = _; rw [encPC S.cx]) (by rw [h3]; simp)) trivial ⟨rfl, rfl⟩

def newSlots (n : Int) : Slots := ⟨List.replicate n.toNat 0, List.replicate n.toNat false⟩
def NewSlots (n : Int) : Slots × Bool := if 1 <= n /\ n <= 64 then (newSlots n, true) else (slots0, false)
def NewAfters (n : Int) : Afters × Bool := if 1 <= n /\ n <= 64 then (⟨newSlots n, []⟩, true) else (afters0, false)
def rAfB (A : Sy) (x : Afters × Bool) : AV := .tup [.agg (ownAfters A x.1), .bool x.2]
def newWorld (progs : List (List Ins)) (n : Int) : World := ⟨0, progs, [⟨0, -1, 9223372036854775807, 0, 0⟩], [], ⟨[false], []⟩, ⟨[], [], 0⟩, ⟨newSlots n, []⟩, [], [], [], [], []⟩
def NewFits (progs : List (List Ins)) (n : Int) : Prop := (1 <= n /\ n <= 64) /\ progs.length <= 8 /\ ∀ p ∈ progs, ProgOk p
instance (progs : List (List Ins)) (n : Int) : Decidable (NewFits progs n) := by unfold NewFits; infer_instance
def NewWorld (progs : List (List Ins)) (n : Int) : World × Bool := if NewFits progs n then (newWorld progs n, true) else (world0, false)
def rWB (A : Sy) (x : World × Bool) : AV := .tup [.agg (ownWorld A x.1), .bool x.2]

--@LIT

end Go.Proofs.YtihfpbhalnedcaaGreat.AM
