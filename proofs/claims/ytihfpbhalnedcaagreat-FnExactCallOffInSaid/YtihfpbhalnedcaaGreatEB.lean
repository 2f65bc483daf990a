import Derived.Test.YtihfpbhalnedcaaGreatEA
/- In one: E9 E10 E11 E12 E13 E14 -/
set_option linter.unusedVariables false
set_option linter.unusedSimpArgs false
namespace Go.Proofs.YtihfpbhalnedcaaGreat.AM
open Go Go.Proofs

theorem nodup_len {α : Type} [DecidableEq α] : ∀ {b a : List α}, b.Nodup -> (∀ x ∈ b, x ∈ a) -> b.length <= a.length
  | [], _, _, _ => Nat.zero_le _
  | x :: b, a, h, hs => by
    obtain ⟨h1, h2⟩ := List.nodup_cons.1 h
    have hx : x ∈ a := hs x List.mem_cons_self
    have := nodup_len (a := a.erase x) h2 fun y hy => (List.mem_erase_of_ne (fun (e : y = x) => h1 (by rw [<- e]; exact hy))).2 (hs y (List.mem_cons_of_mem _ hy))
    rw [List.length_erase_of_mem hx] at this
    have := List.length_pos_of_mem hx
    simp only [List.length_cons]
    omega

theorem nodup_all {α : Type} [DecidableEq α] {b a : List α} (h : b.Nodup) (hs : ∀ x ∈ b, x ∈ a) (hl : a.length <= b.length) : ∀ y ∈ a, y ∈ b := fun y hy =>
  Classical.byContradiction fun hn => by
    have := nodup_len (b := y :: b) (a := a) (List.nodup_cons.2 ⟨hn, h⟩) fun x hx => by
      rcases List.mem_cons.1 hx with rfl | hx
      · exact hy
      · exact hs x hx
    simp only [List.length_cons] at this
    omega

def heapOf (l : List Twig) : Heap := (Heap.parse (l.length + 1) l).getD .nil

theorem heapOf_is {l : List Twig} (h : Heap.Is l) : (heapOf l).ok /\ (heapOf l).flat = l := by
  obtain ⟨t, hok, hf⟩ := h
  have e : heapOf l = t := by
    unfold heapOf
    rw [<- hf, Heap.parse_flat _ hok (by rw [Heap.flat_len]; omega)]
    rfl
  rw [e]; exact ⟨hok, hf⟩

theorem heapOf_flat {t : Heap} (h : t.ok) : heapOf t.flat = t := Heap.flat_inj (heapOf_is ⟨t, h, rfl⟩).2

def withoutL (l : List Twig) (q : Int) : List Twig := ((heapOf l).without q).flat
def putL (l : List Twig) (due seq : Int) : List Twig := (Heap.merge (heapOf l) (.node due seq .nil .nil)).flat

theorem heapOf_seqs {l : List Twig} (h : Heap.Is l) : (heapOf l).seqs = l.map (·.seq) := by
  rw [Heap.seqs_flat, (heapOf_is h).2]

theorem armed_in {t : Timers} (h : TimersOk t) {x : Timer} (hx : x ∈ t.list) (ha : x.armed = true) : x.seq ∈ t.heap.map (·.seq) := by
  refine nodup_all (a := (t.list.filter (·.armed)).map (·.seq)) h.2.2.1.2.1 (fun s hs => ?_) ?_ x.seq ?_
  · obtain ⟨w, hw, rfl⟩ := List.mem_map.1 hs
    obtain ⟨y, hy, e, hya, _⟩ := h.2.2.2.2.2.2 w hw
    exact List.mem_map.2 ⟨y, List.mem_filter.2 ⟨hy, hya⟩, e⟩
  · have := h.2.2.2.2.2.1
    rw [List.length_map, List.length_map]
    exact Nat.le_of_eq this
  · exact List.mem_map.2 ⟨x, List.mem_filter.2 ⟨hx, ha⟩, rfl⟩

def stopT (t : Timers) (q : Int) : Timers × Bool :=
  if 0 <= timIdx t.list q then
    match t.list[(timIdx t.list q).toNat]? with
    | some x => if x.armed = true then (⟨withoutL t.heap q, t.list.set (timIdx t.list q).toNat { x with armed := false }, t.next⟩, true) else (t, false)
    | none => (t, false)
  else (t, false)

def armT (t : Timers) (due what whom : Int) : Timers × Int :=
  if t.list.length = 64 ∨ t.next = 1000000 ∨ ¬ (0 <= what /\ what <= 2) ∨ ¬ (0 <= whom /\ whom <= 99) then (t, -1)
  else (⟨putL t.heap due t.next, t.list ++ [⟨t.next, due, what, whom, true⟩], t.next + 1⟩, t.next)

def timers0 : Timers := ⟨[], [], 0⟩
def Stopped (t : Timers) (q : Int) : Timers × Bool := if TimersOk t then stopT t q else (timers0, false)
def Armed (t : Timers) (due what whom : Int) : Timers × Int := if TimersOk t then armT t due what whom else (timers0, -1)

end Go.Proofs.YtihfpbhalnedcaaGreat.AM

namespace Go.Proofs.YtihfpbhalnedcaaGreat.AM
open Go Go.Proofs

set_option maxRecDepth 100000
set_option maxHeartbeats 4000000

variable {P : Program} {A : Sy}

def rTimer (A : Sy) (l : List Timer) : AV := .own 5 true (A.enc cTimer l)
theorem plainTimer : Plain cTimer := fun _ => rfl

theorem cloneTimer_c (S : Se P A) (l : List Timer) (hb : l.length <= 4294967296) : Is1 P 325 [.ro (A.enc cTimer l)] (rTimer A l) := by
  refine S.cx.by (S.prog ▸ Tryz.func325) rfl rfl rfl rfl (fun hv ho => ?_)
  cbv
  refine NilT.ro S.cx (fun h => ?_) ?_ <;> cbv
  · subst h
    exact Done.isA (r := rTimer A) (x := []) (rfl)
  · refine AppNew.enc S.cx plainTimer (.inr (.inr trivial)) (fun _ => rfl) (by simp only [maxBytes]; omega) (fun n hn => ?_); cbv
    exact Done.isA (r := rTimer A) (x := l) (rfl)

def rT (A : Sy) (x : Timers) : AV := .agg (ownTimers A x)

theorem timCloned_c (S : Se P A) (heap : List Twig) (list : List Timer) (next : Int) (h1 : heap.length <= 4294967296) (h2 : list.length <= 4294967296) : Is1 P 250 [.agg (roTimers A ⟨heap, list, next⟩)] (rT A ⟨heap, list, next⟩) := by
  refine S.cx.by (S.prog ▸ Tryz.func250) rfl rfl rfl rfl (fun hv ho => ?_)
  cbv
  try (refine Drawn.mk ⟨by kernel_rfl, fun _ => ?_⟩)
  refine ACall.valN (r := rTwig A) (os := fun _ => []) (dp := false) S.cx (cloneTwig_c S heap h1) .go rfl (fun ln hln l1 hx => ⟨rfl, ?_⟩)
  cases hx
  cbv
  have hN1 := hln cTwig heap
  generalize ln (A.enc cTwig heap) = N1 at hN1 ⊢
  refine ACall.valN (r := rTimer A) (os := fun _ => []) (dp := false) S.cx (cloneTimer_c S list h2) .go rfl (fun ln hln l2 hx => ⟨rfl, ?_⟩)
  cases hx
  cbv
  have hN2 := hln cTimer list
  generalize ln (A.enc cTimer list) = N2 at hN2 ⊢
  exact Done.isA (r := rT A) (x := (⟨heap, list, next⟩ : Timers)) (rfl)

def oTB (A : Sy) (x : Timers × Bool) : List (Option Obj) := [some (.box (ownTimers A x.1))]
def rTB1 (x : Timers × Bool) : AV := .bool x.2
def rTB (A : Sy) (x : Timers × Bool) : AV := .tup [.agg (ownTimers A x.1), .bool x.2]

theorem stop_none {t : Timers} {q : Int} (h : timIdx t.list q < 0) : stopT t q = (t, false) := if_neg (by omega)
theorem stop_some {t : Timers} {q : Int} {x : Timer} (h : 0 <= timIdx t.list q) (hx : t.list[(timIdx t.list q).toNat]? = some x) : stopT t q = if x.armed = true then (⟨withoutL t.heap q, t.list.set (timIdx t.list q).toNat { x with armed := false }, t.next⟩, true) else (t, false) := by
  unfold stopT; rw [if_pos h, hx]

theorem stop_c (S : Se P A) (heap : List Twig) (list : List Timer) (next q : Int) (hok : TimersOk ⟨heap, list, next⟩) : SoundM P 117 false [.ptr 1000 0 0, .int .i64 q] [.box (ownTimers A ⟨heap, list, next⟩)]
    (fun v os => v = rTB1 (stopT ⟨heap, list, next⟩ q) /\ os = oTB A (stopT ⟨heap, list, next⟩ q)) := by
  have hb1 : heap.length <= 64 := hok.2.2.1.1
  have hb2 : list.length <= 64 := hok.2.1
  refine S.cx.byN (S.prog ▸ Tryz.func117) rfl rfl rfl rfl (fun ln hln hv ho => ?_)
  cbv
  have hN := hln cTwig heap
  generalize ln (A.enc cTwig heap) = N at hN ⊢
  have hK := hln cTimer list
  generalize ln (A.enc cTimer list) = K at hK ⊢
  refine ACall.int (dp := false) (timAt_c S heap list next q) .go rfl (fun r hr => ?_); cbv
  refine Test.lss (fun h1 => ?_) (fun h1 => ?_) <;> cbv
  · rw [stop_none (t := ⟨heap, list, next⟩) (by rw [<- hr]; exact h1)]
    exact Done.toA (rTB1 (⟨heap, list, next⟩, false)) (oTB A (⟨heap, list, next⟩, false)) ⟨rfl, rfl⟩
  have hs := fun x => stop_some (t := ⟨heap, list, next⟩) (q := q) (x := x)
  dsimp only at hs
  have hso := @timIdx_some list q
  rw [<- hr] at hs hso
  obtain ⟨⟨ys, yd, yw, yh, ya⟩, hy, he⟩ := hso (by omega)
  dsimp only at he
  have hs := hs _ (by omega) hy
  have hlt := (List.getElem?_eq_some_iff.1 hy).1
  refine ElemRef.go rfl (by lia) (by lia) (by rw [S.cx.lenE']; lia) (fun row hrow => ?_); cbv
  refine Row.enc S.cx (by lia) (fun y' hy' => ?_)
  obtain rfl : y' = ⟨ys, yd, yw, yh, ya⟩ := by rw [show row = r.toNat by omega, hy] at hy'; exact (Option.some.inj hy').symm
  cbv
  cases ya <;> cbv
  · rw [hs, if_neg (by simp)]
    exact Done.toA (rTB1 (⟨heap, list, next⟩, false)) (oTB A (⟨heap, list, next⟩, false)) ⟨rfl, rfl⟩
  have hhp := heapOf_is hok.2.2.1.2.2
  have hqm : q ∈ (heapOf heap).seqs := by
    rw [heapOf_seqs hok.2.2.1.2.2, <- he]
    exact armed_in hok (mem_at hy) rfl
  refine ElemRef.go rfl (by lia) (by lia) (by rw [S.cx.lenE']; lia) (fun row2 hrow2 => ?_); cbv
  refine RowSet.enc S.cx (⟨ys, yd, yw, yh, true⟩ : Timer) ⟨ys, yd, yw, yh, false⟩ (by rw [show row2 = r.toNat by omega]; exact hy) rfl (Nat.le_refl _) rfl (fun list' hlist' => ?_); cbv
  have hK' : K = list'.length := by rw [hlist', List.length_set]; exact hK
  refine ACall.valN (r := rTwig A) (os := fun _ => []) (dp := false) S.cx (without_c S (heapOf heap) heap q hhp.2 hqm (by omega)) .go rfl (fun ln hln w hx => ⟨rfl, ?_⟩)
  cbv
  have hW := hln cTwig w
  generalize ln (A.enc cTwig w) = W at hW ⊢
  rw [hs, if_pos rfl]
  have e1 : withoutL heap q = w := hx.symm
  have e2 : list.set r.toNat ⟨ys, yd, yw, yh, false⟩ = list' := by rw [hlist', show row2 = r.toNat by omega]
  dsimp only
  rw [e1, e2]
  exact Done.toA (rTB1 (⟨w, list', next⟩, true)) (oTB A (⟨w, list', next⟩, true)) ⟨rfl, rfl⟩

def armTB (x : Timers × Int) : AV := .int .i64 x.2
def oTI (A : Sy) (x : Timers × Int) : List (Option Obj) := [some (.box (ownTimers A x.1))]
def rTI (A : Sy) (x : Timers × Int) : AV := .tup [.agg (ownTimers A x.1), .int .i64 x.2]

theorem arm_c (S : Se P A) (heap : List Twig) (list : List Timer) (next due what whom : Int) (hok : TimersOk ⟨heap, list, next⟩) : SoundM P 121 false [.ptr 1000 0 0, .int .i64 due, .int .i64 what, .int .i64 whom] [.box (ownTimers A ⟨heap, list, next⟩)]
    (fun v os => v = armTB (armT ⟨heap, list, next⟩ due what whom) /\ os = oTI A (armT ⟨heap, list, next⟩ due what whom)) := by
  have hb1 : heap.length <= 64 := hok.2.2.1.1
  have hb2 : list.length <= 64 := hok.2.1
  have hn := hok.1
  dsimp only at hn
  have hno : ∀ h : list.length = 64 ∨ next = 1000000 ∨ ¬ (0 <= what /\ what <= 2) ∨ ¬ (0 <= whom /\ whom <= 99), armT ⟨heap, list, next⟩ due what whom = (⟨heap, list, next⟩, -1) := fun h => if_pos h
  refine S.cx.byN (S.prog ▸ Tryz.func121) rfl rfl rfl rfl (fun ln hln hv ho => ?_)
  cbv
  have hN := hln cTwig heap
  generalize ln (A.enc cTwig heap) = N at hN ⊢
  have hK := hln cTimer list
  generalize ln (A.enc cTimer list) = K at hK ⊢
  refine Len.nat (fun M hM hm => ?_); cbv
  refine Test.eql (fun h1 => ?_) (fun h1 => ?_) <;> cbv
  · rw [hno (.inl (by lia))]
    exact Done.toA (armTB (⟨heap, list, next⟩, -1)) (oTI A (⟨heap, list, next⟩, -1)) ⟨rfl, rfl⟩
  refine Test.eql (fun h2 => ?_) (fun h2 => ?_) <;> cbv
  · rw [hno (.inr (.inl h2))]
    exact Done.toA (armTB (⟨heap, list, next⟩, -1)) (oTI A (⟨heap, list, next⟩, -1)) ⟨rfl, rfl⟩
  refine ACall.testD (dp := false) (within_c S what 0 2) .go rfl (fun h3 => ?_) (fun h3 => ?_) <;> cbv
  rotate_left
  · rw [hno (.inr (.inr (.inl h3)))]
    exact Done.toA (armTB (⟨heap, list, next⟩, -1)) (oTI A (⟨heap, list, next⟩, -1)) ⟨rfl, rfl⟩
  refine ACall.testD (dp := false) (within_c S whom 0 99) .go rfl (fun h4 => ?_) (fun h4 => ?_) <;> cbv
  rotate_left
  · rw [hno (.inr (.inr (.inr h4)))]
    exact Done.toA (armTB (⟨heap, list, next⟩, -1)) (oTI A (⟨heap, list, next⟩, -1)) ⟨rfl, rfl⟩
  have hyes : armT ⟨heap, list, next⟩ due what whom = (⟨putL heap due next, list ++ [⟨next, due, what, whom, true⟩], next + 1⟩, next) := by
    refine if_neg fun h => ?_
    rcases h with h | h | h | h
    · dsimp only at h; exact h1 (by lia)
    · exact h2 h
    · exact h h3
    · exact h h4
  have hhp := heapOf_is hok.2.2.1.2.2
  refine Part.one ?_; cbv
  refine AppRef.push S.cx (⟨next, due, what, whom, true⟩ : Timer) (by assumption) rfl rfl plainTimer (fun _ => rfl) (by simp only [maxBytes]; omega) (fun m w hw hml => ?_); cbv
  refine Arith.go (by lia) (fun nx hnx => ?_); replace hnx : nx = next + 1 := hnx; cbv
  refine ACall.valN (r := rTwig A) (os := fun _ => []) (dp := false) S.cx (put_c S (heapOf heap) heap hhp.2 (by omega) due next) .go rfl (fun ln hln l2 hx => ⟨rfl, ?_⟩)
  cbv
  have hN2 := hln cTwig l2
  generalize ln (A.enc cTwig l2) = N2 at hN2 ⊢
  have e1 : putL heap due next = l2 := hx.symm
  rw [hyes, e1, <- hw, <- hnx]
  exact Done.toA (armTB (⟨l2, w, nx⟩, next)) (oTI A (⟨l2, w, nx⟩, next)) ⟨rfl, rfl⟩

end Go.Proofs.YtihfpbhalnedcaaGreat.AM

namespace Go.Proofs.YtihfpbhalnedcaaGreat.AM
open Go Go.Proofs

set_option maxRecDepth 100000
set_option maxHeartbeats 4000000

variable {P : Program} {A : Sy}

theorem l3Ahead_c (S : Se P A) (d1 s1 l1 d2 s2 l2 : Int) : Tests P 362 [.agg (cTwig ⟨d1, s1, l1⟩), .agg (cTwig ⟨d2, s2, l2⟩)] (d1 < d2 ∨ d1 = d2 /\ s1 < s2) := by
  refine S.cx.by (S.prog ▸ Tryz.func362) rfl rfl rfl rfl (fun hv ho => ?_)
  cbv
  repeat' (first
    | (refine Test.eql (fun _ => ?_) (fun _ => ?_) <;> cbv)
    | (refine Test.neq (fun _ => ?_) (fun _ => ?_) <;> cbv)
    | (refine Test.lss (fun _ => ?_) (fun _ => ?_) <;> cbv)
    | (refine Test.leq (fun _ => ?_) (fun _ => ?_) <;> cbv)
    | (refine Test.gtr (fun _ => ?_) (fun _ => ?_) <;> cbv)
    | (refine Test.geq (fun _ => ?_) (fun _ => ?_) <;> cbv)
    | (refine ⟨⟨by kernel_rfl, fun _ => ?_⟩⟩)
    | (refine LenR.nat S.cx (fun N hN hm => ?_); cbv)
    | exact Done.yes (by omega)
    | exact Done.no (by omega))

def rPPB (A : Sy) (p : List Twig × List Twig) : AV := .tup [.ro (A.enc cTwig p.1), .ro (A.enc cTwig p.2), .bool true]
def rPPN (A : Sy) (p : Unit) : AV := .tup [.own 3 true (A.enc cTwig ([] : List Twig)), .own 3 true (A.enc cTwig ([] : List Twig)), .bool false]

theorem l3Parts_c (S : Se P A) {l : List Twig} {x : Twig} {r : List Twig} (hl : l = x :: r) (h0 : 0 <= x.lefts) (h1 : x.lefts.toNat <= r.length) : SoundM P 335 true [.ro (A.enc cTwig l)] []
    (fun v os => v = rPPB A (r.take x.lefts.toNat, r.drop x.lefts.toNat) /\ os = []) := by
  have hll : l.length = r.length + 1 := by rw [hl]; rfl
  have hx0 : l[(0 : Int).toNat]? = some x := by rw [hl]; rfl
  obtain ⟨xd, xs, k⟩ := x
  dsimp only at h0 h1 ⊢
  refine S.cx.by (S.prog ▸ Tryz.func335) rfl rfl rfl rfl (fun hv ho => ?_)
  cbv
  refine ElemRo.at S.cx (x := (⟨xd, xs, k⟩ : Twig)) rfl (by decide) hx0 ?_; cbv
  refine LenR.nat S.cx (fun N hN hm => ?_); cbv
  refine Arith.go (by lia) (fun m hm2 => ?_); replace hm2 : m = N - 1 := hm2; cbv
  refine ACall.testD (dp := false) (l1In_c S k 0 m) .go rfl (fun h2 => ?_) (fun h2 => ?_) <;> cbv
  rotate_left
  · exact absurd ⟨h0, by lia⟩ h2
  try (refine Drawn.mk ⟨by kernel_rfl, fun _ => ?_⟩)
  refine Arith.go (by lia) (fun n hn => ?_); replace hn : n = 1 + k := hn; cbv
  refine CutRo.enc S.cx (fun _ => rfl) (by decide) (by lia) (by lia) (fun a ha => ?_); cbv
  refine Arith.go (by lia) (fun n2 hn2 => ?_); replace hn2 : n2 = 1 + k := hn2; cbv
  refine CutRoE.enc S.cx (fun _ => rfl) (by lia) (by lia) (fun b hb => ?_); cbv
  refine Done.to (rPPB A (a, b)) [] rfl ⟨⟨rfl, .inl rfl⟩, ⟨rfl, .inl rfl⟩, rfl, trivial⟩ trivial ⟨?_, rfl⟩
  have e1 : a = r.take k.toNat := by rw [ha, hl, show n.toNat = k.toNat + 1 by omega]; rfl
  have e2 : b = r.drop k.toNat := by rw [hb, hl, show n2.toNat = k.toNat + 1 by omega]; rfl
  rw [e1, e2]

theorem l3PartsN_c (S : Se P A) {l : List Twig} {x : Twig} {r : List Twig} (hl : l = x :: r) (hb : l.length <= 4294967296) (h1 : ¬ (0 <= x.lefts /\ x.lefts.toNat <= r.length)) : SoundM P 335 true [.ro (A.enc cTwig l)] []
    (fun v os => v = rPPN A () /\ os = []) := by
  have hll : l.length = r.length + 1 := by rw [hl]; rfl
  have hx0 : l[(0 : Int).toNat]? = some x := by rw [hl]; rfl
  obtain ⟨xd, xs, k⟩ := x
  dsimp only at h1 ⊢
  refine S.cx.by (S.prog ▸ Tryz.func335) rfl rfl rfl rfl (fun hv ho => ?_)
  cbv
  refine ElemRo.at S.cx (x := (⟨xd, xs, k⟩ : Twig)) rfl (by decide) hx0 ?_; cbv
  refine LenR.nat S.cx (fun N hN hm => ?_); cbv
  refine Arith.go (by lia) (fun m hm2 => ?_); replace hm2 : m = N - 1 := hm2; cbv
  refine ACall.testD (dp := false) (l1In_c S k 0 m) .go rfl (fun h2 => ?_) (fun h2 => ?_) <;> cbv
  · exact absurd ⟨h2.1, by lia⟩ h1
  exact Done.isA (r := rPPN A) (x := ()) (rfl)

theorem l3Twice_c (S : Se P A) (l : List Twig) : Tests P 333 [.ro (A.enc cTwig l)] (¬ (l.map (·.seq)).Nodup) := by
  refine S.cx.by (S.prog ▸ Tryz.func333) rfl rfl rfl rfl (fun hv ho => ?_)
  cbv
  refine ALoop.goS (ι := Int) (fun i => [(3, .int .i64 i)]) [] (fun i => []) (fun i => 0 <= i /\ ((l.take i.toNat).map (·.seq)).Nodup) (fun i => (l.length - i).toNat) (0) S.cx.tab S.cx.mix S.eq ?_ ?_ ?_
  · exact ⟨Int.le_refl _, by simp⟩
  · (cbv; exact Less.toA [])
  intro i hk
  obtain ⟨h0, hn⟩ := hk
  refine Rnd.mk ?_; cbv
  refine LenR.nat S.cx (fun N hN hm => ?_); cbv
  refine Test.lss (fun h => ?_) (fun h => ?_) <;> cbv
  rotate_left
  · exact Done.no fun e => e (by rw [take_all (by lia)] at hn; exact hn)
  obtain ⟨x, hx⟩ := get_of_lt (show i.toNat < l.length by lia)
  obtain ⟨i0, hi0⟩ : ∃ k, k = i := ⟨_, rfl⟩
  rw [<- hi0] at h0 hn h hx ⊢
  refine ALoop.goS (ι := Int) (fun i => [(4, .int .i64 i)]) [] (fun i => []) (fun i => 0 <= i /\ x.seq ∉ (l.take i.toNat).map (·.seq) /\ i <= i0) (fun i => (i0 - i).toNat) (0) S.cx.tab S.cx.mix S.eq ?_ ?_ ?_
  · exact ⟨Int.le_refl _, by simp, h0⟩
  · (cbv; exact Less.toA [])
  intro j hj
  obtain ⟨j0, hj1, hj2⟩ := hj
  refine Rnd.mk ?_; cbv
  refine Test.lss (fun h2 => ?_) (fun h2 => ?_) <;> cbv
  · try (refine Drawn.mk ⟨by kernel_rfl, fun _ => ?_⟩)
    refine ElemRo.at S.cx (x := x) rfl (by lia) hx ?_; cbv
    refine ElemRo.enc S.cx (fun _ => rfl) (by lia) (by lia) (fun y hy => ?_); cbv
    refine Test.eql (fun h3 => ?_) (fun h3 => ?_) <;> cbv
    · refine Done.yes (nodup_not h0 hx ?_)
      rw [h3]
      refine List.mem_map.2 ⟨y, ?_, rfl⟩
      exact mem_at (j := j.toNat) (by rw [List.getElem?_take_of_lt (by lia)]; exact hy)
    · refine Arith.go (by lia) (fun j' hj' => ?_); cbv
      refine Again.on j' (by lia) ⟨by lia, ?_, by lia⟩ ?_
      · rw [show j'.toNat = j.toNat + 1 by lia, take_next hy, List.map_append]
        simp only [List.mem_append, not_or]
        exact ⟨hj1, by simpa using h3⟩
      · (cbv; exact Less.toA [])
  · have e : j = i0 := by lia
    rw [e] at hj1
    refine Arith.go (by lia) (fun i' hi' => ?_); cbv
    refine Again.on i' (by lia) ⟨by lia, nodup_next h0 hx hn hi' hj1⟩ ?_
    (cbv; exact Less.toA [])

end Go.Proofs.YtihfpbhalnedcaaGreat.AM

namespace Go.Proofs.YtihfpbhalnedcaaGreat.AM
open Go Go.Proofs

set_option maxRecDepth 100000
set_option maxHeartbeats 4000000

variable {P : Program} {A : Sy}

def rankL (l : List Twig) : Int := if Heap.Is l then ((heapOf l).rank : Int) else -1

theorem rankL_is {t : Heap} {l : List Twig} (h : t.ok) (e : t.flat = l) : rankL l = (t.rank : Int) := by
  have hi : Heap.Is l := ⟨t, h, e⟩
  unfold rankL; rw [if_pos hi, <- e, heapOf_flat h]

theorem rankL_not {l : List Twig} (h : ¬ Heap.Is l) : rankL l = -1 := if_neg h

theorem rankL_ge {l : List Twig} : 0 <= rankL l ↔ Heap.Is l := by
  unfold rankL; split
  · rename_i h; exact ⟨fun _ => h, fun _ => Int.natCast_nonneg _⟩
  · rename_i h; exact ⟨fun e => absurd e (by decide), fun e => absurd e h⟩

theorem rank_le (t : Heap) : t.rank <= t.size := by
  induction t with
  | nil => exact Nat.le_refl _
  | node d s a b iha ihb => simp only [Heap.rank, Heap.size]; omega

theorem rankL_le (l : List Twig) : rankL l <= (l.length : Int) := by
  unfold rankL; split
  · rename_i h
    have h1 := rank_le (heapOf l)
    have h2 := Heap.flat_len (heapOf l)
    rw [(heapOf_is h).2] at h2
    omega
  · omega

def Ahead (x : Twig) (l : List Twig) : Prop := match l with
  | [] => True
  | y :: _ => x.due < y.due ∨ x.due = y.due /\ x.seq < y.seq

theorem ahead_above {x : Twig} {t : Heap} {l : List Twig} (h : t.flat = l) : Heap.above x.due x.seq t ↔ Ahead x l := by
  cases l with
  | nil => rw [Heap.flat_nil h]; exact Iff.rfl
  | cons y q => exact Heap.above_cons h

theorem rank_cons {x : Twig} {r ll lr : List Twig} (hp : 0 <= x.lefts /\ x.lefts.toNat <= r.length) (h1 : ll = r.take x.lefts.toNat) (h2 : lr = r.drop x.lefts.toNat) :
    (Heap.Is (x :: r) ↔ Heap.Is ll /\ Heap.Is lr /\ rankL lr <= rankL ll /\ Ahead x ll /\ Ahead x lr) /\ (Heap.Is (x :: r) -> rankL (x :: r) = rankL lr + 1) := by
  refine ⟨⟨fun h => ?_, fun h => ?_⟩, fun h => ?_⟩
  · obtain ⟨_, a, b, ha, hb, ea, eb, hr, hla, hlb⟩ := Heap.is_cons.1 h
    rw [<- h1] at ea; rw [<- h2] at eb
    refine ⟨⟨a, ha, ea⟩, ⟨b, hb, eb⟩, ?_, (ahead_above ea).1 hla, (ahead_above eb).1 hlb⟩
    rw [rankL_is ha ea, rankL_is hb eb]; omega
  · obtain ⟨⟨a, ha, ea⟩, ⟨b, hb, eb⟩, hr, g1, g2⟩ := h
    rw [rankL_is ha ea, rankL_is hb eb] at hr
    exact Heap.is_cons.2 ⟨hp, a, b, ha, hb, ea.trans h1, eb.trans h2, by omega, (ahead_above ea).2 g1, (ahead_above eb).2 g2⟩
  · obtain ⟨t, hok, hf⟩ := h
    obtain ⟨a, b, rfl, g1, g2, g3, g4⟩ := Heap.flat_cons hf
    rw [rankL_is hok hf, rankL_is hok.2.1 (g3.trans h2.symm)]
    simp only [Heap.rank]; omega

theorem l3Rank_step (S : Se P A) (l : List Twig) (hb : l.length <= 4294967296)
    (ih : ∀ l' : List Twig, l'.length < l.length -> Is1 P 334 [.ro (A.enc cTwig l')] (.int .i64 (rankL l'))) : Is1 P 334 [.ro (A.enc cTwig l)] (.int .i64 (rankL l)) := by
  refine SoundM.knownH (p := fun n => n = rankL l) ?_ (fun n h => h)
  refine S.cx.by (S.prog ▸ Tryz.func334) rfl rfl rfl rfl (fun hv ho => ?_)
  cbv
  refine LenR.nat S.cx (fun N hN hm => ?_); cbv
  refine Test.eql (fun h1 => ?_) (fun h1 => ?_) <;> cbv
  · have e : l = [] := List.length_eq_zero_iff.1 (by lia)
    exact Done.num (by rw [e, rankL_is (t := .nil) (l := []) trivial rfl]; rfl)
  obtain ⟨x, r, hxr⟩ : ∃ x r, l = x :: r := by
    cases l with
    | nil => simp at hN; omega
    | cons x r => exact ⟨x, r, rfl⟩
  have hx0 : l[(0 : Int).toNat]? = some x := by rw [hxr]; rfl
  have hlen : l.length = r.length + 1 := by rw [hxr]; rfl
  by_cases hp : 0 <= x.lefts /\ x.lefts.toNat <= r.length
  rotate_left
  · have hni : ¬ Heap.Is l := fun e => hp (Heap.is_cons.1 (hxr ▸ e)).1
    refine ACall.valN (r := rPPN A) (os := fun _ => []) (dp := false) S.cx (l3PartsN_c S hxr hb hp) ⟨rfl, (by repeat' (first | exact trivial | exact rfl | exact Nat.le_refl _ | exact S.ga | exact S.gb ‹_› | exact S.gc ‹_› | exact S.gd | exact S.ge | exact S.gf ‹_› | exact S.gg ‹_› | exact S.gh | exact .inl rfl | exact S.gi ‹_› | exact S.gj ‹_› | exact S.gk | exact S.gl | refine ⟨?_, ?_⟩)), (by repeat' (first | exact trivial | exact rfl | exact Nat.le_refl _ | exact S.ga | exact S.gb ‹_› | exact S.gc ‹_› | exact S.gd | exact S.ge | exact S.gf ‹_› | exact S.gg ‹_› | exact S.gh | exact .inl rfl | exact S.gi ‹_› | exact S.gj ‹_› | exact S.gk | exact S.gl | refine ⟨?_, ?_⟩))⟩ rfl (fun ln hln x' hx => ⟨rfl, ?_⟩)
    cbv
    try (refine Drawn.mk ⟨by kernel_rfl, fun _ => ?_⟩)
    exact Done.num (rankL_not hni).symm
  refine ACall.valN (r := rPPB A) (os := fun _ => []) (dp := false) S.cx (l3Parts_c S hxr hp.1 hp.2) ⟨rfl, (by repeat' (first | exact trivial | exact rfl | exact Nat.le_refl _ | exact S.ga | exact S.gb ‹_› | exact S.gc ‹_› | exact S.gd | exact S.ge | exact S.gf ‹_› | exact S.gg ‹_› | exact S.gh | exact .inl rfl | exact S.gi ‹_› | exact S.gj ‹_› | exact S.gk | exact S.gl | refine ⟨?_, ?_⟩)), (by repeat' (first | exact trivial | exact rfl | exact Nat.le_refl _ | exact S.ga | exact S.gb ‹_› | exact S.gc ‹_› | exact S.gd | exact S.ge | exact S.gf ‹_› | exact S.gg ‹_› | exact S.gh | exact .inl rfl | exact S.gi ‹_› | exact S.gj ‹_› | exact S.gk | exact S.gl | refine ⟨?_, ?_⟩))⟩ rfl (fun ln hln x' hx => ⟨rfl, ?_⟩)
  obtain ⟨ll, lr⟩ := x'
  simp only [Prod.mk.injEq] at hx
  obtain ⟨hl1, hl2⟩ := hx
  have hrc := rank_cons hp hl1 hl2
  rw [<- hxr] at hrc
  have hlll : ll.length < l.length := by rw [hl1, hlen]; simp; omega
  have hlrl : lr.length < l.length := by rw [hl2, hlen]; simp; omega
  obtain ⟨xd, xs, xk⟩ := x
  cbv
  try (refine Drawn.mk ⟨by kernel_rfl, fun _ => ?_⟩)
  refine LenR.natD S.cx (by omega) (fun L hL => ?_); cbv
  refine Test.gtr (fun h2 => ?_) (fun h2 => ?_) <;> cbv
  · obtain ⟨y, q, hy⟩ : ∃ y q, ll = y :: q := by
      cases ll with
      | nil => simp at hL; omega
      | cons y q => exact ⟨y, q, rfl⟩
    obtain ⟨yd, ys, yk⟩ := y
    refine ElemRo.at S.cx (x := (⟨xd, xs, xk⟩ : Twig)) rfl (by decide) hx0 ?_; cbv
    refine ElemRo.at S.cx (x := (⟨yd, ys, yk⟩ : Twig)) rfl (by decide) (by rw [hy]; rfl) ?_; cbv
    refine ACall.testD (dp := false) (l3Ahead_c S xd xs xk yd ys yk) .go rfl (fun h3 => ?_) (fun h3 => ?_) <;> cbv
    rotate_left
    · refine Done.num (rankL_not fun e => ?_).symm
      have h4 := (hrc.1.1 e).2.2.2.1
      rw [hy] at h4
      exact h3 h4
    have hA : Ahead ⟨xd, xs, xk⟩ ll := by rw [hy]; exact h3
    refine LenR.natD S.cx (by omega) (fun R hR => ?_); cbv
    refine Test.gtr (fun h5 => ?_) (fun h5 => ?_) <;> cbv
    · obtain ⟨z, q, hz⟩ : ∃ z q, lr = z :: q := by
        cases lr with
        | nil => simp at hR; omega
        | cons z q => exact ⟨z, q, rfl⟩
      obtain ⟨zd, zs, zk⟩ := z
      refine ElemRo.at S.cx (x := (⟨xd, xs, xk⟩ : Twig)) rfl (by decide) hx0 ?_; cbv
      refine ElemRo.at S.cx (x := (⟨zd, zs, zk⟩ : Twig)) rfl (by decide) (by rw [hz]; rfl) ?_; cbv
      refine ACall.testD (dp := false) (l3Ahead_c S xd xs xk zd zs zk) .go rfl (fun h6 => ?_) (fun h6 => ?_) <;> cbv
      rotate_left
      · refine Done.num (rankL_not fun e => ?_).symm
        have h4 := (hrc.1.1 e).2.2.2.2
        rw [hz] at h4
        exact h6 h4
      have hB : Ahead ⟨xd, xs, xk⟩ lr := by rw [hz]; exact h6
      refine ACall.int (dp := false) (ih ll hlll) .go rfl (fun a ha => ?_); cbv
      refine ACall.int (dp := false) (ih lr hlrl) .go rfl (fun b hb2 => ?_); cbv
      have gl := @rankL_ge ll
      have gr := @rankL_ge lr
      rw [<- ha] at gl hrc
      rw [<- hb2] at gr hrc
      refine Test.lss (fun h7 => ?_) (fun h7 => ?_) <;> cbv
      · exact Done.num (rankL_not fun e => by have := gl.2 (hrc.1.1 e).1; omega).symm
      refine Test.lss (fun h8 => ?_) (fun h8 => ?_) <;> cbv
      · exact Done.num (rankL_not fun e => by have := gr.2 (hrc.1.1 e).2.1; omega).symm
      refine Test.lss (fun h9 => ?_) (fun h9 => ?_) <;> cbv
      · exact Done.num (rankL_not fun e => by have := (hrc.1.1 e).2.2.1; omega).symm
      have hIs := hrc.1.2 ⟨gl.1 (by omega), gr.1 (by omega), by omega, hA, hB⟩
      have hres := hrc.2 hIs
      have hbb : b <= 4294967296 := by have := rankL_le lr; rw [<- hb2] at this; omega
      refine Arith.go (by lia) (fun n hn => ?_); replace hn : n = b + 1 := hn; cbv
      exact Done.num (hn.trans hres.symm)
    · have hB : Ahead ⟨xd, xs, xk⟩ lr := by rw [List.length_eq_zero_iff.1 (show lr.length = 0 by omega)]; trivial
      refine ACall.int (dp := false) (ih ll hlll) .go rfl (fun a ha => ?_); cbv
      refine ACall.int (dp := false) (ih lr hlrl) .go rfl (fun b hb2 => ?_); cbv
      have gl := @rankL_ge ll
      have gr := @rankL_ge lr
      rw [<- ha] at gl hrc
      rw [<- hb2] at gr hrc
      refine Test.lss (fun h7 => ?_) (fun h7 => ?_) <;> cbv
      · exact Done.num (rankL_not fun e => by have := gl.2 (hrc.1.1 e).1; omega).symm
      refine Test.lss (fun h8 => ?_) (fun h8 => ?_) <;> cbv
      · exact Done.num (rankL_not fun e => by have := gr.2 (hrc.1.1 e).2.1; omega).symm
      refine Test.lss (fun h9 => ?_) (fun h9 => ?_) <;> cbv
      · exact Done.num (rankL_not fun e => by have := (hrc.1.1 e).2.2.1; omega).symm
      have hIs := hrc.1.2 ⟨gl.1 (by omega), gr.1 (by omega), by omega, hA, hB⟩
      have hres := hrc.2 hIs
      have hbb : b <= 4294967296 := by have := rankL_le lr; rw [<- hb2] at this; omega
      refine Arith.go (by lia) (fun n hn => ?_); replace hn : n = b + 1 := hn; cbv
      exact Done.num (hn.trans hres.symm)
  · have hA : Ahead ⟨xd, xs, xk⟩ ll := by rw [List.length_eq_zero_iff.1 (show ll.length = 0 by omega)]; trivial
    refine LenR.natD S.cx (by omega) (fun R hR => ?_); cbv
    refine Test.gtr (fun h5 => ?_) (fun h5 => ?_) <;> cbv
    · obtain ⟨z, q, hz⟩ : ∃ z q, lr = z :: q := by
        cases lr with
        | nil => simp at hR; omega
        | cons z q => exact ⟨z, q, rfl⟩
      obtain ⟨zd, zs, zk⟩ := z
      refine ElemRo.at S.cx (x := (⟨xd, xs, xk⟩ : Twig)) rfl (by decide) hx0 ?_; cbv
      refine ElemRo.at S.cx (x := (⟨zd, zs, zk⟩ : Twig)) rfl (by decide) (by rw [hz]; rfl) ?_; cbv
      refine ACall.testD (dp := false) (l3Ahead_c S xd xs xk zd zs zk) .go rfl (fun h6 => ?_) (fun h6 => ?_) <;> cbv
      rotate_left
      · refine Done.num (rankL_not fun e => ?_).symm
        have h4 := (hrc.1.1 e).2.2.2.2
        rw [hz] at h4
        exact h6 h4
      have hB : Ahead ⟨xd, xs, xk⟩ lr := by rw [hz]; exact h6
      refine ACall.int (dp := false) (ih ll hlll) .go rfl (fun a ha => ?_); cbv
      refine ACall.int (dp := false) (ih lr hlrl) .go rfl (fun b hb2 => ?_); cbv
      have gl := @rankL_ge ll
      have gr := @rankL_ge lr
      rw [<- ha] at gl hrc
      rw [<- hb2] at gr hrc
      refine Test.lss (fun h7 => ?_) (fun h7 => ?_) <;> cbv
      · exact Done.num (rankL_not fun e => by have := gl.2 (hrc.1.1 e).1; omega).symm
      refine Test.lss (fun h8 => ?_) (fun h8 => ?_) <;> cbv
      · exact Done.num (rankL_not fun e => by have := gr.2 (hrc.1.1 e).2.1; omega).symm
      refine Test.lss (fun h9 => ?_) (fun h9 => ?_) <;> cbv
      · exact Done.num (rankL_not fun e => by have := (hrc.1.1 e).2.2.1; omega).symm
      have hIs := hrc.1.2 ⟨gl.1 (by omega), gr.1 (by omega), by omega, hA, hB⟩
      have hres := hrc.2 hIs
      have hbb : b <= 4294967296 := by have := rankL_le lr; rw [<- hb2] at this; omega
      refine Arith.go (by lia) (fun n hn => ?_); replace hn : n = b + 1 := hn; cbv
      exact Done.num (hn.trans hres.symm)
    · have hB : Ahead ⟨xd, xs, xk⟩ lr := by rw [List.length_eq_zero_iff.1 (show lr.length = 0 by omega)]; trivial
      refine ACall.int (dp := false) (ih ll hlll) .go rfl (fun a ha => ?_); cbv
      refine ACall.int (dp := false) (ih lr hlrl) .go rfl (fun b hb2 => ?_); cbv
      have gl := @rankL_ge ll
      have gr := @rankL_ge lr
      rw [<- ha] at gl hrc
      rw [<- hb2] at gr hrc
      refine Test.lss (fun h7 => ?_) (fun h7 => ?_) <;> cbv
      · exact Done.num (rankL_not fun e => by have := gl.2 (hrc.1.1 e).1; omega).symm
      refine Test.lss (fun h8 => ?_) (fun h8 => ?_) <;> cbv
      · exact Done.num (rankL_not fun e => by have := gr.2 (hrc.1.1 e).2.1; omega).symm
      refine Test.lss (fun h9 => ?_) (fun h9 => ?_) <;> cbv
      · exact Done.num (rankL_not fun e => by have := (hrc.1.1 e).2.2.1; omega).symm
      have hIs := hrc.1.2 ⟨gl.1 (by omega), gr.1 (by omega), by omega, hA, hB⟩
      have hres := hrc.2 hIs
      have hbb : b <= 4294967296 := by have := rankL_le lr; rw [<- hb2] at this; omega
      refine Arith.go (by lia) (fun n hn => ?_); replace hn : n = b + 1 := hn; cbv
      exact Done.num (hn.trans hres.symm)

theorem l3Rank_c (S : Se P A) (l : List Twig) (hb : l.length <= 4294967296) : Is1 P 334 [.ro (A.enc cTwig l)] (.int .i64 (rankL l)) := by
  obtain ⟨n, hn⟩ : ∃ n, l.length = n := ⟨_, rfl⟩
  induction n using Nat.strongRecOn generalizing l with
  | _ n ih => exact l3Rank_step S l hb fun l' hl => ih l'.length (by omega) l' (by omega) rfl

theorem specHeapOk_c (S : Se P A) (l : List Twig) : Tests P 275 [.ro (A.enc cTwig l)] (HeapOk l) := by
  refine S.cx.by (S.prog ▸ Tryz.func275) rfl rfl rfl rfl (fun hv ho => ?_)
  cbv
  refine LenR.nat S.cx (fun N hN hm => ?_); cbv
  refine Test.leq (fun h1 => ?_) (fun h1 => ?_) <;> cbv
  rotate_left
  · exact Done.no fun e => by have := e.1; lia
  have hl : l.length <= 64 := by lia
  refine ACall.testD (dp := false) (l3Twice_c S l) .go rfl (fun h2 => ?_) (fun h2 => ?_) <;> cbv
  · exact Done.no fun e => h2 e.2.1
  have hnd := Classical.not_not.1 h2
  refine ACall.int (dp := false) (l3Rank_c S l (by omega)) .go rfl (fun n hn => ?_); cbv
  have hg := @rankL_ge l
  rw [<- hn] at hg
  refine Test.geq (fun h3 => ?_) (fun h3 => ?_) <;> cbv
  · exact Done.yes ⟨hl, hnd, hg.1 (by omega)⟩
  · exact Done.no fun e => by have := hg.2 e.2.2; omega

end Go.Proofs.YtihfpbhalnedcaaGreat.AM

namespace Go.Proofs.YtihfpbhalnedcaaGreat.AM
open Go Go.Proofs

set_option maxRecDepth 100000
set_option maxHeartbeats 4000000

variable {P : Program} {A : Sy}

theorem l4Timer_c (S : Se P A) (q d w h : Int) (b : Bool) (next : Int) (hn : 0 <= next /\ next <= 1000000) : Tests P 208 [.agg (cTimer ⟨q, d, w, h, b⟩), .int .i64 next] (Timer.ok ⟨q, d, w, h, b⟩ next) := by
  refine S.cx.by (S.prog ▸ Tryz.func208) rfl rfl rfl rfl (fun hv ho => ?_)
  cbv
  refine Arith.go (by lia) (fun m hm => ?_); replace hm : m = next - 1 := hm; cbv
  refine ACall.testD (dp := false) (l1In_c S q 0 m) .go rfl (fun h1 => ?_) (fun h1 => ?_) <;> cbv
  rotate_left
  · exact Done.no fun e => h1 ⟨e.1.1, by have := e.1.2; dsimp only at this; omega⟩
  refine ACall.testD (dp := false) (l1In_c S w 0 2) .go rfl (fun h2 => ?_) (fun h2 => ?_) <;> cbv
  rotate_left
  · exact Done.no fun e => h2 e.2.1
  refine ACall.testD (dp := false) (l1In_c S h 0 99) .go rfl (fun h3 => ?_) (fun h3 => ?_) <;> cbv
  rotate_left
  · exact Done.no fun e => h3 e.2.2
  exact Done.yes ⟨⟨h1.1, by dsimp only; omega⟩, h2, h3⟩

theorem timIdx_known {list : List Timer} {q n : Int} (h : 0 <= n /\ (∃ x, list[n.toNat]? = some x /\ x.seq = q) /\ Upto (fun _ x => ¬ x.seq = q) list n ∨ n = -1 /\ ∀ x ∈ list, ¬ x.seq = q) : n = timIdx list q := by
  rcases h with ⟨h0, ⟨x, hx, hq⟩, hu⟩ | ⟨rfl, h⟩
  · have : list.findIdx? (fun x => decide (x.seq = q)) = some n.toNat := by
      obtain ⟨hl, hg⟩ := List.getElem?_eq_some_iff.1 hx
      refine List.findIdx?_eq_some_iff_getElem.2 ⟨hl, by simp [hg, hq], fun j hj => ?_⟩
      have := hu j list[j] (by omega) (List.getElem?_eq_getElem (by omega))
      simpa using this
    unfold timIdx; rw [this]; dsimp only; omega
  · have : list.findIdx? (fun x => decide (x.seq = q)) = none := List.findIdx?_eq_none_iff.2 fun x hx => decide_eq_false (h x hx)
    unfold timIdx; rw [this]

theorem l4At_c (S : Se P A) (heap : List Twig) (list : List Timer) (next q : Int) : Is1 P 203 [.agg (roTimers A ⟨heap, list, next⟩), .int .i64 q] (.int .i64 (timIdx list q)) := by
  refine SoundM.knownH (p := fun r => 0 <= r /\ (∃ x, list[r.toNat]? = some x /\ x.seq = q) /\ Upto (fun _ x => ¬ x.seq = q) list r ∨ r = -1 /\ ∀ x ∈ list, ¬ x.seq = q) ?_ (fun n h => timIdx_known h)
  refine S.cx.by (S.prog ▸ Tryz.func203) rfl rfl rfl rfl (fun hv ho => ?_)
  cbv
  refine ALoop.goS (ι := Int) (fun i => [(5, .int .i64 i)]) [] (fun i => []) (fun i => 0 <= i /\ Upto (fun _ x => ¬ x.seq = q) list i) (fun i => (list.length - i).toNat) (0) S.cx.tab S.cx.mix S.eq ?_ ?_ ?_
  · exact ⟨Int.le_refl _, .zero⟩
  · (cbv; exact Less.toA [])
  intro i hk
  obtain ⟨h0, hu⟩ := hk
  refine Rnd.mk ?_; cbv
  refine LenR.nat S.cx (fun N hN hm => ?_); cbv
  refine Test.lss (fun h => ?_) (fun h => ?_) <;> cbv
  rotate_left
  · exact Done.num (.inr ⟨rfl, hu.mem (by lia)⟩)
  refine ElemRo.enc S.cx (fun _ => rfl) (by lia) (by lia) (fun x hx => ?_); cbv
  refine Test.eql (fun h2 => ?_) (fun h2 => ?_) <;> cbv
  · exact Done.num (.inl ⟨h0, ⟨x, hx, h2⟩, hu⟩)
  · refine Arith.go (by lia) (fun i' hi' => ?_); cbv
    refine Again.on i' (by lia) ⟨by lia, hu.next h0 hx h2 hi'⟩ ?_
    (cbv; exact Less.toA [])

end Go.Proofs.YtihfpbhalnedcaaGreat.AM

namespace Go.Proofs.YtihfpbhalnedcaaGreat.AM
open Go Go.Proofs

set_option maxRecDepth 100000
set_option maxHeartbeats 4000000

variable {P : Program} {A : Sy}

theorem specTimersOk_c (S : Se P A) (heap : List Twig) (list : List Timer) (next : Int) : Tests P 204 [.agg (roTimers A ⟨heap, list, next⟩)] (TimersOk ⟨heap, list, next⟩) := by
  refine S.cx.by (S.prog ▸ Tryz.func204) rfl rfl rfl rfl (fun hv ho => ?_)
  cbv
  refine ACall.testD (dp := false) (specHeapOk_c S heap) .go rfl (fun h3 => ?_) (fun h3 => ?_) <;> cbv
  rotate_left
  · exact Done.no fun e => h3 e.2.2.1
  refine LenR.nat S.cx (fun N hN hm => ?_); cbv
  refine Test.gtr (fun h2 => ?_) (fun h2 => ?_) <;> cbv
  · exact Done.no fun e => by have := e.2.1; dsimp only at this; lia
  have hl64 : list.length <= 64 := by lia
  refine ACall.testD (dp := false) (l1In_c S next 0 1000000) .go rfl (fun h1 => ?_) (fun h1 => ?_) <;> cbv
  rotate_left
  · exact Done.no fun e => h1 e.1
  refine ALoop.goS (ι := Int × Int) (fun i => [(4, .int .i64 i.1), (3, .int .i64 i.2)]) [] (fun i => []) (fun i => 0 <= i.1 /\ (∀ x ∈ list.take i.1.toNat, x.ok next) /\ (list.take i.1.toNat).Pairwise (fun x y => x.seq < y.seq) /\ 0 <= i.2 /\ i.2.toNat = armedN (list.take i.1.toNat)) (fun i => (list.length - i.1).toNat) (0, 0) S.cx.tab S.cx.mix S.eq ?_ ?_ ?_
  · exact ⟨Int.le_refl _, by simp, by simp, Int.le_refl _, rfl⟩
  · (cbv; exact Less.toA [])
  intro i hk
  obtain ⟨i, n⟩ := i
  obtain ⟨h0, hall, hpw, hn0, hn⟩ := hk
  dsimp only at h0 hall hpw hn0 hn
  refine Rnd.mk ?_; cbv
  refine LenR.nat S.cx (fun M hM hm2 => ?_); cbv
  refine Test.lss (fun h4 => ?_) (fun h4 => ?_) <;> cbv
  · obtain ⟨y, hy⟩ := get_of_lt (show i.toNat < list.length by lia)
    obtain ⟨ys, yd, yw, yh, ya⟩ := y
    have hym := mem_at hy
    have htn := take_next hy
    have han := armedN_le (list.take i.toNat)
    rw [List.length_take] at han
    try (refine Drawn.mk ⟨by kernel_rfl, fun _ => ?_⟩)
    refine ElemRo.at S.cx (x := (⟨ys, yd, yw, yh, ya⟩ : Timer)) rfl (by lia) hy ?_; cbv
    refine ACall.testD (dp := false) (l4Timer_c S ys yd yw yh ya next h1) .go rfl (fun h5 => ?_) (fun h5 => ?_) <;> cbv
    rotate_left
    · exact Done.no fun e => h5 (e.2.2.2.1 _ hym)
    refine Test.gtr (fun h6 => ?_) (fun h6 => ?_) <;> cbv
    · obtain ⟨k, hk⟩ : ∃ k, k = i - 1 := ⟨_, rfl⟩
      obtain ⟨z, hz⟩ := get_of_lt (show k.toNat < list.length by lia)
      obtain ⟨zs, zd, zw, zh, za⟩ := z
      refine ElemRo.at S.cx (x := (⟨ys, yd, yw, yh, ya⟩ : Timer)) rfl (by lia) hy ?_; cbv
      refine Arith.go (by lia) (fun k' hk' => ?_)
      obtain rfl : k' = k := hk'.trans hk.symm
      cbv
      refine ElemRo.at S.cx (x := (⟨zs, zd, zw, zh, za⟩ : Timer)) rfl (by lia) hz ?_; cbv
      have hzm : (⟨zs, zd, zw, zh, za⟩ : Timer) ∈ list.take i.toNat := mem_at (j := k'.toNat) (by rw [List.getElem?_take_of_lt (by lia)]; exact hz)
      refine Test.leq (fun h7 => ?_) (fun h7 => ?_) <;> cbv
      · refine Done.no fun e => ?_
        have := asc_at e.2.2.2.2.1 hzm hy
        dsimp only at this
        omega
      have hprev : ∀ x ∈ list.take i.toNat, x.seq < ys := fun x hx => by
        have e1 : list.take i.toNat = list.take k'.toNat ++ [⟨zs, zd, zw, zh, za⟩] := by rw [show i.toNat = k'.toNat + 1 by lia, take_next hz]
        rw [e1] at hx hpw
        rcases List.mem_append.1 hx with hx | hx
        · have := (List.pairwise_append.1 hpw).2.2 x hx _ (List.mem_singleton.2 rfl)
          dsimp only at this; omega
        · rw [List.mem_singleton.1 hx]; dsimp only; omega
      have hnext : ∀ i', i' = i + 1 -> (∀ x ∈ list.take i'.toNat, x.ok next) /\ (list.take i'.toNat).Pairwise (fun x y => x.seq < y.seq) := fun i' hi' => by
        rw [show i'.toNat = i.toNat + 1 by omega, htn]
        refine ⟨fun x hx => ?_, List.pairwise_append.2 ⟨hpw, by simp, fun a ha b hb => ?_⟩⟩
        · rcases List.mem_append.1 hx with hx | hx
          · exact hall x hx
          · rw [List.mem_singleton.1 hx]; exact h5
        · rw [List.mem_singleton.1 hb]; exact hprev a ha
      refine ElemRo.at S.cx (x := (⟨ys, yd, yw, yh, ya⟩ : Timer)) rfl (by lia) hy ?_; cbv
      cases ya <;> cbv
      · refine Arith.go (by lia) (fun i' hi' => ?_); cbv
        have hx := hnext i' hi'
        refine Again.on (i', n) (by dsimp only; lia) ⟨by dsimp only; lia, hx.1, hx.2, hn0, ?_⟩ ?_
        · dsimp only
          rw [armedN_next h0 hy hi']; simpa using hn
        · (cbv; exact Less.toA [])
      · refine Arith.go (by lia) (fun n' hn' => ?_); replace hn' : n' = n + 1 := hn'; cbv
        refine Arith.go (by lia) (fun i' hi' => ?_); cbv
        have hx := hnext i' hi'
        refine Again.on (i', n') (by dsimp only; lia) ⟨by dsimp only; lia, hx.1, hx.2, by dsimp only; lia, ?_⟩ ?_
        · dsimp only
          rw [armedN_next h0 hy hi']; show n'.toNat = armedN (list.take i.toNat) + 1; lia
        · (cbv; exact Less.toA [])
    · have hprev : ∀ x ∈ list.take i.toNat, x.seq < ys := fun x hx => by
        rw [show i.toNat = 0 by lia] at hx; simp at hx
      have hnext : ∀ i', i' = i + 1 -> (∀ x ∈ list.take i'.toNat, x.ok next) /\ (list.take i'.toNat).Pairwise (fun x y => x.seq < y.seq) := fun i' hi' => by
        rw [show i'.toNat = i.toNat + 1 by omega, htn]
        refine ⟨fun x hx => ?_, List.pairwise_append.2 ⟨hpw, by simp, fun a ha b hb => ?_⟩⟩
        · rcases List.mem_append.1 hx with hx | hx
          · exact hall x hx
          · rw [List.mem_singleton.1 hx]; exact h5
        · rw [List.mem_singleton.1 hb]; exact hprev a ha
      refine ElemRo.at S.cx (x := (⟨ys, yd, yw, yh, ya⟩ : Timer)) rfl (by lia) hy ?_; cbv
      cases ya <;> cbv
      · refine Arith.go (by lia) (fun i' hi' => ?_); cbv
        have hx := hnext i' hi'
        refine Again.on (i', n) (by dsimp only; lia) ⟨by dsimp only; lia, hx.1, hx.2, hn0, ?_⟩ ?_
        · dsimp only
          rw [armedN_next h0 hy hi']; simpa using hn
        · (cbv; exact Less.toA [])
      · refine Arith.go (by lia) (fun n' hn' => ?_); replace hn' : n' = n + 1 := hn'; cbv
        refine Arith.go (by lia) (fun i' hi' => ?_); cbv
        have hx := hnext i' hi'
        refine Again.on (i', n') (by dsimp only; lia) ⟨by dsimp only; lia, hx.1, hx.2, by dsimp only; lia, ?_⟩ ?_
        · dsimp only
          rw [armedN_next h0 hy hi']; show n'.toNat = armedN (list.take i.toNat) + 1; lia
        · (cbv; exact Less.toA [])
  rw [take_all (by lia)] at hall hpw hn
  clear h4 h0
  refine ALoop.goS (ι := Int) (fun i => [(5, .int .i64 i)]) [] (fun i => []) (fun i => 0 <= i /\ ∀ x ∈ heap.take i.toNat, Held list x) (fun i => (heap.length - i).toNat) (0) S.cx.tab S.cx.mix S.eq ?_ ?_ ?_
  · exact ⟨Int.le_refl _, by simp⟩
  · (cbv; exact Less.toA [])
  intro j hj
  obtain ⟨j0, hj⟩ := hj
  refine Rnd.mk ?_; cbv
  refine LenR.nat S.cx (fun H hH hHm => ?_); cbv
  refine Test.lss (fun h5 => ?_) (fun h5 => ?_) <;> cbv
  rotate_left
  · rw [take_all (by lia)] at hj
    refine LenR.nat S.cx (fun H2 hH2 hHm2 => ?_); cbv
    refine Test.eql (fun h6 => ?_) (fun h6 => ?_) <;> cbv
    · exact Done.yes ⟨h1, hl64, h3, hall, hpw, by dsimp only; lia, hj⟩
    · exact Done.no fun e => by have := e.2.2.2.2.2.1; dsimp only at this; lia
  obtain ⟨x, hx⟩ := get_of_lt (show j.toNat < heap.length by lia)
  obtain ⟨xd, xs, xk⟩ := x
  have hxm := mem_at hx
  try (refine Drawn.mk ⟨by kernel_rfl, fun _ => ?_⟩)
  refine ElemRo.at S.cx (x := (⟨xd, xs, xk⟩ : Twig)) rfl (by lia) hx ?_; cbv
  refine ACall.int (dp := false) (l4At_c S heap list next xs) .go rfl (fun r hr => ?_); cbv
  have hne := @timIdx_none list xs
  have hso := @timIdx_some list xs
  rw [<- hr] at hne hso
  try (refine Drawn.mk ⟨by kernel_rfl, fun _ => ?_⟩)
  refine Test.lss (fun h7 => ?_) (fun h7 => ?_) <;> cbv
  · refine Done.no fun e => ?_
    obtain ⟨y, hy, e1, _⟩ := e.2.2.2.2.2.2 _ hxm
    exact hne h7 y hy e1
  obtain ⟨⟨ys, yd, yw, yh, ya⟩, hy, he⟩ := hso (by omega)
  have hym := mem_at hy
  dsimp only at he
  refine ElemRo.at S.cx (x := (⟨ys, yd, yw, yh, ya⟩ : Timer)) rfl (by omega) hy ?_; cbv
  cases ya <;> cbv
  · refine Done.no fun e => ?_
    obtain ⟨z, hz, e1, e2, _⟩ := e.2.2.2.2.2.2 _ hxm
    rw [asc_eq hpw hz hym (e1.trans he.symm)] at e2
    cases e2
  refine ElemRo.at S.cx (x := (⟨ys, yd, yw, yh, true⟩ : Timer)) rfl (by omega) hy ?_; cbv
  refine ElemRo.at S.cx (x := (⟨xd, xs, xk⟩ : Twig)) rfl (by lia) hx ?_; cbv
  refine Test.neq (fun h8 => ?_) (fun h8 => ?_) <;> cbv
  · refine Done.no fun e => ?_
    obtain ⟨z, hz, e1, _, e3⟩ := e.2.2.2.2.2.2 _ hxm
    rw [asc_eq hpw hz hym (e1.trans he.symm)] at e3
    exact h8 e3
  refine Arith.go (by lia) (fun j' hj' => ?_); cbv
  refine Again.on j' (by lia) ⟨by lia, fun x hx' => ?_⟩ ?_
  · rw [show j'.toNat = j.toNat + 1 by lia, take_next hx] at hx'
    rcases List.mem_append.1 hx' with hx' | hx'
    · exact hj x hx'
    · rw [List.mem_singleton.1 hx']
      exact ⟨_, hym, he, rfl, h8⟩
  · (cbv; exact Less.toA [])

end Go.Proofs.YtihfpbhalnedcaaGreat.AM
