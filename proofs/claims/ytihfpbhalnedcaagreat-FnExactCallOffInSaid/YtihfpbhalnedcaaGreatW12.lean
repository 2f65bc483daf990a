/- Contracts: programs and groups marked, and held. (printed by gw12.py) -/
import Derived.Test.YtihfpbhalnedcaaGreatW9
set_option linter.unusedVariables false
set_option linter.unusedSimpArgs false
namespace Go.Proofs.YtihfpbhalnedcaaGreat.AM
open Go Go.Proofs

set_option maxRecDepth 100000
set_option maxHeartbeats 4000000

variable {P : Program} {A : Sy}

theorem Row.at {T : Nat -> Option TI} (C : Cx P T A) {α : Type} {f : α -> List AV} {l : List α} {row : Nat} {K : List AV -> Prop} {x : α} (hx : l[row]? = some x) (h : K (f x)) : Row (A.enc f l) row K := by
  refine ⟨f x, ?_, h⟩
  rw [C.enc]; simp [hx]

theorem Less.row {s : St} {L sz : Nat} {fl : Bool} {rows rows' : List (List AV)} (hq : lk s.sto L = some (.arr sz fl rows)) (he : rows = rows') : Less s { s with sto := (L, .arr sz fl rows') :: s.sto } := by
  subst he
  refine ⟨fun E a hs => ⟨E, rfl, Fr.refl E, ⟨hs.wf, hs.defers, hs.size, hs.tmps, fun id o h => ?_, hs.used, fun id o h => ?_⟩⟩⟩
  · rw [lk_cons] at h
    by_cases e : L = id
    · subst e; rw [if_pos rfl] at h; obtain rfl := Option.some.inj h; exact hs.sto L _ hq
    · rw [if_neg e] at h; exact hs.sto id o h
  · rw [lk_cons] at h
    by_cases e : L = id
    · subst e; exact hs.keys _ _ hq
    · rw [if_neg e] at h; exact hs.keys id o h

def marksBy {α : Type} (f : Int -> α -> α) (c : α -> Nat) (w : Int) : Int -> List α -> List α
  | _, [] => []
  | k, x :: r => f k x :: marksBy f c w (k + w * (c x : Int)) r

theorem marksBy_len {α : Type} (f : Int -> α -> α) (c : α -> Nat) (w : Int) : ∀ (l : List α) (k : Int), (marksBy f c w k l).length = l.length
  | [], _ => rfl
  | x :: r, k => by simp [marksBy, marksBy_len f c w r]

theorem marksBy_append {α : Type} (f : Int -> α -> α) (c : α -> Nat) (w : Int) : ∀ (l m : List α) (k : Int), marksBy f c w k (l ++ m) = marksBy f c w k l ++ marksBy f c w (k + w * (sumBy c l : Int)) m
  | [], m, k => by simp [marksBy, sumBy]
  | x :: r, m, k => by
    have e : k + w * (c x : Int) + w * (sumBy c r : Int) = k + w * ((sumBy c (x :: r) : Nat) : Int) := by
      simp only [sumBy, Int.natCast_add, Int.mul_add, Int.add_assoc]
    simp only [List.cons_append, marksBy, marksBy_append f c w r m, e]

theorem marksBy_get {α : Type} (f : Int -> α -> α) (c : α -> Nat) (w : Int) {l : List α} {i : Nat} {x : α} (hx : l[i]? = some x) (k : Int) : (marksBy f c w k l)[i]? = some (f (k + w * (sumBy c (l.take i) : Int)) x) := by
  have hi := lt_of_get hx
  have e : l = l.take i ++ (x :: l.drop (i + 1)) := by
    rw [<- (List.getElem?_eq_some_iff.1 hx).2, <- List.drop_eq_getElem_cons hi, List.take_append_drop]
  have e2 : marksBy f c w k l = marksBy f c w k (l.take i) ++ (f (k + w * (sumBy c (l.take i) : Int)) x :: marksBy f c w (k + w * (sumBy c (l.take i) : Int) + w * (c x : Int)) (l.drop (i + 1))) := by
    conv => lhs; rw [e, marksBy_append]
    rfl
  have hl : (marksBy f c w k (l.take i)).length = i := by rw [marksBy_len, List.length_take_of_le (by omega)]
  rw [e2, List.getElem?_append_right (by omega), hl]
  simp

def partBy {α : Type} (f : Int -> α -> α) (c : α -> Nat) (w : Int) (k : Int) (l : List α) (i : Nat) : List α := marksBy f c w k (l.take i) ++ l.drop i

theorem partBy_zero {α : Type} (f : Int -> α -> α) (c : α -> Nat) (w k : Int) (l : List α) : partBy f c w k l 0 = l := by simp [partBy, marksBy]
theorem partBy_all {α : Type} (f : Int -> α -> α) (c : α -> Nat) (w k : Int) {l : List α} {i : Nat} (h : l.length <= i) : partBy f c w k l i = marksBy f c w k l := by
  rw [partBy, List.take_of_length_le h, List.drop_eq_nil_of_le h, List.append_nil]
theorem partBy_len {α : Type} (f : Int -> α -> α) (c : α -> Nat) (w k : Int) (l : List α) (i : Nat) : (partBy f c w k l i).length = l.length := by
  rw [partBy, List.length_append, marksBy_len, <- List.length_append, List.take_append_drop]
theorem partBy_get {α : Type} (f : Int -> α -> α) (c : α -> Nat) (w k : Int) {l : List α} {i : Nat} {x : α} (hx : l[i]? = some x) : (partBy f c w k l i)[i]? = some x := by
  have hi := lt_of_get hx
  have hl : (marksBy f c w k (l.take i)).length = i := by rw [marksBy_len, List.length_take_of_le (by omega)]
  rw [partBy, List.getElem?_append_right (by omega), hl, List.getElem?_drop]
  simpa using hx
theorem partBy_next {α : Type} (f : Int -> α -> α) (c : α -> Nat) (w k : Int) {l : List α} {i : Nat} {x : α} (hx : l[i]? = some x) : (partBy f c w k l i).set i (f (k + w * (sumBy c (l.take i) : Int)) x) = partBy f c w k l (i + 1) := by
  have hi := lt_of_get hx
  have hl : (marksBy f c w k (l.take i)).length = i := by rw [marksBy_len, List.length_take_of_le (by omega)]
  have e : l.drop i = x :: l.drop (i + 1) := by rw [<- (List.getElem?_eq_some_iff.1 hx).2, <- List.drop_eq_getElem_cons hi]
  rw [partBy, partBy, take_next hx, marksBy_append, e, List.set_append_right _ _ (by omega), hl]
  simp [marksBy]

def mkP (k : Int) (p : List Ins) : List Ins := marks mIns 3 k p.length
def mkG (k : Int) (g : Group) : Group := ⟨k, k + 1, k + 2, marks mInt64 1 (k + 3) g.waits.length, k + 3 + g.waits.length⟩
def wl (g : Group) : Nat := g.waits.length + 4
abbrev marksP : Int -> List (List Ins) -> List (List Ins) := marksBy mkP List.length 3
abbrev marksG : Int -> List Group -> List Group := marksBy mkG wl 1

theorem markInsSS_c (S : Se P A) (l : List (List Ins)) (N : Nat) (hN : N = l.length) (k : Int) (h0 : 0 <= k) (hk : k + 3 * (sumBy List.length l : Int) <= 4611686018427387904) : SoundM P 71 false [.ref false 1000 0 N, .int .i64 k] [.arr 1 false (A.enc (ownProg A) l)]
    (fun v os => v = .int .i64 (k + 3 * (sumBy List.length l : Int)) /\ os = [some (.arr 1 false (A.enc (ownProg A) (marksP k l)))]) := by
  refine S.cx.by (S.prog ▸ Tryz.func71) rfl rfl rfl rfl (fun hv ho => ?_)
  cbv
  clear hv ho
  obtain ⟨m0, hm0⟩ : ∃ m0, m0 = l.map PC.own := ⟨_, rfl⟩
  have hmf : ∀ c ∈ m0, c.fre := fun c hc => by rw [hm0] at hc; obtain ⟨_, _, rfl⟩ := List.mem_map.1 hc; trivial
  refine ALoop.pre (Less.row (L := 1000) rfl (rows' := A.enc (cPC A) m0) (by rw [hm0]; exact (encPC S.cx l).symm)) ?_
  cbv
  refine ALoop.goR (ι := Int × Int × List PC) (fun i => [(5, .int .i64 i.1), (1, .int .i64 i.2.1)]) [] [1000] (fun i => [(1000, .arr 1 false (A.enc (cPC A) i.2.2))])
    (fun i => 0 <= i.1 /\ i.1.toNat <= l.length /\ i.2.1 = k + 3 * (sumBy List.length (l.take i.1.toNat) : Int) /\ i.2.2 = (partBy mkP List.length 3 k l i.1.toNat).map PC.own) (fun i => l.length - i.1.toNat) (0, k, m0) ?_ ?_ ?_
  · refine ⟨Int.le_refl _, Nat.zero_le _, ?_, ?_⟩
    · show k = k + 3 * ((0 : Nat) : Int)
      omega
    · show m0 = (partBy mkP List.length 3 k l 0).map PC.own
      rw [partBy_zero, hm0]
  · (cbv; refine Less.to [] rfl rfl ?_ ?_ <;> repeat' (first | exact trivial | exact ⟨rfl, rfl⟩ | exact ⟨_, rfl, Nat.zero_le _, rfl⟩ | apply And.intro | exact rfl))
    exact noRefsPC S.cx hmf
  rintro ⟨i, q, m⟩ ⟨h1, h2, h3, h4⟩
  dsimp only at h1 h2 h3 h4
  have hsl := sumBy_take List.length l i.toNat
  have hml : m.length = N := by rw [h4, List.length_map, partBy_len, hN]
  by_cases hi : i.toNat < l.length
  · obtain ⟨x, hx⟩ := get_of_lt hi
    have hpx := partBy_get mkP List.length 3 k hx
    have hpn := partBy_next mkP List.length 3 k hx
    have hsn := sumBy_next (f := List.length) h1 hx (i' := i + 1) rfl
    have hsx := sumBy_take List.length l (i + 1).toNat
    rw [<- h3] at hpn
    obtain ⟨nx, hnx⟩ : ∃ nx, nx = x.length := ⟨_, rfl⟩
    have hsnI : (sumBy List.length (l.take (i + 1).toNat) : Int) = (sumBy List.length (l.take i.toNat) : Int) + (nx : Int) := by rw [hsn, hnx]; rfl
    have hmx0 : m[i.toNat]? = some (PC.own x) := by rw [h4, List.getElem?_map, hpx]; rfl
    obtain ⟨m1, hm1⟩ : ∃ m1, m1 = m.set i.toNat (PC.ref 990000001 nx) := ⟨_, rfl⟩
    have hm1x : m1[i.toNat]? = some (PC.ref 990000001 nx) := by rw [hm1]; exact List.getElem?_set_self (by omega)
    refine Round.pre (Less.unfold S.cx (id := 1000) (L := 990000001) (i := i.toNat) (j := 0) (g := cIns) (l := x) (PC.own x) (PC.ref 990000001 nx) rfl hmx0 rfl rfl hnx rfl hm1) ?_
    refine Round.go [99999] S.cx.tab S.cx.mix S.eq (Rnd.mk ?_)
    cbv; repeat (refine Later.mk ?_; cbv)
    refine Len.nat (fun n hn hm => ?_); cbv; repeat (refine Later.mk ?_; cbv)
    refine Test.lss (fun h => ?_) (fun h => ?_) <;> (cbv; repeat (refine Later.mk ?_; cbv))
    rotate_left
    · exfalso; omega
    refine ElemRef.go rfl h1 (by omega) (by rw [S.cx.lenE', hm1, List.length_set]; omega) (fun row hrow => ?_); cbv; repeat (refine Later.mk ?_; cbv)
    obtain rfl : row = i.toNat := by omega
    refine Row.at S.cx hm1x ?_; cbv; repeat (refine Later.mk ?_; cbv)
    refine ACall.mut1 (dp := false) (markInsS_c S x nx hnx q (by lia) (by lia)) .go rfl (fun q2 mx hq2 hmx => ⟨rfl, ?_⟩); cbv; repeat (refine Later.mk ?_; cbv)
    refine Arith.go (by omega) (fun i' hi' => ?_); cbv
    replace hi' : i' = i + 1 := hi'
    have hmk : mx = mkP q x := by rw [hmx, hnx]; rfl
    obtain ⟨m2, hm2⟩ : ∃ m2, m2 = m1.set i.toNat (PC.own mx) := ⟨_, rfl⟩
    have hm3 : m2 = (partBy mkP List.length 3 k l i'.toNat).map PC.own := by
      rw [show i'.toNat = i.toNat + 1 by omega, <- hpn, <- hmk, hm2, hm1, List.set_set, h4, List.map_set]
    refine Again.on (i', q2, m2) (by dsimp only; omega) ⟨by dsimp only; omega, by dsimp only; omega, ?_, hm3⟩ ?_
    · dsimp only
      rw [hi', hsnI]; lia
    · refine Less.trans (Less.fold S.cx (id := 1000) (L := 990000001) (i := i.toNat) (j := 0) (g := cIns) (l := mx) (PC.ref 990000001 nx) (PC.own mx) rfl hm1x rfl rfl (by rw [hmx, marks_len]) rfl rfl hm2) ?_
      (cbv; refine Less.to [] rfl rfl ?_ ?_ <;> repeat' (first | exact trivial | exact ⟨rfl, rfl⟩ | exact ⟨_, rfl, Nat.zero_le _, rfl⟩ | apply And.intro | exact rfl))
      exact noRefsPC S.cx (fun c hc => by rw [hm3] at hc; obtain ⟨_, _, rfl⟩ := List.mem_map.1 hc; trivial)
  · refine Round.go [99999] S.cx.tab S.cx.mix S.eq (Rnd.mk ?_)
    cbv; repeat (refine Later.mk ?_; cbv)
    refine Len.nat (fun n hn hm => ?_); cbv; repeat (refine Later.mk ?_; cbv)
    refine Test.lss (fun h => ?_) (fun h => ?_) <;> (cbv; repeat (refine Later.mk ?_; cbv))
    · exfalso; omega
    rw [partBy_all _ _ _ _ (by omega)] at h4
    rw [List.take_of_length_le (by omega)] at h3
    subst h4
    exact Done.to (.int .i64 q) [some (.arr 1 false (A.enc (ownProg A) (marksP k l)))] rfl rfl ⟨⟨⟨rfl, rfl⟩, (encPC S.cx _).symm, S.gk⟩, trivial⟩ ⟨by rw [h3], rfl⟩

theorem heldInsSS_c (S : Se P A) (l : List (List Ins)) (k : Int) (h0 : 0 <= k) (hk : k + 3 * (sumBy List.length l : Int) <= 4611686018427387904) (hl : l = marksP k l) : Is1 P 81 [.ro (A.enc (roProg A) l), .int .i64 k] (.int .i64 (k + 3 * (sumBy List.length l : Int))) := by
  refine S.cx.by (S.prog ▸ Tryz.func81) rfl rfl rfl rfl (fun hv ho => ?_)
  cbv
  clear hv ho
  refine ALoop.goS (ι := Int × Int) (fun i => [(5, .int .i64 i.1), (1, .int .i64 i.2)]) [] (fun i => []) (fun i => 0 <= i.1 /\ i.1.toNat <= l.length /\ i.2 = k + 3 * (sumBy List.length (l.take i.1.toNat) : Int)) (fun i => l.length - i.1.toNat) ((0, k)) S.cx.tab S.cx.mix S.eq ?_ ?_ ?_
  · refine ⟨Int.le_refl _, Nat.zero_le _, ?_⟩
    show k = k + 3 * ((0 : Nat) : Int)
    omega
  · (cbv; exact Less.toA [])
  rintro ⟨i, q⟩ ⟨h1, h2, h3⟩
  dsimp only at h1 h2 h3
  have hsl := sumBy_take List.length l i.toNat
  refine Rnd.mk ?_; cbv
  refine LenR.nat S.cx (fun n hn hm => ?_); cbv
  refine Test.lss (fun h => ?_) (fun h => ?_) <;> cbv
  · refine ElemRo.enc S.cx (fun _ => rfl) (by lia) (by lia) (fun x hx => ?_); cbv
    have hxm : x = mkP q x := by
      have := marksBy_get mkP List.length 3 hx k
      rw [<- h3] at this
      rw [hl, this] at hx
      exact (Option.some.inj hx).symm
    have hsn := sumBy_next (f := List.length) h1 hx (i' := i + 1) rfl
    have hsx := sumBy_take List.length l (i + 1).toNat
    have hxm : x = marks mIns 3 q x.length := hxm
    have hcx : (sumBy List.length (l.take (i + 1).toNat) : Int) = (sumBy List.length (l.take i.toNat) : Int) + (x.length : Int) := by rw [hsn]; first | (simp only [Int.natCast_add]; done) | (simp only [Int.natCast_add]; rfl)
    cbv
    refine ACall.int (dp := false) (heldInsS_c S x q (by lia) (by lia) (marks_of hxm)) .go rfl (fun q2 hq2 => ?_); cbv
    refine Test.lss (fun h5 => ?_) (fun h5 => ?_) <;> cbv
    · exfalso; lia
    refine Arith.go (by lia) (fun i' hi' => ?_); cbv
    replace hi' : i' = i + 1 := hi'
    refine Again.on (i', q2) (by dsimp only; omega) ⟨by dsimp only; omega, by dsimp only; omega, ?_⟩ ?_
    · dsimp only
      rw [hi', hcx, h3] at *
      lia
    · (cbv; exact Less.toA [])
  · rw [List.take_of_length_le (by omega)] at h3
    exact Done.to (.int .i64 q) [] rfl rfl trivial ⟨by rw [h3], rfl⟩

theorem markGroupS_c (S : Se P A) (l : List Group) (N : Nat) (hN : N = l.length) (k : Int) (h0 : 0 <= k) (hk : k + 1 * (sumBy wl l : Int) <= 4611686018427387904) : SoundM P 78 false [.ref false 1000 0 N, .int .i64 k] [.arr 5 false (A.enc (ownGroup A) l)]
    (fun v os => v = .int .i64 (k + 1 * (sumBy wl l : Int)) /\ os = [some (.arr 5 false (A.enc (ownGroup A) (marksG k l)))]) := by
  refine S.cx.by (S.prog ▸ Tryz.func78) rfl rfl rfl rfl (fun hv ho => ?_)
  cbv
  clear hv ho
  obtain ⟨m0, hm0⟩ : ∃ m0, m0 = l.map GC.own := ⟨_, rfl⟩
  have hmf : ∀ c ∈ m0, c.fre := fun c hc => by rw [hm0] at hc; obtain ⟨_, _, rfl⟩ := List.mem_map.1 hc; trivial
  refine ALoop.pre (Less.row (L := 1000) rfl (rows' := A.enc (cGC A) m0) (by rw [hm0]; exact (encGC S.cx l).symm)) ?_
  cbv
  refine ALoop.goR (ι := Int × Int × List GC) (fun i => [(5, .int .i64 i.1), (1, .int .i64 i.2.1)]) [] [1000] (fun i => [(1000, .arr 5 false (A.enc (cGC A) i.2.2))])
    (fun i => 0 <= i.1 /\ i.1.toNat <= l.length /\ i.2.1 = k + 1 * (sumBy wl (l.take i.1.toNat) : Int) /\ i.2.2 = (partBy mkG wl 1 k l i.1.toNat).map GC.own) (fun i => l.length - i.1.toNat) (0, k, m0) ?_ ?_ ?_
  · refine ⟨Int.le_refl _, Nat.zero_le _, ?_, ?_⟩
    · show k = k + 1 * ((0 : Nat) : Int)
      omega
    · show m0 = (partBy mkG wl 1 k l 0).map GC.own
      rw [partBy_zero, hm0]
  · (cbv; refine Less.to [] rfl rfl ?_ ?_ <;> repeat' (first | exact trivial | exact ⟨rfl, rfl⟩ | exact ⟨_, rfl, Nat.zero_le _, rfl⟩ | apply And.intro | exact rfl))
    exact noRefsGC S.cx hmf
  rintro ⟨i, q, m⟩ ⟨h1, h2, h3, h4⟩
  dsimp only at h1 h2 h3 h4
  have hsl := sumBy_take wl l i.toNat
  have hml : m.length = N := by rw [h4, List.length_map, partBy_len, hN]
  by_cases hi : i.toNat < l.length
  · obtain ⟨x, hx⟩ := get_of_lt hi
    have hpx := partBy_get mkG wl 1 k hx
    have hpn := partBy_next mkG wl 1 k hx
    have hsn := sumBy_next (f := wl) h1 hx (i' := i + 1) rfl
    have hsx := sumBy_take wl l (i + 1).toNat
    rw [<- h3] at hpn
    obtain ⟨node, limit, active, waits, first⟩ := x
    obtain ⟨nx, hnx⟩ : ∃ nx, nx = waits.length := ⟨_, rfl⟩
    have hsnI : (sumBy wl (l.take (i + 1).toNat) : Int) = (sumBy wl (l.take i.toNat) : Int) + ((nx : Int) + 4) := by rw [hsn, hnx]; rfl
    have hmx0 : m[i.toNat]? = some (GC.own ⟨node, limit, active, waits, first⟩) := by rw [h4, List.getElem?_map, hpx]; rfl
    obtain ⟨m1, hm1⟩ : ∃ m1, m1 = m.set i.toNat (GC.ref ⟨node, limit, active, waits, first⟩ 990000001 nx) := ⟨_, rfl⟩
    have xm1 : m1[i.toNat]? = some (GC.ref ⟨node, limit, active, waits, first⟩ 990000001 nx) := by rw [hm1]; exact List.getElem?_set_self (by omega)
    refine Round.pre (Less.unfold S.cx (id := 1000) (L := 990000001) (i := i.toNat) (j := 3) (g := cInt64) (l := waits) (GC.own ⟨node, limit, active, waits, first⟩) (GC.ref ⟨node, limit, active, waits, first⟩ 990000001 nx) rfl hmx0 rfl rfl hnx rfl hm1) ?_
    refine Round.go [99999] S.cx.tab S.cx.mix S.eq (Rnd.mk ?_)
    cbv; repeat (refine Later.mk ?_; cbv)
    refine Len.nat (fun n hn hm => ?_); cbv; repeat (refine Later.mk ?_; cbv)
    refine Test.lss (fun h => ?_) (fun h => ?_) <;> (cbv; repeat (refine Later.mk ?_; cbv))
    rotate_left
    · exfalso; omega
    refine ElemRef.go rfl h1 (by omega) (by rw [S.cx.lenE', hm1, List.length_set]; omega) (fun row1 hrow1 => ?_); cbv; repeat (refine Later.mk ?_; cbv)
    refine RowSet.enc S.cx (GC.ref ⟨node, limit, active, waits, first⟩ 990000001 nx) (GC.ref ⟨q, limit, active, waits, first⟩ 990000001 nx) (by rw [show row1 = i.toNat by omega]; exact xm1) rfl (by rw [len_cGC]; show (1 : Nat) <= 5; decide) rfl (fun m2 gm2 => ?_); cbv; repeat (refine Later.mk ?_; cbv)
    have hm2 : m2 = m.set i.toNat (GC.ref ⟨q, limit, active, waits, first⟩ 990000001 nx) := by rw [gm2, show row1 = i.toNat by omega, hm1, List.set_set]
    have xm2 : m2[i.toNat]? = some (GC.ref ⟨q, limit, active, waits, first⟩ 990000001 nx) := by rw [hm2]; exact List.getElem?_set_self (by omega)
    refine Arith.go (by lia) (fun q1 hq1 => ?_); cbv; repeat (refine Later.mk ?_; cbv)
    refine ElemRef.go rfl h1 (by omega) (by rw [S.cx.lenE', hm2, List.length_set]; omega) (fun row2 hrow2 => ?_); cbv; repeat (refine Later.mk ?_; cbv)
    refine RowSet.enc S.cx (GC.ref ⟨q, limit, active, waits, first⟩ 990000001 nx) (GC.ref ⟨q, q1, active, waits, first⟩ 990000001 nx) (by rw [show row2 = i.toNat by omega]; exact xm2) rfl (by rw [len_cGC]; show (2 : Nat) <= 5; decide) rfl (fun m3 gm3 => ?_); cbv; repeat (refine Later.mk ?_; cbv)
    have hm3 : m3 = m.set i.toNat (GC.ref ⟨q, q1, active, waits, first⟩ 990000001 nx) := by rw [gm3, show row2 = i.toNat by omega, hm2, List.set_set]
    have xm3 : m3[i.toNat]? = some (GC.ref ⟨q, q1, active, waits, first⟩ 990000001 nx) := by rw [hm3]; exact List.getElem?_set_self (by omega)
    refine Arith.go (by lia) (fun q2 hq2 => ?_); cbv; repeat (refine Later.mk ?_; cbv)
    refine ElemRef.go rfl h1 (by omega) (by rw [S.cx.lenE', hm3, List.length_set]; omega) (fun row3 hrow3 => ?_); cbv; repeat (refine Later.mk ?_; cbv)
    refine RowSet.enc S.cx (GC.ref ⟨q, q1, active, waits, first⟩ 990000001 nx) (GC.ref ⟨q, q1, q2, waits, first⟩ 990000001 nx) (by rw [show row3 = i.toNat by omega]; exact xm3) rfl (by rw [len_cGC]; show (3 : Nat) <= 5; decide) rfl (fun m4 gm4 => ?_); cbv; repeat (refine Later.mk ?_; cbv)
    have hm4 : m4 = m.set i.toNat (GC.ref ⟨q, q1, q2, waits, first⟩ 990000001 nx) := by rw [gm4, show row3 = i.toNat by omega, hm3, List.set_set]
    have xm4 : m4[i.toNat]? = some (GC.ref ⟨q, q1, q2, waits, first⟩ 990000001 nx) := by rw [hm4]; exact List.getElem?_set_self (by omega)
    refine Arith.go (by lia) (fun q3 hq3 => ?_); cbv; repeat (refine Later.mk ?_; cbv)
    refine ElemRef.go rfl h1 (by omega) (by rw [S.cx.lenE', hm4, List.length_set]; omega) (fun row4 hrow4 => ?_); cbv; repeat (refine Later.mk ?_; cbv)
    obtain rfl : row4 = i.toNat := by omega
    refine Row.at S.cx xm4 ?_; cbv; repeat (refine Later.mk ?_; cbv)
    refine ACall.mut1 (dp := false) (markInt64S_c S waits nx hnx q3 (by lia) (by lia)) .go rfl (fun q4 mx hq4 hmx => ⟨rfl, ?_⟩); cbv; repeat (refine Later.mk ?_; cbv)
    refine ElemRef.go rfl h1 (by omega) (by rw [S.cx.lenE', hm4, List.length_set]; omega) (fun row5 hrow5 => ?_); cbv; repeat (refine Later.mk ?_; cbv)
    refine RowSet.enc S.cx (GC.ref ⟨q, q1, q2, waits, first⟩ 990000001 nx) (GC.ref ⟨q, q1, q2, waits, q4⟩ 990000001 nx) (by rw [show row5 = i.toNat by omega]; exact xm4) rfl (by rw [len_cGC]; show (5 : Nat) <= 5; decide) rfl (fun m5 gm5 => ?_); cbv; repeat (refine Later.mk ?_; cbv)
    have hm5 : m5 = m.set i.toNat (GC.ref ⟨q, q1, q2, waits, q4⟩ 990000001 nx) := by rw [gm5, show row5 = i.toNat by omega, hm4, List.set_set]
    have xm5 : m5[i.toNat]? = some (GC.ref ⟨q, q1, q2, waits, q4⟩ 990000001 nx) := by rw [hm5]; exact List.getElem?_set_self (by omega)
    refine Arith.go (by lia) (fun q5 hq5 => ?_); cbv; repeat (refine Later.mk ?_; cbv)
    refine Arith.go (by lia) (fun i' hi' => ?_); cbv
    replace hi' : i' = i + 1 := hi'
    have hmk : (⟨q, q1, q2, mx, q4⟩ : Group) = mkG q ⟨node, limit, active, waits, first⟩ := by
      have e1 : q1 = q + 1 := hq1
      have e2 : q2 = q + 2 := by lia
      have e3 : q3 = q + 3 := by lia
      have e4 : q4 = q + 3 + ((waits.length : Nat) : Int) := by rw [hq4, e3, hnx]; lia
      rw [e4, e2, e1, hmx, e3, hnx]; rfl
    obtain ⟨m6, hm6⟩ : ∃ m6, m6 = m5.set i.toNat (GC.own ⟨q, q1, q2, mx, q4⟩) := ⟨_, rfl⟩
    have hm7 : m6 = (partBy mkG wl 1 k l i'.toNat).map GC.own := by
      rw [show i'.toNat = i.toNat + 1 by omega, <- hpn, <- hmk, hm6, hm5, List.set_set, h4, List.map_set]
    refine Again.on (i', q5, m6) (by dsimp only; omega) ⟨by dsimp only; omega, by dsimp only; omega, ?_, hm7⟩ ?_
    · dsimp only
      rw [hi', hsnI]; lia
    · refine Less.trans (Less.fold S.cx (id := 1000) (L := 990000001) (i := i.toNat) (j := 3) (g := cInt64) (l := mx) (GC.ref ⟨q, q1, q2, waits, q4⟩ 990000001 nx) (GC.own ⟨q, q1, q2, mx, q4⟩) rfl xm5 rfl rfl (by rw [hmx, marks_len]) rfl rfl hm6) ?_
      (cbv; refine Less.to [] rfl rfl ?_ ?_ <;> repeat' (first | exact trivial | exact ⟨rfl, rfl⟩ | exact ⟨_, rfl, Nat.zero_le _, rfl⟩ | apply And.intro | exact rfl))
      exact noRefsGC S.cx (fun c hc => by rw [hm7] at hc; obtain ⟨_, _, rfl⟩ := List.mem_map.1 hc; trivial)
  · refine Round.go [99999] S.cx.tab S.cx.mix S.eq (Rnd.mk ?_)
    cbv; repeat (refine Later.mk ?_; cbv)
    refine Len.nat (fun n hn hm => ?_); cbv; repeat (refine Later.mk ?_; cbv)
    refine Test.lss (fun h => ?_) (fun h => ?_) <;> (cbv; repeat (refine Later.mk ?_; cbv))
    · exfalso; omega
    rw [partBy_all _ _ _ _ (by omega)] at h4
    rw [List.take_of_length_le (by omega)] at h3
    subst h4
    exact Done.to (.int .i64 q) [some (.arr 5 false (A.enc (ownGroup A) (marksG k l)))] rfl rfl ⟨⟨⟨rfl, rfl⟩, (encGC S.cx _).symm, S.gl⟩, trivial⟩ ⟨by rw [h3], rfl⟩

theorem heldGroupS_c (S : Se P A) (l : List Group) (k : Int) (h0 : 0 <= k) (hk : k + 1 * (sumBy wl l : Int) <= 4611686018427387904) (hl : l = marksG k l) : Is1 P 88 [.ro (A.enc (roGroup A) l), .int .i64 k] (.int .i64 (k + 1 * (sumBy wl l : Int))) := by
  refine S.cx.by (S.prog ▸ Tryz.func88) rfl rfl rfl rfl (fun hv ho => ?_)
  cbv
  clear hv ho
  refine ALoop.goS (ι := Int × Int) (fun i => [(5, .int .i64 i.1), (1, .int .i64 i.2)]) [] (fun i => []) (fun i => 0 <= i.1 /\ i.1.toNat <= l.length /\ i.2 = k + 1 * (sumBy wl (l.take i.1.toNat) : Int)) (fun i => l.length - i.1.toNat) ((0, k)) S.cx.tab S.cx.mix S.eq ?_ ?_ ?_
  · refine ⟨Int.le_refl _, Nat.zero_le _, ?_⟩
    show k = k + 1 * ((0 : Nat) : Int)
    omega
  · (cbv; exact Less.toA [])
  rintro ⟨i, q⟩ ⟨h1, h2, h3⟩
  dsimp only at h1 h2 h3
  have hsl := sumBy_take wl l i.toNat
  refine Rnd.mk ?_; cbv
  refine LenR.nat S.cx (fun n hn hm => ?_); cbv
  refine Test.lss (fun h => ?_) (fun h => ?_) <;> cbv
  · refine ElemRo.enc S.cx (fun _ => rfl) (by lia) (by lia) (fun x hx => ?_); cbv
    have hxm : x = mkG q x := by
      have := marksBy_get mkG wl 1 hx k
      rw [<- h3] at this
      rw [hl, this] at hx
      exact (Option.some.inj hx).symm
    have hsn := sumBy_next (f := wl) h1 hx (i' := i + 1) rfl
    have hsx := sumBy_take wl l (i + 1).toNat
    obtain ⟨node, limit, active, waits, first⟩ := x
    simp only [mkG, Group.mk.injEq] at hxm
    obtain ⟨e0, e1, e2, e3, e4⟩ := hxm
    have hcx : (sumBy wl (l.take (i + 1).toNat) : Int) = (sumBy wl (l.take i.toNat) : Int) + ((waits.length : Int) + 4) := by rw [hsn]; rfl
    cbv
    refine Test.neq (fun g => ?_) (fun g => ?_) <;> cbv
    · exact absurd (show _ = _ by lia) g
    refine Arith.go (by lia) (fun q1 hq1 => ?_); cbv
    refine ElemRo.enc S.cx (fun _ => rfl) (by lia) (by lia) (fun y hy => ?_); cbv
    cases Option.some.inj (hy.symm.trans hx)
    cbv
    refine Test.neq (fun g => ?_) (fun g => ?_) <;> cbv
    · exact absurd (show _ = _ by lia) g
    refine Arith.go (by lia) (fun q2 hq2 => ?_); cbv
    refine ElemRo.enc S.cx (fun _ => rfl) (by lia) (by lia) (fun y hy => ?_); cbv
    cases Option.some.inj (hy.symm.trans hx)
    cbv
    refine Test.neq (fun g => ?_) (fun g => ?_) <;> cbv
    · exact absurd (show _ = _ by lia) g
    refine Arith.go (by lia) (fun q3 hq3 => ?_); cbv
    refine ElemRo.enc S.cx (fun _ => rfl) (by lia) (by lia) (fun y hy => ?_); cbv
    cases Option.some.inj (hy.symm.trans hx)
    cbv
    have h33 : q3 = q + 3 := by lia
    refine ACall.int (dp := false) (heldInt64S_c S waits q3 (by lia) (by lia) (marks_of (w := 1) (by rw [h33]; exact e3))) .go rfl (fun q4 hq4 => ?_); cbv
    refine Test.lss (fun h5 => ?_) (fun h5 => ?_) <;> cbv
    · exfalso; lia
    refine ElemRo.enc S.cx (fun _ => rfl) (by lia) (by lia) (fun y hy => ?_); cbv
    cases Option.some.inj (hy.symm.trans hx)
    cbv
    refine Test.neq (fun g => ?_) (fun g => ?_) <;> cbv
    · exact absurd (show _ = _ by lia) g
    refine Arith.go (by lia) (fun q5 hq5 => ?_); cbv
    refine Arith.go (by lia) (fun i' hi' => ?_); cbv
    replace hi' : i' = i + 1 := hi'
    refine Again.on (i', q5) (by dsimp only; omega) ⟨by dsimp only; omega, by dsimp only; omega, ?_⟩ ?_
    · dsimp only
      rw [hi', hcx]
      lia
    · (cbv; exact Less.toA [])
  · rw [List.take_of_length_le (by omega)] at h3
    exact Done.to (.int .i64 q) [] rfl rfl trivial ⟨by rw [h3], rfl⟩

end Go.Proofs.YtihfpbhalnedcaaGreat.AM
