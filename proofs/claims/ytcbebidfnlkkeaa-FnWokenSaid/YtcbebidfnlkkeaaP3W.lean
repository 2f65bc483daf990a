/- Contracts: tasks woken. (printed by gp3.py) -/
import Derived.Test.YtcbebidfnlkkeaaP2
import Derived.Test.YtcbebidfnlkkeaaH2
import Derived.Test.YtcbebidfnlkkeaaH3
namespace Go.Proofs.Ytcbebidfnlkkeaa.AM
open Go Go.Proofs

set_option maxRecDepth 100000
set_option maxHeartbeats 4000000
set_option linter.unusedVariables false
set_option linter.unusedSimpArgs false

variable {P : Program} {A : Sy}

theorem cloneTask_c (S : Se P A) (l : List Task) (hb : l.length ≤ 4294967296) : Is1 P 104 [.ro (A.enc cTask l)] (rT A l) := by
  refine S.cx.by (S.prog ▸ Try.func104) rfl rfl rfl rfl (fun hv ho => ?_)
  cbv
  refine NilT.ro S.cx (fun h => ?_) ?_ <;> cbv
  · subst h
    exact Done.is (r := rT A) (x := []) (by repeat' (first | exact trivial | exact rfl | exact resOwn S.cx rfl (by assumption) | exact resOwn S.cx rfl (S.cx.lenE _ _) | exact resOwn1 S.cx rfl (by assumption) | exact resOwnT S.cx rfl (by assumption) | exact S.cx.enc _ [] | refine ⟨?_, ?_⟩)) rfl (rfl)
  · refine AppNew.enc S.cx plainTask (.inr (.inr trivial)) (fun _ => rfl) (by simp only [maxBytes]; omega) (fun n hn => ?_); cbv
    exact Done.is (r := rT A) (x := l) (by repeat' (first | exact trivial | exact rfl | exact resOwn S.cx rfl (by assumption) | exact resOwn S.cx rfl (S.cx.lenE _ _) | exact resOwn1 S.cx rfl (by assumption) | exact resOwnT S.cx rfl (by assumption) | exact S.cx.enc _ [] | refine ⟨?_, ?_⟩)) rfl (rfl)

/-- Those that wait go on. -/
def woke (why what reg : Int) (t : Task) : Task := if pPark why what t then Readied t reg else t
def Woken (l : List Task) (why what reg : Int) : List Task := if TasksOk l then l.map (woke why what reg) else []

/-- So far as these places. -/
def wokeBy (l : List Task) (w : List Int) (reg : Int) : List Task := w.foldl (fun m i => match l[i.toNat]? with
  | some t => m.set i.toNat (Readied t reg)
  | none => m) l

theorem wokeBy_len (l : List Task) (reg : Int) : ∀ w : List Int, (wokeBy l w reg).length = l.length := by
  intro w
  suffices ∀ m : List Task, (w.foldl (fun m i => match l[i.toNat]? with
    | some t => m.set i.toNat (Readied t reg)
    | none => m) m).length = m.length from this l
  induction w with
  | nil => intro m; rfl
  | cons i w ih =>
    intro m
    rw [List.foldl_cons, ih]
    split <;> simp

theorem wokeBy_next {l : List Task} {w : List Int} {reg : Int} {k i : Int} {t : Task} (h0 : 0 ≤ k) (hk : w[k.toNat]? = some i) (ht : l[i.toNat]? = some t) {k' : Int} (hk' : k' = k + 1) : wokeBy l (w.take k'.toNat) reg = (wokeBy l (w.take k.toNat) reg).set i.toNat (Readied t reg) := by
  rw [show k'.toNat = k.toNat + 1 by omega, take_next hk, wokeBy, List.foldl_append]
  simp only [List.foldl_cons, List.foldl_nil, ht]
  rfl

theorem wokeBy_get (l : List Task) (reg : Int) (j : Nat) (w : List Int) (h : ∀ i ∈ w, 0 ≤ i) (t : Task) (ht : l[j]? = some t) : (wokeBy l w reg)[j]? = some (if (j : Int) ∈ w then Readied t reg else t) := by
  suffices ∀ n, (wokeBy l (w.take n) reg)[j]? = some (if (j : Int) ∈ w.take n then Readied t reg else t) by simpa using this w.length
  intro n
  induction n with
  | zero => simp [wokeBy, ht]
  | succ n ih =>
    cases hi : w[n]? with
    | none => rw [List.take_add_one, hi]; simpa using ih
    | some i =>
      have h0 := h i (mem_at hi)
      rw [take_next hi]
      have e : wokeBy l (w.take n ++ [i]) reg = (match l[i.toNat]? with
        | some t => (wokeBy l (w.take n) reg).set i.toNat (Readied t reg)
        | none => wokeBy l (w.take n) reg) := by rw [wokeBy, List.foldl_append]; rfl
      rw [e]
      by_cases hj : i.toNat = j
      · have hji : (j : Int) = i := by omega
        subst hj
        rw [ht]
        have hl : i.toNat < (wokeBy l (w.take n) reg).length := by rw [wokeBy_len]; exact (List.getElem?_eq_some_iff.1 ht).1
        simp [hji, hl]
      · have hji : ¬ (j : Int) = i := by omega
        split
        · rw [List.getElem?_set_ne hj, ih]; simp [hji]
        · rw [ih]; simp [hji]

theorem wokeBy_all (l : List Task) (why what reg : Int) : wokeBy l (idxs (pPark why what) l) reg = l.map (woke why what reg) := by
  refine List.ext_getElem? fun j => ?_
  cases ht : l[j]? with
  | none =>
    rw [List.getElem?_eq_none (by rw [wokeBy_len]; exact List.getElem?_eq_none_iff.1 ht)]
    simp [ht]
  | some t =>
    rw [wokeBy_get l reg j _ (fun i hi => (idxs_mem.1 hi).1) t ht]
    simp only [List.getElem?_map, ht, Option.map_some, woke]
    congr 1
    have : (j : Int) ∈ idxs (pPark why what) l ↔ pPark why what t = true := by
      rw [idxs_mem]
      constructor
      · rintro ⟨_, y, hy, hp⟩
        simp [ht] at hy; exact hy ▸ hp
      · intro hp; exact ⟨by omega, t, by simpa using ht, hp⟩
    by_cases hp : pPark why what t = true
    · rw [if_pos (this.2 hp), if_pos hp]
    · rw [if_neg (fun e => hp (this.1 e)), if_neg hp]

theorem wake_c (S : Se P A) (l : List Task) (N : Nat) (hN : N = l.length) (hb : l.length ≤ 4294967296) (why what reg : Int) : SoundM P 105 false [.ref false 1000 0 N, .int .i64 why, .int .i64 what, .int .i64 reg] [.arr 9 true (A.enc cTask l)]
    (fun v os => v = .tup [] ∧ os = [some (.arr 9 true (A.enc cTask (l.map (woke why what reg))))]) := by
  refine S.cx.by (S.prog ▸ Try.func105) rfl rfl rfl rfl (fun hv ho => ?_)
  cbv
  refine ACall.valN (r := rI A) (os := fun _ => []) (dp := false) S.cx (parkedOn_c S l hb why what) ⟨rfl, (by repeat' (first | exact trivial | exact rfl | exact Nat.le_refl _ | exact S.cx.giveEq | exact S.cx.lendLe (by assumption) | exact S.cx.lendEq (by assumption) | exact S.cx.lendLe0 | exact S.cx.lendEq0 | exact S.cx.partLe (by assumption) | exact S.cx.partEq (by assumption) | exact .inl rfl | refine ⟨?_, ?_⟩)), (by repeat' (first | exact trivial | exact rfl | exact Nat.le_refl _ | exact S.cx.giveEq | exact S.cx.lendLe (by assumption) | exact S.cx.lendEq (by assumption) | exact S.cx.lendLe0 | exact S.cx.lendEq0 | exact S.cx.partLe (by assumption) | exact S.cx.partEq (by assumption) | exact .inl rfl | refine ⟨?_, ?_⟩))⟩ rfl (fun ln hln w hx => ⟨rfl, ?_⟩)
  cbv
  have hW := hln cInt64 w
  generalize ln (A.enc cInt64 w) = W at hW ⊢
  refine Len.nat (fun M hM hm => ?_); cbv
  have hwn : w.Nodup := hx ▸ idxs_nodup _ _
  have hwm : ∀ i ∈ w, 0 ≤ i ∧ ∃ t, l[i.toNat]? = some t := fun i hi => by
    rw [hx] at hi
    obtain ⟨h0, t, ht, _⟩ := idxs_mem.1 hi
    exact ⟨h0, t, ht⟩
  refine ALoop.goD (ι := Int × List Task) (fun i => [(15, .int .i64 i.1)]) [1000] (fun i => [(1000, .arr 9 true (A.enc cTask i.2))]) (fun i => 0 ≤ i.1 ∧ i.2 = wokeBy l (w.take i.1.toNat) reg) (fun i => (w.length - i.1).toNat) (0, l) S.cx.tab S.cx.mix S.eq ?_ ?_ ?_
  · exact ⟨Int.le_refl _, rfl⟩
  · (cbv; refine Less.to [] rfl rfl ?_ ?_ <;> repeat' (first | exact trivial | exact ⟨rfl, rfl⟩ | exact ⟨_, rfl, Nat.zero_le _, rfl⟩ | apply And.intro | exact rfl))
  rintro ⟨k, m⟩ ⟨h0, hmm⟩
  dsimp only at h0 hmm
  have hml : m.length = l.length := by rw [hmm, wokeBy_len]
  cbv
  refine Test.lss (fun h => ?_) (fun h => ?_) <;> cbv
  · refine ElemRef.go rfl h0 (by lia) (by rw [S.cx.lenE']; lia) (fun row hrow => ?_); cbv
    refine Row.enc S.cx (by lia) (fun i hi => ?_); cbv
    have hik : w[k.toNat]? = some i := by rw [← hi, hrow]; congr 1; omega
    obtain ⟨hi0, t, ht⟩ := hwm i (mem_at hik)
    have hit := lt_of_get ht
    refine ElemRef.go rfl hi0 (by lia) (by rw [S.cx.lenE']; lia) (fun row2 hrow2 => ?_); cbv
    refine Row.enc S.cx (by lia) (fun t' ht' => ?_); cbv
    have hrow2' : row2 = i.toNat := by omega
    have htt : t' = t := by
      have := wokeBy_get l reg i.toNat (w.take k.toNat) (fun j hj => (hwm j (List.mem_of_mem_take hj)).1) t ht
      rw [← hmm, if_neg (by rw [show ((i.toNat : Nat) : Int) = i by omega]; exact nodup_take.2 hwn _ _ hik)] at this
      rw [hrow2', this] at ht'
      exact (Option.some.inj ht').symm
    subst htt
    refine ACall.agg (g := cTask) (dp := false) (implReadied_c S t'.prog t'.pc t'.state t'.why t'.what t'.timer t'.reg t'.group t'.err reg) ⟨rfl, (by repeat' (first | exact trivial | exact rfl | exact Nat.le_refl _ | exact S.cx.giveEq | exact S.cx.lendLe (by assumption) | exact S.cx.lendEq (by assumption) | exact S.cx.lendLe0 | exact S.cx.lendEq0 | exact S.cx.partLe (by assumption) | exact S.cx.partEq (by assumption) | exact .inl rfl | refine ⟨?_, ?_⟩)), trivial⟩ rfl (fun y hy => ⟨rfl, ?_⟩)
    obtain ⟨prog1, pc1, state1, why1, what1, timer1, reg1, group1, err1⟩ := y
    cbv
    refine ElemRef.go rfl hi0 (by lia) (by rw [S.cx.lenE']; lia) (fun row3 hrow3 => ?_); cbv
    refine RowSet.enc S.cx t' ⟨prog1, pc1, state1, why1, what1, timer1, reg1, group1, err1⟩ (by rw [show row3 = row2 by omega]; exact ht') rfl (Nat.le_refl _) rfl (fun m' hm' => ?_); cbv
    refine Arith.go (by lia) (fun k' hk' => ?_); cbv
    refine Again.on (k', m') (by dsimp only; lia) ⟨by dsimp only; lia, ?_⟩ ?_
    · dsimp only
      rw [wokeBy_next h0 hik ht hk', ← hmm, hm', hy, show row3 = i.toNat by omega]
    · (cbv; refine Less.to [] rfl rfl ?_ ?_ <;> repeat' (first | exact trivial | exact ⟨rfl, rfl⟩ | exact ⟨_, rfl, Nat.zero_le _, rfl⟩ | apply And.intro | exact rfl))
  · have hall : m = l.map (woke why what reg) := by rw [hmm, take_all (by lia), hx, wokeBy_all]
    refine Done.to (.tup []) [some (.arr 9 true (A.enc cTask m))] rfl ?_ ?_ ⟨rfl, by rw [hall]⟩
    · repeat' (first | exact trivial | exact rfl | exact Nat.le_refl _ | exact S.cx.giveEq | exact S.cx.lendLe (by assumption) | exact S.cx.lendEq (by assumption) | exact S.cx.lendLe0 | exact S.cx.lendEq0 | exact S.cx.partLe (by assumption) | exact S.cx.partEq (by assumption) | exact .inl rfl | refine ⟨?_, ?_⟩)
    · repeat' (first | exact trivial | exact rfl | exact Nat.le_refl _ | exact S.cx.giveEq | exact S.cx.lendLe (by assumption) | exact S.cx.lendEq (by assumption) | exact S.cx.lendLe0 | exact S.cx.lendEq0 | exact S.cx.partLe (by assumption) | exact S.cx.partEq (by assumption) | exact .inl rfl | refine ⟨?_, ?_⟩)

end Go.Proofs.Ytcbebidfnlkkeaa.AM
