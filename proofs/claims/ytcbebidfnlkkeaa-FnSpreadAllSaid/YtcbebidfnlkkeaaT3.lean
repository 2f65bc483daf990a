/- Contracts: children; what is deleted. (printed by gt4.py) -/
import Derived.Test.YtcbebidfnlkkeaaT2
import Derived.Test.YtcbebidfnlkkeaaBC
namespace Go.Proofs.Ytcbebidfnlkkeaa.AM
open Go Go.Proofs

set_option maxRecDepth 100000
set_option maxHeartbeats 4000000
set_option linter.unusedVariables false
set_option linter.unusedSimpArgs false

variable {P : Program} {A : Sy}

def Kids (t : List Node) (n : Int) : List Int := idxs (fun x => decide (x.up = n)) t
def notCut (t : List Node) (i : Int) : Bool := match t[i.toNat]? with
  | some x => decide (x.kind ≠ 4)
  | none => true
def Below (t : List Node) (n : Int) : List Int := (Kids t n).filter (notCut t)

theorem resPart1 {T : Nat → Option TI} (C : Cx P T A) {al : Bool} {st : St} {p : Bool} {id off n s : Nat} {α : Type} {f : α → List AV} {l m : List α} (hq : lk st.sto id = some (.arr s true (A.enc f l))) (hn : off + n ≤ l.length) (hm : m = (l.drop off).take n) : resOk al st (.ref p id off n) (.own s true (A.enc f m)) := by
  show resCell al st (.ref p id off n) (.own s true (A.enc f m))
  exact resPart C hq hn hm

theorem take_set {α : Type} {l : List α} {i : Nat} {v : α} (h : i < l.length) : (l.set i v).take (i + 1) = l.take i ++ [v] := by
  have : l.set i v = (l.take i ++ [v]) ++ l.drop (i + 1) := by rw [List.set_eq_take_append_cons_drop, if_pos h]; simp
  rw [this, List.take_append_of_le_length (by simp; omega), List.take_of_length_le (by simp; omega)]

theorem children_c (S : Se P A) (l : List Node) (hb : l.length ≤ 4294967296) (n : Int) : Is1 P 137 [.ro (A.enc cNode l), .int .i64 n] (rInt64 A (Kids l n)) := by
  refine S.cx.by (S.prog ▸ Try.func137) rfl rfl rfl rfl (fun hv ho => ?_)
  cbv
  refine LenR.nat S.cx (fun N hN hm => ?_); cbv
  have hfin : idxs (fun x => decide (x.up = n)) l = Kids l n := rfl
  refine ALoop.pre (Less.initE S.cx cInt64 999000000 1 true (t := 5) rfl (by first | exact .inr rfl | exact .inl rfl) rfl) ?_
  refine ALoop.goD (ι := Int × Nat × List Int) (fun i => [(11, .int .i64 i.1), (5, .ref false 999000000 0 i.2.1)]) [999000000] (fun i => [(999000000, .arr 1 true (A.enc cInt64 i.2.2))]) (fun i => 0 ≤ i.1 ∧ i.2.1 = i.2.2.length ∧ i.2.2 = idxs (fun x : Node => decide (x.up = n)) (l.take i.1.toNat)) (fun i => (l.length - i.1).toNat) (0, 0, []) S.cx.tab S.cx.mix S.eq ?_ ?_ ?_
  · exact ⟨Int.le_refl _, rfl, by simp [idxs, idxFrom]⟩
  · (cbv; refine Less.to [] rfl rfl ?_ ?_ <;> repeat' (first | exact trivial | exact ⟨rfl, rfl⟩ | exact ⟨_, rfl, Nat.zero_le _, rfl⟩ | apply And.intro | exact rfl))
  rintro ⟨i, c, out⟩ ⟨h0, hn, ho⟩
  dsimp only at h0 hn ho
  have hlen : out.length ≤ l.length := by rw [ho]; exact Nat.le_trans (idxs_len _ _) (by simp; omega)
  cbv
  refine Test.lss (fun h => ?_) (fun h => ?_) <;> cbv
  · refine ElemRo.enc S.cx (fun _ => rfl) (by lia) (by lia) (fun x hx => ?_); cbv
    have step : ∀ i', i' = i + 1 → idxs (fun x : Node => decide (x.up = n)) (l.take i'.toNat) = if (fun x : Node => decide (x.up = n)) x then out ++ [i] else out := fun i' hi' => by rw [ho]; exact idxs_next h0 hx hi'
    have skip : (fun x : Node => decide (x.up = n)) x = false → ∀ i', i' = i + 1 → 0 ≤ i' ∧ c = out.length ∧ out = idxs (fun x : Node => decide (x.up = n)) (l.take i'.toNat) := fun hp i' hi' => ⟨by omega, hn, by rw [step i' hi', hp]; rfl⟩
    refine Test.eql (fun h1 => ?_) (fun h1 => ?_) <;> cbv
    rotate_left
    · refine Arith.go (by lia) (fun i' hi' => ?_); cbv
      refine Again.on (i', c, out) (by dsimp only; lia) (skip (decide_eq_false (fun e => h1 e)) i' hi') ?_
      (cbv; refine Less.to [] rfl rfl ?_ ?_ <;> repeat' (first | exact trivial | exact ⟨rfl, rfl⟩ | exact ⟨_, rfl, Nat.zero_le _, rfl⟩ | apply And.intro | exact rfl))
    refine Part.one ?_; cbv
    refine AppRef.push S.cx i (by assumption) rfl rfl plainInt64 (fun _ => rfl) (by simp only [maxBytes]; omega) (fun m w hw hml => ?_); cbv
    refine Arith.go (by lia) (fun i' hi' => ?_); cbv
    refine Again.on (i', m, w) (by dsimp only; lia) ⟨by dsimp only; lia, hml, by dsimp only; rw [step i' hi', show (fun x : Node => decide (x.up = n)) x = true from decide_eq_true h1, hw]; rfl⟩ ?_
    (cbv; refine Less.to [(999000000, (7030000, 0))] rfl rfl ?_ ?_ <;> repeat' (first | exact trivial | exact ⟨rfl, rfl⟩ | exact ⟨_, rfl, Nat.zero_le _, rfl⟩ | apply And.intro | exact rfl))
  · have hall : out = idxs (fun x : Node => decide (x.up = n)) l := by rw [ho, take_all (by omega)]
    exact Done.own S.cx rfl rfl hn (hall.trans hfin)

theorem l5Has_c (S : Se P A) (t : List Node) (n : Int) : Tests P 111 [.ro (A.enc cNode t), .int .i64 n] (TreeOk t ∧ 0 ≤ n ∧ n.toNat < t.length) := by
  refine S.cx.by (S.prog ▸ Try.func111) rfl rfl rfl rfl (fun hv ho => ?_)
  cbv
  refine ACall.testD (dp := false) (specTreeOk_c S t) ⟨rfl, (by repeat' (first | exact trivial | exact rfl | exact Nat.le_refl _ | exact S.cx.giveEq | exact S.cx.lendLe (by assumption) | exact S.cx.lendEq (by assumption) | exact S.cx.lendLe0 | exact S.cx.lendEq0 | exact S.cx.partLe (by assumption) | exact S.cx.partEq (by assumption) | exact .inl rfl | refine ⟨?_, ?_⟩)), (by repeat' (first | exact trivial | exact rfl | exact Nat.le_refl _ | exact S.cx.giveEq | exact S.cx.lendLe (by assumption) | exact S.cx.lendEq (by assumption) | exact S.cx.lendLe0 | exact S.cx.lendEq0 | exact S.cx.partLe (by assumption) | exact S.cx.partEq (by assumption) | exact .inl rfl | refine ⟨?_, ?_⟩))⟩ rfl (fun h => ?_) (fun h => ?_) <;> cbv
  rotate_left
  · exact Done.no (fun e => h e.1)
  refine LenR.nat S.cx (fun N hN hm => ?_); cbv
  refine Arith.go (by lia) (fun z hz => ?_); replace hz : z = N - 1 := hz; cbv
  refine ACall.testD (dp := false) (l1In_c S n 0 z) ⟨rfl, (by repeat' (first | exact trivial | exact rfl | exact Nat.le_refl _ | exact S.cx.giveEq | exact S.cx.lendLe (by assumption) | exact S.cx.lendEq (by assumption) | exact S.cx.lendLe0 | exact S.cx.lendEq0 | exact S.cx.partLe (by assumption) | exact S.cx.partEq (by assumption) | exact .inl rfl | refine ⟨?_, ?_⟩)), (by repeat' (first | exact trivial | exact rfl | exact Nat.le_refl _ | exact S.cx.giveEq | exact S.cx.lendLe (by assumption) | exact S.cx.lendEq (by assumption) | exact S.cx.lendLe0 | exact S.cx.lendEq0 | exact S.cx.partLe (by assumption) | exact S.cx.partEq (by assumption) | exact .inl rfl | refine ⟨?_, ?_⟩))⟩ rfl (fun h2 => ?_) (fun h2 => ?_) <;> cbv
  · exact Done.yes ⟨h, by omega⟩
  · exact Done.no (fun e => h2 (by have := e.2; omega))

theorem childrenOf_c (S : Se P A) (l : List Node) (n : Int) (hok : TreeOk l ∧ 0 ≤ n ∧ n.toNat < l.length) : Is1 P 143 [.ro (A.enc cNode l), .int .i64 n] (rInt64 A (Kids l n)) := by
  refine S.cx.by (S.prog ▸ Try.func143) rfl rfl rfl rfl (fun hv ho => ?_)
  cbv
  refine ACall.testD (dp := false) (l5Has_c S l n) ⟨rfl, (by repeat' (first | exact trivial | exact rfl | exact Nat.le_refl _ | exact S.cx.giveEq | exact S.cx.lendLe (by assumption) | exact S.cx.lendEq (by assumption) | exact S.cx.lendLe0 | exact S.cx.lendEq0 | exact S.cx.partLe (by assumption) | exact S.cx.partEq (by assumption) | exact .inl rfl | refine ⟨?_, ?_⟩)), (by repeat' (first | exact trivial | exact rfl | exact Nat.le_refl _ | exact S.cx.giveEq | exact S.cx.lendLe (by assumption) | exact S.cx.lendEq (by assumption) | exact S.cx.lendLe0 | exact S.cx.lendEq0 | exact S.cx.partLe (by assumption) | exact S.cx.partEq (by assumption) | exact .inl rfl | refine ⟨?_, ?_⟩))⟩ rfl (fun hh => ?_) (fun hh => ?_) <;> cbv
  rotate_left
  · exact absurd hok hh
  have hb : l.length ≤ 4294967296 := Nat.le_trans hok.1.1 (by decide)
  have hfin : idxs (fun x => decide (x.up = n)) l = Kids l n := rfl
  refine ALoop.pre (Less.initE S.cx cInt64 999000000 1 true (t := 5) rfl (by first | exact .inr rfl | exact .inl rfl) rfl) ?_
  refine ALoop.goD (ι := Int × Nat × List Int) (fun i => [(6, .int .i64 i.1), (5, .ref false 999000000 0 i.2.1)]) [999000000] (fun i => [(999000000, .arr 1 true (A.enc cInt64 i.2.2))]) (fun i => 0 ≤ i.1 ∧ i.2.1 = i.2.2.length ∧ i.2.2 = idxs (fun x : Node => decide (x.up = n)) (l.take i.1.toNat)) (fun i => (l.length - i.1).toNat) (0, 0, []) S.cx.tab S.cx.mix S.eq ?_ ?_ ?_
  · exact ⟨Int.le_refl _, rfl, by simp [idxs, idxFrom]⟩
  · (cbv; refine Less.to [] rfl rfl ?_ ?_ <;> repeat' (first | exact trivial | exact ⟨rfl, rfl⟩ | exact ⟨_, rfl, Nat.zero_le _, rfl⟩ | apply And.intro | exact rfl))
  rintro ⟨i, c, out⟩ ⟨h0, hn, ho⟩
  dsimp only at h0 hn ho
  have hlen : out.length ≤ l.length := by rw [ho]; exact Nat.le_trans (idxs_len _ _) (by simp; omega)
  cbv
  refine LenR.nat S.cx (fun N hN hm => ?_); cbv
  refine Test.lss (fun h => ?_) (fun h => ?_) <;> cbv
  · refine ElemRo.enc S.cx (fun _ => rfl) (by lia) (by lia) (fun x hx => ?_); cbv
    have step : ∀ i', i' = i + 1 → idxs (fun x : Node => decide (x.up = n)) (l.take i'.toNat) = if (fun x : Node => decide (x.up = n)) x then out ++ [i] else out := fun i' hi' => by rw [ho]; exact idxs_next h0 hx hi'
    have skip : (fun x : Node => decide (x.up = n)) x = false → ∀ i', i' = i + 1 → 0 ≤ i' ∧ c = out.length ∧ out = idxs (fun x : Node => decide (x.up = n)) (l.take i'.toNat) := fun hp i' hi' => ⟨by omega, hn, by rw [step i' hi', hp]; rfl⟩
    refine Test.eql (fun h1 => ?_) (fun h1 => ?_) <;> cbv
    rotate_left
    · refine Arith.go (by lia) (fun i' hi' => ?_); cbv
      refine Again.on (i', c, out) (by dsimp only; lia) (skip (decide_eq_false (fun e => h1 e)) i' hi') ?_
      (cbv; refine Less.to [] rfl rfl ?_ ?_ <;> repeat' (first | exact trivial | exact ⟨rfl, rfl⟩ | exact ⟨_, rfl, Nat.zero_le _, rfl⟩ | apply And.intro | exact rfl))
    refine Part.one ?_; cbv
    refine AppRef.push S.cx i (by assumption) rfl rfl plainInt64 (fun _ => rfl) (by simp only [maxBytes]; omega) (fun m w hw hml => ?_); cbv
    refine Arith.go (by lia) (fun i' hi' => ?_); cbv
    refine Again.on (i', m, w) (by dsimp only; lia) ⟨by dsimp only; lia, hml, by dsimp only; rw [step i' hi', show (fun x : Node => decide (x.up = n)) x = true from decide_eq_true h1, hw]; rfl⟩ ?_
    (cbv; refine Less.to [(999000000, (9030000, 0))] rfl rfl ?_ ?_ <;> repeat' (first | exact trivial | exact ⟨rfl, rfl⟩ | exact ⟨_, rfl, Nat.zero_le _, rfl⟩ | apply And.intro | exact rfl))
  · have hall : out = idxs (fun x : Node => decide (x.up = n)) l := by rw [ho, take_all (by omega)]
    exact Done.own S.cx rfl rfl hn (hall.trans hfin)

theorem indexFuncIn1_c (S : Se P A) (F : FuncId) (c1 : List AV) (q : Int → Bool) (l : List Int) (hF : ∀ x ∈ l, Tests P F [.int .i64 x, .rptr c1] (q x = true)) : Nums P 144 [.ro (A.enc cInt64 l), .fn F [] [.rptr c1]] (fun r => 0 ≤ r ∧ (∃ x, l[r.toNat]? = some x ∧ q x = true) ∧ Upto (fun _ x => ¬ q x = true) l r ∨ r = -1 ∧ ∀ x ∈ l, ¬ q x = true) := by
  refine S.cx.by (S.prog ▸ Try.func144) rfl rfl rfl rfl (fun hv ho => ?_)
  cbv
  refine LenR.nat S.cx (fun N hN hm => ?_); cbv
  refine ALoop.goD (ι := Int) (fun i => [(8, .int .i64 i)]) [] (fun i => []) (fun i => 0 ≤ i ∧ Upto (fun _ x => ¬ q x = true) l i) (fun i => (l.length - i).toNat) (0) S.cx.tab S.cx.mix S.eq ?_ ?_ ?_
  · exact ⟨Int.le_refl _, .zero⟩
  · (cbv; refine Less.to [] rfl rfl ?_ ?_ <;> repeat' (first | exact trivial | exact ⟨rfl, rfl⟩ | exact ⟨_, rfl, Nat.zero_le _, rfl⟩ | apply And.intro | exact rfl))
  · rintro i ⟨h0, hu⟩
    cbv
    refine Test.lss (fun h => ?_) (fun h => ?_) <;> cbv
    · refine ElemRo.enc S.cx (fun _ => rfl) (by lia) (by lia) (fun x hx => ?_); cbv
      refine ACall.testX (dp := false) (hF x (mem_at hx)) ⟨rfl, (by repeat' (first | exact trivial | exact rfl | exact Nat.le_refl _ | exact S.cx.giveEq | exact S.cx.lendLe (by assumption) | exact S.cx.lendEq (by assumption) | exact S.cx.lendLe0 | exact S.cx.lendEq0 | exact S.cx.partLe (by assumption) | exact S.cx.partEq (by assumption) | exact .inl rfl | refine ⟨?_, ?_⟩)), (by repeat' (first | exact trivial | exact rfl | exact Nat.le_refl _ | exact S.cx.giveEq | exact S.cx.lendLe (by assumption) | exact S.cx.lendEq (by assumption) | exact S.cx.lendLe0 | exact S.cx.lendEq0 | exact S.cx.partLe (by assumption) | exact S.cx.partEq (by assumption) | exact .inl rfl | refine ⟨?_, ?_⟩))⟩ rfl (fun h2 => ?_) (fun h2 => ?_) <;> cbv
      · exact Done.num (.inl ⟨h0, ⟨x, hx, h2⟩, hu⟩)
      · refine Arith.go (by lia) (fun i' hi' => ?_); cbv
        refine Again.on i' (by lia) ⟨by lia, hu.next h0 hx h2 hi'⟩ ?_
        (cbv; refine Less.to [] rfl rfl ?_ ?_ <;> repeat' (first | exact trivial | exact ⟨rfl, rfl⟩ | exact ⟨_, rfl, Nat.zero_le _, rfl⟩ | apply And.intro | exact rfl))
    · exact Done.num (.inr ⟨rfl, hu.mem (by lia)⟩)

theorem deleteFuncInt641_c (S : Se P A) (F : FuncId) (c1 : List AV) (q : Int → Bool) (l : List Int) (hF : ∀ x ∈ l, Tests P F [.int .i64 x, .rptr c1] (q x = true)) (n : Nat) (hn : n = l.length) : SoundM P 136 false [.ref false 1000 0 n, .fn F [] [.rptr c1]] [.arr 1 true (A.enc cInt64 l)]
    (fun v os => v = rInt64 A (l.filter fun x => !q x) ∧ os = [none]) := by
  refine S.cx.by (S.prog ▸ Try.func136) rfl rfl rfl rfl (fun hv ho => ?_)
  cbv
  refine ACall.num (dp := false) (indexFuncIn1_c S _ _ q l hF) ⟨rfl, (by repeat' (first | exact trivial | exact rfl | exact Nat.le_refl _ | exact S.cx.giveEq | exact S.cx.lendLe (by assumption) | exact S.cx.lendEq (by assumption) | exact S.cx.lendLe0 | exact S.cx.lendEq0 | exact S.cx.partLe (by assumption) | exact S.cx.partEq (by assumption) | exact .inl rfl | refine ⟨?_, ?_⟩)), (by repeat' (first | exact trivial | exact rfl | exact Nat.le_refl _ | exact S.cx.giveEq | exact S.cx.lendLe (by assumption) | exact S.cx.lendEq (by assumption) | exact S.cx.lendLe0 | exact S.cx.lendEq0 | exact S.cx.partLe (by assumption) | exact S.cx.partEq (by assumption) | exact .inl rfl | refine ⟨?_, ?_⟩))⟩ (fun r hr => ?_); cbv
  refine Test.eql (fun h => ?_) (fun h => ?_) <;> cbv
  · have hno : ∀ x ∈ l, ¬ q x = true := by rcases hr with hr | hr; omega; exact hr.2
    have e : l.filter (fun x => !q x) = l := List.filter_eq_self.2 fun x hx => by simpa using hno x hx
    rw [e]
    exact Done.to (rInt64 A l) [none] rfl (by repeat' (first | exact trivial | exact rfl | exact resOwn S.cx rfl (by assumption) | exact resOwn S.cx rfl (S.cx.lenE _ _) | exact resOwn1 S.cx rfl (by assumption) | exact resOwnT S.cx rfl (by assumption) | exact S.cx.enc _ [] | refine ⟨?_, ?_⟩)) trivial ⟨rfl, rfl⟩
  obtain ⟨h0, ⟨x, hx, hq⟩, hu⟩ : 0 ≤ r ∧ (∃ x, l[r.toNat]? = some x ∧ q x = true) ∧ Upto (fun _ x => ¬ q x = true) l r := by
    rcases hr with hr | hr
    · exact hr
    · exact absurd hr.1 h
  have hlt := lt_of_get hx
  refine Arith.know (fun h1 h2 => by have := (Obj.real.len (ho 1000 _ rfl)); rw [S.cx.lenE'] at this; simp only [maxLen] at this; omega) (fun j0 hj0 h1 h2 => ?_); cbv
  replace hj0 : j0 = r + 1 := hj0
  have hfirst : l.take r.toNat = (l.take j0.toNat).filter fun x => !q x := by
    rw [show j0.toNat = r.toNat + 1 by omega, take_next hx, List.filter_append]
    have e1 : (l.take r.toNat).filter (fun x => !q x) = l.take r.toNat := List.filter_eq_self.2 fun y hy => by
      obtain ⟨k, hk⟩ := List.getElem?_of_mem hy
      rw [List.getElem?_take] at hk
      split at hk
      · rename_i hkr
        simpa using hu k y (by omega) hk
      · cases hk
    simp [e1, hq]
  refine ALoop.goD (ι := Int × Int × List Int) (fun i => [(6, .int .i64 i.1), (5, .int .i64 i.2.1)]) [1000] (fun i => [(1000, .arr 1 true (A.enc cInt64 i.2.2))]) (fun i => (0 ≤ i.2.1 ∧ i.2.1 < i.1 ∧ i.1 ≤ l.length) ∧ i.2.2.length = l.length ∧ i.2.2.take i.2.1.toNat = (l.take i.1.toNat).filter (fun x => !q x) ∧ ∀ k : Nat, i.1 ≤ k → i.2.2[k]? = l[k]?) (fun i => (l.length - i.1).toNat) (j0, r, l) S.cx.tab S.cx.mix S.eq ?_ ?_ ?_
  · exact ⟨⟨h0, by dsimp only; omega, by dsimp only; omega⟩, rfl, hfirst, fun k _ => rfl⟩
  · (cbv; refine Less.to [] rfl rfl ?_ ?_ <;> repeat' (first | exact trivial | exact ⟨rfl, rfl⟩ | exact ⟨_, rfl, Nat.zero_le _, rfl⟩ | apply And.intro | exact rfl))
  rintro ⟨j, i, m⟩ ⟨⟨hi0, hij, hjl⟩, hml, htk, hrest⟩
  dsimp only at hi0 hij hjl hml htk hrest
  cbv
  refine Len.nat (fun N hN hmx => ?_); cbv
  refine Test.lss (fun h3 => ?_) (fun h3 => ?_) <;> cbv
  · refine ElemRef.go rfl (by lia) (by lia) (by rw [S.cx.lenE']; lia) (fun row hrow => ?_); cbv
    refine Row.enc S.cx (by lia) (fun v hv2 => ?_); cbv
    have hrj : row = j.toNat := by omega
    have hvl : l[j.toNat]? = some v := by rw [← hrest j.toNat (by lia), ← hrj]; exact hv2
    have hstep : ∀ j', j' = j + 1 → (l.take j'.toNat).filter (fun x => !q x) = m.take i.toNat ++ (if q v then [] else [v]) := fun j' hj' => by
      rw [show j'.toNat = j.toNat + 1 by omega, take_next hvl, List.filter_append, htk]
      by_cases hqv : q v = true <;> simp [hqv]
    refine ACall.testX (dp := false) (hF v (mem_at hvl)) ⟨rfl, (by repeat' (first | exact trivial | exact rfl | exact Nat.le_refl _ | exact S.cx.giveEq | exact S.cx.lendLe (by assumption) | exact S.cx.lendEq (by assumption) | exact S.cx.lendLe0 | exact S.cx.lendEq0 | exact S.cx.partLe (by assumption) | exact S.cx.partEq (by assumption) | exact .inl rfl | refine ⟨?_, ?_⟩)), (by repeat' (first | exact trivial | exact rfl | exact Nat.le_refl _ | exact S.cx.giveEq | exact S.cx.lendLe (by assumption) | exact S.cx.lendEq (by assumption) | exact S.cx.lendLe0 | exact S.cx.lendEq0 | exact S.cx.partLe (by assumption) | exact S.cx.partEq (by assumption) | exact .inl rfl | refine ⟨?_, ?_⟩))⟩ rfl (fun h4 => ?_) (fun h4 => ?_) <;> cbv
    · refine Arith.go (by lia) (fun j' hj' => ?_); cbv
      refine Again.on (j', i, m) (by dsimp only; lia) ⟨⟨hi0, by dsimp only; lia, by dsimp only; lia⟩, hml, by dsimp only; rw [hstep j' hj', if_pos h4]; simp, fun k hk => hrest k (by dsimp only at hk; lia)⟩ ?_
      (cbv; refine Less.to [] rfl rfl ?_ ?_ <;> repeat' (first | exact trivial | exact ⟨rfl, rfl⟩ | exact ⟨_, rfl, Nat.zero_le _, rfl⟩ | apply And.intro | exact rfl))
    · refine ElemRef.go rfl (by lia) (by lia) (by rw [S.cx.lenE']; lia) (fun row2 hrow2 => ?_); cbv
      have hri : row2 = i.toNat := by omega
      obtain ⟨y, hy⟩ : ∃ y, m[row2]? = some y := get_of_lt (by lia)
      refine RowSet.enc S.cx y v hy rfl (Nat.le_refl _) rfl (fun m' hm' => ?_); cbv
      refine Arith.go (by lia) (fun i' hi' => ?_); cbv
      replace hi' : i' = i + 1 := hi'
      refine Arith.go (by lia) (fun j' hj' => ?_); cbv
      replace hj' : j' = j + 1 := hj'
      refine Again.on (j', i', m') (by dsimp only; lia) ⟨⟨by dsimp only; lia, by dsimp only; lia, by dsimp only; lia⟩, by dsimp only; rw [hm']; simpa using hml, ?_, fun k hk => ?_⟩ ?_
      · dsimp only
        have hlt2 : i.toNat < m.length := by omega
        rw [hstep j' hj', if_neg h4, hm', hri, show i'.toNat = i.toNat + 1 by omega, take_set hlt2]
      · dsimp only at hk ⊢
        rw [hm', List.getElem?_set_ne (by lia)]
        exact hrest k (by lia)
      · (cbv; refine Less.to [] rfl rfl ?_ ?_ <;> repeat' (first | exact trivial | exact ⟨rfl, rfl⟩ | exact ⟨_, rfl, Nat.zero_le _, rfl⟩ | apply And.intro | exact rfl))
  · have hall : m.take i.toNat = l.filter fun x => !q x := by rw [htk, take_all (by lia)]
    refine CutRef.go rfl hi0 (by lia) (by lia) (by rw [S.cx.lenE']; lia) (fun p' off' len' hoff hlen => ?_); cbv
    refine ⟨⟨rfl⟩, Clear.enc S.cx (0 : Int) rfl rfl ?_ (fun m' hm' => ?_)⟩
    · lia
    cbv
    have hml2 : m'.length = l.length := by rw [hm']; simp; lia
    have htk2 : m'.take i.toNat = m.take i.toNat := by
      have hi9 : i.toNat ≤ m.length := by lia
      rw [hm', show off' = i.toNat by omega, List.append_assoc, List.take_append_of_le_length (by rw [List.length_take_of_le hi9]; exact Nat.le_refl _)]
      rw [List.take_take]; simp
    refine CutRef.go rfl (by decide) hi0 (by lia) (by rw [S.cx.lenE']; lia) (fun p2 off2 len2 hoff2 hlen2 => ?_); cbv
    refine Done.to (rInt64 A (l.filter fun x => !q x)) [none] rfl ?_ trivial ⟨rfl, rfl⟩
    have h9 : off2 + len2 ≤ m'.length := by lia
    refine resPart1 S.cx (f := cInt64) (l := m') rfl h9 ?_
    rw [← hall, ← htk2, show off2 = 0 by omega, show len2 = i.toNat by omega]; rfl

end Go.Proofs.Ytcbebidfnlkkeaa.AM
