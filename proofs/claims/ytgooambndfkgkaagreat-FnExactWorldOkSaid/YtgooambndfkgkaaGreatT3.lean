/- Contracts: children; what is deleted. (printed by gt4.py) -/
import Derived.Test.YtgooambndfkgkaaGreatT2
import Derived.Test.YtgooambndfkgkaaGreatBC
namespace Go.Proofs.YtgooambndfkgkaaGreat.AM
open Go Go.Proofs

set_option maxRecDepth 100000
set_option maxHeartbeats 4000000
set_option linter.unusedVariables false
set_option linter.unusedSimpArgs false

variable {P : Program} {A : Sy}

def Kids (t : List Node) (n : Int) : List Int := idxs (fun x => decide (x.up = n)) t
def notCut (t : List Node) (i : Int) : Bool := match t[i.toNat]? with
  | some x => decide (x.kind ≠ 4)
  | none => true
def Below (t : List Node) (n : Int) : List Int := (Kids t n).filter (notCut t)

theorem resPart1 {T : Nat → Option TI} (C : Cx P T A) {al : Bool} {st : St} {p : Bool} {id off n s : Nat} {α : Type} {f : α → List AV} {l m : List α} (hq : lk st.sto id = some (.arr s true (A.enc f l))) (hn : off + n ≤ l.length) (hm : m = (l.drop off).take n) : resOk al st (.ref p id off n) (.own s true (A.enc f m)) := by
  show resCell al st (.ref p id off n) (.own s true (A.enc f m))
  exact resPart C hq hn hm

theorem take_set {α : Type} {l : List α} {i : Nat} {v : α} (h : i < l.length) : (l.set i v).take (i + 1) = l.take i ++ [v] := by
  have : l.set i v = (l.take i ++ [v]) ++ l.drop (i + 1) := by rw [List.set_eq_take_append_cons_drop, if_pos h]; simp
  rw [this, List.take_append_of_le_length (by simp; omega), List.take_of_length_le (by simp; omega)]

theorem children_c (S : Se P A) (l : List Node) (hb : l.length ≤ 4294967296) (n : Int) : Is1 P 254 [.ro (A.enc cNode l), .int .i64 n] (rInt64 A (Kids l n)) := by
  refine S.cx.by (S.prog ▸ Tryz.func254) rfl rfl rfl rfl (fun hv ho => ?_)
  cbv
  refine LenR.nat S.cx (fun N hN hm => ?_); cbv
  have hfin : idxs (fun x => decide (x.up = n)) l = Kids l n := rfl
  refine ALoop.pre (Less.initE S.cx cInt64 999000000 1 true (t := 5) rfl (by first | exact .inr rfl | exact .inl rfl) rfl) ?_
  refine ALoop.goD (ι := Int × Nat × List Int) (fun i => [(11, .int .i64 i.1), (5, .ref false 999000000 0 i.2.1)]) [999000000] (fun i => [(999000000, .arr 1 true (A.enc cInt64 i.2.2))]) (fun i => 0 ≤ i.1 ∧ i.2.1 = i.2.2.length ∧ i.2.2 = idxs (fun x : Node => decide (x.up = n)) (l.take i.1.toNat)) (fun i => (l.length - i.1).toNat) (0, 0, []) S.cx.tab S.cx.mix S.eq ?_ ?_ ?_
  · exact ⟨Int.le_refl _, rfl, by simp [idxs, idxFrom]⟩
  · (cbv; refine Less.to [] rfl rfl ?_ ?_ <;> repeat' (first | exact trivial | exact ⟨rfl, rfl⟩ | exact ⟨_, rfl, Nat.zero_le _, rfl⟩ | apply And.intro | exact rfl))
  rintro ⟨i, c, out⟩ ⟨h0, hn, ho⟩
  dsimp only at h0 hn ho
  have hlen : out.length ≤ l.length := by rw [ho]; exact Nat.le_trans (idxs_len _ _) (by simp; omega)
  cbv
  refine Test.lss (fun h => ?_) (fun h => ?_) <;> cbv
  · refine ElemRo.enc S.cx (fun _ => rfl) (by lia) (by lia) (fun x hx => ?_); cbv
    have step : ∀ i', i' = i + 1 → idxs (fun x : Node => decide (x.up = n)) (l.take i'.toNat) = if (fun x : Node => decide (x.up = n)) x then out ++ [i] else out := fun i' hi' => by rw [ho]; exact idxs_next h0 hx hi'
    have skip : (fun x : Node => decide (x.up = n)) x = false → ∀ i', i' = i + 1 → 0 ≤ i' ∧ c = out.length ∧ out = idxs (fun x : Node => decide (x.up = n)) (l.take i'.toNat) := fun hp i' hi' => ⟨by omega, hn, by rw [step i' hi', hp]; rfl⟩
    refine Test.eql (fun h1 => ?_) (fun h1 => ?_) <;> cbv
    rotate_left
    · refine Arith.go (by lia) (fun i' hi' => ?_); cbv
      refine Again.on (i', c, out) (by dsimp only; lia) (skip (decide_eq_false (fun e => h1 e)) i' hi') ?_
      (cbv; refine Less.to [] rfl rfl ?_ ?_ <;> repeat' (first | exact trivial | exact ⟨rfl, rfl⟩ | exact ⟨_, rfl, Nat.zero_le _, rfl⟩ | apply And.intro | exact rfl))
    refine Part.one ?_; cbv
    refine AppRef.push S.cx i (by assumption) rfl rfl plainInt64 (fun _ => rfl) (by simp only [maxBytes]; omega) (fun m w hw hml => ?_); cbv
    refine Arith.go (by lia) (fun i' hi' => ?_); cbv
    refine Again.on (i', m, w) (by dsimp only; lia) ⟨by dsimp only; lia, hml, by dsimp only; rw [step i' hi', show (fun x : Node => decide (x.up = n)) x = true from decide_eq_true h1, hw]; rfl⟩ ?_
    (cbv; refine Less.to [(999000000, (7030000, 0))] rfl rfl ?_ ?_ <;> repeat' (first | exact trivial | exact ⟨rfl, rfl⟩ | exact ⟨_, rfl, Nat.zero_le _, rfl⟩ | apply And.intro | exact rfl))
  · have hall : out = idxs (fun x : Node => decide (x.up = n)) l := by rw [ho, take_all (by omega)]
    exact Done.own S.cx rfl rfl hn (hall.trans hfin)

theorem l5Has_c (S : Se P A) (t : List Node) (n : Int) : Tests P 299 [.ro (A.enc cNode t), .int .i64 n] (TreeOk t ∧ 0 ≤ n ∧ n.toNat < t.length) := by
  refine S.cx.by (S.prog ▸ Tryz.func299) rfl rfl rfl rfl (fun hv ho => ?_)
  cbv
  refine ACall.testD (dp := false) (specTreeOk_c S t) ⟨rfl, (by repeat' (first | exact trivial | exact rfl | exact Nat.le_refl _ | exact S.cx.giveEq | exact S.cx.lendLe (by assumption) | exact S.cx.lendEq (by assumption) | exact S.cx.lendLe0 | exact S.cx.lendEq0 | exact S.cx.partLe (by assumption) | exact S.cx.partEq (by assumption) | exact S.cx.enc _ [] | exact .inl rfl | refine ⟨?_, ?_⟩)), (by repeat' (first | exact trivial | exact rfl | exact Nat.le_refl _ | exact S.cx.giveEq | exact S.cx.lendLe (by assumption) | exact S.cx.lendEq (by assumption) | exact S.cx.lendLe0 | exact S.cx.lendEq0 | exact S.cx.partLe (by assumption) | exact S.cx.partEq (by assumption) | exact S.cx.enc _ [] | exact .inl rfl | refine ⟨?_, ?_⟩))⟩ rfl (fun h => ?_) (fun h => ?_) <;> cbv
  rotate_left
  · exact Done.no (fun e => h e.1)
  refine LenR.nat S.cx (fun N hN hm => ?_); cbv
  refine Arith.go (by lia) (fun z hz => ?_); replace hz : z = N - 1 := hz; cbv
  refine ACall.testD (dp := false) (l1In_c S n 0 z) ⟨rfl, (by repeat' (first | exact trivial | exact rfl | exact Nat.le_refl _ | exact S.cx.giveEq | exact S.cx.lendLe (by assumption) | exact S.cx.lendEq (by assumption) | exact S.cx.lendLe0 | exact S.cx.lendEq0 | exact S.cx.partLe (by assumption) | exact S.cx.partEq (by assumption) | exact S.cx.enc _ [] | exact .inl rfl | refine ⟨?_, ?_⟩)), (by repeat' (first | exact trivial | exact rfl | exact Nat.le_refl _ | exact S.cx.giveEq | exact S.cx.lendLe (by assumption) | exact S.cx.lendEq (by assumption) | exact S.cx.lendLe0 | exact S.cx.lendEq0 | exact S.cx.partLe (by assumption) | exact S.cx.partEq (by assumption) | exact S.cx.enc _ [] | exact .inl rfl | refine ⟨?_, ?_⟩))⟩ rfl (fun h2 => ?_) (fun h2 => ?_) <;> cbv
  · exact Done.yes ⟨h, by omega⟩
  · exact Done.no (fun e => h2 (by have := e.2; omega))

theorem indexFuncIn1_c (S : Se P A) (F : FuncId) (c1 : List AV) (q : Int → Bool) (l : List Int) (hF : ∀ x ∈ l, Tests P F [.int .i64 x, .rptr c1] (q x = true)) : Nums P 234 [.ro (A.enc cInt64 l), .fn F [] [.rptr c1]] (fun r => 0 ≤ r ∧ (∃ x, l[r.toNat]? = some x ∧ q x = true) ∧ Upto (fun _ x => ¬ q x = true) l r ∨ r = -1 ∧ ∀ x ∈ l, ¬ q x = true) := by
  refine S.cx.by (S.prog ▸ Tryz.func234) rfl rfl rfl rfl (fun hv ho => ?_)
  cbv
  refine LenR.nat S.cx (fun N hN hm => ?_); cbv
  refine ALoop.goD (ι := Int) (fun i => [(8, .int .i64 i)]) [] (fun i => []) (fun i => 0 ≤ i ∧ Upto (fun _ x => ¬ q x = true) l i) (fun i => (l.length - i).toNat) (0) S.cx.tab S.cx.mix S.eq ?_ ?_ ?_
  · exact ⟨Int.le_refl _, .zero⟩
  · (cbv; refine Less.to [] rfl rfl ?_ ?_ <;> repeat' (first | exact trivial | exact ⟨rfl, rfl⟩ | exact ⟨_, rfl, Nat.zero_le _, rfl⟩ | apply And.intro | exact rfl))
  · rintro i ⟨h0, hu⟩
    cbv
    refine Test.lss (fun h => ?_) (fun h => ?_) <;> cbv
    · refine ElemRo.enc S.cx (fun _ => rfl) (by lia) (by lia) (fun x hx => ?_); cbv
      refine ACall.testX (dp := false) (hF x (mem_at hx)) ⟨rfl, (by repeat' (first | exact trivial | exact rfl | exact Nat.le_refl _ | exact S.cx.giveEq | exact S.cx.lendLe (by assumption) | exact S.cx.lendEq (by assumption) | exact S.cx.lendLe0 | exact S.cx.lendEq0 | exact S.cx.partLe (by assumption) | exact S.cx.partEq (by assumption) | exact S.cx.enc _ [] | exact .inl rfl | refine ⟨?_, ?_⟩)), (by repeat' (first | exact trivial | exact rfl | exact Nat.le_refl _ | exact S.cx.giveEq | exact S.cx.lendLe (by assumption) | exact S.cx.lendEq (by assumption) | exact S.cx.lendLe0 | exact S.cx.lendEq0 | exact S.cx.partLe (by assumption) | exact S.cx.partEq (by assumption) | exact S.cx.enc _ [] | exact .inl rfl | refine ⟨?_, ?_⟩))⟩ rfl (fun h2 => ?_) (fun h2 => ?_) <;> cbv
      · exact Done.num (.inl ⟨h0, ⟨x, hx, h2⟩, hu⟩)
      · refine Arith.go (by lia) (fun i' hi' => ?_); cbv
        refine Again.on i' (by lia) ⟨by lia, hu.next h0 hx h2 hi'⟩ ?_
        (cbv; refine Less.to [] rfl rfl ?_ ?_ <;> repeat' (first | exact trivial | exact ⟨rfl, rfl⟩ | exact ⟨_, rfl, Nat.zero_le _, rfl⟩ | apply And.intro | exact rfl))
    · exact Done.num (.inr ⟨rfl, hu.mem (by lia)⟩)

end Go.Proofs.YtgooambndfkgkaaGreat.AM
