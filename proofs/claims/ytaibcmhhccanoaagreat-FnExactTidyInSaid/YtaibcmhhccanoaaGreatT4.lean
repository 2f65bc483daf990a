/- Contracts: spreads begun, one step. (printed by gt5.py) -/
import Derived.Test.YtaibcmhhccanoaaGreatTA
set_option linter.unusedVariables false
set_option linter.unusedSimpArgs false
namespace Go.Proofs.YtaibcmhhccanoaaGreat.AM
open Go Go.Proofs

set_option maxRecDepth 100000
set_option maxHeartbeats 4000000
set_option linter.unusedVariables false
set_option linter.unusedSimpArgs false

variable {P : Program} {A : Sy}

def rSp (A : Sy) (x : Spread) : AV := .agg (ownSpread A x)
def rSpB (A : Sy) (x : Spread × Bool) : AV := .tup [.agg (ownSpread A x.1), .bool x.2]
def rSpI (A : Sy) (x : Spread × Int) : AV := .tup [.agg (ownSpread A x.1), .int .i64 x.2]

def Begin (s : Spread) (n : Int) : Spread × Bool :=
  if (0 ≤ n ∧ n.toNat < s.told.length) ∧ s.work.length ≠ 240 then ({ s with work := s.work ++ [n] }, true) else (s, false)
def Begun (t : List Node) (s : Spread) (n : Int) : Spread × Bool := if SpreadOk t s then Begin s n else (spread0, false)
def rB2 (x : Spread × Bool) : AV := .bool x.2
def oSp (A : Sy) (x : Spread × Bool) : List (Option Obj) := [some (.box (ownSpread A x.1))]

def Step (t : List Node) (s : Spread) : Spread × Int × Bool :=
  match s.work with
  | [] => (s, -1, false)
  | n :: w => if s.told[n.toNat]? = some true then (⟨s.told, w⟩, -1, true) else if w.length + (Below t n).length > 240 then (s, -1, false) else (⟨s.told.set n.toNat true, w ++ Below t n⟩, n, true)
def SpreadStep (t : List Node) (s : Spread) : Spread × Int := if SpreadOk t s then ((Step t s).1, (Step t s).2.1) else (spread0, -1)
def rIB (x : Spread × Int × Bool) : AV := .tup [.int .i64 x.2.1, .bool x.2.2]
def oSpI (A : Sy) (x : Spread × Int × Bool) : List (Option Obj) := [some (.box (ownSpread A x.1))]

theorem kids_in {t : List Node} {n i : Int} (h : i ∈ Kids t n) : 0 ≤ i ∧ i.toNat < t.length := by
  obtain ⟨h0, x, hx, _⟩ := idxs_mem.1 h
  exact ⟨h0, lt_of_get hx⟩

theorem below_len (t : List Node) (n : Int) : (Below t n).length ≤ t.length := Nat.le_trans (List.length_filter_le _ _) (idxs_len _ _)

theorem l7Below_c (S : Se P A) (t : List Node) (n : Int) (hok : TreeOk t ∧ 0 ≤ n ∧ n.toNat < t.length) : Is1 P 63 [.ro (A.enc cNode t), .int .i64 n] (rInt64 A (Below t n)) := by
  have b0 := hok.1.1
  refine S.cx.by (S.prog ▸ Tryz.func63) rfl rfl rfl rfl (fun hv ho => ?_)
  cbv
  refine ACall.valN (r := rInt64 A) (os := fun _ => []) (dp := false) S.cx (childrenOf_c S t n hok) (.of rfl (by repeat' (first | exact trivial | exact rfl | exact Nat.le_refl _ | exact S.ga | exact S.gb ‹_› | exact S.gc ‹_› | exact S.gd | exact S.ge | exact S.gf ‹_› | exact S.gg ‹_› | exact S.gh | exact .inl rfl | exact S.gi ‹_› | exact S.gj ‹_› | exact S.gk | exact S.gl | refine ⟨?_, ?_⟩))) rfl (fun ln hln kids hx => ⟨rfl, ?_⟩)
  cbv
  have hZ := hln cInt64 kids
  generalize ln (A.enc cInt64 kids) = Z at hZ ⊢
  have hkl : kids.length ≤ 60 := by rw [hx]; exact Nat.le_trans (idxs_len _ _) b0
  refine ALoop.pre (Less.initE S.cx cInt64 999000000 1 true (t := 5) rfl (by first | exact .inr rfl | exact .inl rfl) rfl) ?_
  refine ALoop.goD (ι := Int × Nat × List Int) (fun i => [(7, .int .i64 i.1), (5, .ref false 999000000 0 i.2.1)]) [999000000] (fun i => [(999000000, .arr 1 true (A.enc cInt64 i.2.2))]) (fun i => 0 ≤ i.1 ∧ i.2.1 = i.2.2.length ∧ i.2.2 = (kids.take i.1.toNat).filter (notCut t)) (fun i => (kids.length - i.1).toNat) (0, 0, []) S.cx.tab S.cx.mix S.eq ?_ ?_ ?_
  · exact ⟨Int.le_refl _, rfl, by simp⟩
  · (cbv; refine Less.to [] rfl rfl ?_ ?_ <;> repeat' (first | exact trivial | exact ⟨rfl, rfl⟩ | exact ⟨_, rfl, Nat.zero_le _, rfl⟩ | apply And.intro | exact rfl))
  rintro ⟨i, c, out⟩ ⟨h0, hc, ho⟩
  dsimp only at h0 hc ho
  have hlen : out.length ≤ kids.length := by rw [ho]; exact Nat.le_trans (List.length_filter_le _ _) (by simp; omega)
  cbv
  refine Len.nat (fun N hN hm => ?_); cbv
  refine Test.lss (fun h => ?_) (fun h => ?_) <;> cbv
  · refine ElemRef.go rfl h0 (by lia) (by rw [S.cx.lenE']; lia) (fun row hrow => ?_); cbv
    refine Row.enc S.cx (by lia) (fun k hk => ?_); cbv
    have hki : kids[i.toNat]? = some k := by rw [← hk, hrow]; congr 1; omega
    obtain ⟨hk0, hkt⟩ := kids_in (by rw [← hx]; exact mem_at hki : k ∈ Kids t n)
    obtain ⟨x, hxx⟩ := get_of_lt hkt
    have step : ∀ i', i' = i + 1 → (kids.take i'.toNat).filter (notCut t) = out ++ (if notCut t k then [k] else []) := fun i' hi' => by
      rw [show i'.toNat = i.toNat + 1 by omega, take_next hki, List.filter_append, ho]
      by_cases hq : notCut t k = true <;> simp [hq]
    refine ElemRo.at S.cx (x := x) rfl hk0 hxx ?_; cbv
    refine Test.neq (fun h2 => ?_) (fun h2 => ?_) <;> cbv
    · have hnc : notCut t k = true := by simp [notCut, hxx, h2]
      refine ElemRef.go rfl h0 (by lia) (by rw [S.cx.lenE']; lia) (fun row2 hrow2 => ?_); cbv
      refine Row.enc S.cx (by lia) (fun k2 hk2 => ?_)
      obtain rfl : k = k2 := by rw [show row2 = row by omega, hk] at hk2; exact Option.some.inj hk2
      cbv
      refine Part.one ?_; cbv
      refine AppRef.push S.cx k (by assumption) rfl rfl plainInt64 (fun _ => rfl) (by simp only [maxBytes]; omega) (fun m w hw hml => ?_); cbv
      refine Arith.go (by lia) (fun i' hi' => ?_); cbv
      refine Again.on (i', m, w) (by dsimp only; lia) ⟨by dsimp only; lia, hml, by dsimp only; rw [step i' hi', hw, if_pos hnc]⟩ ?_
      (cbv; refine Less.to [(999000000, (8060000, 0))] rfl rfl ?_ ?_ <;> repeat' (first | exact trivial | exact ⟨rfl, rfl⟩ | exact ⟨_, rfl, Nat.zero_le _, rfl⟩ | apply And.intro | exact rfl))
    · have hnc : notCut t k = false := by simp [notCut, hxx, h2]
      refine Arith.go (by lia) (fun i' hi' => ?_); cbv
      refine Again.on (i', c, out) (by dsimp only; lia) ⟨by dsimp only; lia, hc, by dsimp only; rw [step i' hi', hnc]; simp⟩ ?_
      (cbv; refine Less.to [] rfl rfl ?_ ?_ <;> repeat' (first | exact trivial | exact ⟨rfl, rfl⟩ | exact ⟨_, rfl, Nat.zero_le _, rfl⟩ | apply And.intro | exact rfl))
  · have hall : out = Below t n := by rw [ho, take_all (by lia), hx]; rfl
    exact Done.is (r := rInt64 A) (x := out) (by repeat' (first | exact trivial | exact rfl | exact S.ra rfl ‹_› | exact S.rb rfl | exact S.rc rfl ‹_› | exact S.rd rfl ‹_› | exact S.gh | exact S.re rfl ‹_› | exact S.rf rfl ‹_› | exact S.rg rfl ‹_› | refine ⟨?_, ?_⟩)) rfl (hall.symm)

end Go.Proofs.YtaibcmhhccanoaaGreat.AM
