/- Contracts: heaps joined. (printed by ge3.py) -/
import Derived.Test.YtmbckmfihcojoaaE2
import Derived.Test.YtmbckmfihcojoaaBC
namespace Go.Proofs.Ytmbckmfihcojoaa.AM
open Go Go.Proofs

set_option maxRecDepth 100000
set_option maxHeartbeats 4000000
set_option linter.unusedVariables false
set_option linter.unusedSimpArgs false

variable {P : Program} {A : Sy}

theorem resPart2 {T : Nat → Option TI} (C : Cx P T A) {al : Bool} {st : St} {p : Bool} {id s : Nat} {α : Type} {f : α → List AV} {rows : List (List AV)} (hq : lk st.sto id = some (.arr s true rows)) : resOk al st (.ref p id 0 0) (.own s true (A.enc f ([] : List α))) := by
  show resCell al st (.ref p id 0 0) (.own s true (A.enc f ([] : List α)))
  simp only [resCell, hq]
  exact ⟨⟨trivial, trivial⟩, ⟨Nat.zero_le _, by rw [C.enc]; rfl⟩, trivial⟩

theorem AOp.appendMakeN (lab : Nat) {T : Nat → Option TI} {o : Oper} {st : St} {K : AV → Dl → Prop} {t ti e : Nat} {i j i2 : TI} {x y : Operand} {k k' : IntKind} {n : Int} {us : List AV} (h : TabOk P T) (hti : T t = some i) (hd : i.desc = .slice e) (hj : T e = some j) (hpos : 0 < j.size) (hby : 0 < j.bytes)
    (ht2 : T ti = some i2) (hd2 : i2.desc = .int k)
    (ho : o.op = .call { callee := .builtin .append, args := #[x, y], argTypes := #[t, ti] }) (hu : st.used.elem lab = false) (hx : st.ev x = .nilS) (hy : st.ev y = .int k' n) (h0 : 0 < n) (hb : n.toNat * j.bytes ≤ maxBytes) (hz : cellsOf j.flat j.zero = some us)
    (hk : ∀ (N : Nat) (rows : List (List AV)), N = n.toNat → rows.length = N → K (.ref false lab 0 N) ⟨[(lab, some (.arr j.size j.flat rows))], [lab], []⟩) : AOp P o st K :=
  .appendMake lab h hti hd hj hpos hby ht2 hd2 ho hu hx hy h0 hb hz (hk _ _ rfl (List.length_replicate ..))

theorem growTwig_c (S : Se P A) (n : Int) (hn : n ≤ 4294967296) (h0 : 0 ≤ n) : Is1 P 219 [.nilS, .int .i64 n] (rTwig A []) := by
  refine S.cx.by (S.prog ▸ Try.func219) rfl rfl rfl rfl (fun hv ho => ?_)
  cbv
  refine Test.lss (fun h => ?_) (fun h => ?_) <;> cbv
  · exfalso; omega
  refine Arith.go (by decide) (fun z hz => ?_); replace hz : z = 0 - 0 := hz; cbv
  refine Arith.go (by lia) (fun m hm => ?_); replace hm : m = n - z := hm; cbv
  refine Test.gtr (fun h1 => ?_) (fun h1 => ?_) <;> cbv
  rotate_left
  · exact Done.is (r := rTwig A) (x := []) (by repeat' (first | exact trivial | exact rfl | exact resOwn S.cx rfl (by assumption) | exact resOwn S.cx rfl (S.cx.lenE _ _) | exact resOwn1 S.cx rfl (by assumption) | exact resOwnT S.cx rfl (by assumption) | exact S.cx.enc _ [] | refine ⟨?_, ?_⟩)) rfl (rfl)
  refine ⟨⟨⟨rfl, rfl⟩⟩, ?_⟩
  refine AOp.appendMakeN 6050000 S.cx.tab rfl rfl rfl (by decide) (by decide) rfl rfl rfl rfl rfl rfl h1 (by simp only [maxBytes]; omega) rfl (fun N rows hN hrows => ?_); cbv
  refine CutRef.go rfl (by decide) (by decide) (by lia) (by omega) (fun p' off' len' hoff hlen => ?_)
  have e1 : off' = 0 := by rw [hoff]; rfl
  have e2 : len' = 0 := by rw [hlen]; rfl
  subst e1 e2
  cbv
  refine Done.to (rTwig A []) [] rfl ?_ trivial ⟨rfl, rfl⟩
  exact resPart2 S.cx rfl

end Go.Proofs.Ytmbckmfihcojoaa.AM
