/- The abstract machine, part 35: a full slice expression whose value is not told. -/
import Derived.Test.YtmbckmfihcojoaaB34
namespace Go.Proofs.Ytmbckmfihcojoaa.AM
open Go Go.RowKit

set_option linter.unusedVariables false
set_option linter.unusedSimpArgs false

variable {P : Program} {T : Nat → Option TI} {A : Sy}

theorem ok_slice3 {o : Oper} {st : St} {K : AV → St → Prop} {t e : Nat} {i j : TI} {x lo hi mx : Operand} {p : Bool} {id off len : Nat} {k1 k2 k3 : IntKind} {l hh m : Int} (h : TabOk P T) (hti : T t = some i) (hd : i.desc = .slice e) (hj : T e = some j) (ho : o.op = .slice t x (some lo) (some hi) (some mx))
    (hx : st.ev x = .ref p id off len) (hlo : st.ev lo = .int k1 l) (hhi : st.ev hi = .int k2 hh) (hmx : st.ev mx = .int k3 m) (h0 : 0 ≤ l) (h1 : l ≤ hh) (h2 : hh ≤ m) (h3 : m ≤ len) (hk : K .undef st) : OpOk P o st K := by
  obtain ⟨d, hu, htd⟩ := h.und hti
  have hd1 := tdOf_slice (htd.trans hd)
  subst hd1
  have hsz := fun w => h.size (P := P) hj w
  refine OpOk.pure _ (fun E a hs => ?_) hk
  have hrx := hs.ev x
  have hrl := hs.ev lo
  have hrh := hs.ev hi
  have hrm := hs.ev mx
  rw [hx] at hrx
  rw [hlo] at hrl
  rw [hhi] at hrh
  rw [hmx] at hrm
  have key : ∀ (ad : Option Addr) (n cap : Nat), a.eval x = .slice ad n cap → m ≤ cap → ∃ v, (execOp a.eval o).run P E.w = .ok (.value v) E.w := fun ad n cap hax hmc => by
    have e1 := run_sliceBound (P := P) E.w k3 m cap .slice3Acap (by omega) hmc
    have e2 := run_sliceBound (P := P) E.w k2 hh m.toNat .slice3B (by omega) (by omega)
    have e3 := run_sliceBound (P := P) E.w k1 l hh.toNat .slice3C (by omega) (by omega)
    have hb : (Instr.sliceBounds true n cap (some (a.eval lo)) (some (a.eval hi)) (some (a.eval mx))).run P E.w = .ok (l.toNat, hh.toNat, m.toNat) E.w := by
      rw [(rel_int hrl).1, (rel_int hrh).1, (rel_int hrm).1]
      simp only [Instr.sliceBounds, Sem.run_bind, Sem.run_pure, Result.andThen_ok, Option.isSome_some, if_true, e1, e2, e3]
    refine ⟨.slice (if m.toNat = l.toNat then ad else ad.map (·.add (l.toNat * j.size))) (hh.toNat - l.toNat) (m.toNat - l.toNat), ?_⟩
    simp [execOp, ho, hax, Instr.sliceAt, Instr.slice, run_underlying hu, hb, hsz]
  generalize hax : a.eval x = xv at hrx
  cases hrx with
  | base _ _ h => cases h
  | ref0 _ _ cap ad hc =>
    obtain ⟨v, hv⟩ := key _ _ _ hax (by omega)
    exact ⟨v, hv, .undef v⟩
  | ref _ _ _ _ L cap hL hle hcap =>
    obtain ⟨v, hv⟩ := key _ _ _ hax (by omega)
    exact ⟨v, hv, .undef v⟩

theorem AOp.slice3 {o : Oper} {st : St} {K : AV → Dl → Prop} {t e : Nat} {i j : TI} {x lo hi mx : Operand} {p : Bool} {id off len : Nat} {k1 k2 k3 : IntKind} {l hh m : Int} (h : TabOk P T) (hti : T t = some i) (hd : i.desc = .slice e) (hj : T e = some j) (ho : o.op = .slice t x (some lo) (some hi) (some mx))
    (hx : st.ev x = .ref p id off len) (hlo : st.ev lo = .int k1 l) (hhi : st.ev hi = .int k2 hh) (hmx : st.ev mx = .int k3 m) (h0 : 0 ≤ l) (h1 : l ≤ hh) (h2 : hh ≤ m) (h3 : m ≤ len) (hk : K .undef .no) : AOp P o st K :=
  ⟨ok_slice3 h hti hd hj ho hx hlo hhi hmx h0 h1 h2 h3 ⟨.no, rfl, hk⟩⟩

end Go.Proofs.Ytmbckmfihcojoaa.AM
