/- The abstract machine, part 16: loops by families of states; what an argument's being there tells. -/
import Derived.Test.YtmpbmfhlkhonkaaAM15
namespace Go.Proofs.Ytmpbmfhlkhonkaa.AM
open Go Go.RowKit

set_option linter.unusedVariables false
set_option linter.unusedSimpArgs false

variable {P : Program} {T : Nat → Option TI}

/-! ### The arithmetic that is kept apart, part by part -/

structure SyIs (sBin : BinOp → IntKind → Int → Int → Int) (sTst : BinOp → Int → Int → Bool) (sNeg : IntKind → Int → Int) (sConv : IntKind → Int → Int) (sBeq : Bool → Bool → Bool) (sLen : List (List AV) → Nat) (sOff : Nat → Int → Nat) (sSpan : Int → Int → Nat) (sOfNat : Nat → Int) (sCut : List (List AV) → Int → Int → List (List AV)) (sGet : List (List AV) → Nat → Option (List AV)) (sLt : Nat → Nat → Bool) (sNat : Int → Nat) (sRep : Int → List AV → List (List AV)) (sPart : List (List AV) → Nat → Nat → List (List AV)) (sAdd : Nat → Nat → Nat) (sApp : List (List AV) → List (List AV) → List (List AV)) (sSet : List (List AV) → Nat → List AV → List (List AV)) : Prop where
  bin : sBin = syBin
  tst : sTst = syTst
  neg : sNeg = fun k n => k.wrap (0 - n)
  conv : sConv = fun k n => k.wrap n
  beq : sBeq = fun a b => a == b
  len : sLen = List.length
  off : sOff = fun a n => a + n.toNat
  span : sSpan = fun l h => (h - l).toNat
  ofNat : sOfNat = fun (n : Nat) => (n : Int)
  cut : sCut = fun rows l h => (rows.take h.toNat).drop l.toNat
  get : sGet = fun rows i => rows[i]?
  lt : sLt = fun a b => decide (a < b)
  nat : sNat = fun n => n.toNat
  rep : sRep = fun n us => List.replicate n.toNat us
  part : sPart = fun rows off len => (rows.drop off).take len
  add : sAdd = fun a b => a + b
  app : sApp = fun a b => a ++ b
  set : sSet = fun rows i r => rows.set i r

theorem SyIs.eq {sBin : BinOp → IntKind → Int → Int → Int} {sTst : BinOp → Int → Int → Bool} {sNeg : IntKind → Int → Int} {sConv : IntKind → Int → Int} {sBeq : Bool → Bool → Bool} {sLen : List (List AV) → Nat} {sOff : Nat → Int → Nat} {sSpan : Int → Int → Nat} {sOfNat : Nat → Int} {sCut : List (List AV) → Int → Int → List (List AV)} {sGet : List (List AV) → Nat → Option (List AV)} {sLt : Nat → Nat → Bool} {sNat : Int → Nat} {sRep : Int → List AV → List (List AV)} {sPart : List (List AV) → Nat → Nat → List (List AV)} {sAdd : Nat → Nat → Nat} {sApp : List (List AV) → List (List AV) → List (List AV)} {sSet : List (List AV) → Nat → List AV → List (List AV)} (S : SyIs sBin sTst sNeg sConv sBeq sLen sOff sSpan sOfNat sCut sGet sLt sNat sRep sPart sAdd sApp sSet) : (⟨sBin, sTst, sNeg, sConv, sBeq, sLen, sOff, sSpan, sOfNat, sCut, sGet, sLt, sNat, sRep, sPart, sAdd, sApp, sSet⟩ : Sy) = sy := by
  obtain ⟨rfl, rfl, rfl, rfl, rfl, rfl, rfl, rfl, rfl, rfl, rfl, rfl, rfl, rfl, rfl, rfl, rfl, rfl⟩ := S
  rfl

theorem syIs : SyIs sy.bin sy.tst sy.neg sy.conv sy.beq sy.len sy.off sy.span sy.ofNat sy.cut sy.get sy.lt sy.nat sy.rep sy.part sy.add sy.app sy.set := ⟨rfl, rfl, rfl, rfl, rfl, rfl, rfl, rfl, rfl, rfl, rfl, rfl, rfl, rfl, rfl, rfl, rfl, rfl⟩

/-! ### Loops -/

/-- Once more round the loop. -/
structure Again {ι : Type} (st : ι → St) (I : ι → Prop) (μ : ι → Nat) (i : ι) (s : St) : Prop where
  out : ∃ j, μ j < μ i ∧ I j ∧ Weak s (st j)

def loopVC {ι : Type} (st : ι → St) (I : ι → Prop) (μ : ι → Nat) (i : ι) (Q : Exit → St → Prop) (e : Exit) (s : St) : Prop :=
  match e with
  | .normal => Again st I μ i s
  | e => Q e s

theorem ALoop.ind {ι : Type} (st : ι → St) (I : ι → Prop) (μ : ι → Nat) (i₀ : ι) (htab : TabOk P T) (hm : P.follows .mixedOrders = true) {c : Code} {Q : Exit → St → Prop} {s : St} {A : Sy} (hA : A = sy) (hst : Weak s (st i₀)) (h₀ : I i₀)
    (round : ∀ i, I i → vc A P T c (st i) (loopVC st I μ i Q)) : ALoop P c Q s := by
  subst hA
  refine ⟨awp_loop (fun n s => ∃ i, μ i = n ∧ I i ∧ s = st i) (μ i₀) (st i₀) hst ⟨i₀, rfl, h₀, rfl⟩ ?_⟩
  rintro n s' ⟨i, rfl, hi, rfl⟩
  refine awp_mono (vc_sound htab hm c _ _ (round i hi)) fun e s'' hq => ?_
  cases e with
  | normal =>
    obtain ⟨j, h1, h2, h3⟩ := hq.out
    exact ⟨μ j, st j, h1, ⟨j, rfl, h2, rfl⟩, h3⟩
  | _ => exact hq

/-! ### What is there -/

def AV.real (v : AV) : Prop := ∃ E x, Rel E v x

theorem AV.real.int {k : IntKind} {n : Int} (h : (AV.int k n).real) : (Lit.int k n).wf = true := by
  obtain ⟨E, x, h⟩ := h
  cases h with
  | base _ _ h => cases h; assumption

theorem AV.real.len {rows : List (List AV)} (h : (AV.ro rows).real) : rows.length ≤ maxLen := by
  obtain ⟨E, x, h⟩ := h
  cases h with
  | base _ _ h =>
    cases h with
    | ro0 => simp [maxLen]
    | ro _ _ _ _ _ _ h1 h2 h3 => exact Nat.le_trans h2 h3

theorem AV.real.cell {rows : List (List AV)} (h : (AV.ro rows).real) {r : List AV} (hr : r ∈ rows) {v : AV} (hv : v ∈ r) : v.real := by
  obtain ⟨E, x, h⟩ := h
  obtain ⟨i, hi⟩ := List.getElem?_of_mem hr
  obtain ⟨j, hj⟩ := List.getElem?_of_mem hv
  cases h with
  | base _ _ h =>
    cases h with
    | ro0 => cases hr
    | ro _ _ _ _ _ f h1 h2 h3 h4 h5 h6 h7 => exact ⟨E, f i j, .base _ _ (h7 i j r v hi hj)⟩

theorem AV.real.agg {cells : List AV} (h : (AV.agg cells).real) {v : AV} (hv : v ∈ cells) : v.real := by
  obtain ⟨E, x, h⟩ := h
  obtain ⟨j, hj⟩ := List.getElem?_of_mem hv
  cases h with
  | base _ _ h => cases h
  | agg _ xs h1 h2 h3 =>
    have hlt : j < xs.size := by rw [h1]; exact (List.getElem?_eq_some_iff.1 hj).1
    exact ⟨E, xs[j], h3 j v _ hj (Array.getElem?_eq_getElem hlt)⟩

theorem Sound.of_real {f : FuncId} {al : Bool} {args : List AV} {R : AV → Prop} (h0 : ∃ fn, P.funcs[f]? = some fn ∧ (fn.name == "runtime.NumGoroutine") = false ∧ fn.body.isNone = false)
    (h : (∀ v ∈ args, v.real) → Sound P f al args R) : Sound P f al args R := by
  refine ⟨h0, fun w S xs hS hsz hargs => (h fun v hv => ?_).2 w S xs hS hsz hargs⟩
  obtain ⟨j, hj⟩ := List.getElem?_of_mem hv
  have hlt : j < xs.size := by rw [hsz]; exact (List.getElem?_eq_some_iff.1 hj).1
  exact ⟨_, xs[j], hargs j v _ hj (Array.getElem?_eq_getElem hlt)⟩

theorem sound_by {f : FuncId} {fn : Func} {c : Code} {n : Nat} {rs : List ResultVar} {al : Bool} {args : List AV} {R : AV → Prop} (hm : P.follows .mixedOrders = true) (htab : TabOk P T) (hf : P.funcs[f]? = some fn) (hb : fn.body = some c) (hn : fn.ntmps = n) (hr : fn.results.toList = rs)
    (hname : (fn.name == "runtime.NumGoroutine") = false) (h : (∀ v ∈ args, v.real) → ∀ sBin sTst sNeg sConv sBeq sLen sOff sSpan sOfNat sCut sGet sLt sNat sRep sPart sAdd sApp sSet, SyIs sBin sTst sNeg sConv sBeq sLen sOff sSpan sOfNat sCut sGet sLt sNat sRep sPart sAdd sApp sSet → vc ⟨sBin, sTst, sNeg, sConv, sBeq, sLen, sOff, sSpan, sOfNat, sCut, sGet, sLt, sNat, sRep, sPart, sAdd, sApp, sSet⟩ P T c (entry n args) (endsVC T rs al R)) : Sound P f al args R :=
  .of_real ⟨fn, hf, hname, by rw [hb]; rfl⟩ fun hv => sound_vc hm htab hf hb hn hr hname fun A hA => by
    subst hA
    exact h hv _ _ _ _ _ _ _ _ _ _ _ _ _ _ _ _ _ _ syIs

end Go.Proofs.Ytmpbmfhlkhonkaa.AM
