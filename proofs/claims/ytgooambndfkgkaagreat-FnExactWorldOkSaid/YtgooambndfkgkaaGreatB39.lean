/- The abstract machine, part 39: a walk that is begun anew at each statement. -/
import Derived.Test.YtgooambndfkgkaaGreatB38
namespace Go.Proofs.YtgooambndfkgkaaGreat.AM
open Go Go.RowKit

set_option linter.unusedVariables false
set_option linter.unusedSimpArgs false

def vcS (A : Sy) (P : Program) (T : Nat → Option TI) (cuts : List Nat) : Code → St → (Exit → St → Prop) → Prop
  | .skip, st, Q => Q .normal st
  | .label _, st, Q => Q .normal st
  | .exit id, st, Q => Q (.exit id) st
  | .ret, st, Q => Q .ret st
  | .seq a b, st, Q => match hasN (firstR b) cuts with
    | true => ASeq P a b Q st
    | false => match hasN 99999 cuts with
      | true => vcS A P T cuts a st (seqK (fun Q s => Later (fun _ => vcS A P T cuts b s Q)) Q)
      | false => vcS A P T cuts a st (seqK (fun Q s => vcS A P T cuts b s Q) Q)
  | .cond c a b, st, Q => match st.ev c with
    | .bool x => match x with
      | true => vcS A P T cuts a st Q
      | false => vcS A P T cuts b st Q
    | _ => False
  | .block id c, st, Q => vcS A P T cuts c st (blockK id Q)
  | .region id ops draw, st, Q => match draw with
    | false => vcOps A P T ops ((id + 1) * 1000000) ops.toList st fun s => Q .normal s
    | true => Drawn st (fun _ => statB ops = true) (vcD A P T ops ((id + 1) * 1000000) 0 ops.toList st [] fun s => Q .normal s)
  | .loop c, st, Q => ALoop P c Q st
  | _, _, _ => False

variable {P : Program} {T : Nat → Option TI} {A : Sy} {cuts : List Nat}

theorem vcS_sound (h : TabOk P T) (hm : P.follows .mixedOrders = true) : ∀ (c : Code) (st : St) (Q : Exit → St → Prop), vcS sy P T cuts c st Q → awp P c Q st
  | .skip, st, Q, hk => awp_skip hk
  | .label _, st, Q, hk => awp_label hk
  | .exit id, st, Q, hk => awp_exit hk
  | .ret, st, Q, hk => awp_ret hk
  | .seq x y, st, Q, hk => by
    unfold vcS at hk
    split at hk
    · exact hk.out
    · split at hk
      · refine awp_seq (awp_mono (vcS_sound h hm x st _ hk) fun e s hq => ?_)
        cases e <;> first | exact vcS_sound h hm y s Q hq.out | exact hq
      · refine awp_seq (awp_mono (vcS_sound h hm x st _ hk) fun e s hq => ?_)
        cases e <;> first | exact vcS_sound h hm y s Q hq | exact hq
  | .cond c x y, st, Q, hk => by
    unfold vcS at hk
    split at hk
    · rename_i b hb
      refine awp_cond hb (fun e => ?_) (fun e => ?_)
      · subst e; exact vcS_sound h hm x st Q hk
      · subst e; exact vcS_sound h hm y st Q hk
    · exact hk.elim
  | .block id c, st, Q, hk => by
    refine awp_block (awp_mono (vcS_sound h hm c st _ hk) fun e s hq => ?_)
    cases e with
    | exit id' =>
      simp only [blockQ]
      simp only [blockK] at hq
      cases hb : nbeq id' id <;> simp only [hb] at hq <;> exact hq
    | _ => exact hq
  | .region id ops draw, st, Q, hk => vc_sound h hm (.region id ops draw) st Q (by unfold vcS at hk; unfold vc; exact hk)
  | .loop c, st, Q, hk => hk.out
  | .rangeFunc .., _, _, hk => hk.elim
  | .scope _, _, _, hk => hk.elim
  | .goto _, _, _, hk => hk.elim
  | .refuse _, _, _, hk => hk.elim

theorem ASeq.indT {ι : Type} (F : ι → St) (I : ι → Prop) (htab : TabOk P T) (hm : P.follows .mixedOrders = true) {a b : Code} {Q : Exit → St → Prop} {s : St} (hA : A = sy)
    (h1 : vcS A P T cuts a s (reachK F I Q)) (h2 : ∀ i, I i → vcS A P T cuts b (F i) Q) : ASeq P a b Q s := by
  subst hA
  refine ⟨awp_seq (awp_mono (vcS_sound htab hm a s _ h1) fun e s' hq => ?_)⟩
  cases e with
  | normal =>
    obtain ⟨j, hj, hw⟩ := hq.out
    exact awp_weak hw (vcS_sound htab hm b _ Q (h2 j hj))
  | _ => exact hq

/-- What the first piece writes is told anew, other slots than some are as they were. -/
theorem ASeq.goT {ι : Type} (ts : ι → List (Nat × AV)) (fs ks : List Nat) (os : ι → List (Nat × Obj)) (I : ι → Prop) (cuts : List Nat) (htab : TabOk P T) (hm : P.follows .mixedOrders = true) {a b : Code} {Q : Exit → St → Prop} {s : St} (hA : A = sy)
    (h1 : Rnd (vcS A P T cuts a s (reachK (fun i => havD (AM.forget s fs) (dsts a) ks (ts i) (os i)) I Q)))
    (h2 : ∀ i, I i → Rnd (vcS A P T cuts b (havD (AM.forget s fs) (dsts a) ks (ts i) (os i)) Q)) : ASeq P a b Q s :=
  ASeq.indT _ I htab hm hA h1.out fun i hi => (h2 i hi).out

/-- The second piece is begun anew from what the first has come to. -/
theorem ASeq.onT (cuts : List Nat) (htab : TabOk P T) (hm : P.follows .mixedOrders = true) {a b : Code} {Q : Exit → St → Prop} {s : St} (hA : A = sy)
    (h : vcS A P T cuts a s (seqK (fun Q s => Later (fun _ => vcS A P T cuts b s Q)) Q)) : ASeq P a b Q s := by
  subst hA
  refine ⟨awp_seq (awp_mono (vcS_sound htab hm a s _ h) fun e s' hq => ?_)⟩
  cases e with
  | normal => exact vcS_sound htab hm b s' Q hq.out
  | _ => exact hq

theorem ALoop.indT {ι : Type} (F : ι → St) (I : ι → Prop) (μ : ι → Nat) (i₀ : ι) (htab : TabOk P T) (hm : P.follows .mixedOrders = true) {c : Code} {Q : Exit → St → Prop} {s : St} (hA : A = sy) (hst : Less s (F i₀)) (h₀ : I i₀)
    (round : ∀ i, I i → vcS A P T cuts c (F i) (loopVC F I μ i Q)) : ALoop P c Q s := by
  subst hA
  refine ⟨awp_loop (fun n s => ∃ i, μ i = n ∧ I i ∧ s = F i) (μ i₀) (F i₀) hst.out ⟨i₀, rfl, h₀, rfl⟩ ?_⟩
  rintro n s' ⟨i, rfl, hi, rfl⟩
  refine awp_mono (vcS_sound htab hm c _ _ (round i hi)) fun e s'' hq => ?_
  cases e with
  | normal =>
    obtain ⟨j, h1, h2, h3⟩ := hq.out
    exact ⟨μ j, F j, h1, ⟨j, rfl, h2, rfl⟩, h3⟩
  | _ => exact hq

/-- A loop that is walked with cuts. -/
theorem ALoop.goT {ι : Type} (ts : ι → List (Nat × AV)) (fs ks : List Nat) (os : ι → List (Nat × Obj)) (I : ι → Prop) (μ : ι → Nat) (i₀ : ι) (cuts : List Nat) (htab : TabOk P T) (hm : P.follows .mixedOrders = true) {c : Code} {Q : Exit → St → Prop} {s : St} (hA : A = sy)
    (h₀ : I i₀) (hst : Less (AM.forget s fs) (havD (AM.forget s fs) (dsts c) ks (ts i₀) (os i₀)))
    (round : ∀ i, I i → Rnd (vcS A P T cuts c (havD (AM.forget s fs) (dsts c) ks (ts i) (os i)) (loopVC (fun i => havD (AM.forget s fs) (dsts c) ks (ts i) (os i)) I μ i Q))) : ALoop P c Q s :=
  .pre (Less.forget s fs) (ALoop.indT _ I μ i₀ htab hm hA hst h₀ fun i hi => (round i hi).out)

theorem Cx.byS (cuts : List Nat) (C : Cx P T A) {f : FuncId} {fn : Func} {c : Code} {n : Nat} {rs : List ResultVar} {al : Bool} {args : List AV} {objs : List Obj} {R : AV → List (Option Obj) → Prop} (hf : P.funcs[f]? = some fn) (hb : fn.body = some c) (hn : fn.ntmps = n) (hr : fn.results.toList = rs)
    (hname : (fn.name == "runtime.NumGoroutine") = false) (h : ∀ ln : List (List AV) → Nat, (∀ {α : Type} (f : α → List AV) (l : List α), ln (A.enc f l) = l.length) → (∀ v ∈ args, v.real) → (∀ k o, lk (flats List.length 0 objs) k = some o → o.real) → vcS A P T cuts c (entryM ln n args objs) (endsVC T rs al objs R)) : SoundM P f al args objs R := by
  refine .of_real ⟨fn, hf, hname, by rw [hb]; rfl⟩ fun h1 h2 => ?_
  have h := h A.len C.lenE h1 h2
  have hA := C.eq
  subst hn
  subst hr
  subst hA
  exact sound_of_body C.tab hf hb hname (awp_mono (vcS_sound C.tab C.mix c _ _ h) fun e s hq => endsVC_ends hq)

end Go.Proofs.YtgooambndfkgkaaGreat.AM
