import Derived.Test.YtihfpbhalnedcaaGreatBC
/- In one: B38 B39 B40 -/
set_option linter.unusedVariables false
set_option linter.unusedSimpArgs false
namespace Go.Proofs.YtihfpbhalnedcaaGreat.AM
open Go Go.RowKit

def firstR : Code -> Nat
  | .seq a b => match firstR a with
    | 0 => firstR b
    | n => n
  | .region id _ _ => id + 1
  | .block _ c => firstR c
  | .loop c => firstR c
  | _ => 0

structure ASeq (P : Program) (a b : Code) (Q : Exit -> St -> Prop) (st : St) : Prop where
  out : awp P (.seq a b) Q st

def vcC (A : Sy) (P : Program) (T : Nat -> Option TI) (cuts : List Nat) : Code -> St -> (Exit -> St -> Prop) -> Prop
  | .skip, st, Q => Q .normal st
  | .label _, st, Q => Q .normal st
  | .exit id, st, Q => Q (.exit id) st
  | .ret, st, Q => Q .ret st
  | .seq a b, st, Q => match hasN (firstR b) cuts with
    | true => ASeq P a b Q st
    | false => vcC A P T cuts a st (seqK (fun Q s => vcC A P T cuts b s Q) Q)
  | .cond c a b, st, Q => match st.ev c with
    | .bool x => match x with
      | true => vcC A P T cuts a st Q
      | false => vcC A P T cuts b st Q
    | _ => False
  | .block id c, st, Q => vcC A P T cuts c st (blockK id Q)
  | .region id ops draw, st, Q => match draw with
    | false => vcOps A P T ops ((id + 1) * 1000000) ops.toList st fun s => Q .normal s
    | true => Drawn st (fun _ => statB ops = true) (vcD A P T ops ((id + 1) * 1000000) 0 ops.toList st [] fun s => Q .normal s)
  | .loop c, st, Q => ALoop P c Q st
  | _, _, _ => False

variable {P : Program} {T : Nat -> Option TI} {A : Sy} {cuts : List Nat}

theorem vcC_sound (h : TabOk P T) (hm : P.follows .mixedOrders = true) : ∀ (c : Code) (st : St) (Q : Exit -> St -> Prop), vcC sy P T cuts c st Q -> awp P c Q st
  | .skip, st, Q, hk => awp_skip hk
  | .label _, st, Q, hk => awp_label hk
  | .exit id, st, Q, hk => awp_exit hk
  | .ret, st, Q, hk => awp_ret hk
  | .seq x y, st, Q, hk => by
    unfold vcC at hk
    split at hk
    · exact hk.out
    · refine awp_seq (awp_mono (vcC_sound h hm x st _ hk) fun e s hq => ?_)
      cases e <;> first | exact vcC_sound h hm y s Q hq | exact hq
  | .cond c x y, st, Q, hk => by
    unfold vcC at hk
    split at hk
    · rename_i b hb
      refine awp_cond hb (fun e => ?_) (fun e => ?_)
      · subst e; exact vcC_sound h hm x st Q hk
      · subst e; exact vcC_sound h hm y st Q hk
    · exact hk.elim
  | .block id c, st, Q, hk => by
    refine awp_block (awp_mono (vcC_sound h hm c st _ hk) fun e s hq => ?_)
    cases e with
    | exit id' =>
      simp only [blockQ]
      simp only [blockK] at hq
      cases hb : nbeq id' id <;> simp only [hb] at hq <;> exact hq
    | _ => exact hq
  | .region id ops draw, st, Q, hk => vc_sound h hm (.region id ops draw) st Q (by unfold vcC at hk; unfold vc; exact hk)
  | .loop c, st, Q, hk => hk.out
  | .rangeFunc .., _, _, hk => hk.elim
  | .scope _, _, _, hk => hk.elim
  | .goto _, _, _, hk => hk.elim
  | .refuse _, _, _, hk => hk.elim

structure Reach {ι : Type} (F : ι -> St) (I : ι -> Prop) (s : St) : Prop where
  out : ∃ j, I j /\ Weak s (F j)
theorem Reach.on {ι : Type} {F : ι -> St} {I : ι -> Prop} {s : St} (j : ι) (h2 : I j) (h3 : Less s (F j)) : Reach F I s := ⟨j, h2, h3.out⟩

def reachK {ι : Type} (F : ι -> St) (I : ι -> Prop) (Q : Exit -> St -> Prop) (e : Exit) (s : St) : Prop :=
  match e with
  | .normal => Reach F I s
  | e => Q e s

structure Later (f : Unit -> Prop) : Prop where
  out : f ()

theorem ASeq.on (cuts : List Nat) (htab : TabOk P T) (hm : P.follows .mixedOrders = true) {a b : Code} {Q : Exit -> St -> Prop} {s : St} (hA : A = sy)
    (h : vcC A P T cuts a s (seqK (fun Q s => Later (fun _ => vcC A P T cuts b s Q)) Q)) : ASeq P a b Q s := by
  subst hA
  refine ⟨awp_seq (awp_mono (vcC_sound htab hm a s _ h) fun e s' hq => ?_)⟩
  cases e with
  | normal => exact vcC_sound htab hm b s' Q hq.out
  | _ => exact hq

theorem ALoop.indC {ι : Type} (F : ι -> St) (I : ι -> Prop) (μ : ι -> Nat) (i₀ : ι) (htab : TabOk P T) (hm : P.follows .mixedOrders = true) {c : Code} {Q : Exit -> St -> Prop} {s : St} (hA : A = sy) (hst : Less s (F i₀)) (h₀ : I i₀)
    (round : ∀ i, I i -> vcC A P T cuts c (F i) (loopVC F I μ i Q)) : ALoop P c Q s := by
  subst hA
  refine ⟨awp_loop (fun n s => ∃ i, μ i = n /\ I i /\ s = F i) (μ i₀) (F i₀) hst.out ⟨i₀, rfl, h₀, rfl⟩ ?_⟩
  rintro n s' ⟨i, rfl, hi, rfl⟩
  refine awp_mono (vcC_sound htab hm c _ _ (round i hi)) fun e s'' hq => ?_
  cases e with
  | normal =>
    obtain ⟨j, h1, h2, h3⟩ := hq.out
    exact ⟨μ j, F j, h1, ⟨j, rfl, h2, rfl⟩, h3⟩
  | _ => exact hq

theorem ALoop.goC {ι : Type} (ts : ι -> List (Nat × AV)) (fs ks : List Nat) (os : ι -> List (Nat × Obj)) (I : ι -> Prop) (μ : ι -> Nat) (i₀ : ι) (cuts : List Nat) (htab : TabOk P T) (hm : P.follows .mixedOrders = true) {c : Code} {Q : Exit -> St -> Prop} {s : St} (hA : A = sy)
    (h₀ : I i₀) (hst : Less (AM.forget s fs) (havD (AM.forget s fs) (dsts c) ks (ts i₀) (os i₀)))
    (round : ∀ i, I i -> Rnd (vcC A P T cuts c (havD (AM.forget s fs) (dsts c) ks (ts i) (os i)) (loopVC (fun i => havD (AM.forget s fs) (dsts c) ks (ts i) (os i)) I μ i Q))) : ALoop P c Q s :=
  .pre (Less.forget s fs) (ALoop.indC _ I μ i₀ htab hm hA hst h₀ fun i hi => (round i hi).out)

theorem Cx.byC (cuts : List Nat) (C : Cx P T A) {f : FuncId} {fn : Func} {c : Code} {n : Nat} {rs : List ResultVar} {al : Bool} {args : List AV} {objs : List Obj} {R : AV -> List (Option Obj) -> Prop} (hf : P.funcs[f]? = some fn) (hb : fn.body = some c) (hn : fn.ntmps = n) (hr : fn.results.toList = rs)
    (hname : (fn.name == "runtime.NumGoroutine") = false) (h : ∀ ln : List (List AV) -> Nat, (∀ {α : Type} (f : α -> List AV) (l : List α), ln (A.enc f l) = l.length) -> (∀ v ∈ args, v.real) -> (∀ k o, lk (flats List.length 0 objs) k = some o -> o.real) -> vcC A P T cuts c (entryM ln n args objs) (endsVC T rs al objs R)) : SoundM P f al args objs R := by
  refine .of_real ⟨fn, hf, hname, by rw [hb]; rfl⟩ fun h1 h2 => ?_
  have h := h A.len C.lenE h1 h2
  have hA := C.eq
  subst hn
  subst hr
  subst hA
  exact sound_of_body C.tab hf hb hname (awp_mono (vcC_sound C.tab C.mix c _ _ h) fun e s hq => endsVC_ends hq)

end Go.Proofs.YtihfpbhalnedcaaGreat.AM

namespace Go.Proofs.YtihfpbhalnedcaaGreat.AM
open Go Go.RowKit

def vcS (A : Sy) (P : Program) (T : Nat -> Option TI) (cuts : List Nat) : Code -> St -> (Exit -> St -> Prop) -> Prop
  | .skip, st, Q => Q .normal st
  | .label _, st, Q => Q .normal st
  | .exit id, st, Q => Q (.exit id) st
  | .ret, st, Q => Q .ret st
  | .seq a b, st, Q => match hasN (firstR b) cuts with
    | true => ASeq P a b Q st
    | false => match hasN 99999 cuts with
      | true => vcS A P T cuts a st (seqK (fun Q s => Later (fun _ => vcS A P T cuts b s Q)) Q)
      | false => vcS A P T cuts a st (seqK (fun Q s => vcS A P T cuts b s Q) Q)
  | .cond c a b, st, Q => match st.ev c with
    | .bool x => match x with
      | true => vcS A P T cuts a st Q
      | false => vcS A P T cuts b st Q
    | _ => False
  | .block id c, st, Q => vcS A P T cuts c st (blockK id Q)
  | .region id ops draw, st, Q => match draw with
    | false => vcOps A P T ops ((id + 1) * 1000000) ops.toList st fun s => Q .normal s
    | true => Drawn st (fun _ => statB ops = true) (vcD A P T ops ((id + 1) * 1000000) 0 ops.toList st [] fun s => Q .normal s)
  | .loop c, st, Q => ALoop P c Q st
  | _, _, _ => False

variable {P : Program} {T : Nat -> Option TI} {A : Sy} {cuts : List Nat}

theorem vcS_sound (h : TabOk P T) (hm : P.follows .mixedOrders = true) : ∀ (c : Code) (st : St) (Q : Exit -> St -> Prop), vcS sy P T cuts c st Q -> awp P c Q st
  | .skip, st, Q, hk => awp_skip hk
  | .label _, st, Q, hk => awp_label hk
  | .exit id, st, Q, hk => awp_exit hk
  | .ret, st, Q, hk => awp_ret hk
  | .seq x y, st, Q, hk => by
    unfold vcS at hk
    split at hk
    · exact hk.out
    · split at hk
      · refine awp_seq (awp_mono (vcS_sound h hm x st _ hk) fun e s hq => ?_)
        cases e <;> first | exact vcS_sound h hm y s Q hq.out | exact hq
      · refine awp_seq (awp_mono (vcS_sound h hm x st _ hk) fun e s hq => ?_)
        cases e <;> first | exact vcS_sound h hm y s Q hq | exact hq
  | .cond c x y, st, Q, hk => by
    unfold vcS at hk
    split at hk
    · rename_i b hb
      refine awp_cond hb (fun e => ?_) (fun e => ?_)
      · subst e; exact vcS_sound h hm x st Q hk
      · subst e; exact vcS_sound h hm y st Q hk
    · exact hk.elim
  | .block id c, st, Q, hk => by
    refine awp_block (awp_mono (vcS_sound h hm c st _ hk) fun e s hq => ?_)
    cases e with
    | exit id' =>
      simp only [blockQ]
      simp only [blockK] at hq
      cases hb : nbeq id' id <;> simp only [hb] at hq <;> exact hq
    | _ => exact hq
  | .region id ops draw, st, Q, hk => vc_sound h hm (.region id ops draw) st Q (by unfold vcS at hk; unfold vc; exact hk)
  | .loop c, st, Q, hk => hk.out
  | .rangeFunc .., _, _, hk => hk.elim
  | .scope _, _, _, hk => hk.elim
  | .goto _, _, _, hk => hk.elim
  | .refuse _, _, _, hk => hk.elim

theorem ASeq.indT {ι : Type} (F : ι -> St) (I : ι -> Prop) (htab : TabOk P T) (hm : P.follows .mixedOrders = true) {a b : Code} {Q : Exit -> St -> Prop} {s : St} (hA : A = sy)
    (h1 : vcS A P T cuts a s (reachK F I Q)) (h2 : ∀ i, I i -> vcS A P T cuts b (F i) Q) : ASeq P a b Q s := by
  subst hA
  refine ⟨awp_seq (awp_mono (vcS_sound htab hm a s _ h1) fun e s' hq => ?_)⟩
  cases e with
  | normal =>
    obtain ⟨j, hj, hw⟩ := hq.out
    exact awp_weak hw (vcS_sound htab hm b _ Q (h2 j hj))
  | _ => exact hq

theorem ALoop.indT {ι : Type} (F : ι -> St) (I : ι -> Prop) (μ : ι -> Nat) (i₀ : ι) (htab : TabOk P T) (hm : P.follows .mixedOrders = true) {c : Code} {Q : Exit -> St -> Prop} {s : St} (hA : A = sy) (hst : Less s (F i₀)) (h₀ : I i₀)
    (round : ∀ i, I i -> vcS A P T cuts c (F i) (loopVC F I μ i Q)) : ALoop P c Q s := by
  subst hA
  refine ⟨awp_loop (fun n s => ∃ i, μ i = n /\ I i /\ s = F i) (μ i₀) (F i₀) hst.out ⟨i₀, rfl, h₀, rfl⟩ ?_⟩
  rintro n s' ⟨i, rfl, hi, rfl⟩
  refine awp_mono (vcS_sound htab hm c _ _ (round i hi)) fun e s'' hq => ?_
  cases e with
  | normal =>
    obtain ⟨j, h1, h2, h3⟩ := hq.out
    exact ⟨μ j, F j, h1, ⟨j, rfl, h2, rfl⟩, h3⟩
  | _ => exact hq

theorem ALoop.goT {ι : Type} (ts : ι -> List (Nat × AV)) (fs ks : List Nat) (os : ι -> List (Nat × Obj)) (I : ι -> Prop) (μ : ι -> Nat) (i₀ : ι) (cuts : List Nat) (htab : TabOk P T) (hm : P.follows .mixedOrders = true) {c : Code} {Q : Exit -> St -> Prop} {s : St} (hA : A = sy)
    (h₀ : I i₀) (hst : Less (AM.forget s fs) (havD (AM.forget s fs) (dsts c) ks (ts i₀) (os i₀)))
    (round : ∀ i, I i -> Rnd (vcS A P T cuts c (havD (AM.forget s fs) (dsts c) ks (ts i) (os i)) (loopVC (fun i => havD (AM.forget s fs) (dsts c) ks (ts i) (os i)) I μ i Q))) : ALoop P c Q s :=
  .pre (Less.forget s fs) (ALoop.indT _ I μ i₀ htab hm hA hst h₀ fun i hi => (round i hi).out)

theorem Cx.byS (cuts : List Nat) (C : Cx P T A) {f : FuncId} {fn : Func} {c : Code} {n : Nat} {rs : List ResultVar} {al : Bool} {args : List AV} {objs : List Obj} {R : AV -> List (Option Obj) -> Prop} (hf : P.funcs[f]? = some fn) (hb : fn.body = some c) (hn : fn.ntmps = n) (hr : fn.results.toList = rs)
    (hname : (fn.name == "runtime.NumGoroutine") = false) (h : ∀ ln : List (List AV) -> Nat, (∀ {α : Type} (f : α -> List AV) (l : List α), ln (A.enc f l) = l.length) -> (∀ v ∈ args, v.real) -> (∀ k o, lk (flats List.length 0 objs) k = some o -> o.real) -> vcS A P T cuts c (entryM ln n args objs) (endsVC T rs al objs R)) : SoundM P f al args objs R := by
  refine .of_real ⟨fn, hf, hname, by rw [hb]; rfl⟩ fun h1 h2 => ?_
  have h := h A.len C.lenE h1 h2
  have hA := C.eq
  subst hn
  subst hr
  subst hA
  exact sound_of_body C.tab hf hb hname (awp_mono (vcS_sound C.tab C.mix c _ _ h) fun e s hq => endsVC_ends hq)

end Go.Proofs.YtihfpbhalnedcaaGreat.AM

namespace Go.Proofs.YtihfpbhalnedcaaGreat.AM
open Go Go.RowKit

variable {P : Program} {T : Nat -> Option TI} {A : Sy}

theorem Less.fold (C : Cx P T A) {s : St} {id i j sz s0 L n : Nat} {p : Bool} {α β : Type} {f : α -> List AV} {g : β -> List AV} {m m' : List α} {l : List β} (x y : α) (hq : lk s.sto id = some (.arr s0 false (A.enc f m))) (hx : m[i]? = some x)
    (hc : (f x)[j]? = some (.ref p L 0 n)) (hL : lk s.sto L = some (.arr sz true (A.enc g l))) (hn : n = l.length) (hlow : nble lab0 L = true) (hy : f y = (f x).set j (.own sz true (A.enc g l))) (hm : m' = m.set i y) :
    Less s { s with sto := (id, .arr s0 false (A.enc f m')) :: rm s.sto L } := by
  subst hm
  have hr : (A.enc f m)[i]? = some (f x) := by rw [C.enc]; simp [hx]
  have := Weak.fold hq hr hc hL (by rw [C.lenE', hn]) (nble_le hlow)
  rw [<- hy] at this
  have e : (A.enc f m).set i (f y) = A.enc f (m.set i y) := by rw [C.enc, C.enc, List.map_set]
  rw [e] at this
  exact ⟨this⟩

theorem Less.unfold (C : Cx P T A) {s : St} {id i j sz s0 L n : Nat} {α β : Type} {f : α -> List AV} {g : β -> List AV} {m m' : List α} {l : List β} (x y : α) (hq : lk s.sto id = some (.arr s0 false (A.enc f m))) (hx : m[i]? = some x)
    (hc : (f x)[j]? = some (.own sz true (A.enc g l))) (hu : s.used.elem L = false) (hn : n = l.length) (hy : f y = (f x).set j (.ref false L 0 n)) (hm : m' = m.set i y) :
    Less s { s with sto := (L, .arr sz true (A.enc g l)) :: (id, .arr s0 false (A.enc f m')) :: s.sto, used := L :: s.used } := by
  subst hm
  have hr : (A.enc f m)[i]? = some (f x) := by rw [C.enc]; simp [hx]
  have := Weak.unfold hq hr hc hu
  rw [C.lenE', <- hn, <- hy] at this
  have e : (A.enc f m).set i (f y) = A.enc f (m.set i y) := by rw [C.enc, C.enc, List.map_set]
  rw [e] at this
  exact ⟨this⟩

theorem Less.name (C : Cx P T A) {α : Type} (f : α -> List AV) (L sz : Nat) (fl : Bool) {s : St} (hu : s.used.elem L = false) : Less s { s with sto := (L, .arr sz fl (A.enc f [])) :: s.sto, used := L :: s.used } := by
  refine ⟨fun E a hs => ⟨E, rfl, Fr.refl E, ?_⟩⟩
  have hL : E.loc L = none := hs.notUsed hu
  refine ⟨hs.wf, hs.defers, hs.size, hs.tmps, fun id o h => ?_, fun id l h => ?_, fun id o h => ?_⟩
  · rw [lk_cons] at h
    by_cases he : L = id
    · subst he
      rw [if_pos rfl] at h
      obtain rfl := Option.some.inj h
      exact .inl ⟨hL, C.enc f []⟩
    · rw [if_neg he] at h; exact hs.sto id o h
  · have := hs.used id l h
    simp only [List.elem_iff] at this ⊢
    exact List.mem_cons_of_mem _ this
  · rw [lk_cons] at h
    by_cases he : L = id
    · subst he; simp
    · rw [if_neg he] at h
      have := hs.keys id o h
      simp only [List.elem_iff] at this ⊢
      exact List.mem_cons_of_mem _ this

structure Round (P : Program) (c : Code) (s : St) (Q : Exit -> St -> Prop) : Prop where
  out : awp P c Q s

theorem Round.go {c : Code} {s : St} {Q : Exit -> St -> Prop} (cuts : List Nat) (htab : TabOk P T) (hm : P.follows .mixedOrders = true) (hA : A = sy) (h : Rnd (vcS A P T cuts c s Q)) : Round P c s Q := by
  subst hA
  exact ⟨vcS_sound htab hm c s Q h.out⟩
theorem Round.pre {c : Code} {s s' : St} {Q : Exit -> St -> Prop} (h : Less s s') (k : Round P c s' Q) : Round P c s Q := ⟨awp_weak h.out k.out⟩

theorem ALoop.goR {ι : Type} (ts : ι -> List (Nat × AV)) (fs ks : List Nat) (os : ι -> List (Nat × Obj)) (I : ι -> Prop) (μ : ι -> Nat) (i₀ : ι) {c : Code} {Q : Exit -> St -> Prop} {s : St}
    (h₀ : I i₀) (hst : Less (AM.forget s fs) (havD (AM.forget s fs) (dsts c) ks (ts i₀) (os i₀)))
    (round : ∀ i, I i -> Round P c (havD (AM.forget s fs) (dsts c) ks (ts i) (os i)) (loopVC (fun i => havD (AM.forget s fs) (dsts c) ks (ts i) (os i)) I μ i Q)) : ALoop P c Q s := by
  refine .pre (Less.forget s fs) ⟨awp_loop (fun n s' => ∃ i, μ i = n /\ I i /\ s' = havD (AM.forget s fs) (dsts c) ks (ts i) (os i)) (μ i₀) _ hst.out ⟨i₀, rfl, h₀, rfl⟩ ?_⟩
  rintro n s' ⟨i, rfl, hi, rfl⟩
  refine awp_mono (round i hi).out fun e s'' hq => ?_
  cases e with
  | normal =>
    obtain ⟨j, h1, h2, h3⟩ := hq.out
    exact ⟨μ j, _, h1, ⟨j, rfl, h2, rfl⟩, h3⟩
  | _ => exact hq

def Fre {α : Type} (f : α -> List AV) : Prop := ∀ x, ∀ v ∈ f x, v.free false
def Stl {α : Type} (f g : α -> List AV) : Prop := ∀ x, (f x).map AV.still = g x

theorem AV.free.any {v : AV} (h : v.free false) (al : Bool) : v.free al := by
  cases al with
  | false => exact h
  | true =>
    cases v with
    | ro => exact .inl rfl
    | own s fl rows => cases fl <;> exact h
    | _ => exact h

theorem Cx.freeE (C : Cx P T A) {α : Type} {f : α -> List AV} (h : Fre f) (al : Bool) (l : List α) : FreeRows al (A.enc f l) := fun r hr v hv => by
  rw [C.enc] at hr
  obtain ⟨x, _, rfl⟩ := List.mem_map.1 hr
  exact (h x v hv).any al

theorem Cx.noRefsE (C : Cx P T A) {α : Type} {f : α -> List AV} {l : List α} (h : ∀ x ∈ l, ∀ v ∈ f x, v.free false) : noRefs (A.enc f l) := (show FreeRows false (A.enc f l) from fun r hr v hv => by
  rw [C.enc] at hr
  obtain ⟨x, hx, rfl⟩ := List.mem_map.1 hr
  exact h x hx v hv).noRefs

theorem Cx.lendE (C : Cx P T A) {st : St} {no : Nat -> Bool} {α : Type} {f g : α -> List AV} {l : List α} {n : Nat} (h : Fre f) (hs : Stl f g) (hn : n = l.length) : lendRows st no false (((A.enc f l).drop 0).take n) (A.enc g l) := by
  have e : ((A.enc f l).drop 0).take n = A.enc f l := (C.lendEq hn).symm
  rw [e]
  refine .inl ⟨C.freeE h true l, ?_⟩
  show A.enc g l = (A.enc f l).map fun r => r.map AV.still
  rw [C.enc, C.enc, List.map_map]
  exact List.map_congr_left fun x _ => (hs x).symm

theorem resOwnF (C : Cx P T A) {al : Bool} {st : St} {p : Bool} {id n s : Nat} {α : Type} {f : α -> List AV} {l : List α} (hf : Fre f) (hq : lk st.sto id = some (.arr s false (A.enc f l))) (hn : n = l.length) : resCell al st (.ref p id 0 n) (.own s false (A.enc f l)) := by
  simp only [resCell, hq]
  exact ⟨⟨trivial, trivial⟩, ⟨C.lendLe hn, C.lendEq hn⟩, C.freeE hf al l⟩

theorem resOwnF1 (C : Cx P T A) {al : Bool} {st : St} {p : Bool} {id n s : Nat} {α : Type} {f : α -> List AV} {l : List α} (hf : Fre f) (hq : lk st.sto id = some (.arr s false (A.enc f l))) (hn : n = l.length) : resOk al st (.ref p id 0 n) (.own s false (A.enc f l)) := by
  show resCell al st (.ref p id 0 n) (.own s false (A.enc f l))
  exact resOwnF C hf hq hn

theorem Cx.encMap (C : Cx P T A) {α β : Type} {f : α -> List AV} {g : β -> List AV} {h : β -> α} (e : ∀ x, g x = f (h x)) (l : List β) : A.enc f (l.map h) = A.enc g l := by
  rw [C.enc, C.enc, List.map_map]
  exact List.map_congr_left fun x _ => (e x).symm

theorem Less.told (C : Cx P T A) {α : Type} (f : α -> List AV) (l : List α) {s : St} {t L off n sz : Nat} {p fl : Bool} {rows : List (List AV)} (hv : lk s.tmps t = some (.ref p L off n)) (hq : lk s.sto L = some (.arr sz fl rows)) (he : rows = l.map f) :
    Less s { s with tmps := (t, .ref false L off n) :: s.tmps, sto := (L, .arr sz fl (A.enc f l)) :: s.sto } := by
  refine Less.trans (Less.slot (t := t) hv fun E a x _ hr => hr.noPeek (q := false)) ⟨fun E a hs => ⟨E, rfl, Fr.refl E, ?_⟩⟩
  refine ⟨hs.wf, hs.defers, hs.size, hs.tmps, fun id o h => ?_, hs.used, fun id o h => ?_⟩
  · rw [lk_cons] at h
    by_cases e : L = id
    · subst e
      rw [if_pos rfl] at h
      obtain rfl := Option.some.inj h
      have := hs.sto L _ hq
      rw [he] at this
      rw [C.enc]; exact this
    · rw [if_neg e] at h; exact hs.sto id o h
  · rw [lk_cons] at h
    by_cases e : L = id
    · subst e; exact hs.keys _ _ hq
    · rw [if_neg e] at h; exact hs.keys id o h

end Go.Proofs.YtihfpbhalnedcaaGreat.AM
