/- The abstract machine, part 21: what must be shown of code. -/
import Derived.Test.YtmbckmfihcojoaaB20
namespace Go.Proofs.Ytmbckmfihcojoaa.AM
open Go Go.RowKit

set_option linter.unusedVariables false
set_option linter.unusedSimpArgs false

def okLog (ops : Array Oper) (o : Oper) (rd keys : List Nat) : List (Nat × List Nat × List Nat) → Bool
  | [] => true
  | (i, rdi, keysi) :: r => okPair ops o rd keys i rdi keysi && okLog ops o rd keys r

def okUsed (lab : Nat) : List Nat → Bool
  | [] => true
  | u :: r => nble lab u && nblt u (lab + 10000) && okUsed lab r

def runD (A : Sy) (P : Program) (T : Nat → Option TI) (ops : Array Oper) (lab k : Nat) (o : Oper) (st : St) (log : List (Nat × List Nat × List Nat)) (K : St → List (Nat × List Nat × List Nat) → Prop) : Prop :=
  opVC A true P T lab o st fun v d =>
    match okLog ops o (rdOf st o.op d) (keysOf d) log && okUsed lab d.used with
    | true => K ((st.upd d).put o.dst v) ((k, rdOf st o.op d, keysOf d) :: log)
    | false => False

def vcD (A : Sy) (P : Program) (T : Nat → Option TI) (ops : Array Oper) (lb : Nat) : Nat → List Oper → St → List (Nat × List Nat × List Nat) → (St → Prop) → Prop
  | _, [], st, _, K => K st
  | k, o :: rest, st, log, K =>
    match o.guard with
    | none => runD A P T ops (lb + 10000 * k) k o st log fun s l => vcD A P T ops lb (k + 1) rest s l K
    | some (j, want) => match dstOf ops j with
      | some t => match st.get t with
        | .bool b => match want with
          | true => match b with
            | true => runD A P T ops (lb + 10000 * k) k o st log fun s l => vcD A P T ops lb (k + 1) rest s l K
            | false => vcD A P T ops lb (k + 1) rest (st.put o.dst (.tup [])) ((k, [], []) :: log) K
          | false => match b with
            | true => vcD A P T ops lb (k + 1) rest (st.put o.dst (.tup [])) ((k, [], []) :: log) K
            | false => runD A P T ops (lb + 10000 * k) k o st log fun s l => vcD A P T ops lb (k + 1) rest s l K
        | .tup [] => vcD A P T ops lb (k + 1) rest (st.put o.dst (.tup [])) ((k, [], []) :: log) K
        | _ => False
      | none => False

def vcOps (A : Sy) (P : Program) (T : Nat → Option TI) (ops : Array Oper) : Nat → List Oper → St → (St → Prop) → Prop
  | _, [], st, k => k st
  | lab, o :: rest, st, k =>
    match o.guard with
    | none => opVC A false P T lab o st fun v d => vcOps A P T ops (lab + 10000) rest ((st.upd d).put o.dst v) k
    | some (j, want) => match dstOf ops j with
      | some t => match st.get t with
        | .bool b => match want with
          | true => match b with
            | true => opVC A false P T lab o st fun v d => vcOps A P T ops (lab + 10000) rest ((st.upd d).put o.dst v) k
            | false => vcOps A P T ops (lab + 10000) rest (st.put o.dst (.tup [])) k
          | false => match b with
            | true => vcOps A P T ops (lab + 10000) rest (st.put o.dst (.tup [])) k
            | false => opVC A false P T lab o st fun v d => vcOps A P T ops (lab + 10000) rest ((st.upd d).put o.dst v) k
        | .tup [] => vcOps A P T ops (lab + 10000) rest (st.put o.dst (.tup [])) k
        | _ => False
      | none => False

/-- A state that is there. -/
def St.real (st : St) : Prop := ∃ E a, Sim E st a

/-- A region that draws its order. -/
structure Drawn (st : St) (p : Unit → Prop) (X : Prop) : Prop where
  out : p () ∧ (st.real → X)

def seqK (n : (Exit → St → Prop) → St → Prop) (Q : Exit → St → Prop) (e : Exit) (s : St) : Prop :=
  match e with
  | .normal => n Q s
  | e => Q e s

def blockK (id : Nat) (Q : Exit → St → Prop) (e : Exit) (s : St) : Prop :=
  match e with
  | .exit id' => match nbeq id' id with
    | true => Q .normal s
    | false => Q (.exit id') s
  | e => Q e s

def vc (A : Sy) (P : Program) (T : Nat → Option TI) : Code → St → (Exit → St → Prop) → Prop
  | .skip, st, Q => Q .normal st
  | .label _, st, Q => Q .normal st
  | .exit id, st, Q => Q (.exit id) st
  | .ret, st, Q => Q .ret st
  | .seq a b, st, Q => vc A P T a st (seqK (fun Q s => vc A P T b s Q) Q)
  | .cond c a b, st, Q => match st.ev c with
    | .bool x => match x with
      | true => vc A P T a st Q
      | false => vc A P T b st Q
    | _ => False
  | .block id c, st, Q => vc A P T c st (blockK id Q)
  | .region id ops draw, st, Q => match draw with
    | false => vcOps A P T ops ((id + 1) * 1000000) ops.toList st fun s => Q .normal s
    | true => Drawn st (fun _ => statB ops = true) (vcD A P T ops ((id + 1) * 1000000) 0 ops.toList st [] fun s => Q .normal s)
  | .loop c, st, Q => ALoop P c Q st
  | _, _, _ => False

variable {P : Program} {T : Nat → Option TI}

theorem okLog_spec {ops : Array Oper} {o : Oper} {rd keys : List Nat} : ∀ {log : List (Nat × List Nat × List Nat)}, okLog ops o rd keys log = true → ∀ i rdi keysi, (i, rdi, keysi) ∈ log → okPair ops o rd keys i rdi keysi = true
  | [], _, _, _, _, h => by cases h
  | (i', rdi', keysi') :: r, hk, i, rdi, keysi, h => by
    simp only [okLog, Bool.and_eq_true] at hk
    rcases List.mem_cons.1 h with h | h
    · cases h; exact hk.1
    · exact okLog_spec hk.2 i rdi keysi h

theorem okUsed_spec {lab : Nat} : ∀ {l : List Nat}, okUsed lab l = true → ∀ u ∈ l, lab ≤ u ∧ u < lab + 10000
  | [], _, _, h => by cases h
  | v :: r, hk, u, h => by
    simp only [okUsed, Bool.and_eq_true] at hk
    rcases List.mem_cons.1 h with h | h
    · subst h; exact ⟨nble_le hk.1.1, by have := hk.1.2; rwa [nblt_eq] at this⟩
    · exact okUsed_spec hk.2 u h

section
variable {ops : Array Oper} {lb : Nat} {st0 : St}

theorem Facts.nil (st0 : St) : Facts P T ops lb st0 [] := ⟨fun k r h => by simp at h, fun k r h => by simp at h, fun k r h => by simp at h, fun i j ri rj _ h => by simp at h⟩

theorem Facts.snoc {recs : List Rec} {r : Rec} (F : Facts P T ops lb st0 recs) (ho : ops[recs.length]? = some r.o)
    (hrun : ((r.o.guard = none ∨ ∃ (j : Nat) (want : Bool) (t : Tmp), r.o.guard = some (j, want) ∧ dstOf ops j = some t ∧ (recs.foldl St.app st0).get t = .bool want) ∧ Fun sy P T (lb + 10000 * recs.length) r.o (recs.foldl St.app st0) r.v r.d ∧ r.rd = rdOf (recs.foldl St.app st0) r.o.op r.d) ∨
      (∃ (j : Nat) (want : Bool) (t : Tmp), r.o.guard = some (j, want) ∧ dstOf ops j = some t ∧ ((recs.foldl St.app st0).get t = .bool (!want) ∨ (recs.foldl St.app st0).get t = .tup []) ∧ r.v = .tup [] ∧ r.d = .no))
    (hn : ∀ u ∈ r.d.used, lb + 10000 * recs.length ≤ u ∧ u < lb + 10000 * recs.length + 10000)
    (hp : ∀ (i : Nat) (ri : Rec), recs[i]? = some ri → okPair ops r.o r.rd (keysOf r.d) i ri.rd (keysOf ri.d) = true) : Facts P T ops lb st0 (recs ++ [r]) := by
  have key : ∀ (k : Nat) (x : Rec), (recs ++ [r])[k]? = some x → (recs[k]? = some x ∧ k < recs.length) ∨ (k = recs.length ∧ x = r) := fun k x h => by
    rcases Nat.lt_or_ge k recs.length with hk | hk
    · rw [List.getElem?_append_left hk] at h; exact .inl ⟨h, hk⟩
    · rw [List.getElem?_append_right hk] at h
      have hlt := (List.getElem?_eq_some_iff.1 h).1
      have e : k = recs.length := by simp at hlt; omega
      subst e
      simp at h
      exact .inr ⟨rfl, h.symm⟩
  have tk : ∀ k, k ≤ recs.length → (recs ++ [r]).take k = recs.take k := fun k hk => List.take_append_of_le_length hk
  refine ⟨fun k x h => ?_, fun k x h => ?_, fun k x h => ?_, fun i j ri rj hij h1 h2 => ?_⟩
  · rcases key k x h with ⟨h, _⟩ | ⟨rfl, rfl⟩
    · exact F.op k x h
    · exact ho
  · rcases key k x h with ⟨h, hk⟩ | ⟨rfl, rfl⟩
    · rw [tk k (Nat.le_of_lt hk)]; exact F.run k x h
    · rw [tk _ (Nat.le_refl _), List.take_length]; exact hrun
  · rcases key k x h with ⟨h, _⟩ | ⟨rfl, rfl⟩
    · exact F.names k x h
    · exact hn
  · rcases key i ri h1 with ⟨g1, hi⟩ | ⟨rfl, rfl⟩
    · rcases key j rj h2 with ⟨h2, _⟩ | ⟨rfl, rfl⟩
      · exact F.pair i j ri rj hij g1 h2
      · exact hp i ri g1
    · rcases key j rj h2 with ⟨h2, hj⟩ | ⟨rfl, rfl⟩
      · omega
      · omega

theorem vcD_sound {Q : St → Prop} : ∀ (rest : List Oper) (k : Nat) (st : St) (log : List (Nat × List Nat × List Nat)) (recs : List Rec), vcD sy P T ops lb k rest st log Q → Facts P T ops lb st0 recs → recs.length = k → recs.foldl St.app st0 = st →
    (∀ (i : Nat) (r : Rec), recs[i]? = some r → (i, r.rd, keysOf r.d) ∈ log) → ops.toList.drop k = rest → ∃ recs' : List Rec, Facts P T ops lb st0 recs' ∧ recs'.length = ops.toList.length ∧ Q (recs'.foldl St.app st0)
  | [], k, st, log, recs, hk, F, hlen, hst, hlog, hd => by
    refine ⟨recs, F, ?_, by rw [hst]; exact hk⟩
    have h1 : ops.toList.length ≤ k := List.drop_eq_nil_iff.1 hd
    rcases Nat.lt_or_ge ops.toList.length recs.length with h | h
    · have hr : recs[ops.toList.length]? = some recs[ops.toList.length] := List.getElem?_eq_getElem h
      have := F.op _ _ hr
      simp at this
    · omega
  | o :: rest, k, st, log, recs, hk, F, hlen, hst, hlog, hd => by
    have ho : ops[k]? = some o := by
      have : (ops.toList.drop k)[0]? = some o := by rw [hd]; rfl
      simpa using this
    have hd' : ops.toList.drop (k + 1) = rest := by
      rw [← List.drop_drop, hd]; rfl
    subst hlen
    have goes : (o.guard = none ∨ ∃ (j : Nat) (want : Bool) (t : Tmp), o.guard = some (j, want) ∧ dstOf ops j = some t ∧ st.get t = .bool want) →
        (runD sy P T ops (lb + 10000 * recs.length) recs.length o st log fun s l => vcD sy P T ops lb (recs.length + 1) rest s l Q) → ∃ recs' : List Rec, Facts P T ops lb st0 recs' ∧ recs'.length = ops.toList.length ∧ Q (recs'.foldl St.app st0) := by
      intro hg hr
      obtain ⟨v, d, hv, hf⟩ := opVC_fun hr
      cases hb : (okLog ops o (rdOf st o.op d) (keysOf d) log && okUsed (lb + 10000 * recs.length) d.used) with
      | false => simp only [hb] at hv
      | true =>
        simp only [hb] at hv
        simp only [Bool.and_eq_true] at hb
        refine vcD_sound rest (recs.length + 1) _ _ (recs ++ [⟨o, v, d, rdOf st o.op d⟩]) hv (F.snoc ho (.inl ?_) (okUsed_spec hb.2) (fun i ri hi => okLog_spec hb.1 _ _ _ (hlog i ri hi))) (by simp) (by rw [List.foldl_append, hst]; rfl) (fun i r hi => ?_) hd'
        · rw [hst]; exact ⟨hg, hf, rfl⟩
        · rcases Nat.lt_or_ge i recs.length with h | h
          · rw [List.getElem?_append_left h] at hi
            exact List.mem_cons_of_mem _ (hlog i r hi)
          · rw [List.getElem?_append_right h] at hi
            have hlt := (List.getElem?_eq_some_iff.1 hi).1
            have e : i = recs.length := by simp at hlt; omega
            subst e
            simp at hi
            subst hi
            simp
    have skips : (∃ (j : Nat) (want : Bool) (t : Tmp), o.guard = some (j, want) ∧ dstOf ops j = some t ∧ (st.get t = .bool (!want) ∨ st.get t = .tup [])) →
        vcD sy P T ops lb (recs.length + 1) rest (st.put o.dst (.tup [])) ((recs.length, [], []) :: log) Q → ∃ recs' : List Rec, Facts P T ops lb st0 recs' ∧ recs'.length = ops.toList.length ∧ Q (recs'.foldl St.app st0) := by
      rintro ⟨j, want, t, hg, hd1, hb⟩ hr
      refine vcD_sound rest (recs.length + 1) _ _ (recs ++ [⟨o, .tup [], .no, []⟩]) hr (F.snoc ho (.inr ?_) (fun u hu => by cases hu) (fun i ri hi => ?_)) (by simp) (by rw [List.foldl_append, hst]; rfl) (fun i r hi => ?_) hd'
      · rw [hst]; exact ⟨j, want, t, hg, hd1, hb, rfl, rfl⟩
      · simp [okPair, disj, keysOf, Dl.no]
      · rcases Nat.lt_or_ge i recs.length with h | h
        · rw [List.getElem?_append_left h] at hi
          exact List.mem_cons_of_mem _ (hlog i r hi)
        · rw [List.getElem?_append_right h] at hi
          have hlt := (List.getElem?_eq_some_iff.1 hi).1
          have e : i = recs.length := by simp at hlt; omega
          subst e
          simp at hi
          subst hi
          simp [keysOf, Dl.no]
    unfold vcD at hk
    split at hk
    · rename_i hg
      exact goes (.inl hg) hk
    · rename_i j want hg
      split at hk
      · rename_i t hd1
        split at hk
        · rename_i b hb
          cases want <;> cases b <;> simp only at hk
          · exact goes (.inr ⟨j, _, t, hg, hd1, hb⟩) hk
          · exact skips ⟨j, _, t, hg, hd1, .inl hb⟩ hk
          · exact skips ⟨j, _, t, hg, hd1, .inl hb⟩ hk
          · exact goes (.inr ⟨j, _, t, hg, hd1, hb⟩) hk
        · rename_i hb
          exact skips ⟨j, want, t, hg, hd1, .inr hb⟩ hk
        · exact hk.elim
      · exact hk.elim

end

theorem vcOps_sound (h : TabOk P T) {ops : Array Oper} {Q : Exit → St → Prop} : ∀ (l : List Oper) (lab : Nat) (st : St), vcOps sy P T ops lab l st (fun s => Q .normal s) → awpL P ops Q l st
  | [], _, st, hk => awpL_nil hk
  | o :: rest, lab, st, hk => by
    unfold vcOps at hk
    split at hk
    · rename_i hg
      exact awpL_cons hg ((opVC_sound h (dr := false) (K := fun v s => vcOps sy P T ops (lab + 10000) rest (s.put o.dst v) (fun s => Q .normal s)) hk).mono fun v s hv => vcOps_sound h rest _ _ hv)
    · rename_i j want hg
      split at hk
      · rename_i t hd
        split at hk
        · rename_i b hb
          refine awpL_guard hg hd hb (fun e => ?_) (fun e => ?_)
          · subst e
            cases b <;> exact (opVC_sound h (dr := false) (K := fun v s => vcOps sy P T ops (lab + 10000) rest (s.put o.dst v) (fun s => Q .normal s)) hk).mono fun v s hv => vcOps_sound h rest _ _ hv
          · subst e
            cases want <;> exact vcOps_sound h rest _ _ hk
        · rename_i hb
          exact awpL_skip hg hd hb (vcOps_sound h rest _ _ hk)
        · exact hk.elim
      · exact hk.elim

theorem vc_sound (h : TabOk P T) (hm : P.follows .mixedOrders = true) : ∀ (c : Code) (st : St) (Q : Exit → St → Prop), vc sy P T c st Q → awp P c Q st
  | .skip, st, Q, hk => awp_skip hk
  | .label _, st, Q, hk => awp_label hk
  | .exit id, st, Q, hk => awp_exit hk
  | .ret, st, Q, hk => awp_ret hk
  | .seq x y, st, Q, hk => by
    refine awp_seq (awp_mono (vc_sound h hm x st _ hk) fun e s hq => ?_)
    cases e <;> first | exact vc_sound h hm y s Q hq | exact hq
  | .cond c x y, st, Q, hk => by
    unfold vc at hk
    split at hk
    · rename_i b hb
      refine awp_cond hb (fun e => ?_) (fun e => ?_)
      · subst e; exact vc_sound h hm x st Q hk
      · subst e; exact vc_sound h hm y st Q hk
    · exact hk.elim
  | .block id c, st, Q, hk => by
    refine awp_block (awp_mono (vc_sound h hm c st _ hk) fun e s hq => ?_)
    cases e with
    | exit id' =>
      simp only [blockQ]
      simp only [blockK] at hq
      cases hb : nbeq id' id <;> simp only [hb] at hq <;> exact hq
    | _ => exact hq
  | .region id ops draw, st, Q, hk => by
    unfold vc at hk
    cases draw with
    | false => exact awp_region (vcOps_sound h _ _ st hk)
    | true =>
      intro E a hs
      obtain ⟨recs, F, h1, h2⟩ := vcD_sound (st0 := st) (Q := fun s => Q .normal s) ops.toList 0 st [] [] (hk.out.2 ⟨E, a, hs⟩) (Facts.nil _) rfl rfl (fun i r hr => by simp at hr) (by simp)
      exact awp_drawn h hm F (by simpa using h1) hk.out.1 h2 E a hs
  | .loop c, st, Q, hk => hk.out
  | .rangeFunc .., _, _, hk => hk.elim
  | .scope _, _, _, hk => hk.elim
  | .goto _, _, _, hk => hk.elim
  | .refuse _, _, _, hk => hk.elim

/-- What a state's value and what was given must come to. -/
structure Done (al : Bool) (st : St) (v : AV) (objs : List Obj) (R : AV → List (Option Obj) → Prop) : Prop where
  out : ∃ r os, (Fits st v os = true ∧ r.small = true ∧ boxesKept objs os = true) ∧ resOk al st v r ∧ backOk al st 0 os ∧ R r os

def endsVC (T : Nat → Option TI) (rs : List ResultVar) (al : Bool) (objs : List Obj) (R : AV → List (Option Obj) → Prop) (e : Exit) (st : St) : Prop :=
  match e with
  | .normal => match st.ret T rs with
    | some v => Done al st v objs R
    | none => False
  | .ret => match st.ret T rs with
    | some v => Done al st v objs R
    | none => False
  | _ => False

theorem endsVC_ends {rs : List ResultVar} {al : Bool} {objs : List Obj} {R : AV → List (Option Obj) → Prop} {e : Exit} {st : St} (h : endsVC T rs al objs R e st) : EndsM T rs al objs R e st := by
  have key : (match st.ret T rs with
    | some v => Done al st v objs R
    | none => False) → ∃ v r os, st.ret T rs = some v ∧ (Fits st v os = true ∧ r.small = true ∧ boxesKept objs os = true) ∧ resOk al st v r ∧ backOk al st 0 os ∧ R r os := by
    intro h
    split at h
    · rename_i v hv
      obtain ⟨r, os, h1, h2, h3, h4⟩ := h.out
      exact ⟨v, r, os, hv, h1, h2, h3, h4⟩
    · exact h.elim
  cases e with
  | normal => exact ⟨trivial, key h⟩
  | ret => exact ⟨trivial, key h⟩
  | _ => exact h.elim

/-- A function's contract from what its code comes to. -/
theorem sound_vc (hm : P.follows .mixedOrders = true) {f : FuncId} {fn : Func} {c : Code} {n : Nat} {rs : List ResultVar} {al : Bool} {args : List AV} {objs : List Obj} {R : AV → List (Option Obj) → Prop} (htab : TabOk P T) (hf : P.funcs[f]? = some fn) (hb : fn.body = some c) (hn : fn.ntmps = n) (hr : fn.results.toList = rs)
    (hname : (fn.name == "runtime.NumGoroutine") = false) {A : Sy} (hA : A = sy) (h : vc A P T c (entryM A.len n args objs) (endsVC T rs al objs R)) : SoundM P f al args objs R := by
  subst hn
  subst hr
  subst hA
  exact sound_of_body htab hf hb hname (awp_mono (vc_sound htab hm c _ _ h) fun e s hq => endsVC_ends hq)

end Go.Proofs.Ytmbckmfihcojoaa.AM
