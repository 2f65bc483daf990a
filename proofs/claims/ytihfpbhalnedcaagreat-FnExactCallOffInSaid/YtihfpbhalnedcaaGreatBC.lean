import Derived.Test.YtihfpbhalnedcaaGreatBB
import Derived.Orders
import Derived.Deep.Slices
import Derived.ProofKit
/- The abstract machine, part 18: an operation comes to one thing, and looks at little. -/
set_option linter.unusedVariables false
set_option linter.unusedSimpArgs false
namespace Go.Proofs.YtihfpbhalnedcaaGreat.AM
open Go Go.RowKit

def seen : Op -> List Operand
  | .move x => [x]
  | .assign x => [x]
  | .pick c x y => [c, x, y]
  | .unOp _ _ x => [x]
  | .binOp _ _ x y _ => [x, y]
  | .extract x _ => [x]
  | .convert _ _ x => [x]
  | .makeFunc _ first caps => first.toList ++ caps.toList
  | .box _ x => [x]
  | .build _ parts => parts.toList.map (·.2)
  | .load _ p => [p]
  | .store _ p x => [p, x]
  | .fieldAddr _ p _ => [p]
  | .field _ x _ => [x]
  | .indexAddr _ x y => [x, y]
  | .slice _ x lo hi _ => x :: (lo.toList ++ hi.toList)
  | .makeSlice _ x y => [x, y]
  | .buildSlice _ _ parts => parts.toList.map (·.2)
  | .nilCheck x => [x]
  | .call { callee := .builtin _, args := args, .. } => args.toList
  | .call { callee := .value c, args := args, .. } => c :: args.toList
  | _ => []

def rdOf (st : St) (o : Op) (d : Dl) : List Nat :=
  match o with
  | .call { callee := .value _, .. } => d.rd
  | .move _ => []
  | .assign _ => []
  | _ => idsL ((seen o).map st.ev)

structure Agree (l : List Operand) (rd : List Nat) (lab : Nat) (st st' : St) : Prop where
  ev : ∀ x ∈ l, st'.ev x = st.ev x
  sto : ∀ id ∈ rd, lk st'.sto id = lk st.sto id
  new : st.used.elem lab = false -> st'.used.elem lab = false
  newL : freshL lab st.used = true -> freshL lab st'.used = true

theorem idsL_of_mem {l : List AV} {v : AV} (h : v ∈ l) {id : Nat} (hi : id ∈ v.ids) : id ∈ idsL l := by
  obtain ⟨j, hj⟩ := List.getElem?_of_mem h
  exact idsL_mem hj hi

theorem idsL_drop {l : List AV} {n id : Nat} (h : id ∈ idsL (l.drop n)) : id ∈ idsL l := by
  obtain ⟨v, hv, hi⟩ := idsL_mem_inv h
  exact idsL_of_mem (List.mem_of_mem_drop hv) hi

section
variable {st st' : St} {dp : Bool}

theorem match0_ids {v b : AV} {t L o : Nat} (h : (t, (L, o)) ∈ match0 v b) : L ∈ v.ids := by
  unfold match0 at h
  split at h
  · split at h
    · simp at h; obtain ⟨_, rfl, _⟩ := h; simp [AV.ids]
    · cases h
  · split at h
    · simp at h; obtain ⟨_, rfl, _⟩ := h; simp [AV.ids]
    · cases h
  · cases h

theorem matchL_ids : ∀ {vs bs : List AV} {t L o : Nat}, (t, (L, o)) ∈ matchL vs bs -> L ∈ idsL vs
  | v :: vs, b :: bs, t, L, o, h => by
    unfold idsL
    rcases List.mem_append.1 h with h | h
    · exact List.mem_append_left _ (match0_ids h)
    · exact List.mem_append_right _ (matchL_ids h)
  | [], _, _, _, _, h => by simp [matchL] at h
  | _ :: _, [], _, _, _, h => by simp [matchL] at h

theorem match1_ids {v b : AV} {t L o : Nat} (h : (t, (L, o)) ∈ match1 v b) : L ∈ v.ids := by
  unfold match1 at h
  split at h
  · unfold AV.ids; exact matchL_ids h
  · exact match0_ids h

theorem match1L_ids : ∀ {vs bs : List AV} {t L o : Nat}, (t, (L, o)) ∈ match1L vs bs -> L ∈ idsL vs
  | v :: vs, b :: bs, t, L, o, h => by
    unfold idsL
    rcases List.mem_append.1 h with h | h
    · exact List.mem_append_left _ (match1_ids h)
    · exact List.mem_append_right _ (match1L_ids h)
  | [], _, _, _, _, h => by simp [match1L] at h
  | _ :: _, [], _, _, _, h => by simp [match1L] at h

theorem match2_ids {v b : AV} {t L o : Nat} (h : (t, (L, o)) ∈ match2 v b) : L ∈ v.ids := by
  unfold match2 at h
  split at h
  · unfold AV.ids
    rcases List.mem_append.1 h with h | h
    · exact List.mem_append_left _ (match1L_ids h)
    · exact List.mem_append_right _ (match1L_ids h)
  · exact match1_ids h

theorem match2L_ids : ∀ {vs bs : List AV} {t L o : Nat}, (t, (L, o)) ∈ match2L vs bs -> L ∈ idsL vs
  | v :: vs, b :: bs, t, L, o, h => by
    unfold idsL
    rcases List.mem_append.1 h with h | h
    · exact List.mem_append_left _ (match2_ids h)
    · exact List.mem_append_right _ (match2L_ids h)
  | [], _, _, _, _, h => by simp [match2L] at h
  | _ :: _, [], _, _, _, h => by simp [match2L] at h

structure Agr (dp : Bool) (vs : List AV) (st st' : St) : Prop where
  a : ∀ id ∈ idsL vs, lk st'.sto id = lk st.sto id
  b : ∀ id ∈ idsL vs, ∀ i ∈ boxIds st id, lk st'.sto i = lk st.sto i
  c : dp = true -> ∀ id ∈ idsL vs, ∀ i ∈ deepIds st id, lk st'.sto i = lk st.sto i

theorem Agr.sub {vs us : List AV} (h : Agr dp vs st st') (hu : ∀ id ∈ idsL us, id ∈ idsL vs) : Agr dp us st st' :=
  ⟨fun id hi => h.a id (hu id hi), fun id hi => h.b id (hu id hi), fun e id hi => h.c e id (hu id hi)⟩

theorem Agr.of_rd {avs : List AV} (h : ∀ id ∈ rdCall dp st avs, lk st'.sto id = lk st.sto id) : Agr dp avs st st' := by
  refine ⟨fun id hi => h id ?_, fun id hi i hi' => h i ?_, fun e id hi i hi' => h i ?_⟩ <;> unfold rdCall
  · exact List.mem_append_left _ (List.mem_append_left _ hi)
  · exact List.mem_append_left _ (List.mem_append_right _ (List.mem_flatMap.2 ⟨id, hi, hi'⟩))
  · subst e; exact List.mem_append_right _ (List.mem_flatMap.2 ⟨id, hi, hi'⟩)

theorem deepCell_agree {no : Nat -> Bool} {v b : AV} (h : ∀ id ∈ v.ids, lk st'.sto id = lk st.sto id) (k : deepCell st no v b) : deepCell st' no v b := by
  cases v with
  | ref p id off len =>
    cases b <;> simp only [deepCell] at k ⊢
    rw [h id (by simp [AV.ids])]; exact k
  | own s fl rows => cases fl <;> cases b <;> exact k
  | _ => cases b <;> exact k

theorem deepCells_agree {no : Nat -> Bool} : ∀ {vs bs : List AV}, (∀ id ∈ idsL vs, lk st'.sto id = lk st.sto id) -> deepCells st no vs bs -> deepCells st' no vs bs
  | [], [], _, _ => trivial
  | v :: vs, b :: bs, h, ⟨h1, h2⟩ => ⟨deepCell_agree (fun id hi => h id (by unfold idsL; exact List.mem_append_left _ hi)) h1, deepCells_agree (fun id hi => h id (by unfold idsL; exact List.mem_append_right _ hi)) h2⟩
  | [], _ :: _, _, h => h.elim
  | _ :: _, [], _, h => h.elim

theorem deepRows_agree {no : Nat -> Bool} : ∀ {vs bs : List (List AV)}, (∀ r ∈ vs, ∀ id ∈ idsL r, lk st'.sto id = lk st.sto id) -> deepRows st no vs bs -> deepRows st' no vs bs
  | [], [], _, _ => trivial
  | v :: vs, b :: bs, h, ⟨h1, h2⟩ => ⟨deepCells_agree (fun id hi => h v (List.mem_cons_self ..) id hi) h1, deepRows_agree (fun r hr => h r (List.mem_cons_of_mem _ hr)) h2⟩
  | [], _ :: _, _, h => h.elim
  | _ :: _, [], _, h => h.elim

theorem lendCell_agree {no : Nat -> Bool} (hno : no 0 = false -> dp = true) {v b : AV} (h : ∀ id ∈ v.ids, lk st'.sto id = lk st.sto id /\ (dp = true -> ∀ i ∈ deepIds st id, lk st'.sto i = lk st.sto i)) (k : lendCell st no v b) : lendCell st' no v b := by
  cases v with
  | ref p id off len =>
    cases b <;> simp only [lendCell] at k ⊢
    obtain ⟨h1, h2⟩ := h id (by simp [AV.ids])
    rw [h1]
    refine ⟨k.1, ?_⟩
    have k2 := k.2
    split at k2
    · rename_i fl rows hq
      refine ⟨k2.1, ?_⟩
      cases fl with
      | true => exact k2.2
      | false =>
        rcases k2.2 with k3 | ⟨k3, k4⟩
        · exact .inl k3
        · refine .inr ⟨k3, deepRows_agree (fun r hr i hi => h2 (hno k3) i ?_) k4⟩
          unfold deepIds
          rw [hq]
          exact List.mem_flatMap.2 ⟨r, List.mem_of_mem_drop (List.mem_of_mem_take hr), hi⟩
    · exact k2.elim
  | _ => cases b <;> exact k

theorem boxIds_agree {id : Nat} (h : lk st'.sto id = lk st.sto id) : boxIds st' id = boxIds st id := by unfold boxIds; rw [h]
theorem deepIds_agree {id : Nat} (h : lk st'.sto id = lk st.sto id) : deepIds st' id = deepIds st id := by unfold deepIds; rw [h]

theorem argP_agree {no : Nat -> Bool} (hno : no 0 = false -> dp = true) {al : Bool} {v b : AV} (h : Agr dp [v] st st') (k : argP st no al v b) : argP st' no al v b := by
  cases al with
  | true => exact k
  | false => exact lendCell_agree hno (fun id hi => ⟨h.a id (by simpa [idsL] using hi), fun e => h.c e id (by simpa [idsL] using hi)⟩) k

theorem arg0_agree {no : Nat -> Bool} (hno : no 0 = false -> dp = true) {al : Bool} {v b : AV} (h : Agr dp [v] st st') (hb : b.noR0 = true) (k : arg0 st no al v b) : arg0 st' no al v b := by
  cases b with
  | rptr _ => cases hb
  | ptr t row fld =>
    cases v with
    | ptr id row' fld' =>
      simp only [arg0, isBox] at k ⊢
      rw [h.a id (by simp [idsL, AV.ids])]; exact k
    | _ => exact k
  | ref q t off len => cases v <;> exact k
  | agg _ => exact k
  | tup _ => exact k
  | fn _ _ _ => exact k
  | _ => exact argP_agree hno h k

theorem argL_agree {no : Nat -> Bool} (hno : no 0 = false -> dp = true) {al : Bool} : ∀ {vs bs : List AV}, Agr dp vs st st' -> bs.all AV.noR0 = true -> argL st no al vs bs -> argL st' no al vs bs
  | [], [], _, _, _ => trivial
  | v :: vs, b :: bs, h, hb, ⟨h1, h2⟩ => by
    simp only [List.all_cons, Bool.and_eq_true] at hb
    exact ⟨arg0_agree hno (h.sub fun id hi => by simp [idsL] at hi ⊢; exact .inl hi) hb.1 h1, argL_agree hno (h.sub fun id hi => by simp [idsL] at hi ⊢; exact .inr hi) hb.2 h2⟩
  | [], _ :: _, _, _, h => h.elim
  | _ :: _, [], _, _, h => h.elim

theorem arg1_agree {no : Nat -> Bool} (hno : no 0 = false -> dp = true) {al : Bool} {v b : AV} (h : Agr dp [v] st st') (hb : b.noR1 = true) (k : arg1 st no al v b) : arg1 st' no al v b := by
  by_cases hc : ∃ l, b = .agg l
  · obtain ⟨bs, rfl⟩ := hc
    cases v with
    | agg vs => exact argL_agree hno (h.sub fun id hi => by simpa [idsL, AV.ids] using hi) hb k
    | _ => exact k
  · have e1 : b.noR1 = b.noR0 := by cases b <;> first | rfl | exact absurd ⟨_, rfl⟩ hc
    have e2 : ∀ s, arg1 s no al v b = arg0 s no al v b := fun s => by cases b <;> first | rfl | exact absurd ⟨_, rfl⟩ hc
    rw [e2] at k ⊢
    exact arg0_agree hno h (e1 ▸ hb) k

theorem arg1L_agree {no : Nat -> Bool} (hno : no 0 = false -> dp = true) {al : Bool} : ∀ {vs bs : List AV}, Agr dp vs st st' -> bs.all AV.noR1 = true -> arg1L st no al vs bs -> arg1L st' no al vs bs
  | [], [], _, _, _ => trivial
  | v :: vs, b :: bs, h, hb, ⟨h1, h2⟩ => by
    simp only [List.all_cons, Bool.and_eq_true] at hb
    exact ⟨arg1_agree hno (h.sub fun id hi => by simp [idsL] at hi ⊢; exact .inl hi) hb.1 h1, arg1L_agree hno (h.sub fun id hi => by simp [idsL] at hi ⊢; exact .inr hi) hb.2 h2⟩
  | [], _ :: _, _, _, h => h.elim
  | _ :: _, [], _, _, h => h.elim

theorem arg2_agree {no : Nat -> Bool} (hno : no 0 = false -> dp = true) {al : Bool} {v b : AV} (h : Agr dp [v] st st') (hb : b.noR = true) (k : arg2 st no al v b) : arg2 st' no al v b := by
  by_cases hc : ∃ g x y, b = .fn g x y
  · obtain ⟨g, x', y', rfl⟩ := hc
    cases v with
    | fn f x y =>
      simp only [AV.noR, Bool.and_eq_true] at hb
      exact ⟨k.1, arg1L_agree hno (h.sub fun id hi => by simp [idsL, AV.ids]; exact .inl hi) hb.1 k.2.1, arg1L_agree hno (h.sub fun id hi => by simp [idsL, AV.ids]; exact .inr hi) hb.2 k.2.2⟩
    | _ => exact k
  · have e1 : b.noR = b.noR1 := by cases b <;> first | rfl | exact absurd ⟨_, _, _, rfl⟩ hc
    have e2 : ∀ s, arg2 s no al v b = arg1 s no al v b := fun s => by cases b <;> first | rfl | exact absurd ⟨_, _, _, rfl⟩ hc
    rw [e2] at k ⊢
    exact arg1_agree hno h (e1 ▸ hb) k

theorem args_agree {no : Nat -> Bool} (hno : no 0 = false -> dp = true) {al : Bool} : ∀ {vs bs : List AV}, Agr dp vs st st' -> bs.all AV.noR = true -> args st no al vs bs -> args st' no al vs bs
  | [], [], _, _, _ => trivial
  | v :: vs, b :: bs, h, hb, ⟨h1, h2⟩ => by
    simp only [List.all_cons, Bool.and_eq_true] at hb
    exact ⟨arg2_agree hno (h.sub fun id hi => by simp [idsL] at hi ⊢; exact .inl hi) hb.1 h1, args_agree hno (h.sub fun id hi => by simp [idsL] at hi ⊢; exact .inr hi) hb.2 h2⟩
  | [], _ :: _, _, _, h => h.elim
  | _ :: _, [], _, _, h => h.elim

theorem giveCell_agree {al : Bool} {v b : AV} (h : ∀ id ∈ v.ids, lk st'.sto id = lk st.sto id) (k : giveCell st al v b) : giveCell st' al v b := by
  cases b with
  | own s fl rows =>
    cases v with
    | ref p id off len => simp only [giveCell] at k ⊢; rw [h id (by simp [AV.ids])]; exact k
    | _ => exact k
  | _ => exact k

theorem giveCells_agree {al : Bool} : ∀ {vs bs : List AV}, (∀ id ∈ idsL vs, lk st'.sto id = lk st.sto id) -> giveCells st al vs bs -> giveCells st' al vs bs
  | _, [], _, _ => by unfold giveCells; trivial
  | v :: vs, b :: bs, h, ⟨h1, h2⟩ => ⟨giveCell_agree (fun id hi => h id (by unfold idsL; exact List.mem_append_left _ hi)) h1, giveCells_agree (fun id hi => h id (by unfold idsL; exact List.mem_append_right _ hi)) h2⟩
  | [], _ :: _, _, h => h.elim

theorem giveObjs_agree {al : Bool} {ρ : Ren} (h : ∀ t L o, lk ρ t = some (L, o) -> lk st'.sto L = lk st.sto L /\ ∀ i ∈ boxIds st L, lk st'.sto i = lk st.sto i) : ∀ {objs : List Obj} {k : Nat}, giveObjs st al ρ k objs -> giveObjs st' al ρ k objs
  | [], _, _ => trivial
  | .box cells :: r, k, ⟨h1, h2⟩ => by
    refine ⟨?_, giveObjs_agree h h2⟩
    split at h1
    · rename_i id fld hq
      obtain ⟨g1, g2⟩ := h _ _ _ hq
      simp only [hq, g1]
      split at h1
      · rename_i cs hq2
        exact ⟨h1.1, giveCells_agree (fun i hi => g2 i (by unfold boxIds; rw [hq2]; exact idsL_drop hi)) h1.2⟩
      · exact h1.elim
    · exact h1.elim
  | .arr s fl rows :: r, k, ⟨h1, h2⟩ => by
    refine ⟨?_, giveObjs_agree h h2⟩
    split at h1
    · rename_i L off hq
      simp only [hq, (h _ _ _ hq).1]
      exact h1
    · exact h1

theorem matchO_agree {ρ : Ren} (h : ∀ t L o, lk ρ t = some (L, o) -> lk st'.sto L = lk st.sto L) : ∀ (objs : List Obj) (k : Nat), matchO st' ρ k objs = matchO st ρ k objs
  | [], _ => rfl
  | .box cells :: r, k => by
    simp only [matchO]
    rw [matchO_agree h r (k + 1)]
    cases hq : lk ρ (gl k) with
    | none => rfl
    | some p => obtain ⟨L, o⟩ := p; simp only [h _ _ _ hq]
  | .arr _ _ _ :: r, k => by simp only [matchO]; exact matchO_agree h r (k + 1)

theorem backSto_agree {ln : List (List AV) -> Nat} {ρ : Ren} (h : ∀ t L o, lk ρ t = some (L, o) -> lk st'.sto L = lk st.sto L) (lab : Nat) : ∀ (os : List (Option Obj)) (k : Nat), backSto ln st' ρ lab k os = backSto ln st ρ lab k os
  | [], _ => rfl
  | none :: r, k => backSto_agree h lab r (k + 1)
  | some (.box cells) :: r, k => by
    simp only [backSto]
    rw [backSto_agree h lab r (k + 1)]
    cases hq : lk ρ (gl k) with
    | none => rfl
    | some p => obtain ⟨L, o⟩ := p; simp only [h _ _ _ hq]
  | some (.arr _ _ _) :: r, k => by simp only [backSto]; rw [backSto_agree h lab r (k + 1)]

theorem sigO_agree {ρ : Ren} (lab : Nat) : ∀ (os : List (Option Obj)) (k : Nat), sigO st' ρ lab k os = sigO st ρ lab k os
  | [], _ => rfl
  | none :: r, k => sigO_agree lab r (k + 1)
  | some (.box cells) :: r, k => by simp only [sigO]; rw [sigO_agree lab r (k + 1)]
  | some (.arr _ _ _) :: r, k => by simp only [sigO]; rw [sigO_agree lab r (k + 1)]

theorem rho_agree {avs bs : List AV} (h : Agr dp avs st st') : ∀ t L o, lk (rhoA avs bs) t = some (L, o) -> lk st'.sto L = lk st.sto L /\ ∀ i ∈ boxIds st L, lk st'.sto i = lk st.sto i := fun t L o hq => by
  have := match2L_ids (lk_mem hq)
  exact ⟨h.a L this, h.b L this⟩

theorem rhoG_agree {avs bs : List AV} {objs : List Obj} (h : Agr dp avs st st') : rhoG st' avs bs objs = rhoG st avs bs objs := by
  unfold rhoG rhoB
  rw [matchO_agree (fun t L o hq => (rho_agree h t L o hq).1)]

theorem gives_agree {al : Bool} {avs bs : List AV} {objs : List Obj} (h : Agr dp avs st st') (hb : bs.all AV.noR = true) (k : Gives st al dp avs bs objs) : Gives st' al dp avs bs objs := by
  obtain ⟨h1, h2, h3⟩ := k
  have hr := rhoG_agree (bs := bs) (objs := objs) h
  refine ⟨by rw [hr]; exact h1, ?_, giveObjs_agree (rho_agree h) h3⟩
  rw [hr]
  refine args_agree (fun hn => ?_) h hb h2
  unfold given at hn
  cases dp with
  | true => rfl
  | false => simp [nbeq_refl] at hn

theorem backChk_agree {avs bs : List AV} {lab : Nat} {objs : List Obj} {os : List (Option Obj)} {v : AV} : backChk st' (rhoA avs bs) lab objs os v = backChk st (rhoA avs bs) lab objs os v := by
  unfold backChk sigA
  rw [sigO_agree (st := st) (st' := st')]

theorem flatMap_agree {f g : Nat -> List Nat} {l : List Nat} (h : ∀ x ∈ l, f x = g x) : l.flatMap f = l.flatMap g := by
  induction l with
  | nil => rfl
  | cons x r ih => simp only [List.flatMap_cons]; rw [h x (List.mem_cons_self ..), ih fun y hy => h y (List.mem_cons_of_mem _ hy)]

theorem backD_agree {ln : List (List AV) -> Nat} {avs bs : List AV} {lab : Nat} {objs : List Obj} {os : List (Option Obj)} {v : AV} (h : Agr dp avs st st') : backD dp ln st' avs bs objs lab os v = backD dp ln st avs bs objs lab os v := by
  have hn : ∀ ln, newSto ln st' (rhoA avs bs) lab os v = newSto ln st (rhoA avs bs) lab os v := fun ln => by
    unfold newSto
    rw [backSto_agree (fun t L o hq => (rho_agree h t L o hq).1)]
  unfold backD backUsed rdCall
  rw [hn, hn, rhoG_agree h]
  congr 1
  rw [flatMap_agree fun x hx => boxIds_agree (h.a x hx)]
  cases dp with
  | true => simp only; rw [flatMap_agree fun x hx => deepIds_agree (h.a x hx)]
  | false => rfl

end

section
variable {P : Program} {T : Nat -> Option TI} {A : Sy} {lab : Nat} {o : Oper} {st : St} {K : AV -> Dl -> Prop}

def Fun (A : Sy) (P : Program) (T : Nat -> Option TI) (lab : Nat) (o : Oper) (st : St) (v : AV) (d : Dl) : Prop :=
  ∀ (st' : St) (K' : AV -> Dl -> Prop), Agree (seen o.op) (rdOf st o.op d) lab st st' -> K' v d -> opVC A true P T lab o st' K'

theorem map_ev {st st' : St} {l : List Operand} (h : ∀ x ∈ l, st'.ev x = st.ev x) : l.map st'.ev = l.map st.ev := List.map_congr_left h

theorem opt_ev {st st' : St} {x : Option Operand} (h : ∀ y ∈ x.toList, st'.ev y = st.ev y) : x.map st'.ev = x.map st.ev := by
  cases x with
  | none => rfl
  | some y => simp [h y (by simp)]

theorem fillA_agree {st st' : St} {place : Nat -> Option (Nat × Nat)} : ∀ (parts : List (Nat × Operand)) (cells : List AV), (∀ p ∈ parts, st'.ev p.2 = st.ev p.2) -> fillA place st'.ev cells parts = fillA place st.ev cells parts
  | [], _, _ => rfl
  | (i, x) :: rest, cells, h => by
    have hx : st'.ev x = st.ev x := h (i, x) (by simp)
    have ih : ∀ c, fillA place st'.ev c rest = fillA place st.ev c rest := fun c => fillA_agree rest c fun p hp => h p (List.mem_cons_of_mem _ hp)
    unfold fillA
    rw [hx]
    cases place i with
    | none => rfl
    | some q =>
      cases (st.ev x).flat with
      | none => rfl
      | some cs => simp only [ih]

theorem elem_agree {st st' : St} {size : Nat} {x : AV} {n : Int} {K : AV -> Prop} (h : ∀ id ∈ x.ids, lk st'.sto id = lk st.sto id) (hk : st.elemVC size x n K) : ∃ v, K v /\ ∀ K' : AV -> Prop, K' v -> st'.elemVC size x n K' := by
  unfold St.elemVC at hk
  split at hk
  · split at hk
    · rename_i p id off len s fl rows hq
      obtain ⟨⟨h1, h2, h3, h4⟩⟩ := hk
      refine ⟨_, h4, fun K' hk' => ?_⟩
      unfold St.elemVC
      simp only [h _ (List.mem_singleton.2 rfl), hq]
      exact ⟨⟨h1, h2, h3, hk'⟩⟩
    · exact hk.elim
  · obtain ⟨h0, r, h1, h2, h3⟩ := hk.out
    exact ⟨_, h3, fun K' hk' => ⟨h0, r, h1, h2, hk'⟩⟩
  · exact hk.elim

theorem cut_agree {st st' : St} {size : Nat} {x : AV} {lo hi : Option AV} {K : AV -> Prop} (h : ∀ id ∈ x.ids, lk st'.sto id = lk st.sto id) (hk : st.cutVC size x lo hi K) : ∃ v, K v /\ ∀ K' : AV -> Prop, K' v -> st'.cutVC size x lo hi K' := by
  unfold St.cutVC at hk
  split at hk
  · split at hk
    · rename_i p id off len s fl rows l h1 h2
      split at hk
      · obtain ⟨⟨g1, g2, g3, g4⟩⟩ := hk
        refine ⟨_, g4, fun K' hk' => ?_⟩
        unfold St.cutVC
        simp only [h _ (List.mem_singleton.2 rfl), h1, h2]
        exact ⟨⟨g1, g2, g3, hk'⟩⟩
      · obtain ⟨⟨g1, g2, g3, g4⟩⟩ := hk
        refine ⟨_, g4, fun K' hk' => ?_⟩
        unfold St.cutVC
        simp only [h _ (List.mem_singleton.2 rfl), h1, h2]
        exact ⟨⟨g1, g2, g3, hk'⟩⟩
      · exact hk.elim
    · exact hk.elim
  · split at hk
    · rename_i h1
      split at hk
      · obtain ⟨⟨g1, g2, g4⟩⟩ := hk
        refine ⟨_, g4, fun K' hk' => ?_⟩
        unfold St.cutVC
        simp only [h1]
        exact ⟨⟨g1, g2, hk'⟩⟩
      · obtain ⟨⟨g1, g2, g4⟩⟩ := hk
        refine ⟨_, g4, fun K' hk' => ?_⟩
        unfold St.cutVC
        simp only [h1]
        exact ⟨g1, g2, hk'⟩
      · exact hk.elim
    · exact hk.elim
  · split at hk
    · rename_i h1 h2
      refine ⟨_, hk.2, fun K' hk' => ?_⟩
      unfold St.cutVC
      simp only [h1, h2]
      exact ⟨hk.1, hk'⟩
    · exact hk.elim
  · exact hk.elim

theorem int_fun {op : BinOp} {k : IntKind} {m n : Int} {K : AV -> Prop} (hk : intVC true op k m n K) : ∃ v, K v /\ ∀ K' : AV -> Prop, K' v -> intVC true op k m n K' := by
  cases op <;> first
    | exact hk.elim
    | exact ⟨_, hk.out (.inl rfl), fun K' hk' => ⟨fun _ => hk'⟩⟩
    | exact ⟨_, (hk.out (.inl rfl)).2, fun K' hk' => ⟨fun _ => ⟨(hk.out (.inl rfl)).1, hk'⟩⟩⟩
    | exact ⟨_, hk.out, fun K' hk' => ⟨hk'⟩⟩

theorem shift_fun {op : BinOp} {k : IntKind} {m n : Int} {K : AV -> Prop} (hk : shiftVC true op k m n K) : ∃ v, K v /\ ∀ K' : AV -> Prop, K' v -> shiftVC true op k m n K' := by
  cases op <;> first
    | exact hk.elim
    | exact ⟨_, (hk.out (.inl rfl)).2, fun K' hk' => ⟨fun _ => ⟨(hk.out (.inl rfl)).1, hk'⟩⟩⟩

theorem len_agree {st st' : St} {t : Nat} {v : AV} {K : AV -> Prop} (h : ∀ id ∈ v.ids, lk st'.sto id = lk st.sto id) (hk : lenVC true T st t v K) : ∃ u, K u /\ ∀ K' : AV -> Prop, K' u -> lenVC true T st' t v K' := by
  unfold lenVC at hk
  split at hk
  · rename_i ht
    split at hk
    · exact ⟨_, hk, fun K' hk' => by simp only [lenVC, ht]; exact hk'⟩
    · exact ⟨_, hk, fun K' hk' => by simp only [lenVC, ht]; exact hk'⟩
    · have h1 := hk.out.1 rfl
      exact ⟨_, hk.out.2 h1, fun K' hk' => by simp only [lenVC, ht]; exact ⟨fun _ => h1, fun _ => hk'⟩⟩
    · split at hk
      · rename_i hq
        have h1 := hk.out.1 rfl
        exact ⟨_, hk.out.2 h1, fun K' hk' => by simp only [lenVC, ht, h _ (List.mem_singleton.2 rfl), hq]; exact ⟨fun _ => h1, fun _ => hk'⟩⟩
      · exact hk.elim
    · exact hk.elim
  · exact hk.elim

theorem src_agree {st st' : St} {v : AV} {K : SK -> List (List AV) -> Prop} (h : ∀ id ∈ v.ids, lk st'.sto id = lk st.sto id) (hk : st.srcVC v K) : ∃ kd ys, K kd ys /\ ∀ K' : SK -> List (List AV) -> Prop, K' kd ys -> st'.srcVC v K' := by
  unfold St.srcVC at hk
  split at hk
  · exact ⟨_, _, hk, fun K' hk' => hk'⟩
  · exact ⟨_, _, hk, fun K' hk' => hk'⟩
  · exact ⟨_, _, hk, fun K' hk' => hk'⟩
  · split at hk
    · rename_i p id off len s rows hq
      obtain ⟨⟨h1, h2⟩⟩ := hk
      refine ⟨_, _, h2, fun K' hk' => ?_⟩
      unfold St.srcVC
      simp only [h _ (List.mem_singleton.2 rfl), hq]
      exact ⟨⟨h1, hk'⟩⟩
    · exact hk.elim
  · exact hk.elim

theorem app_fun {st : St} {j : TI} {x y : AV} (hk : st.appVC j lab x y K) : ∃ v d, K v d /\ ∀ st' : St, (∀ id ∈ x.ids, lk st'.sto id = lk st.sto id) -> (∀ id ∈ y.ids, lk st'.sto id = lk st.sto id) -> ∀ K' : AV -> Dl -> Prop, K' v d -> st'.appVC j lab x y K' := by
  unfold St.appVC at hk
  obtain ⟨kd, ys, hk, hf⟩ := src_agree (st' := st) (fun _ _ => rfl) hk
  have hs : ∀ st' : St, (∀ id ∈ y.ids, lk st'.sto id = lk st.sto id) -> ∀ K' : SK -> List (List AV) -> Prop, K' kd ys -> st'.srcVC y K' := fun st' h K' hk' => by
    obtain ⟨kd', ys', e, h2⟩ := src_agree (st' := st') (K := fun kd' ys' => kd' = kd /\ ys' = ys) h (hf _ ⟨rfl, rfl⟩)
    obtain ⟨e1, e2⟩ := e
    subst e1 e2
    exact h2 K' hk'
  split at hk
  · obtain ⟨⟨h1, h2, h3, h4⟩⟩ := hk
    exact ⟨_, _, h4, fun st' _ hy K' hk' => hs st' hy _ ⟨⟨h1, h2, h3, hk'⟩⟩⟩
  · obtain ⟨⟨h1, h2, h3, h4⟩⟩ := hk
    exact ⟨_, _, h4, fun st' _ hy K' hk' => hs st' hy _ ⟨⟨h1, h2, h3, hk'⟩⟩⟩
  · rename_i p id off len
    split at hk
    · rename_i s fl rows hq
      obtain ⟨⟨h1, h2, h3, h4⟩⟩ := hk
      rcases h4 with ⟨g1, g2, g3⟩ | ⟨g1, g2, g3⟩
      · refine ⟨_, _, g3, fun st' hx hy K' hk' => hs st' hy _ ?_⟩
        simp only [hx _ (List.mem_singleton.2 rfl), hq]
        exact ⟨⟨h1, h2, h3, .inl ⟨g1, g2, hk'⟩⟩⟩
      · refine ⟨_, _, g3, fun st' hx hy K' hk' => hs st' hy _ ?_⟩
        simp only [hx _ (List.mem_singleton.2 rfl), hq]
        exact ⟨⟨h1, h2, h3, .inr ⟨g1, g2, hk'⟩⟩⟩
    · exact hk.elim
  · exact hk.elim

theorem store_agree {st st' : St} {t : Nat} {p v : AV} (h : ∀ id ∈ p.ids, lk st'.sto id = lk st.sto id) (hk : storeVC T st t p v K) : ∃ u d, K u d /\ ∀ K' : AV -> Dl -> Prop, K' u d -> storeVC T st' t p v K' := by
  unfold storeVC at hk
  split at hk
  · rename_i i vs id row fld h1 h2
    have hid := h id (List.mem_singleton.2 rfl)
    split at hk
    · rename_i cells hq
      cases hc : (nbeq row 0 && nbeq vs.length i.size && nble (fld + vs.length) cells.length) with
      | false => rw [hc] at hk; exact hk.elim
      | true =>
        rw [hc] at hk
        refine ⟨_, _, hk, fun K' hk' => ?_⟩
        unfold storeVC
        simp only [h1, h2, hid, hq, hc]
        exact hk'
    · rename_i s fl rows hq
      split at hk
      · rename_i us hu
        obtain ⟨r, hr, hl, hle, hk⟩ := hk.out
        refine ⟨_, _, hk, fun K' hk' => ?_⟩
        unfold storeVC
        simp only [h1, h2, hid, hq, hu]
        exact ⟨r, hr, hl, hle, hk'⟩
      · exact hk.elim
    · exact hk.elim
  · exact hk.elim

theorem load_agree {st st' : St} {t : Nat} {p : AV} {K : AV -> Prop} (h : ∀ id ∈ p.ids, lk st'.sto id = lk st.sto id) (hk : loadVC T st t p K) : ∃ u, K u /\ ∀ K' : AV -> Prop, K' u -> loadVC T st' t p K' := by
  unfold loadVC at hk
  split at hk
  · rename_i i hi
    split at hk
    · rename_i hkn
      split at hk
      · rename_i id row fld
        have hid := h id (List.mem_singleton.2 rfl)
        split at hk
        · rename_i cells hq
          split at hk
          · rename_i v hrow hl
            exact ⟨_, hk, fun K' hk' => by simp only [loadVC, hi, hkn, hid, hq, hrow, hl]; exact hk'⟩
          · exact hk.elim
        · rename_i s fl rows hq
          obtain ⟨r, hr, hk⟩ := hk.out
          split at hk
          · rename_i v hl
            exact ⟨_, hk, fun K' hk' => by simp only [loadVC, hi, hkn, hid, hq]; exact ⟨r, hr, by simp only [hl]; exact hk'⟩⟩
          · exact hk.elim
        · exact hk.elim
      · rename_i cells
        split at hk
        · rename_i v hl
          exact ⟨_, hk, fun K' hk' => by simp only [loadVC, hi, hkn, hl]; exact hk'⟩
        · exact hk.elim
      · exact hk.elim
    · exact hk.elim
  · exact hk.elim

end

end Go.Proofs.YtihfpbhalnedcaaGreat.AM

namespace Go.Proofs.YtihfpbhalnedcaaGreat.AM
open Go Go.RowKit

variable {P : Program} {T : Nat -> Option TI} {A : Sy} {lab : Nat} {o : Oper} {st : St} {K : AV -> Dl -> Prop}

theorem call_agree {c : Operand} {args : Array Operand} {tys : Array TypeId} (ho : o.op = .call { callee := .value c, args := args, argTypes := tys })
    (hk : opVC A true P T lab o st K) : ∃ v d, K v d /\ Fun A P T lab o st v d := by
  simp only [opVC, ho] at hk
  split at hk
  · rename_i f first caps hc hfr
    obtain ⟨al, dp, bs, objs, R, h1, h2, h3, h4⟩ := hk.out
    obtain ⟨hb, v₀, os₀, hR, huniq⟩ := h3 rfl
    obtain ⟨g1, g2⟩ := h4 v₀ os₀ hR
    refine ⟨_, _, g2, fun st' K' ha hk' => ?_⟩
    have hcc := ha.ev c (by simp [ho, seen])
    have hargs : args.toList.map st'.ev = args.toList.map st.ev := map_ev fun x hx => ha.ev x (by simp only [ho, seen]; exact List.mem_cons_of_mem _ hx)
    have hagr : Agr dp (first ++ args.toList.map st.ev ++ caps) st st' := .of_rd fun id hi => ha.sto id (by
      simp only [ho, rdOf, backD]; exact hi)
    simp only [opVC, ho]
    rw [hargs, hcc, hc, ha.newL hfr]
    refine ⟨al, dp, bs, objs, R, h1, gives_agree hagr hb h2, fun _ => ⟨hb, v₀, os₀, hR, huniq⟩, fun v os hvo => ?_⟩
    obtain ⟨rfl, rfl⟩ := huniq v os hvo
    rw [backChk_agree (st := st), backD_agree hagr]
    exact ⟨g1, hk'⟩
  · exact hk.elim

theorem opVC_fun (hk : opVC A true P T lab o st K) : ∃ v d, K v d /\ Fun A P T lab o st v d := by
  have hk0 := hk
  unfold opVC at hk
  split at hk
  case h_1 x ho =>
    refine ⟨_, _, hk, fun st' K' ha hk' => ?_⟩
    simp only [opVC, ho]
    rw [ha.ev x (by simp [ho, seen])]; exact hk'
  case h_2 x ho =>
    refine ⟨_, _, hk, fun st' K' ha hk' => ?_⟩
    simp only [opVC, ho]
    rw [ha.ev x (by simp [ho, seen])]; exact hk'
  case h_3 c x y ho =>
    split at hk
    · rename_i b hc
      cases b <;>
      · refine ⟨_, _, hk, fun st' K' ha hk' => ?_⟩
        have h1 := ha.ev c (by simp [ho, seen])
        have h2 := ha.ev x (by simp [ho, seen])
        have h3 := ha.ev y (by simp [ho, seen])
        simp only [opVC, ho, h1, hc, h2, h3]; exact hk'
    · exact hk.elim
  case h_4 op t x ho =>
    split at hk
    · rename_i hx
      refine ⟨_, _, hk, fun st' K' ha hk' => ?_⟩
      have h1 := ha.ev x (by simp [ho, seen])
      simp only [opVC, ho, h1, hx]; exact hk'
    · rename_i hx
      refine ⟨_, _, hk.out, fun st' K' ha hk' => ?_⟩
      have h1 := ha.ev x (by simp [ho, seen])
      simp only [opVC, ho, h1, hx]; exact ⟨hk'⟩
    · exact hk.elim
  case h_5 op t x y u ho =>
    have ev : ∀ st', Agree (seen o.op) (rdOf st o.op .no) lab st st' -> st'.ev x = st.ev x /\ st'.ev y = st.ev y := fun st' ha => ⟨ha.ev x (by simp [ho, seen]), ha.ev y (by simp [ho, seen])⟩
    have rd : ∀ d, rdOf st o.op d = rdOf st o.op .no := fun d => by simp [ho, rdOf]
    split at hk
    · rename_i k m k' n hx hy
      split at hk
      · obtain ⟨v, hv, hf⟩ := shift_fun hk
        refine ⟨v, _, hv, fun st' K' ha hk' => ?_⟩
        obtain ⟨h1, h2⟩ := ev st' (rd _ ▸ ha)
        simp only [opVC, ho, h1, h2, hx, hy]
        exact hf (fun v => K' v .no) hk'
      · obtain ⟨v, hv, hf⟩ := shift_fun hk
        refine ⟨v, _, hv, fun st' K' ha hk' => ?_⟩
        obtain ⟨h1, h2⟩ := ev st' (rd _ ▸ ha)
        simp only [opVC, ho, h1, h2, hx, hy]
        exact hf (fun v => K' v .no) hk'
      · rename_i op' hn1 hn2
        by_cases hkk : k = k'
        · subst hkk
          rw [show decide (k = k) = true by simp] at hk
          obtain ⟨v, hv, hf⟩ := int_fun hk
          refine ⟨v, _, hv, fun st' K' ha hk' => ?_⟩
          obtain ⟨h1, h2⟩ := ev st' (rd _ ▸ ha)
          have hfin := hf (fun v => K' v .no) hk'
          simp only [opVC, ho, h1, h2, hx, hy]
          cases op <;> first | exact absurd rfl hn1 | exact absurd rfl hn2 | exact hfin
        · rw [show decide (k = k') = false by simp [hkk]] at hk
          exact hk.elim
    · rename_i m n hx hy
      split at hk
      · rename_i ht
        cases n <;>
        · refine ⟨_, _, hk, fun st' K' ha hk' => ?_⟩
          obtain ⟨h1, h2⟩ := ev st' (rd _ ▸ ha)
          simp only [opVC, ho, h1, h2, hx, hy, ht]; exact hk'
      · rename_i ht
        cases n <;>
        · refine ⟨_, _, hk, fun st' K' ha hk' => ?_⟩
          obtain ⟨h1, h2⟩ := ev st' (rd _ ▸ ha)
          simp only [opVC, ho, h1, h2, hx, hy, ht]; exact hk'
      · exact hk.elim
    · rename_i us vs hx hy
      split at hk
      · rename_i ht
        obtain ⟨hfit, hk⟩ := hk
        split at hk
        · rename_i hp
          obtain ⟨b, hb⟩ : ∃ b : Bool, b = true ↔ us = vs := by
            by_cases he : us = vs
            · exact ⟨true, by simp [he]⟩
            · exact ⟨false, by simp [he]⟩
          have hu : ∀ b' : Bool, (b' = true ↔ us = vs) -> b' = b := fun b' hb' => by
            have : b' = true ↔ b = true := hb'.trans hb.symm
            cases b <;> cases b' <;> simp_all
          split at hk
          · refine ⟨_, _, hk.out b hb, fun st' K' ha hk' => ?_⟩
            obtain ⟨h1, h2⟩ := ev st' (rd _ ▸ ha)
            simp only [opVC, ho, h1, h2, hx, hy, ht, hp]
            exact ⟨hfit, ⟨fun b' hb' => by rw [hu b' hb']; exact hk'⟩⟩
          · refine ⟨_, _, hk.out b hb, fun st' K' ha hk' => ?_⟩
            obtain ⟨h1, h2⟩ := ev st' (rd _ ▸ ha)
            simp only [opVC, ho, h1, h2, hx, hy, ht, hp]
            exact ⟨hfit, ⟨fun b' hb' => by rw [hu b' hb']; exact hk'⟩⟩
          · exact hk.elim
        · exact hk.elim
      · exact hk.elim
    · split at hk <;> exact hk.elim
    · exact hk.elim
  case h_6 x i ho =>
    split at hk
    · rename_i vs hx
      split at hk
      · rename_i v hv
        refine ⟨_, _, hk, fun st' K' ha hk' => ?_⟩
        have h1 := ha.ev x (by simp [ho, seen])
        simp only [opVC, ho, h1, hx, hv]; exact hk'
      · exact hk.elim
    · exact hk.elim
  case h_7 s d x ho =>
    split at hk
    · rename_i h2 h3 hx
      split at hk
      · rename_i hkk
        refine ⟨_, _, hk, fun st' K' ha hk' => ?_⟩
        have h1 := ha.ev x (by simp [ho, seen])
        simp only [opVC, ho, h1, hx, h2, h3, hkk]; exact hk'
      · rename_i hkk
        refine ⟨_, _, hk.out, fun st' K' ha hk' => ?_⟩
        have h1 := ha.ev x (by simp [ho, seen])
        simp only [opVC, ho, h1, hx, h2, h3, hkk]; exact ⟨hk'⟩
    · exact hk.elim
  case h_8 f first caps ho =>
    refine ⟨_, _, hk, fun st' K' ha hk' => ?_⟩
    simp only [opVC, ho]
    rw [map_ev (st := st) fun x hx => ha.ev x (by simp only [ho, seen]; exact List.mem_append_left _ hx), map_ev (st := st) fun x hx => ha.ev x (by simp only [ho, seen]; exact List.mem_append_right _ hx)]
    exact hk'
  case h_9 t ho =>
    split at hk
    · rename_i ht hu
      refine ⟨_, _, hk, fun st' K' ha hk' => ?_⟩
      simp only [opVC, ho, ht, ha.new hu]; exact hk'
    · exact hk.elim
  case h_10 t x ho =>
    split at hk
    · rename_i ht hu
      refine ⟨_, _, hk, fun st' K' ha hk' => ?_⟩
      have h1 := ha.ev x (by simp [ho, seen])
      simp only [opVC, ho, h1, ht, ha.new hu]; exact hk'
    · exact hk.elim
  case h_11 t parts ho =>
    split at hk
    · rename_i ht
      split at hk
      · rename_i h1 h2
        refine ⟨_, _, hk, fun st' K' ha hk' => ?_⟩
        simp only [opVC, ho, ht, h1]
        rw [fillA_agree (st := st) parts.toList _ fun p hp => ha.ev p.2 (by simp only [ho, seen]; exact List.mem_map_of_mem hp), h2]
        exact hk'
      · exact hk.elim
    · exact hk.elim
  case h_12 t p ho =>
    obtain ⟨v, hv, hf⟩ := load_agree (st' := st) (fun _ _ => rfl) hk
    refine ⟨v, _, hv, fun st' K' ha hk' => ?_⟩
    have hp := ha.ev p (by simp [ho, seen])
    simp only [opVC, ho, hp]
    obtain ⟨v', e, h2'⟩ := load_agree (st' := st') (K := fun v' => v' = v) (fun id hi => ha.sto id (by simp [ho, rdOf, seen, idsL, hi])) (hf _ rfl)
    subst e
    exact h2' (fun v => K' v .no) hk'
  case h_13 t p x ho =>
    obtain ⟨v, d, hv, hf⟩ := store_agree (st' := st) (fun _ _ => rfl) hk
    refine ⟨v, d, hv, fun st' K' ha hk' => ?_⟩
    have h1 := ha.ev p (by simp [ho, seen])
    have h2 := ha.ev x (by simp [ho, seen])
    simp only [opVC, ho, h1, h2]
    obtain ⟨v', d', e, h3⟩ := store_agree (st' := st') (K := fun v' d' => v' = v /\ d' = d) (fun id hi => ha.sto id (by simp [ho, rdOf, seen, idsL, hi])) (hf _ ⟨rfl, rfl⟩)
    obtain ⟨rfl, rfl⟩ := e
    exact h3 K' hk'
  case h_14 s p f ho =>
    split at hk
    · rename_i h1
      split at hk
      · rename_i h2
        split at hk
        · rename_i h3 h4
          split at hk
          · rename_i h5
            refine ⟨_, _, hk, fun st' K' ha hk' => ?_⟩
            have hp := ha.ev p (by simp [ho, seen])
            simp only [opVC, ho, hp, h1, h2, h3, h4, h5]; exact hk'
          · exact hk.elim
        · exact hk.elim
      · exact hk.elim
    · exact hk.elim
  case h_15 t x f ho =>
    split at hk
    · rename_i h1 h2
      split at hk
      · rename_i h3
        split at hk
        · rename_i h4
          split at hk
          · rename_i h5 h6
            refine ⟨_, _, hk.2, fun st' K' ha hk' => ?_⟩
            have hp := ha.ev x (by simp [ho, seen])
            simp only [opVC, ho, hp, h1, h2, h3, h4, h5, h6]; exact ⟨hk.1, hk'⟩
          · rename_i h5 h6
            split at hk
            · rename_i h7
              refine ⟨_, _, hk, fun st' K' ha hk' => ?_⟩
              have hp := ha.ev x (by simp [ho, seen])
              simp only [opVC, ho, hp, h1, h2, h3, h4, h5, h6, h7]; exact hk'
            · exact hk.elim
          · exact hk.elim
        · exact hk.elim
      · exact hk.elim
    · exact hk.elim
  case h_16 t x y ho =>
    split at hk
    · rename_i h1
      split at hk
      · rename_i h2 h3
        have this : ∀ st', Agree (seen o.op) (rdOf st o.op .no) lab st st' -> ∀ id ∈ (st.ev x).ids, lk st'.sto id = lk st.sto id := fun st' ha id hi => ha.sto id (by simp [ho, rdOf, seen, idsL, hi])
        obtain ⟨v, hv, hf⟩ := elem_agree (st' := st) (fun _ _ => rfl) hk
        refine ⟨v, _, hv, fun st' K' ha hk' => ?_⟩
        have hx := ha.ev x (by simp [ho, seen])
        have hy := ha.ev y (by simp [ho, seen])
        simp only [opVC, ho, hx, hy, h1, h2, h3]
        obtain ⟨v', e, h2'⟩ := elem_agree (st' := st') (K := fun v' => v' = v) (this st' ha) (hf _ rfl)
        subst e
        exact h2' (fun v => K' v .no) hk'
      · exact hk.elim
    · exact hk.elim
  case h_17 t x lo hi ho =>
    split at hk
    · rename_i h1
      split at hk
      · rename_i h2
        split at hk
        · rename_i h3
          refine ⟨_, _, hk, fun st' K' ha hk' => ?_⟩
          have hx := ha.ev x (by simp [ho, seen])
          simp only [opVC, ho, hx, h1, h2, h3]; exact hk'
        · rename_i lo hi _ _ _ hno
          have this : ∀ st', Agree (seen o.op) (rdOf st o.op .no) lab st st' -> ∀ id ∈ (st.ev x).ids, lk st'.sto id = lk st.sto id := fun st' ha id hi => ha.sto id (by simp [ho, rdOf, seen, idsL, hi])
          obtain ⟨v, hv, hf⟩ := cut_agree (st' := st) (fun _ _ => rfl) hk
          refine ⟨v, _, hv, fun st' K' ha hk' => ?_⟩
          have hx := ha.ev x (by simp [ho, seen])
          have hlo : lo.map st'.ev = lo.map st.ev := opt_ev fun y hy => ha.ev y (by simp only [ho, seen]; exact List.mem_cons_of_mem _ (List.mem_append_left _ hy))
          have hhi : hi.map st'.ev = hi.map st.ev := opt_ev fun y hy => ha.ev y (by simp only [ho, seen]; exact List.mem_cons_of_mem _ (List.mem_append_right _ hy))
          obtain ⟨v', e, h2'⟩ := cut_agree (st' := st') (K := fun v' => v' = v) (this st' ha) (hf _ rfl)
          subst e
          have hfin := h2' (fun v => K' v .no) hk'
          simp only [opVC, ho, hx, h1, h2, hlo, hhi]
          exact hfin
      · exact hk.elim
    · exact hk.elim
  case h_18 t x y ho =>
    split at hk
    · rename_i hti
      split at hk
      · rename_i hj hx hy hu
        split at hk
        · rename_i hpos hz
          obtain ⟨⟨g1, g2, g3, g4⟩⟩ := hk
          refine ⟨_, _, g4, fun st' K' ha hk' => ?_⟩
          have h1 := ha.ev x (by simp [ho, seen])
          have h2 := ha.ev y (by simp [ho, seen])
          simp only [opVC, ho, h1, h2, hti, hj, hx, hy, ha.new hu, hpos, hz]
          exact ⟨⟨g1, g2, g3, hk'⟩⟩
        · exact hk.elim
      · exact hk.elim
    · exact hk.elim
  case h_19 t n parts ho =>
    split at hk
    · rename_i hti
      split at hk
      · rename_i hj hu
        split at hk
        · rename_i hpos hp
          refine ⟨_, _, hk, fun st' K' ha hk' => ?_⟩
          simp only [opVC, ho, hti, hj, hp, ha.new hu, hpos]
          exact hk'
        · rename_i hpos
          split at hk
          · rename_i hsm hf
            split at hk
            · rename_i hrows
              refine ⟨_, _, hk, fun st' K' ha hk' => ?_⟩
              simp only [opVC, ho, hti, hj, ha.new hu, hpos, hsm]
              rw [fillA_agree (st := st) parts.toList _ fun p hp => ha.ev p.2 (by simp only [ho, seen]; exact List.mem_map_of_mem hp), hf]
              simp only [hrows]
              exact hk'
            · exact hk.elim
          · exact hk.elim
        · exact hk.elim
      · exact hk.elim
    · exact hk.elim
  case h_20 x ho =>
    split at hk
    · rename_i hx
      refine ⟨_, _, hk, fun st' K' ha hk' => ?_⟩
      have h1 := ha.ev x (by simp [ho, seen])
      simp only [opVC, ho, h1, hx]; exact hk'
    · exact hk.elim
  case h_21 args tys ho =>
    split at hk
    · rename_i x y t t' hx ht
      split at hk
      · rename_i htt hti hu
        split at hk
        · rename_i hj
          split at hk
          · rename_i hpos
            obtain ⟨v, d, hv, hf⟩ := app_fun hk
            refine ⟨v, d, hv, fun st' K' ha hk' => ?_⟩
            have h1 := ha.ev x (by simp [ho, seen, hx])
            have h2 := ha.ev y (by simp [ho, seen, hx])
            simp only [opVC, ho, hx, ht, htt, hti, hj, hpos, ha.new hu, h1, h2]
            exact hf st' (fun id hi => ha.sto id (by simp [ho, rdOf, seen, hx, idsL, hi])) (fun id hi => ha.sto id (by simp [ho, rdOf, seen, hx, idsL, hi])) K' hk'
          · exact hk.elim
        · exact hk.elim
      · exact hk.elim
      · exact hk.elim
    · exact hk.elim
  case h_22 args tys ho =>
    split at hk
    · rename_i x t hx ht
      obtain ⟨v, hv, hf⟩ := len_agree (st' := st) (fun _ _ => rfl) hk
      refine ⟨v, _, hv, fun st' K' ha hk' => ?_⟩
      have h1 := ha.ev x (by simp [ho, seen, hx])
      simp only [opVC, ho, hx, ht, h1]
      obtain ⟨v', e, h2⟩ := len_agree (st' := st') (K := fun v' => v' = v) (fun id hi => ha.sto id (by simp [ho, rdOf, seen, hx, idsL, hi])) (hf _ rfl)
      subst e
      exact h2 (fun v => K' v .no) hk'
    · exact hk.elim
  case h_23 args tys ho =>
    split at hk
    · rename_i x t hx ht
      split at hk
      · rename_i hti hv
        refine ⟨_, _, hk, fun st' K' ha hk' => ?_⟩
        have h1 := ha.ev x (by simp [ho, seen, hx])
        simp only [opVC, ho, hx, ht, h1, hti, hv]; exact hk'
      · exact hk.elim
    · exact hk.elim
  case h_24 args tys ho => exact hk.elim
  case h_25 c args tys ho => exact call_agree ho hk0
  case h_26 => exact hk.elim

end Go.Proofs.YtihfpbhalnedcaaGreat.AM

namespace Go.Proofs.YtihfpbhalnedcaaGreat.AM
open Go Go.RowKit

def Last {γ : Type} (w : Nat -> Option γ) (L : Nat -> Prop) (base cur : γ) : Prop :=
  (∃ k c, L k /\ w k = some c /\ (∀ k', L k' -> w k' ≠ none -> k' <= k) /\ cur = c) ∨ ((∀ k, L k -> w k = none) /\ cur = base)

theorem Last.congr {γ : Type} {w : Nat -> Option γ} {L L' : Nat -> Prop} {b c : γ} (h : Last w L b c) (hl : ∀ k, w k ≠ none -> (L k ↔ L' k)) : Last w L' b c := by
  rcases h with ⟨k, x, h1, h2, h3, h4⟩ | ⟨h1, h2⟩
  · exact .inl ⟨k, x, (hl k (by simp [h2])).1 h1, h2, fun k' hk' hw => h3 k' ((hl k' hw).2 hk') hw, h4⟩
  · refine .inr ⟨fun k hk => ?_, h2⟩
    cases hw : w k with
    | none => rfl
    | some x => exact absurd (h1 k ((hl k (by simp [hw])).2 hk)) (by simp [hw])

theorem Last.uniq {γ : Type} {w : Nat -> Option γ} {L : Nat -> Prop} {b c c' : γ} (h : Last w L b c) (h' : Last w L b c') : c = c' := by
  rcases h with ⟨k, x, h1, h2, h3, h4⟩ | ⟨h1, h2⟩ <;> rcases h' with ⟨k', x', h1', h2', h3', h4'⟩ | ⟨h1', h2'⟩
  · have e : k = k' := Nat.le_antisymm (h3' k h1 (by simp [h2])) (h3 k' h1' (by simp [h2']))
    subst e
    rw [h2] at h2'
    rw [h4, h4']; exact Option.some.inj h2'
  · exact absurd (h1' k h1) (by simp [h2])
  · exact absurd (h1 k' h1') (by simp [h2'])
  · rw [h2, h2']

theorem Last.add {γ : Type} {w : Nat -> Option γ} {L L' : Nat -> Prop} {b c c' : γ} {j : Nat} (h : Last w L b c) (hL : ∀ k, L' k ↔ (L k ∨ k = j)) (hj : ∀ k, L k -> w k ≠ none -> w j ≠ none -> k < j) (hc : c' = (w j).getD c) : Last w L' b c' := by
  cases hw : w j with
  | some x =>
    rw [hw] at hc
    refine .inl ⟨j, x, (hL j).2 (.inr rfl), hw, fun k' hk' hw' => ?_, hc⟩
    rcases (hL k').1 hk' with h1 | h1
    · exact Nat.le_of_lt (hj k' h1 hw' (by simp [hw]))
    · exact Nat.le_of_eq h1
  | none =>
    rw [hw] at hc
    rcases h with ⟨k, x, h1, h2, h3, h4⟩ | ⟨h1, h2⟩
    · refine .inl ⟨k, x, (hL k).2 (.inl h1), h2, fun k' hk' hw' => ?_, by rw [hc]; exact h4⟩
      rcases (hL k').1 hk' with g | g
      · exact h3 k' g hw'
      · subst g; exact absurd hw hw'
    · refine .inr ⟨fun k hk => ?_, by rw [hc]; exact h2⟩
      rcases (hL k).1 hk with g | g
      · exact h1 k g
      · subst g; exact hw

theorem Last.zero {γ : Type} {w : Nat -> Option γ} {L : Nat -> Prop} {b : γ} (h : ∀ k, ¬ L k) : Last w L b b := .inr ⟨fun k hk => absurd hk (h k), rfl⟩

structure Rec where
  o : Oper
  v : AV
  d : Dl
  rd : List Nat

def St.app (st : St) (r : Rec) : St := (st.upd r.d).put r.o.dst r.v

def tmpOf : Operand -> List Tmp
  | .tmp t => [t]
  | _ => []

def looks (ops : Array Oper) (o : Oper) : List Tmp :=
  (seen o.op).flatMap tmpOf ++ (match o.guard with
    | some (j, _) => (dstOf ops j).toList
    | none => [])

def waits (o : Oper) (i : Nat) : Bool := o.after.toList.any fun e => Region.binds .any e && nbeq e.on i

def waitsT (ops : Array Oper) : Nat -> Oper -> Nat -> Bool
  | 0, o, i => waits o i
  | n + 1, o, i => waits o i || o.after.toList.any fun e => Region.binds .any e && (match ops[e.on]? with
    | some x => waitsT ops n x i
    | none => false)

def apartS (ops : Array Oper) (x y : Oper) : Bool :=
  (match x.dst with
   | some d => !(looks ops y).elem d && !(y.dst == some d)
   | none => true) &&
  (match y.dst with
   | some d => !(looks ops x).elem d
   | none => true)

def statB (ops : Array Oper) : Bool :=
  (List.range ops.size).all fun j => match ops[j]? with
    | some o => (o.after.toList.all fun e => !Region.binds .any e || nblt e.on j) && (List.range j).all fun i => match ops[i]? with
      | some x => waits o i || apartS ops x o
      | none => true
    | none => true

def keysOf (d : Dl) : List Nat := d.sto.map (·.1)

def disj (l m : List Nat) : Bool := l.all fun u => !m.elem u

def okPair (ops : Array Oper) (o : Oper) (rd keys : List Nat) (i : Nat) (rdi keysi : List Nat) : Bool :=
  bif disj keysi rd && disj keys (rdi ++ keysi) then true else waitsT ops 4 o i

structure Facts (P : Program) (T : Nat -> Option TI) (ops : Array Oper) (lb : Nat) (st0 : St) (recs : List Rec) : Prop where
  op : ∀ (k : Nat) (r : Rec), recs[k]? = some r -> ops[k]? = some r.o
  run : ∀ (k : Nat) (r : Rec), recs[k]? = some r -> ((r.o.guard = none ∨ ∃ (j : Nat) (want : Bool) (t : Tmp), r.o.guard = some (j, want) /\ dstOf ops j = some t /\ ((recs.take k).foldl St.app st0).get t = .bool want) /\ Fun sy P T (lb + 10000 * k) r.o ((recs.take k).foldl St.app st0) r.v r.d /\ r.rd = rdOf ((recs.take k).foldl St.app st0) r.o.op r.d) ∨
    (∃ (j : Nat) (want : Bool) (t : Tmp), r.o.guard = some (j, want) /\ dstOf ops j = some t /\ (((recs.take k).foldl St.app st0).get t = .bool (!want) ∨ ((recs.take k).foldl St.app st0).get t = .tup []) /\ r.v = .tup [] /\ r.d = .no)
  names : ∀ (k : Nat) (r : Rec), recs[k]? = some r -> ∀ u ∈ r.d.used, lb + 10000 * k <= u /\ u < lb + 10000 * k + 10000
  pair : ∀ (i j : Nat) (ri rj : Rec), i < j -> recs[i]? = some ri -> recs[j]? = some rj -> okPair ops rj.o rj.rd (keysOf rj.d) i ri.rd (keysOf ri.d) = true

theorem waits_spec {o : Oper} {i : Nat} (h : waits o i = true) : ∃ e ∈ o.after, Region.binds .any e = true /\ e.on = i := by
  unfold waits at h
  obtain ⟨e, he, hb⟩ := List.any_eq_true.1 h
  simp only [Bool.and_eq_true] at hb
  exact ⟨e, by simpa using he, hb.1, nbeq_eq hb.2⟩

theorem lk_key {α : Type} {l : List (Nat × α)} {k : Nat} (h : lk l k ≠ none) : k ∈ l.map (·.1) := by
  cases hq : lk l k with
  | none => exact absurd hq h
  | some v => exact List.mem_map.2 ⟨(k, v), lk_mem hq, rfl⟩

theorem app_nt (st : St) (r : Rec) : (st.app r).nt = st.nt := by
  unfold St.app St.put
  cases r.o.dst with
  | none => rfl
  | some d =>
    show St.nt (bif nblt d (st.upd r.d).nt then _ else _) = _
    cases nblt d (st.upd r.d).nt <;> rfl
theorem app_sto (st : St) (r : Rec) (id : Nat) : lk (st.app r).sto id = (lk r.d.sto id).getD (lk st.sto id) := by
  rw [<- lk_updSto]
  unfold St.app St.put
  cases r.o.dst with
  | none => rfl
  | some d =>
    show lk (St.sto (bif nblt d (st.upd r.d).nt then _ else _)) id = _
    cases nblt d (st.upd r.d).nt <;> rfl
theorem app_used (st : St) (r : Rec) : (st.app r).used = r.d.used ++ st.used := by
  unfold St.app St.put
  cases r.o.dst with
  | none => rfl
  | some d =>
    show St.used (bif nblt d (st.upd r.d).nt then _ else _) = _
    cases nblt d (st.upd r.d).nt <;> rfl
theorem app_tmps (st : St) (r : Rec) (t : Nat) : lk (st.app r).tmps t = (if r.o.dst = some t /\ t < st.nt then some (some r.v) else none).getD (lk st.tmps t) := by
  unfold St.app St.put
  cases hd : r.o.dst with
  | none => simp [St.upd]
  | some d =>
    show lk (St.tmps (bif nblt d st.nt then _ else _)) t = _
    cases hb : nblt d st.nt with
    | true =>
      have hlt : d < st.nt := by rw [nblt_eq] at hb; exact hb
      simp only [cond_true, lk_cons, Option.some.injEq]
      by_cases h : d = t
      · subst h; simp [hlt]
      · simp [h, St.upd]
    | false =>
      have hlt : ¬ d < st.nt := fun h => by rw [<- nblt_eq, hb] at h; cases h
      simp only [cond_false, Option.some.injEq]
      by_cases h : d = t
      · subst h; simp [hlt, St.upd]
      · simp [h, St.upd]

section
variable {P : Program} {T : Nat -> Option TI} {ops : Array Oper} {lb : Nat} {st0 : St} {recs : List Rec}

def wT (recs : List Rec) (nt t k : Nat) : Option (Option AV) :=
  match recs[k]? with
  | some r => if r.o.dst = some t /\ t < nt then some (some r.v) else none
  | none => none

def wO (recs : List Rec) (id k : Nat) : Option (Option Obj) :=
  match recs[k]? with
  | some r => lk r.d.sto id
  | none => none

structure Is (st0 : St) (recs : List Rec) (L : Nat -> Prop) (s : St) : Prop where
  nt : s.nt = st0.nt
  tmps : ∀ t, Last (wT recs st0.nt t) L (lk st0.tmps t) (lk s.tmps t)
  sto : ∀ id, Last (wO recs id) L (lk st0.sto id) (lk s.sto id)
  used : ∀ u, u ∈ s.used ↔ (u ∈ st0.used ∨ ∃ k r, L k /\ recs[k]? = some r /\ u ∈ r.d.used)

theorem Is.zero {L : Nat -> Prop} (h : ∀ k, ¬ L k) : Is st0 recs L st0 :=
  ⟨rfl, fun t => Last.zero h, fun t => Last.zero h, fun u => ⟨.inl, fun h' => h'.elim id fun ⟨k, _, hk, _⟩ => absurd hk (h k)⟩⟩

theorem Is.step {L L' : Nat -> Prop} {s : St} {j : Nat} {r : Rec} (h : Is st0 recs L s) (hr : recs[j]? = some r) (hL : ∀ k, L' k ↔ (L k ∨ k = j))
    (ht : ∀ t k, L k -> wT recs st0.nt t k ≠ none -> wT recs st0.nt t j ≠ none -> k < j) (ho : ∀ id k, L k -> wO recs id k ≠ none -> wO recs id j ≠ none -> k < j) : Is st0 recs L' (s.app r) := by
  refine ⟨(app_nt s r).trans h.nt, fun t => (h.tmps t).add hL (ht t) ?_, fun id => (h.sto id).add hL (ho id) ?_, fun u => ?_⟩
  · rw [app_tmps, h.nt]; simp only [wT, hr]
  · rw [app_sto]; simp only [wO, hr]
  · rw [app_used, List.mem_append, h.used]
    constructor
    · rintro (h1 | h1 | ⟨k, r', h1, h2, h3⟩)
      · exact .inr ⟨j, r, (hL j).2 (.inr rfl), hr, h1⟩
      · exact .inl h1
      · exact .inr ⟨k, r', (hL k).2 (.inl h1), h2, h3⟩
    · rintro (h1 | ⟨k, r', h1, h2, h3⟩)
      · exact .inr (.inl h1)
      · rcases (hL k).1 h1 with g | g
        · exact .inr (.inr ⟨k, r', g, h2, h3⟩)
        · subst g
          rw [hr] at h2
          obtain rfl := Option.some.inj h2
          exact .inl h3

theorem Is.lex : ∀ k, k <= recs.length -> Is st0 recs (· < k) ((recs.take k).foldl St.app st0)
  | 0, _ => Is.zero (fun k => Nat.not_lt_zero k)
  | k + 1, h => by
    have hr : recs[k]? = some recs[k] := List.getElem?_eq_getElem h
    rw [List.take_add_one, hr, List.foldl_append]
    exact (Is.lex k (Nat.le_of_succ_le h)).step hr (fun i => by omega) (fun t i hi _ _ => hi) (fun id i hi _ _ => hi)

theorem Is.sim {L : Nat -> Prop} {s s' : St} {E : Env} {a : Act} (h : Is st0 recs L s) (h' : Is st0 recs L s') (hs : Sim E s a) : Sim E s' a := by
  have ht : ∀ t, lk s'.tmps t = lk s.tmps t := fun t => (h'.tmps t).uniq (h.tmps t)
  have ho : ∀ t, lk s'.sto t = lk s.sto t := fun t => (h'.sto t).uniq (h.sto t)
  have hu : ∀ u, s.used.elem u = true -> s'.used.elem u = true := fun u hu => by
    rw [List.elem_iff] at hu ⊢
    rw [h'.used, <- h.used]; exact hu
  exact ⟨hs.wf, hs.defers, by rw [h'.nt, <- h.nt]; exact hs.size, fun t v hv => hs.tmps t v (by rw [<- ht]; exact hv), fun id o hv => hs.sto id o (by rw [<- ho]; exact hv), fun id L hL => hu _ (hs.used id L hL), fun id o hv => hu _ (hs.keys id o (by rw [<- ho]; exact hv))⟩

theorem statB_spec (h : statB ops = true) {j : Nat} {o : Oper} (ho : ops[j]? = some o) : (∀ e ∈ o.after, Region.binds .any e = true -> e.on < j) /\ ∀ i x, i < j -> ops[i]? = some x -> waits o i = true ∨ apartS ops x o = true := by
  unfold statB at h
  have hj : j < ops.size := (Array.getElem?_eq_some_iff.1 ho).1
  have := List.all_eq_true.1 h j (List.mem_range.2 hj)
  simp only [ho, Bool.and_eq_true] at this
  refine ⟨fun e he hb => ?_, fun i x hi hx => ?_⟩
  · have := List.all_eq_true.1 this.1 e (by simpa using he)
    simp only [hb, Bool.not_true, Bool.false_or, nblt_eq] at this
    exact this
  · have := List.all_eq_true.1 this.2 i (List.mem_range.2 hi)
    simpa [hx, Bool.or_eq_true] using this

theorem apartS_spec {x y : Oper} (h : apartS ops x y = true) {t : Nat} : (x.dst = some t -> t ∉ looks ops y /\ y.dst ≠ some t) /\ (y.dst = some t -> t ∉ looks ops x) := by
  unfold apartS at h
  simp only [Bool.and_eq_true] at h
  refine ⟨fun hx => ?_, fun hy => ?_⟩
  · have := h.1
    simp only [hx, Bool.and_eq_true, Bool.not_eq_true'] at this
    exact ⟨fun hm => (by have h1 := this.1; rw [List.elem_eq_true_of_mem hm] at h1; exact absurd h1 (by simp)), fun e => by simp [e] at this⟩
  · have := h.2
    simp only [hy, Bool.not_eq_true'] at this
    exact fun hm => by rw [List.elem_eq_true_of_mem hm] at this; cases this

theorem disj_spec {l m : List Nat} (h : disj l m = true) {u : Nat} (hu : u ∈ l) : u ∉ m := fun hm => by
  have := List.all_eq_true.1 h u hu
  rw [List.elem_eq_true_of_mem hm] at this
  cases this

theorem okPair_spec {o : Oper} {rd keys rdi keysi : List Nat} {i : Nat} (h : okPair ops o rd keys i rdi keysi = true) : waitsT ops 4 o i = true ∨ (∀ u ∈ keysi, u ∉ rd /\ u ∉ keys) /\ (∀ u ∈ keys, u ∉ rdi) := by
  unfold okPair at h
  cases hb : disj keysi rd && disj keys (rdi ++ keysi) with
  | false => rw [hb] at h; exact .inl h
  | true =>
    simp only [Bool.and_eq_true] at hb
    exact .inr ⟨fun u hu => ⟨disj_spec hb.1 hu, fun hk => disj_spec hb.2 hk (List.mem_append_right _ hu)⟩, fun u hu hr => disj_spec hb.2 hu (List.mem_append_left _ hr)⟩

def Closed (ops : Array Oper) (L : Nat -> Prop) : Prop := ∀ j o, L j -> ops[j]? = some o -> ∀ e ∈ o.after, Region.binds .any e = true -> L e.on

theorem waitsT_in {L : Nat -> Prop} (hc : Closed ops L) : ∀ (n : Nat) {o : Oper} {i : Nat}, waitsT ops n o i = true -> (∀ e ∈ o.after, Region.binds .any e = true -> L e.on) -> L i
  | 0, o, i, h, hw => by
    obtain ⟨e, he, hb, rfl⟩ := waits_spec h
    exact hw e he hb
  | n + 1, o, i, h, hw => by
    simp only [waitsT, Bool.or_eq_true] at h
    rcases h with h | h
    · obtain ⟨e, he, hb, rfl⟩ := waits_spec h
      exact hw e he hb
    · obtain ⟨e, he, hb⟩ := List.any_eq_true.1 h
      simp only [Bool.and_eq_true] at hb
      have hL := hw e (by simpa using he) hb.1
      cases hx : ops[e.on]? with
      | none => simp [hx] at hb
      | some x =>
        simp only [hx] at hb
        exact waitsT_in hc n hb.2 fun e' he' hb' => hc e.on x hL hx e' he' hb'

theorem same_slot (F : Facts P T ops lb st0 recs) (hst : statB ops = true) {L : Nat -> Prop} (hc : Closed ops L) {j : Nat} {r : Rec} (hr : recs[j]? = some r) (hj : ¬ L j) (hw : ∀ e ∈ r.o.after, Region.binds .any e = true -> L e.on) {t : Nat} (ht : t ∈ looks ops r.o ∨ r.o.dst = some t) {k : Nat} (hk : wT recs st0.nt t k ≠ none) (hkj : k ≠ j) : L k ↔ k < j := by
  unfold wT at hk
  cases hrk : recs[k]? with
  | none => simp [hrk] at hk
  | some rk =>
    simp only [hrk] at hk
    have hd : rk.o.dst = some t := by
      by_cases h : rk.o.dst = some t /\ t < st0.nt
      · exact h.1
      · simp [h] at hk
    have ok := F.op k rk hrk
    have oj := F.op j r hr
    constructor
    · intro hL
      rcases Nat.lt_or_ge k j with h | h
      · exact h
      · have hlt : j < k := by omega
        rcases (statB_spec hst ok).2 j r.o hlt oj with h1 | h1
        · obtain ⟨e, he, hb, rfl⟩ := waits_spec h1
          exact absurd (hc k rk.o hL ok e he hb) hj
        · rcases ht with h2 | h2
          · exact absurd h2 ((apartS_spec h1).2 hd)
          · exact absurd hd ((apartS_spec h1).1 h2).2
    · intro hlt
      rcases (statB_spec hst oj).2 k rk.o hlt ok with h1 | h1
      · obtain ⟨e, he, hb, rfl⟩ := waits_spec h1
        exact hw e he hb
      · rcases ht with h2 | h2
        · exact absurd h2 ((apartS_spec h1).1 hd).1
        · exact absurd h2 ((apartS_spec h1).1 hd).2

theorem same_obj (F : Facts P T ops lb st0 recs) {L : Nat -> Prop} (hc : Closed ops L) {j : Nat} {r : Rec} (hr : recs[j]? = some r) (hj : ¬ L j) (hw : ∀ e ∈ r.o.after, Region.binds .any e = true -> L e.on) {id : Nat} (ht : id ∈ r.rd ∨ id ∈ keysOf r.d) {k : Nat} (hk : wO recs id k ≠ none) (hkj : k ≠ j) : L k ↔ k < j := by
  unfold wO at hk
  cases hrk : recs[k]? with
  | none => simp [hrk] at hk
  | some rk =>
    simp only [hrk] at hk
    have hd : id ∈ keysOf rk.d := lk_key hk
    have ok := F.op k rk hrk
    have oj := F.op j r hr
    constructor
    · intro hL
      rcases Nat.lt_or_ge k j with h | h
      · exact h
      · have hlt : j < k := by omega
        rcases okPair_spec (F.pair j k r rk hlt hr hrk) with h1 | ⟨h1, h1'⟩
        · exact absurd (waitsT_in hc 4 h1 fun e he hb => hc k rk.o hL ok e he hb) hj
        · rcases ht with h2 | h2
          · exact absurd h2 (h1' id hd)
          · exact absurd hd (h1 id h2).2
    · intro hlt
      rcases okPair_spec (F.pair k j rk r hlt hrk hr) with h1 | ⟨h1, h1'⟩
      · exact waitsT_in hc 4 h1 hw
      · rcases ht with h2 | h2
        · exact absurd h2 (h1 id hd).1
        · exact absurd h2 (h1 id hd).2

theorem Is.agree (F : Facts P T ops lb st0 recs) (hst : statB ops = true) {L : Nat -> Prop} (hc : Closed ops L) {s : St} (hs : Is st0 recs L s) {j : Nat} {r : Rec} (hr : recs[j]? = some r) (hj : ¬ L j) (hw : ∀ e ∈ r.o.after, Region.binds .any e = true -> L e.on)
    {rd : List Nat} (hrd : ∀ id ∈ rd, id ∈ r.rd) : Agree (seen r.o.op) rd (lb + 10000 * j) ((recs.take j).foldl St.app st0) s := by
  have hlen : j <= recs.length := Nat.le_of_lt (List.getElem?_eq_some_iff.1 hr).1
  have hx := Is.lex (st0 := st0) (recs := recs) j hlen
  have slot : ∀ t, t ∈ looks ops r.o -> lk s.tmps t = lk ((recs.take j).foldl St.app st0).tmps t := fun t ht =>
    ((hs.tmps t).congr fun k hk => by
      by_cases hkj : k = j
      · subst hkj; exact ⟨fun h => absurd h hj, fun h => absurd h (Nat.lt_irrefl _)⟩
      · exact same_slot F hst hc hr hj hw (.inl ht) hk hkj).uniq (hx.tmps t)
  have names : ∀ u, u ∈ s.used -> lb + 10000 * j <= u -> u < lb + 10000 * j + 10000 -> u ∈ ((recs.take j).foldl St.app st0).used := fun u hu h1 h2 => by
    rw [hs.used] at hu
    rw [hx.used]
    rcases hu with h | ⟨k, r', hk, hrk, hur⟩
    · exact .inl h
    · have := F.names k r' hrk u hur
      have : k = j := by omega
      subst this
      exact absurd hk hj
  refine ⟨fun x hx' => ?_, fun id hid => ?_, fun hn => ?_, fun hn => ?_⟩
  · cases x with
    | tmp t =>
      show (lk s.tmps t).getD .undef = (lk _ t).getD .undef
      rw [slot t (List.mem_append_left _ (List.mem_flatMap.2 ⟨_, hx', by simp [tmpOf]⟩))]
    | _ => rfl
  · exact ((hs.sto id).congr fun k hk => by
      by_cases hkj : k = j
      · subst hkj; exact ⟨fun h => absurd h hj, fun h => absurd h (Nat.lt_irrefl _)⟩
      · exact same_obj F hc hr hj hw (.inl (hrd id hid)) hk hkj).uniq (hx.sto id)
  · cases hb : s.used.elem (lb + 10000 * j) with
    | false => rfl
    | true =>
      have := names _ (List.elem_iff.1 hb) (Nat.le_refl _) (by omega)
      rw [List.elem_eq_true_of_mem this] at hn
      cases hn
  · unfold freshL at hn ⊢
    rw [Bool.and_eq_true] at hn ⊢
    refine ⟨?_, hn.2⟩
    have hn := hn.1
    rw [List.all_eq_true] at hn ⊢
    intro u hu
    by_cases h1 : u < lb + 10000 * j
    · rw [Bool.or_eq_true]; exact .inl (by rw [nblt_eq]; exact h1)
    · by_cases h2 : u < lb + 10000 * j + 10000
      · exact hn u (names u hu (by omega) h2)
      · rw [Bool.or_eq_true]; exact .inr (by simp [nble]; omega)

theorem Is.next (F : Facts P T ops lb st0 recs) (hst : statB ops = true) {L L' : Nat -> Prop} (hc : Closed ops L) {s : St} (hs : Is st0 recs L s) {j : Nat} {r : Rec} (hr : recs[j]? = some r) (hj : ¬ L j) (hw : ∀ e ∈ r.o.after, Region.binds .any e = true -> L e.on)
    (hL : ∀ k, L' k ↔ (L k ∨ k = j)) : Is st0 recs L' (s.app r) := by
  refine hs.step hr hL (fun t k hk hwk hwj => ?_) (fun id k hk hwk hwj => ?_)
  · have hkj : k ≠ j := fun e => hj (e ▸ hk)
    refine (same_slot F hst hc hr hj hw (.inr ?_) hwk hkj).1 hk
    unfold wT at hwj
    simp only [hr] at hwj
    by_cases h : r.o.dst = some t /\ t < st0.nt
    · exact h.1
    · simp [h] at hwj
  · have hkj : k ≠ j := fun e => hj (e ▸ hk)
    refine (same_obj F hc hr hj hw (.inr ?_) hwk hkj).1 hk
    unfold wO at hwj
    simp only [hr] at hwj
    exact lk_key hwj

theorem all_of_ready (hst : statB ops = true) {listed : Array Bool} (hsz : listed.size = ops.size) (h : Region.ready .any ops listed = []) : ∀ k, k < ops.size -> listed.getD k false = true := by
  intro k
  induction k using Nat.strongRecOn with
  | _ k ih =>
    intro hk
    cases hb : listed.getD k false with
    | true => rfl
    | false =>
      have ho : ops[k]? = some ops[k] := Array.getElem?_eq_getElem hk
      have hb' : listed.getD k true = false := by
        have : k < listed.size := by omega
        simp [this] at hb ⊢; exact hb
      have : k ∈ Region.ready .any ops listed := mem_ready.2 ⟨hb', ops[k], ho, fun e he hbi => by
        have := (statB_spec hst ho).1 e he hbi
        exact ih e.on this (by omega)⟩
      rw [h] at this
      cases this

theorem drawn_any (htab : TabOk P T) (F : Facts P T ops lb st0 recs) (hlen : recs.length = ops.size) (hst : statB ops = true) {E₀ : Env} {Q : Exit -> St -> Prop} (hQ : Q .normal (recs.foldl St.app st0)) :
    ∀ (fuel : Nat) (listed : Array Bool) (s : St) (E : Env) (a : Act), Fr E₀ E -> Sim E s a -> listed.size = ops.size -> Closed ops (fun k => listed.getD k false = true) -> listed.toList.count false = fuel ->
      Is st0 recs (fun k => listed.getD k false = true) s -> wpAny P .any ops (lift E₀ Q) fuel listed a E.w := by
  have fin : ∀ (listed : Array Bool) (s : St) (E : Env) (a : Act), Fr E₀ E -> Sim E s a -> (∀ k, k < ops.size -> listed.getD k false = true) -> Is st0 recs (fun k => listed.getD k false = true) s -> lift E₀ Q .normal a E.w := by
    intro listed s E a hf hs hall hI
    have hx := Is.lex (st0 := st0) (recs := recs) recs.length (Nat.le_refl _)
    rw [List.take_length] at hx
    have hI' : Is st0 recs (· < recs.length) s := ⟨hI.nt, fun t => (hI.tmps t).congr fun k hk => ?_, fun t => (hI.sto t).congr fun k hk => ?_, fun u => ?_⟩
    · exact ⟨trivial, E, _, rfl, hf, hI'.sim hx hs, hQ⟩
    · have : k < recs.length := by
        rcases Nat.lt_or_ge k recs.length with h | h
        · exact h
        · simp [wT, List.getElem?_eq_none h] at hk
      exact ⟨fun _ => this, fun _ => hall k (by omega)⟩
    · have : k < recs.length := by
        rcases Nat.lt_or_ge k recs.length with h | h
        · exact h
        · simp [wO, List.getElem?_eq_none h] at hk
      exact ⟨fun _ => this, fun _ => hall k (by omega)⟩
    · rw [hI.used]
      refine or_congr Iff.rfl ⟨fun ⟨k, r, h1, h2, h3⟩ => ⟨k, r, (List.getElem?_eq_some_iff.1 h2).1, h2, h3⟩, fun ⟨k, r, h1, h2, h3⟩ => ⟨k, r, hall k (by omega), h2, h3⟩⟩
  intro fuel
  induction fuel with
  | zero =>
    intro listed s E a hf hs hsz hc hcnt hI
    have hall : ∀ k, k < ops.size -> listed.getD k false = true := fun k hk => by
      cases hb : listed.getD k false with
      | true => rfl
      | false =>
        have hk' : k < listed.size := by omega
        have : listed[k] = false := by simpa [hk'] using hb
        have : false ∈ listed.toList := by rw [<- this]; simp
        exact absurd this (List.count_eq_zero.1 hcnt)
    refine ⟨?_, fin listed s E a hf hs hall hI⟩
    cases hr : Region.ready .any ops listed with
    | nil => rfl
    | cons i l =>
      have hi : i ∈ Region.ready .any ops listed := by rw [hr]; simp
      obtain ⟨h1, o, ho, _⟩ := mem_ready.1 hi
      have hi' : i < ops.size := (Array.getElem?_eq_some_iff.1 ho).1
      have := hall i hi'
      have hk' : i < listed.size := by omega
      simp [hk'] at h1 this
      rw [this] at h1
      cases h1
  | succ fuel ih =>
    intro listed s E a hf hs hsz hc hcnt hI
    refine ⟨fun hr => fin listed s E a hf hs (all_of_ready hst hsz hr) hI, fun i hi => ?_⟩
    obtain ⟨h1, o, ho, hall⟩ := mem_ready.1 hi
    have hi' : i < ops.size := (Array.getElem?_eq_some_iff.1 ho).1
    have hil : i < listed.size := by omega
    have hnot : ¬ listed.getD i false = true := by
      simp [hil] at h1 ⊢; exact h1
    have hr : recs[i]? = some recs[i] := List.getElem?_eq_getElem (by omega)
    generalize hrg : recs[i]'(by omega) = r at hr
    have hro : r.o = o := Option.some.inj ((F.op i r hr).symm.trans ho)
    subst hro
    have hL : ∀ k, (listed.setIfInBounds i true).getD k false = true ↔ (listed.getD k false = true ∨ k = i) := fun k => by
      by_cases hk : i = k
      · subst hk; simp [hil]
      · rw [getD_set_ne false hk]
        exact ⟨.inl, fun h => h.elim id fun e => absurd e.symm hk⟩
    have hc' : Closed ops (fun k => (listed.setIfInBounds i true).getD k false = true) := fun j oj hj hoj e he hb => by
      refine (hL _).2 (.inl ?_)
      rcases (hL j).1 hj with h | h
      · exact hc j oj h hoj e he hb
      · subst h
        rw [ho] at hoj
        obtain rfl := Option.some.inj hoj
        exact hall e he hb
    have hcnt' : (listed.setIfInBounds i true).toList.count false = fuel := by
      rw [Array.toList_setIfInBounds, List.count_set (by simpa using hil), hcnt]
      have : listed[i] = false := by simpa [hil] using h1
      simp [this]
    have hsz' : (listed.setIfInBounds i true).size = ops.size := by simp [hsz]
    have hI' := hI.next F hst hc hr hnot hall hL
    have ag := fun {rd : List Nat} (hrd : ∀ id ∈ rd, id ∈ r.rd) => hI.agree F hst hc hr hnot hall hrd
    have gslot : ∀ j want t, r.o.guard = some (j, want) -> dstOf ops j = some t -> s.get t = ((recs.take i).foldl St.app st0).get t := fun j want t hg hd => by
      have hx := Is.lex (st0 := st0) (recs := recs) i (by omega)
      unfold St.get
      rw [((hI.tmps t).congr fun k hk => by
        by_cases hkj : k = i
        · subst hkj; exact ⟨fun h => absurd h hnot, fun h => absurd h (Nat.lt_irrefl _)⟩
        · exact same_slot F hst hc hr hnot hall (.inl (by unfold looks; rw [hg]; exact List.mem_append_right _ (by simp [hd]))) hk hkj).uniq (hx.tmps t)]
    unfold wpOp
    simp only [ho]
    rcases F.run i r hr with ⟨hg, hfun, hrd⟩ | ⟨j, want, t, hg, hd, hb, hv, hdn⟩
    · have hw : Region.wanted r.o (yielded ops a.tmps) = true := by
        rcases hg with hg | ⟨j, want, t, hg, hd, hb⟩
        · simp [Region.wanted, hg]
        · rw [<- gslot j want t hg hd] at hb
          simp [Region.wanted, hg, yielded_of hs hd hb]
      rw [if_pos hw]
      have hop : OpOk P r.o s (fun v s' => v = r.v /\ s' = s.upd r.d) := opVC_sound htab (dr := true) (lab := lb + 10000 * i) (hfun s _ (ag (by rw [hrd]; exact fun id h => h)) ⟨rfl, rfl⟩)
      refine .inl (hop E a _ _ hs fun E' v x st' hf' hs' hr' ⟨hv, hst'⟩ => ?_)
      subst hv
      subst hst'
      exact ih _ _ E' _ (hf.trans hf') (hs'.put r.o.dst hr') hsz' hc' hcnt' hI'
    · have hw : Region.wanted r.o (yielded ops a.tmps) = false := by
        rw [<- gslot j want t hg hd] at hb
        rcases hb with hb | hb
        · simp [Region.wanted, hg, yielded_of hs hd hb]
        · simp [Region.wanted, hg, yielded_skip hs hd hb]
      rw [if_neg (by simp [hw])]
      have : s.app r = s.put r.o.dst (.tup []) := by unfold St.app; rw [hdn, hv]; rfl
      rw [this] at hI'
      exact ih _ _ E _ hf (hs.put r.o.dst (rel_skip E)) hsz' hc' hcnt' hI'

theorem awp_drawn (htab : TabOk P T) (hm : P.follows .mixedOrders = true) (F : Facts P T ops lb st0 recs) (hlen : recs.length = ops.size) (hst : statB ops = true) {Q : Exit -> St -> Prop} (hQ : Q .normal (recs.foldl St.app st0)) {id : Nat} :
    awp P (.region id ops true) Q st0 := by
  intro E a hs
  refine wp_region_any hm ?_
  let E' : Env := { E with w := { E.w with drawn := E.w.drawn + 1 } }
  have hf : Fr E E' := Fr.ghost rfl rfl rfl rfl (fun _ h => h) rfl (fun _ _ _ h => h) rfl
  have hs' : Sim E' st0 a := by
    refine ⟨⟨hs.wf.still, hs.wf.owned, hs.wf.windows⟩, hs.defers, hs.size, fun t v hv => ?_, fun id ob hid => ?_, hs.used, hs.keys⟩
    · obtain ⟨x, hx, hr⟩ := hs.tmps t v hv
      exact ⟨x, hx, hr.to (fun b hb => ⟨hb, rfl⟩) fun _ _ _ h => h⟩
    · exact (hs.sto id ob hid).to (fun b hb => ⟨hb, rfl⟩) rfl rfl (fun _ _ _ h => h) (fun b hb => ⟨rfl, rfl⟩)
  refine drawn_any htab F hlen hst hQ ops.size _ st0 E' a hf hs' (by simp) (fun j o hj => ?_) (by simp) (Is.zero fun k hk => ?_)
  · exfalso
    by_cases h : j < ops.size <;> simp [h] at hj
  · by_cases h : k < ops.size <;> simp [h] at hk

end
end Go.Proofs.YtihfpbhalnedcaaGreat.AM

namespace Go.Proofs.YtihfpbhalnedcaaGreat.AM
open Go Go.RowKit

def okLog (ops : Array Oper) (o : Oper) (rd keys : List Nat) : List (Nat × List Nat × List Nat) -> Bool
  | [] => true
  | (i, rdi, keysi) :: r => okPair ops o rd keys i rdi keysi && okLog ops o rd keys r

def okUsed (lab : Nat) : List Nat -> Bool
  | [] => true
  | u :: r => nble lab u && nblt u (lab + 10000) && okUsed lab r

def runD (A : Sy) (P : Program) (T : Nat -> Option TI) (ops : Array Oper) (lab k : Nat) (o : Oper) (st : St) (log : List (Nat × List Nat × List Nat)) (K : St -> List (Nat × List Nat × List Nat) -> Prop) : Prop :=
  opVC A true P T lab o st fun v d =>
    match okLog ops o (rdOf st o.op d) (keysOf d) log && okUsed lab d.used with
    | true => K ((st.upd d).put o.dst v) ((k, rdOf st o.op d, keysOf d) :: log)
    | false => False

def vcD (A : Sy) (P : Program) (T : Nat -> Option TI) (ops : Array Oper) (lb : Nat) : Nat -> List Oper -> St -> List (Nat × List Nat × List Nat) -> (St -> Prop) -> Prop
  | _, [], st, _, K => K st
  | k, o :: rest, st, log, K =>
    match o.guard with
    | none => runD A P T ops (lb + 10000 * k) k o st log fun s l => vcD A P T ops lb (k + 1) rest s l K
    | some (j, want) => match dstOf ops j with
      | some t => match st.get t with
        | .bool b => match want with
          | true => match b with
            | true => runD A P T ops (lb + 10000 * k) k o st log fun s l => vcD A P T ops lb (k + 1) rest s l K
            | false => vcD A P T ops lb (k + 1) rest (st.put o.dst (.tup [])) ((k, [], []) :: log) K
          | false => match b with
            | true => vcD A P T ops lb (k + 1) rest (st.put o.dst (.tup [])) ((k, [], []) :: log) K
            | false => runD A P T ops (lb + 10000 * k) k o st log fun s l => vcD A P T ops lb (k + 1) rest s l K
        | .tup [] => vcD A P T ops lb (k + 1) rest (st.put o.dst (.tup [])) ((k, [], []) :: log) K
        | _ => False
      | none => False

def vcOps (A : Sy) (P : Program) (T : Nat -> Option TI) (ops : Array Oper) : Nat -> List Oper -> St -> (St -> Prop) -> Prop
  | _, [], st, k => k st
  | lab, o :: rest, st, k =>
    match o.guard with
    | none => opVC A false P T lab o st fun v d => vcOps A P T ops (lab + 10000) rest ((st.upd d).put o.dst v) k
    | some (j, want) => match dstOf ops j with
      | some t => match st.get t with
        | .bool b => match want with
          | true => match b with
            | true => opVC A false P T lab o st fun v d => vcOps A P T ops (lab + 10000) rest ((st.upd d).put o.dst v) k
            | false => vcOps A P T ops (lab + 10000) rest (st.put o.dst (.tup [])) k
          | false => match b with
            | true => vcOps A P T ops (lab + 10000) rest (st.put o.dst (.tup [])) k
            | false => opVC A false P T lab o st fun v d => vcOps A P T ops (lab + 10000) rest ((st.upd d).put o.dst v) k
        | .tup [] => vcOps A P T ops (lab + 10000) rest (st.put o.dst (.tup [])) k
        | _ => False
      | none => False

def St.real (st : St) : Prop := ∃ E a, Sim E st a

structure Drawn (st : St) (p : Unit -> Prop) (X : Prop) : Prop where
  out : p () /\ (st.real -> X)

def seqK (n : (Exit -> St -> Prop) -> St -> Prop) (Q : Exit -> St -> Prop) (e : Exit) (s : St) : Prop :=
  match e with
  | .normal => n Q s
  | e => Q e s

def blockK (id : Nat) (Q : Exit -> St -> Prop) (e : Exit) (s : St) : Prop :=
  match e with
  | .exit id' => match nbeq id' id with
    | true => Q .normal s
    | false => Q (.exit id') s
  | e => Q e s

def vc (A : Sy) (P : Program) (T : Nat -> Option TI) : Code -> St -> (Exit -> St -> Prop) -> Prop
  | .skip, st, Q => Q .normal st
  | .label _, st, Q => Q .normal st
  | .exit id, st, Q => Q (.exit id) st
  | .ret, st, Q => Q .ret st
  | .seq a b, st, Q => vc A P T a st (seqK (fun Q s => vc A P T b s Q) Q)
  | .cond c a b, st, Q => match st.ev c with
    | .bool x => match x with
      | true => vc A P T a st Q
      | false => vc A P T b st Q
    | _ => False
  | .block id c, st, Q => vc A P T c st (blockK id Q)
  | .region id ops draw, st, Q => match draw with
    | false => vcOps A P T ops ((id + 1) * 1000000) ops.toList st fun s => Q .normal s
    | true => Drawn st (fun _ => statB ops = true) (vcD A P T ops ((id + 1) * 1000000) 0 ops.toList st [] fun s => Q .normal s)
  | .loop c, st, Q => ALoop P c Q st
  | _, _, _ => False

variable {P : Program} {T : Nat -> Option TI}

theorem okLog_spec {ops : Array Oper} {o : Oper} {rd keys : List Nat} : ∀ {log : List (Nat × List Nat × List Nat)}, okLog ops o rd keys log = true -> ∀ i rdi keysi, (i, rdi, keysi) ∈ log -> okPair ops o rd keys i rdi keysi = true
  | [], _, _, _, _, h => by cases h
  | (i', rdi', keysi') :: r, hk, i, rdi, keysi, h => by
    simp only [okLog, Bool.and_eq_true] at hk
    rcases List.mem_cons.1 h with h | h
    · cases h; exact hk.1
    · exact okLog_spec hk.2 i rdi keysi h

theorem okUsed_spec {lab : Nat} : ∀ {l : List Nat}, okUsed lab l = true -> ∀ u ∈ l, lab <= u /\ u < lab + 10000
  | [], _, _, h => by cases h
  | v :: r, hk, u, h => by
    simp only [okUsed, Bool.and_eq_true] at hk
    rcases List.mem_cons.1 h with h | h
    · subst h; exact ⟨nble_le hk.1.1, by have := hk.1.2; rwa [nblt_eq] at this⟩
    · exact okUsed_spec hk.2 u h

section
variable {ops : Array Oper} {lb : Nat} {st0 : St}

theorem Facts.nil (st0 : St) : Facts P T ops lb st0 [] := ⟨fun k r h => by simp at h, fun k r h => by simp at h, fun k r h => by simp at h, fun i j ri rj _ h => by simp at h⟩

theorem Facts.snoc {recs : List Rec} {r : Rec} (F : Facts P T ops lb st0 recs) (ho : ops[recs.length]? = some r.o)
    (hrun : ((r.o.guard = none ∨ ∃ (j : Nat) (want : Bool) (t : Tmp), r.o.guard = some (j, want) /\ dstOf ops j = some t /\ (recs.foldl St.app st0).get t = .bool want) /\ Fun sy P T (lb + 10000 * recs.length) r.o (recs.foldl St.app st0) r.v r.d /\ r.rd = rdOf (recs.foldl St.app st0) r.o.op r.d) ∨
      (∃ (j : Nat) (want : Bool) (t : Tmp), r.o.guard = some (j, want) /\ dstOf ops j = some t /\ ((recs.foldl St.app st0).get t = .bool (!want) ∨ (recs.foldl St.app st0).get t = .tup []) /\ r.v = .tup [] /\ r.d = .no))
    (hn : ∀ u ∈ r.d.used, lb + 10000 * recs.length <= u /\ u < lb + 10000 * recs.length + 10000)
    (hp : ∀ (i : Nat) (ri : Rec), recs[i]? = some ri -> okPair ops r.o r.rd (keysOf r.d) i ri.rd (keysOf ri.d) = true) : Facts P T ops lb st0 (recs ++ [r]) := by
  have key : ∀ (k : Nat) (x : Rec), (recs ++ [r])[k]? = some x -> (recs[k]? = some x /\ k < recs.length) ∨ (k = recs.length /\ x = r) := fun k x h => by
    rcases Nat.lt_or_ge k recs.length with hk | hk
    · rw [List.getElem?_append_left hk] at h; exact .inl ⟨h, hk⟩
    · rw [List.getElem?_append_right hk] at h
      have hlt := (List.getElem?_eq_some_iff.1 h).1
      have e : k = recs.length := by simp at hlt; omega
      subst e
      simp at h
      exact .inr ⟨rfl, h.symm⟩
  have tk : ∀ k, k <= recs.length -> (recs ++ [r]).take k = recs.take k := fun k hk => List.take_append_of_le_length hk
  refine ⟨fun k x h => ?_, fun k x h => ?_, fun k x h => ?_, fun i j ri rj hij h1 h2 => ?_⟩
  · rcases key k x h with ⟨h, _⟩ | ⟨rfl, rfl⟩
    · exact F.op k x h
    · exact ho
  · rcases key k x h with ⟨h, hk⟩ | ⟨rfl, rfl⟩
    · rw [tk k (Nat.le_of_lt hk)]; exact F.run k x h
    · rw [tk _ (Nat.le_refl _), List.take_length]; exact hrun
  · rcases key k x h with ⟨h, _⟩ | ⟨rfl, rfl⟩
    · exact F.names k x h
    · exact hn
  · rcases key i ri h1 with ⟨g1, hi⟩ | ⟨rfl, rfl⟩
    · rcases key j rj h2 with ⟨h2, _⟩ | ⟨rfl, rfl⟩
      · exact F.pair i j ri rj hij g1 h2
      · exact hp i ri g1
    · rcases key j rj h2 with ⟨h2, hj⟩ | ⟨rfl, rfl⟩
      · omega
      · omega

theorem vcD_sound {Q : St -> Prop} : ∀ (rest : List Oper) (k : Nat) (st : St) (log : List (Nat × List Nat × List Nat)) (recs : List Rec), vcD sy P T ops lb k rest st log Q -> Facts P T ops lb st0 recs -> recs.length = k -> recs.foldl St.app st0 = st ->
    (∀ (i : Nat) (r : Rec), recs[i]? = some r -> (i, r.rd, keysOf r.d) ∈ log) -> ops.toList.drop k = rest -> ∃ recs' : List Rec, Facts P T ops lb st0 recs' /\ recs'.length = ops.toList.length /\ Q (recs'.foldl St.app st0)
  | [], k, st, log, recs, hk, F, hlen, hst, hlog, hd => by
    refine ⟨recs, F, ?_, by rw [hst]; exact hk⟩
    have h1 : ops.toList.length <= k := List.drop_eq_nil_iff.1 hd
    rcases Nat.lt_or_ge ops.toList.length recs.length with h | h
    · have hr : recs[ops.toList.length]? = some recs[ops.toList.length] := List.getElem?_eq_getElem h
      have := F.op _ _ hr
      simp at this
    · omega
  | o :: rest, k, st, log, recs, hk, F, hlen, hst, hlog, hd => by
    have ho : ops[k]? = some o := by
      have : (ops.toList.drop k)[0]? = some o := by rw [hd]; rfl
      simpa using this
    have hd' : ops.toList.drop (k + 1) = rest := by
      rw [<- List.drop_drop, hd]; rfl
    subst hlen
    have goes : (o.guard = none ∨ ∃ (j : Nat) (want : Bool) (t : Tmp), o.guard = some (j, want) /\ dstOf ops j = some t /\ st.get t = .bool want) ->
        (runD sy P T ops (lb + 10000 * recs.length) recs.length o st log fun s l => vcD sy P T ops lb (recs.length + 1) rest s l Q) -> ∃ recs' : List Rec, Facts P T ops lb st0 recs' /\ recs'.length = ops.toList.length /\ Q (recs'.foldl St.app st0) := by
      intro hg hr
      obtain ⟨v, d, hv, hf⟩ := opVC_fun hr
      cases hb : (okLog ops o (rdOf st o.op d) (keysOf d) log && okUsed (lb + 10000 * recs.length) d.used) with
      | false => simp only [hb] at hv
      | true =>
        simp only [hb] at hv
        simp only [Bool.and_eq_true] at hb
        refine vcD_sound rest (recs.length + 1) _ _ (recs ++ [⟨o, v, d, rdOf st o.op d⟩]) hv (F.snoc ho (.inl ?_) (okUsed_spec hb.2) (fun i ri hi => okLog_spec hb.1 _ _ _ (hlog i ri hi))) (by simp) (by rw [List.foldl_append, hst]; rfl) (fun i r hi => ?_) hd'
        · rw [hst]; exact ⟨hg, hf, rfl⟩
        · rcases Nat.lt_or_ge i recs.length with h | h
          · rw [List.getElem?_append_left h] at hi
            exact List.mem_cons_of_mem _ (hlog i r hi)
          · rw [List.getElem?_append_right h] at hi
            have hlt := (List.getElem?_eq_some_iff.1 hi).1
            have e : i = recs.length := by simp at hlt; omega
            subst e
            simp at hi
            subst hi
            simp
    have skips : (∃ (j : Nat) (want : Bool) (t : Tmp), o.guard = some (j, want) /\ dstOf ops j = some t /\ (st.get t = .bool (!want) ∨ st.get t = .tup [])) ->
        vcD sy P T ops lb (recs.length + 1) rest (st.put o.dst (.tup [])) ((recs.length, [], []) :: log) Q -> ∃ recs' : List Rec, Facts P T ops lb st0 recs' /\ recs'.length = ops.toList.length /\ Q (recs'.foldl St.app st0) := by
      rintro ⟨j, want, t, hg, hd1, hb⟩ hr
      refine vcD_sound rest (recs.length + 1) _ _ (recs ++ [⟨o, .tup [], .no, []⟩]) hr (F.snoc ho (.inr ?_) (fun u hu => by cases hu) (fun i ri hi => ?_)) (by simp) (by rw [List.foldl_append, hst]; rfl) (fun i r hi => ?_) hd'
      · rw [hst]; exact ⟨j, want, t, hg, hd1, hb, rfl, rfl⟩
      · simp [okPair, disj, keysOf, Dl.no]
      · rcases Nat.lt_or_ge i recs.length with h | h
        · rw [List.getElem?_append_left h] at hi
          exact List.mem_cons_of_mem _ (hlog i r hi)
        · rw [List.getElem?_append_right h] at hi
          have hlt := (List.getElem?_eq_some_iff.1 hi).1
          have e : i = recs.length := by simp at hlt; omega
          subst e
          simp at hi
          subst hi
          simp [keysOf, Dl.no]
    unfold vcD at hk
    split at hk
    · rename_i hg
      exact goes (.inl hg) hk
    · rename_i j want hg
      split at hk
      · rename_i t hd1
        split at hk
        · rename_i b hb
          cases want <;> cases b <;> simp only at hk
          · exact goes (.inr ⟨j, _, t, hg, hd1, hb⟩) hk
          · exact skips ⟨j, _, t, hg, hd1, .inl hb⟩ hk
          · exact skips ⟨j, _, t, hg, hd1, .inl hb⟩ hk
          · exact goes (.inr ⟨j, _, t, hg, hd1, hb⟩) hk
        · rename_i hb
          exact skips ⟨j, want, t, hg, hd1, .inr hb⟩ hk
        · exact hk.elim
      · exact hk.elim

end

theorem vcOps_sound (h : TabOk P T) {ops : Array Oper} {Q : Exit -> St -> Prop} : ∀ (l : List Oper) (lab : Nat) (st : St), vcOps sy P T ops lab l st (fun s => Q .normal s) -> awpL P ops Q l st
  | [], _, st, hk => awpL_nil hk
  | o :: rest, lab, st, hk => by
    unfold vcOps at hk
    split at hk
    · rename_i hg
      exact awpL_cons hg ((opVC_sound h (dr := false) (K := fun v s => vcOps sy P T ops (lab + 10000) rest (s.put o.dst v) (fun s => Q .normal s)) hk).mono fun v s hv => vcOps_sound h rest _ _ hv)
    · rename_i j want hg
      split at hk
      · rename_i t hd
        split at hk
        · rename_i b hb
          refine awpL_guard hg hd hb (fun e => ?_) (fun e => ?_)
          · subst e
            cases b <;> exact (opVC_sound h (dr := false) (K := fun v s => vcOps sy P T ops (lab + 10000) rest (s.put o.dst v) (fun s => Q .normal s)) hk).mono fun v s hv => vcOps_sound h rest _ _ hv
          · subst e
            cases want <;> exact vcOps_sound h rest _ _ hk
        · rename_i hb
          exact awpL_skip hg hd hb (vcOps_sound h rest _ _ hk)
        · exact hk.elim
      · exact hk.elim

theorem vc_sound (h : TabOk P T) (hm : P.follows .mixedOrders = true) : ∀ (c : Code) (st : St) (Q : Exit -> St -> Prop), vc sy P T c st Q -> awp P c Q st
  | .skip, st, Q, hk => awp_skip hk
  | .label _, st, Q, hk => awp_label hk
  | .exit id, st, Q, hk => awp_exit hk
  | .ret, st, Q, hk => awp_ret hk
  | .seq x y, st, Q, hk => by
    refine awp_seq (awp_mono (vc_sound h hm x st _ hk) fun e s hq => ?_)
    cases e <;> first | exact vc_sound h hm y s Q hq | exact hq
  | .cond c x y, st, Q, hk => by
    unfold vc at hk
    split at hk
    · rename_i b hb
      refine awp_cond hb (fun e => ?_) (fun e => ?_)
      · subst e; exact vc_sound h hm x st Q hk
      · subst e; exact vc_sound h hm y st Q hk
    · exact hk.elim
  | .block id c, st, Q, hk => by
    refine awp_block (awp_mono (vc_sound h hm c st _ hk) fun e s hq => ?_)
    cases e with
    | exit id' =>
      simp only [blockQ]
      simp only [blockK] at hq
      cases hb : nbeq id' id <;> simp only [hb] at hq <;> exact hq
    | _ => exact hq
  | .region id ops draw, st, Q, hk => by
    unfold vc at hk
    cases draw with
    | false => exact awp_region (vcOps_sound h _ _ st hk)
    | true =>
      intro E a hs
      obtain ⟨recs, F, h1, h2⟩ := vcD_sound (st0 := st) (Q := fun s => Q .normal s) ops.toList 0 st [] [] (hk.out.2 ⟨E, a, hs⟩) (Facts.nil _) rfl rfl (fun i r hr => by simp at hr) (by simp)
      exact awp_drawn h hm F (by simpa using h1) hk.out.1 h2 E a hs
  | .loop c, st, Q, hk => hk.out
  | .rangeFunc .., _, _, hk => hk.elim
  | .scope _, _, _, hk => hk.elim
  | .goto _, _, _, hk => hk.elim
  | .refuse _, _, _, hk => hk.elim

structure Done (al : Bool) (st : St) (v : AV) (objs : List Obj) (R : AV -> List (Option Obj) -> Prop) : Prop where
  out : ∃ r os, (Fits st v os = true /\ r.small = true /\ boxesKept objs os = true) /\ resOk al st v r /\ backOk al st 0 os /\ R r os

def endsVC (T : Nat -> Option TI) (rs : List ResultVar) (al : Bool) (objs : List Obj) (R : AV -> List (Option Obj) -> Prop) (e : Exit) (st : St) : Prop :=
  match e with
  | .normal => match st.ret T rs with
    | some v => Done al st v objs R
    | none => False
  | .ret => match st.ret T rs with
    | some v => Done al st v objs R
    | none => False
  | _ => False

theorem endsVC_ends {rs : List ResultVar} {al : Bool} {objs : List Obj} {R : AV -> List (Option Obj) -> Prop} {e : Exit} {st : St} (h : endsVC T rs al objs R e st) : EndsM T rs al objs R e st := by
  have key : (match st.ret T rs with
    | some v => Done al st v objs R
    | none => False) -> ∃ v r os, st.ret T rs = some v /\ (Fits st v os = true /\ r.small = true /\ boxesKept objs os = true) /\ resOk al st v r /\ backOk al st 0 os /\ R r os := by
    intro h
    split at h
    · rename_i v hv
      obtain ⟨r, os, h1, h2, h3, h4⟩ := h.out
      exact ⟨v, r, os, hv, h1, h2, h3, h4⟩
    · exact h.elim
  cases e with
  | normal => exact ⟨trivial, key h⟩
  | ret => exact ⟨trivial, key h⟩
  | _ => exact h.elim

theorem sound_vc (hm : P.follows .mixedOrders = true) {f : FuncId} {fn : Func} {c : Code} {n : Nat} {rs : List ResultVar} {al : Bool} {args : List AV} {objs : List Obj} {R : AV -> List (Option Obj) -> Prop} (htab : TabOk P T) (hf : P.funcs[f]? = some fn) (hb : fn.body = some c) (hn : fn.ntmps = n) (hr : fn.results.toList = rs)
    (hname : (fn.name == "runtime.NumGoroutine") = false) {A : Sy} (hA : A = sy) (h : vc A P T c (entryM A.len n args objs) (endsVC T rs al objs R)) : SoundM P f al args objs R := by
  subst hn
  subst hr
  subst hA
  exact sound_of_body htab hf hb hname (awp_mono (vc_sound htab hm c _ _ h) fun e s hq => endsVC_ends hq)

end Go.Proofs.YtihfpbhalnedcaaGreat.AM

namespace Go.Proofs.YtihfpbhalnedcaaGreat.AM
open Go Go.RowKit

variable {P : Program} {T : Nat -> Option TI}

def dstsO : List Oper -> List Nat
  | [] => []
  | o :: r => match o.dst with
    | some d => d :: dstsO r
    | none => dstsO r

def dsts : Code -> List Nat
  | .seq a b => dsts a ++ dsts b
  | .cond _ a b => dsts a ++ dsts b
  | .block _ c => dsts c
  | .region _ ops _ => dstsO ops.toList
  | .loop c => dsts c
  | _ => []

def hasN (n : Nat) : List Nat -> Bool
  | [] => false
  | m :: r => nbeq m n || hasN n r

def rmL {α : Type} (ks : List Nat) : List (Nat × α) -> List (Nat × α)
  | [] => []
  | (k, v) :: r => bif hasN k ks then rmL ks r else (k, v) :: rmL ks r

def hav (s : St) (ds ks : List Nat) (ts : List (Nat × AV)) (os : List (Nat × Obj)) : St := { s with tmps := ts ++ rmL ds s.tmps, sto := os ++ rmL ks s.sto }

def idsOver (over : Ren) : List Nat -> Ren
  | [] => over
  | k :: r => bif (lk over k).isSome then idsOver over r else idsOver ((k, (k, 0)) :: over) r

def lows : List Nat -> List Nat
  | [] => []
  | u :: r => bif nblt u lab0 then u :: lows r else lows r

def renOf (t : St) (over : Ren) : Ren := idsOver over (t.sto.map (·.1) ++ lows t.used)

structure Less (s t : St) : Prop where
  out : Weak s t

theorem Less.to (over : Ren) {s t : St} (hρ : ((renOf t over).ok && (renOf t over).low s.used && (renOf t over).all (fun p => t.used.elem p.1)) = true) (hn : t.nt = s.nt)
    (ht : lkAll t.tmps fun k v => lk s.tmps k = some (v.back (renOf t over)) /\ v.fits (renOf t over) = true) (ho : lkAll t.sto fun i o => stoOk s (renOf t over) i o) : Less s t := by
  simp only [Bool.and_eq_true] at hρ
  exact ⟨Weak.to (renOf t over) hρ.1.1 hn hρ.1.2 hρ.2 ht ho⟩

theorem Less.refl (s : St) : Less s s := ⟨.refl s⟩
theorem Less.trans {s t u : St} (h : Less s t) (k : Less t u) : Less s u := ⟨h.out.trans k.out⟩

structure Again {ι : Type} (F : ι -> St) (I : ι -> Prop) (μ : ι -> Nat) (i : ι) (s : St) : Prop where
  out : ∃ j, μ j < μ i /\ I j /\ Weak s (F j)

theorem Again.on {ι : Type} {F : ι -> St} {I : ι -> Prop} {μ : ι -> Nat} {i : ι} {s : St} (j : ι) (h1 : μ j < μ i) (h2 : I j) (h3 : Less s (F j)) : Again F I μ i s := ⟨j, h1, h2, h3.out⟩

def loopVC {ι : Type} (F : ι -> St) (I : ι -> Prop) (μ : ι -> Nat) (i : ι) (Q : Exit -> St -> Prop) (e : Exit) (s : St) : Prop :=
  match e with
  | .normal => Again F I μ i s
  | e => Q e s

theorem ALoop.ind {ι : Type} (F : ι -> St) (I : ι -> Prop) (μ : ι -> Nat) (i₀ : ι) (htab : TabOk P T) (hm : P.follows .mixedOrders = true) {c : Code} {Q : Exit -> St -> Prop} {s : St} {A : Sy} (hA : A = sy) (hst : Less s (F i₀)) (h₀ : I i₀)
    (round : ∀ i, I i -> vc A P T c (F i) (loopVC F I μ i Q)) : ALoop P c Q s := by
  subst hA
  refine ⟨awp_loop (fun n s => ∃ i, μ i = n /\ I i /\ s = F i) (μ i₀) (F i₀) hst.out ⟨i₀, rfl, h₀, rfl⟩ ?_⟩
  rintro n s' ⟨i, rfl, hi, rfl⟩
  refine awp_mono (vc_sound htab hm c _ _ (round i hi)) fun e s'' hq => ?_
  cases e with
  | normal =>
    obtain ⟨j, h1, h2, h3⟩ := hq.out
    exact ⟨μ j, F j, h1, ⟨j, rfl, h2, rfl⟩, h3⟩
  | _ => exact hq

theorem ALoop.go {ι : Type} (ts : ι -> List (Nat × AV)) (ks : List Nat) (os : ι -> List (Nat × Obj)) (I : ι -> Prop) (μ : ι -> Nat) (i₀ : ι) (htab : TabOk P T) (hm : P.follows .mixedOrders = true) {c : Code} {Q : Exit -> St -> Prop} {s : St} {A : Sy} (hA : A = sy)
    (h₀ : I i₀) (hst : Less s (hav s (dsts c) ks (ts i₀) (os i₀)))
    (round : ∀ i, I i -> vc A P T c (hav s (dsts c) ks (ts i) (os i)) (loopVC (fun i => hav s (dsts c) ks (ts i) (os i)) I μ i Q)) : ALoop P c Q s :=
  ALoop.ind _ I μ i₀ htab hm hA hst h₀ round

theorem ALoop.pre {c : Code} {Q : Exit -> St -> Prop} {s s' : St} (h : Less s s') (k : ALoop P c Q s') : ALoop P c Q s :=
  ⟨awp_weak h.out k.out⟩

theorem Sim.slot {E : Env} {s : St} {a : Act} (hs : Sim E s a) {t : Nat} {v v' : AV} (hv : lk s.tmps t = some v) (h : ∀ x, Rel E v x -> Rel E v' x) : Sim E { s with tmps := (t, v') :: s.tmps } a := by
  refine ⟨hs.wf, hs.defers, hs.size, fun k u hu => ?_, hs.sto, hs.used, hs.keys⟩
  simp only [lk_cons] at hu
  by_cases he : t = k
  · subst he
    rw [if_pos rfl] at hu
    obtain rfl := Option.some.inj hu
    obtain ⟨x, hx, hr⟩ := hs.tmps t v hv
    exact ⟨x, hx, h x hr⟩
  · rw [if_neg he] at hu; exact hs.tmps k u hu

theorem Less.slot {s : St} {t : Nat} {v v' : AV} (hv : lk s.tmps t = some v) (h : ∀ E a x, Sim E s a -> Rel E v x -> Rel E v' x) : Less s { s with tmps := (t, v') :: s.tmps } :=
  ⟨fun E a hs => ⟨E, rfl, Fr.refl E, hs.slot hv fun x hx => h E a x hs hx⟩⟩

theorem Less.init (L sz : Nat) (fl : Bool) {s : St} {t : Nat} {v : AV} (hv : lk s.tmps t = some v) (h : v = .nilS ∨ v = .emp) (hu : s.used.elem L = false) :
    Less s { s with tmps := (t, .ref false L 0 0) :: s.tmps, sto := (L, .arr sz fl []) :: s.sto, used := L :: s.used } := by
  refine ⟨fun E a hs => ⟨E, rfl, Fr.refl E, ?_⟩⟩
  have hne : ∀ o, lk s.sto L = some o -> False := fun o h => by have := hs.keys L o h; rw [hu] at this; cases this
  have hL : E.loc L = none := by
    cases hq : E.loc L with
    | none => rfl
    | some l => have := hs.used L l hq; rw [hu] at this; cases this
  have hs' : Sim E { s with sto := (L, .arr sz fl []) :: s.sto, used := L :: s.used } a := by
    refine ⟨hs.wf, hs.defers, hs.size, hs.tmps, fun id o h => ?_, fun id l h => ?_, fun id o h => ?_⟩
    · rw [lk_cons] at h
      by_cases he : L = id
      · subst he; rw [if_pos rfl] at h; obtain rfl := Option.some.inj h; exact .inl ⟨hL, rfl⟩
      · rw [if_neg he] at h; exact hs.sto id o h
    · have := hs.used id l h
      simp only [List.elem_iff] at this ⊢
      exact List.mem_cons_of_mem _ this
    · rw [lk_cons] at h
      by_cases he : L = id
      · subst he; simp
      · rw [if_neg he] at h
        have := hs.keys id o h
        simp only [List.elem_iff] at this ⊢
        exact List.mem_cons_of_mem _ this
  refine hs'.slot (t := t) (v := v) hv fun x hx => ?_
  rcases h with rfl | rfl
  · cases hx with
    | base _ _ h => cases h; exact .ref0 L 0 0 none rfl
  · cases hx with
    | base _ _ h => cases h; exact .ref0 L 0 0 _ rfl

end Go.Proofs.YtihfpbhalnedcaaGreat.AM

namespace Go.Proofs.YtihfpbhalnedcaaGreat.AM
open Go Go.RowKit

variable {P : Program} {T : Nat -> Option TI}

def AV.real (v : AV) : Prop := ∃ E x, Rel E v x
def Obj.real (o : Obj) : Prop := ∃ E id, ORel E id o

theorem wf_bounds {n : Int} (h : (Lit.int .i64 n).wf = true) : -9223372036854775808 <= n /\ n <= 9223372036854775807 := by
  rw [wf_iff] at h
  simpa [IntKind.min, IntKind.max, IntKind.signed, IntKind.bits] using h

theorem AV.real.int {k : IntKind} {n : Int} (h : (AV.int k n).real) : (Lit.int k n).wf = true := by
  obtain ⟨E, x, h⟩ := h
  exact (rel_int h).2

theorem AV.real.i64 {n : Int} (h : (AV.int .i64 n).real) : -9223372036854775808 <= n /\ n <= 9223372036854775807 := wf_bounds h.int

theorem AV.real.len {rows : List (List AV)} (h : (AV.ro rows).real) : rows.length <= maxLen := by
  obtain ⟨E, x, h⟩ := h
  exact rel_roLen h

theorem AV.real.cell {rows : List (List AV)} (h : (AV.ro rows).real) {r : List AV} (hr : r ∈ rows) {v : AV} (hv : v ∈ r) : v.real := by
  obtain ⟨E, x, h⟩ := h
  obtain ⟨i, hi⟩ := List.getElem?_of_mem hr
  obtain ⟨j, hj⟩ := List.getElem?_of_mem hv
  cases h with
  | base _ _ h =>
    cases h with
    | ro0 => cases hr
    | ro _ _ _ _ _ f h1 h2 h3 h4 h5 h6 h7 => exact ⟨E, f i j, .base _ _ (h7 i j r v hi hj)⟩

theorem AV.real.agg {cells : List AV} (h : (AV.agg cells).real) {v : AV} (hv : v ∈ cells) : v.real := by
  obtain ⟨E, x, h⟩ := h
  obtain ⟨j, hj⟩ := List.getElem?_of_mem hv
  cases h with
  | base _ _ h => cases h
  | agg _ xs h1 h2 h3 =>
    have hlt : j < xs.size := by rw [h1]; exact (List.getElem?_eq_some_iff.1 hj).1
    exact ⟨E, xs[j], h3 j v _ hj (Array.getElem?_eq_getElem hlt)⟩

theorem St.real.slot {st : St} (h : st.real) {t : Nat} {v : AV} (hq : lk st.tmps t = some v) : v.real := by
  obtain ⟨E, a, hs⟩ := h
  obtain ⟨x, _, hr⟩ := hs.tmps t v hq
  exact ⟨E, x, hr⟩

theorem SoundM.of_real {f : FuncId} {al : Bool} {args : List AV} {objs : List Obj} {R : AV -> List (Option Obj) -> Prop} (h0 : ∃ fn, P.funcs[f]? = some fn /\ (fn.name == "runtime.NumGoroutine") = false /\ fn.body.isNone = false)
    (h : (∀ v ∈ args, v.real) -> (∀ k o, lk (flats List.length 0 objs) k = some o -> o.real) -> SoundM P f al args objs R) : SoundM P f al args objs R := by
  refine ⟨h0, fun E xs h1 h2 h3 h4 h5 => (h (fun v hv => ?_) (fun id o hq => ⟨E, id, h5 id o hq⟩)).2 E xs h1 h2 h3 h4 h5⟩
  obtain ⟨j, hj⟩ := List.getElem?_of_mem hv
  have hlt : j < xs.size := by rw [h3]; exact (List.getElem?_eq_some_iff.1 hj).1
  exact ⟨_, xs[j], h4 j v _ hj (Array.getElem?_eq_getElem hlt)⟩

structure Cx (P : Program) (T : Nat -> Option TI) (A : Sy) : Prop where
  tab : TabOk P T
  mix : P.follows .mixedOrders = true
  eq : A = sy

variable {A : Sy}

theorem Cx.enc (C : Cx P T A) {α : Type} (f : α -> List AV) (l : List α) : A.enc f l = l.map f := by rw [C.eq]; rfl
theorem Cx.len (C : Cx P T A) (rows : List (List AV)) : A.len rows = rows.length := by rw [C.eq]; rfl
theorem Cx.lenE (C : Cx P T A) {α : Type} (f : α -> List AV) (l : List α) : A.len (A.enc f l) = l.length := by rw [C.len, C.enc, List.length_map]
theorem Cx.lenE' (C : Cx P T A) {α : Type} (f : α -> List AV) (l : List α) : (A.enc f l).length = l.length := by rw [C.enc, List.length_map]

theorem Cx.by (C : Cx P T A) {f : FuncId} {fn : Func} {c : Code} {n : Nat} {rs : List ResultVar} {al : Bool} {args : List AV} {objs : List Obj} {R : AV -> List (Option Obj) -> Prop} (hf : P.funcs[f]? = some fn) (hb : fn.body = some c) (hn : fn.ntmps = n) (hr : fn.results.toList = rs)
    (hname : (fn.name == "runtime.NumGoroutine") = false) (h : (∀ v ∈ args, v.real) -> (∀ k o, lk (flats List.length 0 objs) k = some o -> o.real) -> vc A P T c (entryM A.len n args objs) (endsVC T rs al objs R)) : SoundM P f al args objs R :=
  .of_real ⟨fn, hf, hname, by rw [hb]; rfl⟩ fun h1 h2 => sound_vc C.mix C.tab hf hb hn hr hname C.eq (h h1 h2)

theorem Arith.go {dr : Bool} {m n : Int} {e : Unit -> Int} {K : Int -> Prop} (h1 : -9223372036854775808 <= e () /\ e () <= 9223372036854775807) (h : ∀ x, x = e () -> K x) : Arith dr .i64 m n e K := by
  refine ⟨fun _ => ?_⟩
  rw [wrap_wf (k := .i64) (n := e ()) (by rw [wf_iff]; simp [IntKind.min, IntKind.max, IntKind.signed, IntKind.bits]; omega)]
  exact h _ rfl

theorem Arith.know {m n : Int} {e : Unit -> Int} {K : Int -> Prop} (h1 : -9223372036854775808 <= m /\ m <= 9223372036854775807 -> -9223372036854775808 <= n /\ n <= 9223372036854775807 -> -9223372036854775808 <= e () /\ e () <= 9223372036854775807)
    (h : ∀ x, x = e () -> -9223372036854775808 <= m /\ m <= 9223372036854775807 -> -9223372036854775808 <= n /\ n <= 9223372036854775807 -> K x) : Arith false .i64 m n e K := by
  refine ⟨fun hw => ?_⟩
  rcases hw with hw | ⟨hm, hn⟩
  · cases hw
  have hm := wf_bounds hm
  have hn := wf_bounds hn
  have h1 := h1 hm hn
  rw [wrap_wf (k := .i64) (n := e ()) (by rw [wf_iff]; simp [IntKind.min, IntKind.max, IntKind.signed, IntKind.bits]; omega)]
  exact h _ rfl hm hn

theorem RemA.go {dr : Bool} {k : IntKind} {m n : Int} {K : Int -> Prop} (h0 : n ≠ 0) (h : ∀ x, x = m.tmod n -> K x) : RemA dr k m n K := ⟨fun _ => ⟨h0, h _ rfl⟩⟩

theorem Test.lss {m n : Int} {K : Bool -> Prop} (h1 : m < n -> K true) (h2 : n <= m -> K false) : Test .lss m n K := by
  refine ⟨?_⟩
  by_cases h : m < n
  · rw [show tstB .lss m n = true by simp [tstB, h]]; exact h1 h
  · rw [show tstB .lss m n = false by simp [tstB]; omega]; exact h2 (by omega)
theorem Test.leq {m n : Int} {K : Bool -> Prop} (h1 : m <= n -> K true) (h2 : n < m -> K false) : Test .leq m n K := by
  refine ⟨?_⟩
  by_cases h : m <= n
  · rw [show tstB .leq m n = true by simp [tstB, h]]; exact h1 h
  · rw [show tstB .leq m n = false by simp [tstB]; omega]; exact h2 (by omega)
theorem Test.gtr {m n : Int} {K : Bool -> Prop} (h1 : n < m -> K true) (h2 : m <= n -> K false) : Test .gtr m n K := by
  refine ⟨?_⟩
  by_cases h : n < m
  · rw [show tstB .gtr m n = true by simp [tstB, h]]; exact h1 h
  · rw [show tstB .gtr m n = false by simp [tstB]; omega]; exact h2 (by omega)
theorem Test.geq {m n : Int} {K : Bool -> Prop} (h1 : n <= m -> K true) (h2 : m < n -> K false) : Test .geq m n K := by
  refine ⟨?_⟩
  by_cases h : n <= m
  · rw [show tstB .geq m n = true by simp [tstB, h]]; exact h1 h
  · rw [show tstB .geq m n = false by simp [tstB]; omega]; exact h2 (by omega)
theorem Test.eql {m n : Int} {K : Bool -> Prop} (h1 : m = n -> K true) (h2 : m ≠ n -> K false) : Test .eql m n K := by
  refine ⟨?_⟩
  by_cases h : m = n
  · rw [show tstB .eql m n = true by simp [tstB, h]]; exact h1 h
  · rw [show tstB .eql m n = false by simp [tstB, h]]; exact h2 h
theorem Test.neq {m n : Int} {K : Bool -> Prop} (h1 : m ≠ n -> K true) (h2 : m = n -> K false) : Test .neq m n K := by
  refine ⟨?_⟩
  by_cases h : m = n
  · rw [show tstB .neq m n = false by simp [tstB, h]]; exact h2 h
  · rw [show tstB .neq m n = true by simp [tstB, h]]; exact h1 h
theorem Test.is {op : BinOp} {m n : Int} {K : Bool -> Prop} (b : Bool) (hb : tstB op m n = b) (h : K b) : Test op m n K := ⟨by rw [hb]; exact h⟩

theorem Len.go {n : Nat} {K : Int -> Prop} (h : ∀ x : Int, x = n -> n <= maxLen -> K x) : Len false n K := ⟨⟨fun e => (by cases e), fun hm => h _ rfl hm⟩⟩
theorem Len.dr {dr : Bool} {n : Nat} {K : Int -> Prop} (hm : n <= maxLen) (h : ∀ x : Int, x = n -> K x) : Len dr n K := ⟨⟨fun e => hm, fun hm => h _ rfl⟩⟩
theorem LenR.enc (C : Cx P T A) {α : Type} {f : α -> List AV} {l : List α} {K : Int -> Prop} (h : ∀ x : Int, x = l.length -> l.length <= maxLen -> K x) : LenR false (A.enc f l) K :=
  ⟨⟨fun e => (by cases e), fun hm => h _ (by rw [C.lenE']) (by rwa [C.lenE'] at hm)⟩⟩
theorem LenR.dr (C : Cx P T A) {dr : Bool} {α : Type} {f : α -> List AV} {l : List α} {K : Int -> Prop} (hm : l.length <= maxLen) (h : ∀ x : Int, x = l.length -> K x) : LenR dr (A.enc f l) K :=
  ⟨⟨fun e => by rwa [C.lenE'], fun hm => h _ (by rw [C.lenE'])⟩⟩

theorem ElemRo.enc (C : Cx P T A) {α : Type} {f : α -> List AV} {l : List α} {size : Nat} {n : Int} {K : List AV -> Prop} (hsz : ∀ x, (f x).length = size) (h0 : 0 <= n) (hl : n < l.length) (h : ∀ x, l[n.toNat]? = some x -> K (f x)) : ElemRo (A.enc f l) size n K := by
  have hlt : n.toNat < l.length := by omega
  refine ⟨h0, f l[n.toNat], ?_, hsz _, h _ (List.getElem?_eq_getElem hlt)⟩
  rw [C.enc]; simp [hlt]

theorem ElemRo.at (C : Cx P T A) {α : Type} {f : α -> List AV} {l : List α} {size : Nat} {n : Int} {K : List AV -> Prop} {x : α} (hsz : (f x).length = size) (h0 : 0 <= n) (hx : l[n.toNat]? = some x) (h : K (f x)) : ElemRo (A.enc f l) size n K := by
  refine ⟨h0, f x, ?_, hsz, h⟩
  rw [C.enc]; simp [hx]

theorem ElemRef.go {off len s size : Nat} {rows : List (List AV)} {n : Int} {K : Nat -> Prop} (hs : s = size) (h0 : 0 <= n) (hl : n < len) (hr : off + len <= rows.length) (h : ∀ row, row = off + n.toNat -> K row) : ElemRef off len s size rows n K :=
  ⟨⟨h0, hl⟩, hs, by omega, h _ rfl⟩

theorem Row.enc (C : Cx P T A) {α : Type} {f : α -> List AV} {l : List α} {row : Nat} {K : List AV -> Prop} (hl : row < l.length) (h : ∀ x, l[row]? = some x -> K (f x)) : Row (A.enc f l) row K := by
  refine ⟨f l[row], ?_, h _ (List.getElem?_eq_getElem hl)⟩
  rw [C.enc]; simp [hl]

theorem RowSet.enc (C : Cx P T A) {α : Type} {f : α -> List AV} {l : List α} {row fld size : Nat} {us : List AV} {K : List (List AV) -> Prop} (x y : α) (hx : l[row]? = some x) (hu : us.length = size) (hle : fld + us.length <= (f x).length) (hy : setMany (f x) fld us = f y)
    (h : ∀ l', l' = l.set row y -> K (A.enc f l')) : RowSet (A.enc f l) row fld size us K := by
  refine ⟨f x, ?_, hu, hle, ?_⟩
  · rw [C.enc]; simp [hx]
  · have := h _ rfl
    rw [C.enc] at this ⊢
    rw [hy, <- List.map_set]; exact this

theorem CutRo.enc (C : Cx P T A) {α : Type} {f : α -> List AV} {l : List α} {size : Nat} {lo hi : Int} {K : List (List AV) -> Prop} (hsz : ∀ x, (f x).length = size) (h0 : 0 <= lo) (h1 : lo <= hi) (h2 : hi <= l.length) (h : ∀ l', l' = (l.take hi.toNat).drop lo.toNat -> K (A.enc f l')) : CutRo size (A.enc f l) lo hi K := by
  refine ⟨⟨h0, h1, by rw [C.lenE']; exact h2⟩, fun r hr => ?_, ?_⟩
  · rw [C.enc] at hr
    obtain ⟨x, _, rfl⟩ := List.mem_map.1 hr
    exact hsz x
  · have := h _ rfl
    rw [C.enc] at this ⊢
    rw [<- List.map_take, <- List.map_drop]; exact this

theorem CutRoE.enc (C : Cx P T A) {α : Type} {f : α -> List AV} {l : List α} {size : Nat} {lo : Int} {K : List (List AV) -> Prop} (hsz : ∀ x, (f x).length = size) (h0 : 0 <= lo) (h1 : lo <= l.length) (h : ∀ l', l' = l.drop lo.toNat -> K (A.enc f l')) : CutRoE size (A.enc f l) lo K := by
  refine ⟨⟨h0, by rw [C.lenE']; exact h1⟩, fun r hr => ?_, ?_⟩
  · rw [C.enc] at hr
    obtain ⟨x, _, rfl⟩ := List.mem_map.1 hr
    exact hsz x
  · have := h _ rfl
    rw [C.enc] at this ⊢
    rw [<- List.map_drop]; exact this

theorem CutRef.go {p : Bool} {off len s size : Nat} {rows : List (List AV)} {l h : Int} {K : Bool -> Nat -> Nat -> Prop} (hs : s = size) (h0 : 0 <= l) (h1 : l <= h) (h2 : h <= len) (hr : off + len <= rows.length)
    (hk : ∀ p' off' len', off' = off + l.toNat -> len' = (h - l).toNat -> K p' off' len') : CutRef p off len s size rows l h K :=
  ⟨⟨h0, h1, .inl h2⟩, hr, hs, hk _ _ _ rfl rfl⟩

theorem Part.enc (C : Cx P T A) {α : Type} {f : α -> List AV} {l : List α} {off len : Nat} {K : List (List AV) -> Prop} (hl : off + len <= l.length) (h : ∀ l', l' = (l.drop off).take len -> K (A.enc f l')) : Part off len (A.enc f l) K := by
  refine ⟨by rw [C.lenE']; exact hl, ?_⟩
  have := h _ rfl
  rw [C.enc] at this ⊢
  rw [<- List.map_drop, <- List.map_take]; exact this

end Go.Proofs.YtihfpbhalnedcaaGreat.AM

namespace Go.Proofs.YtihfpbhalnedcaaGreat.AM
open Go Go.RowKit

variable {P : Program} {T : Nat -> Option TI} {A : Sy}

theorem ACall.of {f : FuncId} {al dp : Bool} {avs bs : List AV} {objs : List Obj} {R : AV -> List (Option Obj) -> Prop} {lab : Nat} {st : St} {K : AV -> Dl -> Prop} (h : SoundM P f al bs objs R) (hg : Gives st al dp avs bs objs)
    (hk : ∀ v os, R v os -> backChk st (rhoA avs bs) lab objs os v = true /\ K (adopt A.len lab v) (backD dp A.len st avs bs objs lab os v)) : ACall A false P f avs lab st K :=
  ⟨al, dp, bs, objs, R, h, hg, fun e => (by cases e), hk⟩

theorem ACall.dr {dr : Bool} {f : FuncId} {al dp : Bool} {avs bs : List AV} {objs : List Obj} {R : AV -> List (Option Obj) -> Prop} {lab : Nat} {st : St} {K : AV -> Dl -> Prop} (h : SoundM P f al bs objs R) (hg : Gives st al dp avs bs objs) (hn : bs.all AV.noR = true)
    (v₀ : AV) (os₀ : List (Option Obj)) (hR : R v₀ os₀) (hu : ∀ v os, R v os -> v = v₀ /\ os = os₀)
    (hk : backChk st (rhoA avs bs) lab objs os₀ v₀ = true /\ K (adopt A.len lab v₀) (backD dp A.len st avs bs objs lab os₀ v₀)) : ACall A dr P f avs lab st K :=
  ⟨al, dp, bs, objs, R, h, hg, fun _ => ⟨hn, v₀, os₀, hR, hu⟩, fun v os hv => by obtain ⟨rfl, rfl⟩ := hu v os hv; exact hk⟩

theorem ACall.fn {f : FuncId} {al dp : Bool} {avs bs : List AV} {r : AV} {lab : Nat} {st : St} {K : AV -> Dl -> Prop} (h : SoundM P f al bs [] (fun v os => v = r /\ os = [])) (hg : Gives st al dp avs bs [])
    (hk : backChk st (rhoA avs bs) lab [] [] r = true /\ K (adopt A.len lab r) (backD dp A.len st avs bs [] lab [] r)) : ACall A false P f avs lab st K :=
  .of h hg fun v os hv => by obtain ⟨rfl, rfl⟩ := hv; exact hk

theorem ACall.test {f : FuncId} {al dp : Bool} {avs bs : List AV} {p : Prop} {lab : Nat} {st : St} {K : AV -> Dl -> Prop} (h : SoundM P f al bs [] (fun v os => (∃ b : Bool, (b = true ↔ p) /\ v = .bool b) /\ os = [])) (hg : Gives st al dp avs bs [])
    (h1 : p -> K (.bool true) (backD dp A.len st avs bs [] lab [] (.bool true))) (h2 : ¬ p -> K (.bool false) (backD dp A.len st avs bs [] lab [] (.bool false))) : ACall A false P f avs lab st K :=
  .of h hg fun v os hv => by
    obtain ⟨⟨b, hb, rfl⟩, rfl⟩ := hv
    cases b with
    | true => exact ⟨rfl, h1 (hb.1 rfl)⟩
    | false => exact ⟨rfl, h2 fun hp => by cases hb.2 hp⟩

theorem ACall.num {f : FuncId} {al dp : Bool} {avs bs : List AV} {k : IntKind} {p : Int -> Prop} {lab : Nat} {st : St} {K : AV -> Dl -> Prop} (h : SoundM P f al bs [] (fun v os => (∃ n : Int, p n /\ v = .int k n) /\ os = [])) (hg : Gives st al dp avs bs [])
    (hk : ∀ n, p n -> K (.int k n) (backD dp A.len st avs bs [] lab [] (.int k n))) : ACall A false P f avs lab st K :=
  .of h hg fun v os hv => by
    obtain ⟨⟨n, hn, rfl⟩, rfl⟩ := hv
    exact ⟨rfl, hk n hn⟩

theorem ACall.testD {dr : Bool} {f : FuncId} {al dp : Bool} {avs bs : List AV} {p : Prop} {lab : Nat} {st : St} {K : AV -> Dl -> Prop} (h : SoundM P f al bs [] (fun v os => (∃ b : Bool, (b = true ↔ p) /\ v = .bool b) /\ os = [])) (hg : Gives st al dp avs bs []) (hn : bs.all AV.noR = true)
    (h1 : p -> K (.bool true) (backD dp A.len st avs bs [] lab [] (.bool true))) (h2 : ¬ p -> K (.bool false) (backD dp A.len st avs bs [] lab [] (.bool false))) : ACall A dr P f avs lab st K := by
  by_cases hp : p
  · refine .dr h hg hn (.bool true) [] ⟨⟨true, by simp [hp], rfl⟩, rfl⟩ ?_ ⟨rfl, h1 hp⟩
    rintro v os ⟨⟨b, hb, rfl⟩, rfl⟩
    exact ⟨by rw [hb.2 hp], rfl⟩
  · refine .dr h hg hn (.bool false) [] ⟨⟨false, by simp [hp], rfl⟩, rfl⟩ ?_ ⟨rfl, h2 hp⟩
    rintro v os ⟨⟨b, hb, rfl⟩, rfl⟩
    refine ⟨?_, rfl⟩
    cases b with
    | true => exact absurd (hb.1 rfl) hp
    | false => rfl

theorem ACall.val {ι : Type} {r : ι -> AV} {os : ι -> List (Option Obj)} {e : ι} {dr : Bool} {f : FuncId} {al dp : Bool} {avs bs : List AV} {objs : List Obj} {lab : Nat} {st : St} {K : AV -> Dl -> Prop} (h : SoundM P f al bs objs (fun v o => v = r e /\ o = os e)) (hg : Gives st al dp avs bs objs) (hn : (!dr || bs.all AV.noR) = true)
    (hk : ∀ x, x = e -> backChk st (rhoA avs bs) lab objs (os x) (r x) = true /\ K (adopt A.len lab (r x)) (backD dp A.len st avs bs objs lab (os x) (r x))) : ACall A dr P f avs lab st K := by
  refine ⟨al, dp, bs, objs, _, h, hg, fun e' => ?_, fun v o hv => ?_⟩
  · subst e'
    exact ⟨by simpa using hn, _, _, ⟨rfl, rfl⟩, fun v o hv => hv⟩
  · obtain ⟨rfl, rfl⟩ := hv
    exact hk e rfl

theorem ACall.int {e : Int} {k : IntKind} {dr : Bool} {f : FuncId} {al dp : Bool} {avs bs : List AV} {lab : Nat} {st : St} {K : AV -> Dl -> Prop} (h : SoundM P f al bs [] (fun v o => v = .int k e /\ o = [])) (hg : Gives st al dp avs bs []) (hn : (!dr || bs.all AV.noR) = true)
    (hk : ∀ x, x = e -> K (.int k x) (backD dp A.len st avs bs [] lab [] (.int k x))) : ACall A dr P f avs lab st K :=
  ACall.val (r := fun x => AV.int k x) (os := fun _ => []) (e := e) h hg hn fun x hx => ⟨rfl, hk x hx⟩

theorem ACall.own {α : Type} {g : α -> List AV} {e : List α} {s : Nat} {fl : Bool} {dr : Bool} {f : FuncId} {al dp : Bool} {avs bs : List AV} {lab : Nat} {st : St} {K : AV -> Dl -> Prop} (C : Cx P T A) (h : SoundM P f al bs [] (fun v o => v = .own s fl (A.enc g e) /\ o = [])) (hg : Gives st al dp avs bs []) (hn : (!dr || bs.all AV.noR) = true)
    (hb : inLab lab lab = true)
    (hk : ∀ x n, x = e -> n = x.length -> K (.ref false lab 0 n) (backD dp A.len st avs bs [] lab [] (.own s fl (A.enc g x)))) : ACall A dr P f avs lab st K :=
  ACall.val (r := fun x => AV.own s fl (A.enc g x)) (os := fun _ => []) (e := e) h hg hn fun x hx => by
    refine ⟨?_, ?_⟩
    · show (true && true && true && (inLab lab lab && true)) = true
      rw [hb]; rfl
    · have := hk x _ hx rfl
      show K (.ref false lab 0 (A.len (A.enc g x))) _
      rw [C.lenE]; exact this

theorem ACall.mut1 {α : Type} {g : α -> List AV} {s : Nat} {fl : Bool} {e : Int} {l : List α} {dr : Bool} {f : FuncId} {al dp : Bool} {avs bs : List AV} {objs : List Obj} {lab : Nat} {st : St} {K : AV -> Dl -> Prop} (h : SoundM P f al bs objs (fun v o => v = .int .i64 e /\ o = [some (.arr s fl (A.enc g l))])) (hg : Gives st al dp avs bs objs) (hn : (!dr || bs.all AV.noR) = true)
    (hk : ∀ x m, x = e -> m = l -> backChk st (rhoA avs bs) lab objs [some (.arr s fl (A.enc g m))] (.int .i64 x) = true /\ K (.int .i64 x) (backD dp A.len st avs bs objs lab [some (.arr s fl (A.enc g m))] (.int .i64 x))) : ACall A dr P f avs lab st K :=
  ACall.val (r := fun x : Int × List α => AV.int .i64 x.1) (os := fun x => [some (.arr s fl (A.enc g x.2))]) (e := (e, l)) h hg hn fun x hx => by subst hx; exact hk _ _ rfl rfl

theorem ACall.mut2 {α β : Type} {g : α -> List AV} {g' : β -> List AV} {s s' : Nat} {fl fl' : Bool} {e : Int} {l : List α} {l' : List β} {dr : Bool} {f : FuncId} {al dp : Bool} {avs bs : List AV} {objs : List Obj} {lab : Nat} {st : St} {K : AV -> Dl -> Prop} (h : SoundM P f al bs objs (fun v o => v = .int .i64 e /\ o = [some (.arr s fl (A.enc g l)), some (.arr s' fl' (A.enc g' l'))])) (hg : Gives st al dp avs bs objs) (hn : (!dr || bs.all AV.noR) = true)
    (hk : ∀ x m m', x = e -> m = l -> m' = l' -> backChk st (rhoA avs bs) lab objs [some (.arr s fl (A.enc g m)), some (.arr s' fl' (A.enc g' m'))] (.int .i64 x) = true /\ K (.int .i64 x) (backD dp A.len st avs bs objs lab [some (.arr s fl (A.enc g m)), some (.arr s' fl' (A.enc g' m'))] (.int .i64 x))) : ACall A dr P f avs lab st K :=
  ACall.val (r := fun x : Int × List α × List β => AV.int .i64 x.1) (os := fun x => [some (.arr s fl (A.enc g x.2.1)), some (.arr s' fl' (A.enc g' x.2.2))]) (e := (e, l, l')) h hg hn fun x hx => by subst hx; exact hk _ _ _ rfl rfl rfl

abbrev Tests (P : Program) (f : FuncId) (args : List AV) (p : Prop) : Prop := SoundM P f false args [] (fun v os => (∃ b : Bool, (b = true ↔ p) /\ v = .bool b) /\ os = [])
abbrev Nums (P : Program) (f : FuncId) (args : List AV) (p : Int -> Prop) : Prop := SoundM P f false args [] (fun v os => (∃ n : Int, p n /\ v = .int .i64 n) /\ os = [])
abbrev Is1 (P : Program) (f : FuncId) (args : List AV) (r : AV) : Prop := SoundM P f false args [] (fun v os => v = r /\ os = [])

theorem Cx.lendLe (C : Cx P T A) {α : Type} {f : α -> List AV} {l : List α} {n : Nat} (h : n = l.length) : 0 + n <= (A.enc f l).length := by rw [C.lenE', h]; omega
theorem Cx.lendEq (C : Cx P T A) {α : Type} {f : α -> List AV} {l : List α} {n : Nat} (h : n = l.length) : A.enc f l = ((A.enc f l).drop 0).take n := by
  rw [h, List.drop_zero, <- C.lenE' f l, List.take_length]
theorem Cx.giveEq (C : Cx P T A) {α : Type} {f : α -> List AV} {l : List α} : A.enc f l = (A.enc f l).take (A.enc f l).length := by rw [List.take_length]

theorem MakeS.enc (C : Cx P T A) {α : Type} {f : α -> List AV} {us : List AV} (z : α) (hz : f z = us) {n : Int} {bytes : Nat} {K : Nat -> List (List AV) -> Prop} (h0 : 0 <= n) (hb : n.toNat * bytes <= maxBytes)
    (h : ∀ (N : Nat) (l : List α), (N : Int) = n -> l = List.replicate N z -> K N (A.enc f l)) : MakeS n n bytes us K := by
  refine ⟨h0, Int.le_refl _, hb, ?_⟩
  have := h n.toNat _ (by omega) rfl
  rw [C.enc, List.map_replicate, hz] at this
  exact this

theorem Test.eqB {m n : Int} {K : Bool -> Prop} (h : ∀ b, b = decide (m = n) -> K b) : Test .eql m n K := ⟨h _ rfl⟩

theorem NilT.ro (C : Cx P T A) {α : Type} {f : α -> List AV} {l : List α} {K : Bool -> Prop} (h1 : l = [] -> K true) (h2 : K false) : NilT (.ro (A.enc f l)) K :=
  ⟨⟨fun h => h1 (by rw [C.enc] at h; exact List.map_eq_nil_iff.1 h), h2⟩⟩

def Plain {α : Type} (f : α -> List AV) : Prop := ∀ x, (f x).all AV.scal = true

theorem AppNew.enc (C : Cx P T A) {α : Type} {f : α -> List AV} {l : List α} {kd : SK} {fl : Bool} {size bytes : Nat} {K : Nat -> List (List AV) -> Prop} (hp : Plain f) (hk : kd ≠ .raw ∨ fl = true ∨ True) (hsz : ∀ x, (f x).length = size) (hb : l.length * bytes <= maxBytes)
    (h : ∀ n : Nat, n = l.length -> K n (A.enc f l)) : AppNew kd fl size bytes (A.enc f l) K := by
  refine ⟨?_, fun r hr => ?_, by rw [C.lenE']; exact hb, by rw [C.lenE']; exact h _ rfl⟩
  · have hs : ∀ r ∈ A.enc f l, ∀ v ∈ r, v.scal = true := fun r hr v hv => by
      rw [C.enc] at hr
      obtain ⟨x, _, rfl⟩ := List.mem_map.1 hr
      exact List.all_eq_true.1 (hp x) v hv
    cases kd <;> cases fl <;> first | trivial | exact hs | exact fun r hr v hv => (by have := hs r hr v hv; cases v <;> first | rfl | cases this)
  · rw [C.enc] at hr
    obtain ⟨x, _, rfl⟩ := List.mem_map.1 hr
    exact hsz x

theorem Done.to {al : Bool} {st : St} {v : AV} {objs : List Obj} {R : AV -> List (Option Obj) -> Prop} (r : AV) (os : List (Option Obj)) (h1 : (Fits st v os && r.small && boxesKept objs os) = true) (h2 : resOk al st v r) (h3 : backOk al st 0 os) (h4 : R r os) : Done al st v objs R := by
  simp only [Bool.and_eq_true] at h1
  exact ⟨r, os, ⟨h1.1.1, h1.1.2, h1.2⟩, h2, h3, h4⟩

theorem Done.bool {al : Bool} {st : St} {b : Bool} {p : Prop} (h : b = true ↔ p) : Done al st (.bool b) [] (fun v os => (∃ b : Bool, (b = true ↔ p) /\ v = .bool b) /\ os = []) :=
  ⟨.bool b, [], ⟨rfl, rfl, rfl⟩, rfl, trivial, ⟨b, h, rfl⟩, rfl⟩
theorem Done.yes {al : Bool} {st : St} {p : Prop} (h : p) : Done al st (.bool true) [] (fun v os => (∃ b : Bool, (b = true ↔ p) /\ v = .bool b) /\ os = []) := .bool ⟨fun _ => h, fun _ => rfl⟩
theorem Done.no {al : Bool} {st : St} {p : Prop} (h : ¬ p) : Done al st (.bool false) [] (fun v os => (∃ b : Bool, (b = true ↔ p) /\ v = .bool b) /\ os = []) := .bool ⟨fun e => (by cases e), fun e => absurd e h⟩
theorem Done.num {al : Bool} {st : St} {n : Int} {k : IntKind} {p : Int -> Prop} (h : p n) : Done al st (.int k n) [] (fun v os => (∃ n : Int, p n /\ v = .int k n) /\ os = []) :=
  ⟨.int k n, [], ⟨rfl, rfl, rfl⟩, rfl, trivial, ⟨n, h, rfl⟩, rfl⟩

theorem resOwn (C : Cx P T A) {al : Bool} {st : St} {p : Bool} {id n s : Nat} {α : Type} {f : α -> List AV} {l : List α} (hq : lk st.sto id = some (.arr s true (A.enc f l))) (hn : n = l.length) : resCell al st (.ref p id 0 n) (.own s true (A.enc f l)) := by
  simp only [resCell, hq]
  exact ⟨⟨trivial, trivial⟩, ⟨C.lendLe hn, C.lendEq hn⟩, trivial⟩

theorem resOwn1 (C : Cx P T A) {al : Bool} {st : St} {p : Bool} {id n s : Nat} {α : Type} {f : α -> List AV} {l : List α} (hq : lk st.sto id = some (.arr s true (A.enc f l))) (hn : n = l.length) : resOk al st (.ref p id 0 n) (.own s true (A.enc f l)) := by
  show resCell al st (.ref p id 0 n) (.own s true (A.enc f l))
  exact resOwn C hq hn

theorem Done.own (C : Cx P T A) {al : Bool} {st : St} {p : Bool} {id n s : Nat} {α : Type} {f : α -> List AV} {l e : List α} (hf : Fits st (.ref p id 0 n) [] = true) (hq : lk st.sto id = some (.arr s true (A.enc f l))) (hn : n = l.length) (he : l = e) :
    Done al st (.ref p id 0 n) [] (fun v os => v = .own s true (A.enc f e) /\ os = []) :=
  ⟨.own s true (A.enc f l), [], ⟨hf, rfl, rfl⟩, resOwn1 C hq hn, trivial, by rw [he], rfl⟩

end Go.Proofs.YtihfpbhalnedcaaGreat.AM

namespace Go.Proofs.YtihfpbhalnedcaaGreat.AM
open Go Go.RowKit

variable {P : Program} {T : Nat -> Option TI}

mutual
inductive Shape (T : Nat -> Option TI) : Nat -> List AV -> Prop
  | int (t : Nat) (i : TI) (k : IntKind) (n : Int) : T t = some i -> i.desc = .int k -> Shape T t [.int k n]
  | bool (t : Nat) (i : TI) (b : Bool) : T t = some i -> i.desc = .bool -> Shape T t [.bool b]
  | slice (t e : Nat) (i : TI) (rows : List (List AV)) : T t = some i -> i.desc = .slice e -> (∀ r ∈ rows, Shape T e r) -> Shape T t [.ro rows]
  | strct (t : Nat) (i : TI) (fs : List (Nat × Nat)) (avs : List AV) : T t = some i -> i.desc = .strct fs -> ShapeF T fs avs -> Shape T t avs
inductive ShapeF (T : Nat -> Option TI) : List (Nat × Nat) -> List AV -> Prop
  | nil : ShapeF T [] []
  | cons (o t : Nat) (fs : List (Nat × Nat)) (a b : List AV) : Shape T t a -> ShapeF T fs b -> ShapeF T ((o, t) :: fs) (a ++ b)
end

def contig (T : Nat -> Option TI) (K : Nat -> Prop) : Nat -> Nat -> List (Nat × Nat) -> Prop
  | off, size, [] => off = size
  | off, size, (o, t) :: r => o = off /\ K t /\ ∃ j, T t = some j /\ contig T K (off + j.size) size r

def ClosedT (T : Nat -> Option TI) (K : Nat -> Prop) : Prop :=
  ∀ t, K t -> ∃ i, T t = some i /\ (match i.desc with
    | .int _ => i.size = 1
    | .bool => i.size = 1
    | .slice e => i.size = 1 /\ K e /\ ∃ j, T e = some j /\ 0 < j.size
    | .strct fs => contig T K 0 i.size fs
    | _ => False)

theorem choose_rows {Q : Nat -> List AV -> Prop} : ∀ (n : Nat), (∀ i, i < n -> ∃ r, Q i r) -> ∃ rows : List (List AV), rows.length = n /\ ∀ (i : Nat) (r : List AV), rows[i]? = some r -> Q i r
  | 0, _ => ⟨[], rfl, fun i r h => by simp at h⟩
  | n + 1, h => by
    obtain ⟨rows, h1, h2⟩ := choose_rows n fun i hi => h i (by omega)
    obtain ⟨r, hr⟩ := h n (by omega)
    refine ⟨rows ++ [r], by simp [h1], fun i r' hi => ?_⟩
    rcases Nat.lt_or_ge i rows.length with hlt | hge
    · rw [List.getElem?_append_left hlt] at hi; exact h2 i r' hi
    · rw [List.getElem?_append_right hge] at hi
      have hlt := (List.getElem?_eq_some_iff.1 hi).1
      have e : i = n := by simp at hlt; omega
      subst e
      simp [h1] at hi
      subst hi; exact hr

section
variable {H : Type} {enc : TypeId × Value -> H} {w : World} {sp : Nat -> Bool} {held : Bool}

abbrev Old (w : World) : Nat -> Prop := fun b => b < w.heap.size

def ReadsTo (w : World) (avs : List AV) (cs : List Value) : Prop :=
  avs.length = cs.length /\ ∀ (j : Nat) (v : AV) (y : Value), avs[j]? = some v -> cs[j]? = some y -> RRel w (Old w) v y /\ y.oneCell' = true

theorem cell?_old {a : Addr} {v : Value} (h : w.cell? a = some v) : a.block < w.heap.size /\ a = ⟨a.block, a.off, none⟩ := by
  unfold World.cell? at h
  split at h
  · rename_i c _ _ hq
    refine ⟨(Array.getElem?_eq_some_iff.1 hq).1, ?_⟩
    cases a with
    | mk b o s =>
      cases s with
      | none => rfl
      | some s => simp at h
  · cases h

theorem contig_le {K : Nat -> Prop} {size : Nat} : ∀ {fs : List (Nat × Nat)} {off : Nat}, contig T K off size fs -> off <= size
  | [], off, h => Nat.le_of_eq h
  | (o, t) :: r, off, ⟨_, _, j, _, h⟩ => by have := contig_le h; omega

theorem cellsOf_tab (htab : TabOk P T) {t : Nat} {i : TI} (hi : T t = some i) : P.cellsOf t = i.size := by
  obtain ⟨info, _, _, h1, _, _, h4, _⟩ := htab.info hi
  simp [Program.cellsOf, h1, h4]

theorem reads_fields (htab : TabOk P T) {K : Nat -> Prop} {n : Nat} {cs : List Value} {size : Nat} (hlen : cs.length = size)
    (ih : ∀ (t : Nat) (cs : List Value) (x : DataW H × List MemPlace), K t -> DataW.trod enc P w 0 sp held n t cs = some x -> ∃ avs, Shape T t avs /\ ReadsTo w avs cs) :
    ∀ (fs : List (Nat × Nat)) (off : Nat), contig T K off size fs -> off <= size ->
      (∀ p ∈ fs, ∃ x : DataW H × List MemPlace, DataW.trod enc P w 0 sp held n p.2 ((cs.drop p.1).take (P.cellsOf p.2)) = some x) ->
      ∃ avs, ShapeF T fs avs /\ avs.length = size - off /\ ∀ (j : Nat) (v : AV) (y : Value), avs[j]? = some v -> cs[off + j]? = some y -> RRel w (Old w) v y /\ y.oneCell' = true
  | [], off, hc, hle, _ => by
    obtain rfl : off = size := hc
    exact ⟨[], .nil, by simp, fun j v y h => by simp at h⟩
  | (o, t) :: r, off, hc, hle, hf => by
    obtain ⟨rfl, hK, j, hj, hc⟩ := hc
    obtain ⟨x, hx⟩ := hf (o, t) (by simp)
    obtain ⟨a, ha, hal, har⟩ := ih t _ x hK hx
    have hle2 := contig_le hc
    rw [cellsOf_tab htab hj] at hal har
    have hal' : a.length = j.size := by rw [hal]; simp; omega
    obtain ⟨b, hb, hbl, hbr⟩ := reads_fields htab hlen ih r (o + j.size) hc hle2 fun p hp => hf p (List.mem_cons_of_mem _ hp)
    refine ⟨a ++ b, .cons o t r a b ha hb, by simp [hal', hbl]; omega, fun q v y hq hy => ?_⟩
    rcases Nat.lt_or_ge q a.length with h | h
    · rw [List.getElem?_append_left h] at hq
      refine har q v y hq ?_
      rw [List.getElem?_take_of_lt (by omega), List.getElem?_drop]
      exact hy
    · rw [List.getElem?_append_right h] at hq
      refine hbr (q - a.length) v y hq ?_
      rw [show o + j.size + (q - a.length) = o + q by omega]
      exact hy

theorem reads (htab : TabOk P T) {K : Nat -> Prop} (hK : ClosedT T K) : ∀ (n : Nat) (t : Nat) (cs : List Value) (x : DataW H × List MemPlace), K t -> DataW.trod enc P w 0 sp held n t cs = some x -> ∃ avs, Shape T t avs /\ ReadsTo w avs cs
  | 0, t, cs, x, _, h => by simp [DataW.trod] at h
  | n + 1, t, cs, x, ht, h => by
    obtain ⟨i, hi, hd⟩ := hK t ht
    obtain ⟨d, hu, htd⟩ := htab.und hi
    cases hdesc : i.desc with
    | int k =>
      rw [hdesc] at htd
      have : d = .int k := by cases d <;> simp [tdOf] at htd; subst htd; rfl
      subst this
      obtain ⟨m, rfl, _, hw⟩ := DataW.trod_int hu h
      refine ⟨[.int k m], .int t i k m hi hdesc, rfl, fun j v y hj hy => ?_⟩
      cases j with
      | zero => simp at hj hy; subst hj; subst hy; exact ⟨.int k m hw, rfl⟩
      | succ j => simp at hj
    | bool =>
      rw [hdesc] at htd
      have : d = .bool := by cases d <;> simp [tdOf] at htd; rfl
      subst this
      obtain ⟨b, rfl, _⟩ := DataW.trod_bool hu h
      refine ⟨[.bool b], .bool t i b hi hdesc, rfl, fun j v y hj hy => ?_⟩
      cases j with
      | zero => simp at hj hy; subst hj; subst hy; exact ⟨.bool b, rfl⟩
      | succ j => simp at hj
    | slice e =>
      rw [hdesc] at hd htd
      have hde := tdOf_slice htd
      subst hde
      obtain ⟨_, hKe, j, hj, hpos⟩ := hd
      rcases DataW.trod_slice hu h with ⟨rfl, _⟩ | ⟨a, len, cap, elems, rest, n', hn', rfl, rfl, _, hl, hm, hlen, hel, _, _⟩
      · refine ⟨[.ro []], .slice t e i [] hi hdesc (fun r hr => by cases hr), rfl, fun q v y hq hy => ?_⟩
        cases q with
        | zero => simp at hq hy; subst hq; subst hy; exact ⟨.ro0 none 0 (by simp [maxLen]) (fun _ => rfl), rfl⟩
        | succ q => simp at hq
      · obtain rfl : n' = n := by omega
        rw [cellsOf_tab htab hj] at hel
        obtain ⟨rows, hrl, hrows⟩ := choose_rows (Q := fun q r => ∃ cs', w.cells? 0 (a.add (q * j.size)) j.size = some cs' /\ Shape T e r /\ ReadsTo w r cs') len fun q hq => by
          have h1 := hel q hq
          rw [List.getElem?_eq_getElem (by omega)] at h1
          obtain ⟨cs', g1, g2⟩ := Option.bind_eq_some_iff.1 h1
          obtain ⟨r, g3, g4⟩ := reads htab hK n' e cs' _ hKe g2
          exact ⟨r, cs', g1, g3, g4⟩
        refine ⟨[.ro rows], .slice t e i rows hi hdesc (fun r hr => ?_), rfl, fun q v y hq hy => ?_⟩
        · obtain ⟨q, hq⟩ := List.getElem?_of_mem hr
          obtain ⟨cs', _, g, _⟩ := hrows q r hq
          exact g
        · cases q with
          | succ q => simp at hq
          | zero =>
            simp at hq hy
            subst hq; subst hy
            refine ⟨?_, rfl⟩
            by_cases hne : rows = []
            · subst hne
              simp at hrl
              subst hrl
              exact .ro0 (some a) cap hm (fun e => by cases e)
            · have h0 : 0 < rows.length := List.length_pos_iff.2 hne
              have ha : a.block < w.heap.size /\ a = ⟨a.block, a.off, none⟩ := by
                obtain ⟨cs', g1, g2, g3⟩ := hrows 0 rows[0] (List.getElem?_eq_getElem h0)
                obtain ⟨_, k1, k2⟩ := World.cells?_some g1
                have := k2 0 hpos
                rw [List.getElem?_eq_getElem (by omega)] at this
                have hh : a.add (0 * j.size) = a := by simp [Addr.add]
                rw [hh] at this
                have h00 : a.add 0 = a := by simp [Addr.add]
                rw [h00] at this
                exact cell?_old this
              obtain ⟨hb, hae⟩ := ha
              rw [hae, <- hrl]
              refine .ro rows a.block a.off cap j.size (fun q c => (w.cell? ⟨a.block, a.off + q * j.size + c, none⟩).getD default) hne (by omega) hm hb (fun q r hq => ?_) (fun q c r v hq hc => ?_) (fun q c r v hq hc => ?_)
              · obtain ⟨cs', g1, g2, g3⟩ := hrows q r hq
                obtain ⟨_, k1, k2⟩ := World.cells?_some g1
                rw [g3.1, k1]
              · obtain ⟨cs', g1, g2, g3⟩ := hrows q r hq
                obtain ⟨_, k1, k2⟩ := World.cells?_some g1
                have hc' : c < j.size := by
                  have := (List.getElem?_eq_some_iff.1 hc).1
                  rw [g3.1, k1] at this; exact this
                have := k2 c hc'
                rw [hae, Addr.add_mid, Addr.add_mid, List.getElem?_eq_getElem (by omega)] at this
                rw [this]; rfl
              · obtain ⟨cs', g1, g2, g3⟩ := hrows q r hq
                obtain ⟨_, k1, k2⟩ := World.cells?_some g1
                have hc' : c < j.size := by
                  have := (List.getElem?_eq_some_iff.1 hc).1
                  rw [g3.1, k1] at this; exact this
                have := k2 c hc'
                rw [hae, Addr.add_mid, Addr.add_mid, List.getElem?_eq_getElem (by omega)] at this
                simp only [this, Option.getD_some]
                exact (g3.2 c v _ hc (List.getElem?_eq_getElem (by omega))).1
    | strct fs =>
      rw [hdesc] at hd htd
      have : ∃ fs', d = .struct fs' := by cases d <;> simp [tdOf] at htd; exact ⟨_, rfl⟩
      obtain ⟨fs', rfl⟩ := this
      obtain ⟨xs, n', hn', _, hcl, hxl, hx⟩ := DataW.trod_struct hu h
      obtain rfl : n' = n := by omega
      simp only [tdOf, TD.strct.injEq] at htd
      rw [cellsOf_tab htab hi] at hcl
      obtain ⟨avs, g1, g2, g3⟩ := reads_fields htab hcl (fun t cs x => reads htab hK n' t cs x) fs 0 hd (Nat.zero_le _) fun p hp => by
        rw [<- htd] at hp
        obtain ⟨f, hf, rfl⟩ := List.mem_map.1 hp
        obtain ⟨q, hq⟩ := List.getElem?_of_mem hf
        have := hx q f (by simpa using hq)
        have hql : q < xs.length := by
          have := (List.getElem?_eq_some_iff.1 hq).1
          rw [hxl]; simpa using this
        rw [List.getElem?_eq_getElem hql] at this
        exact ⟨_, this⟩
      refine ⟨avs, .strct t i fs avs hi hdesc g1, by rw [g2, hcl]; simp, fun q v y hq hy => g3 q v y hq (by simpa using hy)⟩
    | func => rw [hdesc] at hd; exact hd.elim
    | other => rw [hdesc] at hd; exact hd.elim
end

end Go.Proofs.YtihfpbhalnedcaaGreat.AM

namespace Go.Proofs.YtihfpbhalnedcaaGreat.AM
open Go Go.RowKit Go.ChangeShapes

section
variable {T : Nat -> Option TI} {t : Nat} {i : TI} {avs : List AV}
theorem Shape.isInt {k : IntKind} (h : Shape T t avs) (hi : T t = some i) (hd : i.desc = .int k) : ∃ n, avs = [.int k n] := by
  cases h with
  | int _ i' k' n h1 h2 => rw [hi] at h1; obtain rfl := Option.some.inj h1; rw [hd] at h2; cases h2; exact ⟨n, rfl⟩
  | bool _ i' b h1 h2 => rw [hi] at h1; obtain rfl := Option.some.inj h1; rw [hd] at h2; cases h2
  | slice _ e i' rows h1 h2 h3 => rw [hi] at h1; obtain rfl := Option.some.inj h1; rw [hd] at h2; cases h2
  | strct _ i' fs avs h1 h2 h3 => rw [hi] at h1; obtain rfl := Option.some.inj h1; rw [hd] at h2; cases h2
theorem Shape.isBool (h : Shape T t avs) (hi : T t = some i) (hd : i.desc = .bool) : ∃ b, avs = [.bool b] := by
  cases h with
  | int _ i' k' n h1 h2 => rw [hi] at h1; obtain rfl := Option.some.inj h1; rw [hd] at h2; cases h2
  | bool _ i' b h1 h2 => exact ⟨b, rfl⟩
  | slice _ e i' rows h1 h2 h3 => rw [hi] at h1; obtain rfl := Option.some.inj h1; rw [hd] at h2; cases h2
  | strct _ i' fs avs h1 h2 h3 => rw [hi] at h1; obtain rfl := Option.some.inj h1; rw [hd] at h2; cases h2
theorem Shape.isSlice {e : Nat} (h : Shape T t avs) (hi : T t = some i) (hd : i.desc = .slice e) : ∃ rows, avs = [.ro rows] /\ ∀ r ∈ rows, Shape T e r := by
  cases h with
  | int _ i' k' n h1 h2 => rw [hi] at h1; obtain rfl := Option.some.inj h1; rw [hd] at h2; cases h2
  | bool _ i' b h1 h2 => rw [hi] at h1; obtain rfl := Option.some.inj h1; rw [hd] at h2; cases h2
  | slice _ e i' rows h1 h2 h3 => rw [hi] at h1; obtain rfl := Option.some.inj h1; rw [hd] at h2; cases h2; exact ⟨rows, rfl, h3⟩
  | strct _ i' fs avs h1 h2 h3 => rw [hi] at h1; obtain rfl := Option.some.inj h1; rw [hd] at h2; cases h2
theorem Shape.isStruct {fs : List (Nat × Nat)} (h : Shape T t avs) (hi : T t = some i) (hd : i.desc = .strct fs) : ShapeF T fs avs := by
  cases h with
  | int _ i' k' n h1 h2 => rw [hi] at h1; obtain rfl := Option.some.inj h1; rw [hd] at h2; cases h2
  | bool _ i' b h1 h2 => rw [hi] at h1; obtain rfl := Option.some.inj h1; rw [hd] at h2; cases h2
  | slice _ e i' rows h1 h2 h3 => rw [hi] at h1; obtain rfl := Option.some.inj h1; rw [hd] at h2; cases h2
  | strct _ i' fs' avs h1 h2 h3 => rw [hi] at h1; obtain rfl := Option.some.inj h1; rw [hd] at h2; cases h2; exact h3
theorem ShapeF.un {o : Nat} {fs : List (Nat × Nat)} (h : ShapeF T ((o, t) :: fs) avs) : ∃ a b, avs = a ++ b /\ Shape T t a /\ ShapeF T fs b := by
  cases h with
  | cons _ _ _ a b h1 h2 => exact ⟨a, b, rfl, h1, h2⟩
theorem ShapeF.done (h : ShapeF T [] avs) : avs = [] := by
  cases h; rfl
end

section
variable {H : Type} {enc : TypeId × Value -> H} {P : Program} {T : Nat -> Option TI}

def ArgOk (T : Nat -> Option TI) (t : Nat) (v : AV) : Prop :=
  ∃ i avs, T t = some i /\ Shape T t avs /\ (match i.desc with
    | .strct _ => v = .agg avs
    | _ => avs = [v])

def ArgsOk (T : Nat -> Option TI) : List Nat -> List AV -> Prop
  | [], [] => True
  | t :: ts, v :: vs => ArgOk T t v /\ ArgsOk T ts vs
  | _, _ => False

def oldEnv (W : World) : Env := ⟨W, Old W, fun _ => none, fun _ => none, fun _ => none⟩

theorem law_arg (htab : TabOk P T) {K : Nat -> Prop} (hK : ClosedT T K) {W : World} {base : Nat} {t : Nat} {v : Value} {d : DataW H} {ps : List MemPlace} (hKt : K t) (hval : Value.okWide P W .any base t v) (hdd : DataW.Trod enc P W 0 (fun _ => true) true t v d ps) :
    ∃ av, ArgOk T t av /\ Rel (oldEnv W) av v := by
  have one : ∀ {u : AV}, Value.okWide P W .any base t v -> (∀ cs, v = .agg cs -> False) -> [u].length = v.cells.toList.length -> (∀ (j : Nat) (w : AV) (y : Value), [u][j]? = some w -> v.cells.toList[j]? = some y -> RRel W (Old W) w y /\ y.oneCell' = true) -> RRel W (Old W) u v := by
    intro u _ hn hl h
    have hc : v.cells = #[v] := by cases v <;> first | rfl | exact (hn _ rfl).elim
    exact (h 0 u v rfl (by rw [hc]; rfl)).1
  obtain ⟨fuel, hf⟩ := hdd
  obtain ⟨avs, h1, h2, h3⟩ := reads htab hK fuel t _ _ hKt hf
  obtain ⟨i, hi, hd⟩ := hK t hKt
  obtain ⟨dd, hu, htd⟩ := htab.und hi
  cases hdesc : i.desc with
  | strct fs =>
    rw [hdesc] at htd
    have : ∃ fs', dd = .struct fs' := by cases dd <;> simp [tdOf] at htd; exact ⟨_, rfl⟩
    obtain ⟨fs', rfl⟩ := this
    simp only [Value.okWide, hu] at hval
    obtain ⟨cs, rfl, _⟩ := hval
    have h2' : cs.size = avs.length := by rw [h2]; simp [Value.cells]
    refine ⟨.agg avs, ⟨i, avs, hi, h1, by rw [hdesc]⟩, .agg avs cs h2' (fun j x hx => ?_) (fun j v x hv hx => .base _ _ (h3 j v x hv (by simpa [Value.cells] using hx)).1)⟩
    have hlt : j < avs.length := by rw [<- h2']; exact (Array.getElem?_eq_some_iff.1 hx).1
    exact (h3 j _ x (List.getElem?_eq_getElem hlt) (by simpa [Value.cells] using hx)).2
  | int k =>
    rw [hdesc] at htd
    have : dd = .int k := by cases dd <;> simp [tdOf] at htd; rw [htd]
    subst this
    obtain ⟨n, rfl⟩ := h1.isInt hi hdesc
    refine ⟨.int k n, ⟨i, _, hi, h1, by rw [hdesc]⟩, .base _ _ (one hval ?_ h2 h3)⟩
    intro cs e
    subst e
    simp [Value.okWide, hu, Cell.okWide, Cell.ok] at hval
  | bool =>
    rw [hdesc] at htd
    have : dd = .bool := by cases dd <;> simp [tdOf] at htd; rfl
    subst this
    obtain ⟨n, rfl⟩ := h1.isBool hi hdesc
    refine ⟨.bool n, ⟨i, _, hi, h1, by rw [hdesc]⟩, .base _ _ (one hval ?_ h2 h3)⟩
    intro cs e
    subst e
    simp [Value.okWide, hu, Cell.okWide, Cell.ok] at hval
  | slice e =>
    rw [hdesc] at htd
    have := tdOf_slice htd
    subst this
    obtain ⟨rows, rfl, _⟩ := h1.isSlice hi hdesc
    refine ⟨.ro rows, ⟨i, _, hi, h1, by rw [hdesc]⟩, .base _ _ (one hval ?_ h2 h3)⟩
    intro cs e
    subst e
    simp [Value.okWide, hu, Cell.okWide, Cell.ok] at hval
  | func => rw [hdesc] at hd; exact hd.elim
  | other => rw [hdesc] at hd; exact hd.elim

theorem law_args (htab : TabOk P T) {K : Nat -> Prop} (hK : ClosedT T K) {W : World} {base : Nat} : ∀ (ts : List Nat) (vs : List Value) (ds : List (DataW H)) (ps : List MemPlace), (∀ t ∈ ts, K t) -> (∀ (j : Nat) (t : Nat) (v : Value), ts[j]? = some t -> vs[j]? = some v -> Value.okWide P W .any base t v) ->
    DataW.TrodAll enc P W 0 (fun _ => true) true ts vs ds ps -> ∃ avs : List AV, ArgsOk T ts avs /\ avs.length = vs.length /\ ∀ (j : Nat) (a : AV) (v : Value), avs[j]? = some a -> vs[j]? = some v -> Rel (oldEnv W) a v
  | [], [], [], ps, _, _, _ => ⟨[], trivial, rfl, fun j a v h => by simp at h⟩
  | t :: ts, v :: vs, d :: ds, ps, hKs, hval, h => by
    obtain ⟨p, q, h1, h2, _⟩ := h
    obtain ⟨a, ha, hr⟩ := law_arg htab hK (hKs t (List.mem_cons_self ..)) (hval 0 t v rfl rfl) h1
    obtain ⟨avs, g1, g2, g3⟩ := law_args htab hK ts vs ds q (fun t ht => hKs t (List.mem_cons_of_mem _ ht)) (fun j t v ht hv => hval (j + 1) t v (by simpa using ht) (by simpa using hv)) h2
    refine ⟨a :: avs, ⟨ha, g1⟩, by simp [g2], fun j u w hu hw => ?_⟩
    cases j with
    | zero => simp at hu hw; subst hu hw; exact hr
    | succ j => exact g3 j u w (by simpa using hu) (by simpa using hw)
  | [], [], _ :: _, _, _, _, h => h.elim
  | [], _ :: _, _, _, _, _, h => h.elim
  | _ :: _, [], _, _, _, _, h => h.elim
  | _ :: _, _ :: _, [], _, _, _, h => h.elim

theorem fr_below {E E' : Env} (h : Fr E E') (ht : ∀ b, E.tag b = none) : Below E.w.heap.size E.w E'.w :=
  ⟨h.os, h.tape, h.output, h.size, fun b hb => h.block b hb (ht b)⟩

theorem law_calls (htab : TabOk P T) {K : Nat -> Prop} (hK : ClosedT T K) {f : FuncId} {ts : List Nat} (hKs : ∀ t ∈ ts, K t) {W : World} {base : Nat} {args : Array Value} {ds : List (DataW H)} {ps : List MemPlace}
    (hval : ∀ (j : Nat) (t : Nat) (v : Value), ts[j]? = some t -> args[j]? = some v -> Value.okWide P W .any base t v) (hA : DataW.TrodAll enc P W 0 (fun _ => true) true ts args.toList ds ps)
    (hS : ∀ avs, ArgsOk T ts avs -> SoundM P f false avs [] (fun v os => v = .bool true /\ os = [])) :
    Calls P f args W fun e W' => e = .returned (.bool true) /\ Below W.heap.size W W' := by
  obtain ⟨avs, h1, h2, h3⟩ := law_args htab hK ts args.toList ds ps hKs (fun j t v ht hv => hval j t v ht (by simpa using hv)) hA
  refine ((hS avs h1).2 (oldEnv W) args ⟨fun b hb => ⟨rfl, hb⟩, fun b hb => absurd rfl hb, fun b hb => absurd rfl hb⟩ (fun id L h => by cases h) (by rw [h2]; simp) (fun j a v ha hv => h3 j a v ha (by simpa using hv)) (fun id o h => by simp [flats, lk] at h)).mono ?_
  rintro e W' ⟨x, v, os, E', rfl, rfl, ⟨rfl, rfl⟩, _, _, hfr, _, hrel, _⟩
  refine ⟨?_, fr_below hfr fun b => rfl⟩
  rw [rel_bool hrel]

theorem below_trod {W W' : World} (hbel : Below W.heap.size W W') (hl : laidOutB P = true) : ∀ (ts : List Nat) (vs : List Value) (ds : List (DataW H)) (ps : List MemPlace), (∀ t ∈ ts, P.readableRec t = true /\ t < P.types.size) -> (∀ x ∈ ps, x.block < W.heap.size) ->
    DataW.TrodAll enc P W 0 (fun _ => true) true ts vs ds ps -> DataW.TrodAll enc P W' 0 (fun b => decide (b < W.heap.size)) true ts vs ds ps
  | [], [], [], ps, _, _, h => h
  | t :: ts, v :: vs, d :: ds, ps, hr, hp, h => by
    obtain ⟨p, q, h1, h2, rfl⟩ := h
    obtain ⟨r1, r2⟩ := hr t (List.mem_cons_self ..)
    exact ⟨p, q, hbel.trod hl r1 r2 h1 fun x hx => hp x (List.mem_append_left _ hx), below_trod hbel hl ts vs ds q (fun t ht => hr t (List.mem_cons_of_mem _ ht)) (fun x hx => hp x (List.mem_append_right _ hx)) h2, rfl⟩
  | [], [], _ :: _, _, _, _, h => h.elim
  | [], _ :: _, _, _, _, _, h => h.elim
  | _ :: _, [], _, _, _, _, h => h.elim
  | _ :: _, _ :: _, [], _, _, _, h => h.elim

theorem law_post {f : Func} {s : ChangeSpec} {apart fresh handsOn : Bool} {ts : List Nat} {tb : TypeId} {W W' : World} {args : Array Value} {ds gs : List (DataW H)} {before : List MemPlace}
    (hfp : f.params.toList = ts) (hfr : f.resultTypes = #[tb]) (hb : P.underlying tb = some .bool) (hv : s.vars = []) (hs : ∀ ds : List (DataW H), ds.length = ts.length -> s.fn H ds = { results := [.lit (.bool true)], args := ds })
    (hl : laidOutB P = true) (hrd : ∀ t ∈ ts, P.readableRec t = true /\ t < P.types.size) (hW : DataW.Whole enc P f.params.toList s.vars apart W args.toList ds gs before) (hbel : Below W.heap.size W W') :
    s.post enc P f apart fresh handsOn false W args (.bool true) W' := by
  have hW' := hW
  obtain ⟨p, q, hA, hV, hbef, hfz, hnd⟩ := hW
  rw [hv] at hV
  obtain ⟨rfl, rfl⟩ := trodVars_none hV
  have hlen : ∀ (ts : List Nat) (vs : List Value) (ds : List (DataW H)) (ps : List MemPlace), DataW.TrodAll enc P W 0 (fun _ => true) true ts vs ds ps -> ds.length = ts.length := by
    intro ts
    induction ts with
    | nil => intro vs ds ps h; cases vs <;> cases ds <;> first | rfl | exact h.elim
    | cons t ts ih =>
      intro vs ds ps h
      cases vs with
      | nil => exact h.elim
      | cons v vs => cases ds with
        | nil => exact h.elim
        | cons d ds =>
          obtain ⟨p, q, _, h2, _⟩ := h
          simp [ih vs ds q h2]
  have hdl : ds.length = ts.length := by rw [hlen _ _ _ _ hA, hfp]
  have hsd : s.fn H (ds ++ []) = { results := [.lit (.bool true)], args := ds } := by rw [List.append_nil]; exact hs ds hdl
  refine ⟨ds, [], before, [], p, [], hW', ?_, ?_, ?_, hbel.frame _, fun e => by cases e⟩
  · rw [hfr, hsd]
    exact trodAll_mk1 (shut_bool hb true)
  · rw [hsd]
    refine below_trod hbel hl _ _ _ _ (by rw [hfp]; exact hrd) (fun x hx => hW'.lt x ?_) hA
    rw [hbef]; simpa using hx
  · rw [hv, hsd]
    trivial
end

end Go.Proofs.YtihfpbhalnedcaaGreat.AM

namespace Go.Proofs.YtihfpbhalnedcaaGreat.AM
open Go Go.RowKit

variable {P : Program} {T : Nat -> Option TI} {A : Sy}

theorem lays_plain {α : Type} {f : α -> List AV} (hp : Plain f) (kd : SK) (fl : Bool) (C : Cx P T A) (l : List α) : Lays kd fl (A.enc f l) := by
  have hs : ∀ r ∈ A.enc f l, ∀ v ∈ r, v.scal = true := fun r hr v hv => by
    rw [C.enc] at hr
    obtain ⟨x, _, rfl⟩ := List.mem_map.1 hr
    exact List.all_eq_true.1 (hp x) v hv
  cases kd <;> cases fl <;> first | trivial | exact hs | exact fun r hr v hv => (by have := hs r hr v hv; cases v <;> first | rfl | cases this)

theorem AppRef.enc (C : Cx P T A) {α : Type} {f : α -> List AV} {l m : List α} {kd : SK} {fl p : Bool} {off len s size bytes : Nat} {K : Bool -> Nat -> List (List AV) -> Prop} (hs : s = size) (hp : Plain f) (hsz : ∀ x, (f x).length = size) (hl : off + len <= l.length) (hb : (len + m.length) * bytes <= maxBytes)
    (h : ∀ (n : Nat) (l' : List α), n = len + m.length -> l' = (l.drop off).take len ++ m -> K false n (A.enc f l')) : AppRef kd fl p off len s size bytes (A.enc f l) (A.enc f m) K := by
  refine ⟨hs, lays_plain hp kd fl C m, fun r hr => ?_, .inl ⟨by rw [C.lenE']; exact hl, by rw [C.lenE']; exact hb, ?_⟩⟩
  · rw [C.enc] at hr
    obtain ⟨x, _, rfl⟩ := List.mem_map.1 hr
    exact hsz x
  · rw [C.lenE']
    have := h _ _ rfl rfl
    rw [C.enc, List.map_append, List.map_take, List.map_drop] at this
    rw [C.enc, C.enc]; exact this

theorem AppRef.one (C : Cx P T A) {α : Type} {f : α -> List AV} {l : List α} (x : α) {ys : List (List AV)} (hy : ys = [f x]) {kd : SK} {fl p : Bool} {off len s size bytes : Nat} {K : Bool -> Nat -> List (List AV) -> Prop} (hs : s = size) (hp : Plain f) (hsz : ∀ x, (f x).length = size) (hl : off + len <= l.length) (hb : (len + 1) * bytes <= maxBytes)
    (h : ∀ (n : Nat) (l' : List α), n = len + 1 -> l' = (l.drop off).take len ++ [x] -> K false n (A.enc f l')) : AppRef kd fl p off len s size bytes (A.enc f l) ys K := by
  have : ys = A.enc f [x] := by rw [hy, C.enc]; rfl
  rw [this]
  exact AppRef.enc C hs hp hsz hl hb h

theorem LenR.nat (C : Cx P T A) {α : Type} {f : α -> List AV} {l : List α} {K : Int -> Prop} (h : ∀ x : Int, 0 <= x /\ x.toNat = l.length -> l.length <= 9223372036854775807 -> K x) : LenR false (A.enc f l) K :=
  LenR.enc C fun x hx hm => h x (by omega) (by simp only [maxLen] at hm; omega)
theorem Len.nat {n : Nat} {K : Int -> Prop} (h : ∀ x : Int, 0 <= x /\ x.toNat = n -> n <= 9223372036854775807 -> K x) : Len false n K :=
  Len.go fun x hx hm => h x (by omega) (by simp only [maxLen] at hm; omega)
theorem LenR.natD (C : Cx P T A) {dr : Bool} {α : Type} {f : α -> List AV} {l : List α} {K : Int -> Prop} (hm : l.length <= 9223372036854775807) (h : ∀ x : Int, 0 <= x /\ x.toNat = l.length -> K x) : LenR dr (A.enc f l) K :=
  LenR.dr C (by simp only [maxLen]; omega) fun x hx => h x (by omega)
theorem Len.natD {dr : Bool} {n : Nat} {K : Int -> Prop} (hm : n <= 9223372036854775807) (h : ∀ x : Int, 0 <= x /\ x.toNat = n -> K x) : Len dr n K :=
  Len.dr (by simp only [maxLen]; omega) fun x hx => h x (by omega)

theorem Part.one {r : List AV} {K : List (List AV) -> Prop} (h : K [r]) : Part 0 1 [r] K := ⟨by simp, h⟩

theorem Cx.lendLe0 (C : Cx P T A) {α : Type} {f : α -> List AV} {l : List α} : 0 + A.len (A.enc f l) <= (A.enc f l).length := C.lendLe (C.lenE f l)
theorem Cx.lendEq0 (C : Cx P T A) {α : Type} {f : α -> List AV} {l : List α} : A.enc f l = ((A.enc f l).drop 0).take (A.len (A.enc f l)) := C.lendEq (C.lenE f l)

theorem resPart (C : Cx P T A) {al : Bool} {st : St} {p : Bool} {id off n s : Nat} {α : Type} {f : α -> List AV} {l m : List α} (hq : lk st.sto id = some (.arr s true (A.enc f l))) (hn : off + n <= l.length) (hm : m = (l.drop off).take n) : resCell al st (.ref p id off n) (.own s true (A.enc f m)) := by
  simp only [resCell, hq]
  refine ⟨⟨trivial, trivial⟩, ⟨by rw [C.lenE']; exact hn, ?_⟩, trivial⟩
  rw [hm, C.enc, C.enc, List.map_take, List.map_drop]

theorem Done.is {ι : Type} {r : ι -> AV} {al : Bool} {st : St} {v : AV} {e x : ι} (h1 : resOk al st v (r x)) (h2 : (Fits st v [] && (r x).small && boxesKept [] []) = true) (h : e = x) : Done al st v [] (fun v o => v = r e /\ o = []) := by
  subst h
  exact Done.to _ [] h2 h1 trivial ⟨rfl, rfl⟩

end Go.Proofs.YtihfpbhalnedcaaGreat.AM

namespace Go.Proofs.YtihfpbhalnedcaaGreat.AM
open Go Go.RowKit

variable {P : Program} {T : Nat -> Option TI} {A : Sy}

theorem AppRef.push (C : Cx P T A) {α : Type} {f : α -> List AV} {l : List α} (x : α) {ys : List (List AV)} {kd : SK} {fl p : Bool} {len s size bytes : Nat} {K : Bool -> Nat -> List (List AV) -> Prop} (hN : len = l.length) (hy : ys = [f x]) (hs : s = size) (hp : Plain f) (hsz : ∀ x, (f x).length = size) (hb : (l.length + 1) * bytes <= maxBytes)
    (h : ∀ (n : Nat) (l' : List α), l' = l ++ [x] -> n = l'.length -> K false n (A.enc f l')) : AppRef kd fl p 0 len s size bytes (A.enc f l) ys K :=
  AppRef.one C x hy hs hp hsz (by omega) (by rw [hN]; exact hb) fun n l' hn hl => by
    have hl : l' = l ++ [x] := by rw [hl, hN, List.drop_zero, List.take_length]
    exact h n l' hl (by rw [hn, hl, hN]; simp)

theorem AppRef.pushAll (C : Cx P T A) {α : Type} {f : α -> List AV} {l m : List α} {kd : SK} {fl p : Bool} {len s size bytes : Nat} {K : Bool -> Nat -> List (List AV) -> Prop} (hN : len = l.length) (hs : s = size) (hp : Plain f) (hsz : ∀ x, (f x).length = size) (hb : (l.length + m.length) * bytes <= maxBytes)
    (h : ∀ (n : Nat) (l' : List α), l' = l ++ m -> n = l'.length -> K false n (A.enc f l')) : AppRef kd fl p 0 len s size bytes (A.enc f l) (A.enc f m) K :=
  AppRef.enc C hs hp hsz (by omega) (by rw [hN]; exact hb) fun n l' hn hl => by
    have hl : l' = l ++ m := by rw [hl, hN, List.drop_zero, List.take_length]
    exact h n l' hl (by rw [hn, hl, hN]; simp)

theorem Less.initE (C : Cx P T A) {α : Type} (f : α -> List AV) (L sz : Nat) (fl : Bool) {s : St} {t : Nat} {v : AV} (hv : lk s.tmps t = some v) (h : v = .nilS ∨ v = .emp) (hu : s.used.elem L = false) :
    Less s { s with tmps := (t, .ref false L 0 0) :: s.tmps, sto := (L, .arr sz fl (A.enc f [])) :: s.sto, used := L :: s.used } := by
  rw [show A.enc f [] = [] from C.enc f []]
  exact Less.init L sz fl hv h hu

def dedupL {α : Type} : List (Nat × α) -> List (Nat × α)
  | [] => []
  | (k, v) :: r => (k, v) :: rmL [k] (dedupL r)

def havD (s : St) (ds ks : List Nat) (ts : List (Nat × AV)) (os : List (Nat × Obj)) : St := { s with tmps := ts ++ dedupL (rmL ds s.tmps), sto := os ++ dedupL (rmL ks s.sto) }

theorem ALoop.goD {ι : Type} (ts : ι -> List (Nat × AV)) (ks : List Nat) (os : ι -> List (Nat × Obj)) (I : ι -> Prop) (μ : ι -> Nat) (i₀ : ι) (htab : TabOk P T) (hm : P.follows .mixedOrders = true) {c : Code} {Q : Exit -> St -> Prop} {s : St} {A : Sy} (hA : A = sy)
    (h₀ : I i₀) (hst : Less s (havD s (dsts c) ks (ts i₀) (os i₀)))
    (round : ∀ i, I i -> vc A P T c (havD s (dsts c) ks (ts i) (os i)) (loopVC (fun i => havD s (dsts c) ks (ts i) (os i)) I μ i Q)) : ALoop P c Q s :=
  ALoop.ind _ I μ i₀ htab hm hA hst h₀ round

theorem ACall.valN {ι : Type} {r : ι -> AV} {os : ι -> List (Option Obj)} {e : ι} {dr : Bool} {f : FuncId} {al dp : Bool} {avs bs : List AV} {objs : List Obj} {lab : Nat} {st : St} {K : AV -> Dl -> Prop} (C : Cx P T A) (h : SoundM P f al bs objs (fun v o => v = r e /\ o = os e)) (hg : Gives st al dp avs bs objs) (hn : (!dr || bs.all AV.noR) = true)
    (hk : ∀ (ln : List (List AV) -> Nat), (∀ {α : Type} (f : α -> List AV) (l : List α), ln (A.enc f l) = l.length) -> ∀ x, x = e -> backChk st (rhoA avs bs) lab objs (os x) (r x) = true /\ K (adopt ln lab (r x)) (backD dp ln st avs bs objs lab (os x) (r x))) : ACall A dr P f avs lab st K :=
  ACall.val (r := r) (os := os) h hg hn fun x hx => hk A.len C.lenE x hx

theorem Cx.partLe (C : Cx P T A) {α : Type} {f : α -> List AV} {l : List α} {off n : Nat} (h : off + n <= l.length) : off + n <= (A.enc f l).length := by rw [C.lenE']; exact h
theorem Cx.partEq (C : Cx P T A) {α : Type} {f : α -> List AV} {l m : List α} {off n : Nat} (h : m = (l.drop off).take n) : A.enc f m = ((A.enc f l).drop off).take n := by rw [h, C.enc, C.enc, List.map_take, List.map_drop]

end Go.Proofs.YtihfpbhalnedcaaGreat.AM

namespace Go.Proofs.YtihfpbhalnedcaaGreat.AM
open Go Go.RowKit

variable {P : Program} {T : Nat -> Option TI} {A : Sy}

theorem ACall.testX {dr : Bool} {f : FuncId} {al dp : Bool} {avs bs : List AV} {p : Prop} {lab : Nat} {st : St} {K : AV -> Dl -> Prop} (h : SoundM P f al bs [] (fun v os => (∃ b : Bool, (b = true ↔ p) /\ v = .bool b) /\ os = [])) (hg : Gives st al dp avs bs []) (hn : (!dr || bs.all AV.noR) = true)
    (h1 : p -> K (.bool true) (backD dp A.len st avs bs [] lab [] (.bool true))) (h2 : ¬ p -> K (.bool false) (backD dp A.len st avs bs [] lab [] (.bool false))) : ACall A dr P f avs lab st K := by
  cases dr with
  | true => exact .testD h hg (by simpa using hn) h1 h2
  | false => exact .test h hg h1 h2

end Go.Proofs.YtihfpbhalnedcaaGreat.AM

namespace Go.Proofs.YtihfpbhalnedcaaGreat.AM
open Go Go.RowKit

variable {P : Program} {T : Nat -> Option TI} {A : Sy}

theorem Clear.enc (C : Cx P T A) {α : Type} {f : α -> List AV} {l : List α} {off len s size : Nat} {us : List AV} {K : List (List AV) -> Prop} (z : α) (hz : f z = us) (hs : s = size) (hl : off + len <= l.length)
    (h : ∀ l', l' = l.take off ++ List.replicate len z ++ l.drop (off + len) -> K (A.enc f l')) : Clear off len s size (A.enc f l) us K := by
  refine ⟨hs, by rw [C.lenE']; exact hl, ?_⟩
  have := h _ rfl
  rw [C.enc] at this ⊢
  rw [List.map_append, List.map_append, List.map_take, List.map_drop, List.map_replicate, hz] at this
  rw [setMany, List.length_replicate]; exact this

theorem Cx.byN (C : Cx P T A) {f : FuncId} {fn : Func} {c : Code} {n : Nat} {rs : List ResultVar} {al : Bool} {args : List AV} {objs : List Obj} {R : AV -> List (Option Obj) -> Prop} (hf : P.funcs[f]? = some fn) (hb : fn.body = some c) (hn : fn.ntmps = n) (hr : fn.results.toList = rs)
    (hname : (fn.name == "runtime.NumGoroutine") = false) (h : ∀ ln : List (List AV) -> Nat, (∀ {α : Type} (f : α -> List AV) (l : List α), ln (A.enc f l) = l.length) -> (∀ v ∈ args, v.real) -> (∀ k o, lk (flats List.length 0 objs) k = some o -> o.real) -> vc A P T c (entryM ln n args objs) (endsVC T rs al objs R)) : SoundM P f al args objs R :=
  C.by hf hb hn hr hname (h A.len C.lenE)

end Go.Proofs.YtihfpbhalnedcaaGreat.AM

namespace Go.Proofs.YtihfpbhalnedcaaGreat.AM
open Go Go.RowKit

variable {P : Program} {T : Nat -> Option TI} {A : Sy}

structure Rnd (p : Prop) : Prop where
  out : p

theorem ALoop.goS {ι : Type} (ts : ι -> List (Nat × AV)) (ks : List Nat) (os : ι -> List (Nat × Obj)) (I : ι -> Prop) (μ : ι -> Nat) (i₀ : ι) (htab : TabOk P T) (hm : P.follows .mixedOrders = true) {c : Code} {Q : Exit -> St -> Prop} {s : St} {A : Sy} (hA : A = sy)
    (h₀ : I i₀) (hst : Less s (havD s (dsts c) ks (ts i₀) (os i₀)))
    (round : ∀ i, I i -> Rnd (vc A P T c (havD s (dsts c) ks (ts i) (os i)) (loopVC (fun i => havD s (dsts c) ks (ts i) (os i)) I μ i Q))) : ALoop P c Q s :=
  ALoop.goD ts ks os I μ i₀ htab hm hA h₀ hst fun i hi => (round i hi).out

end Go.Proofs.YtihfpbhalnedcaaGreat.AM

namespace Go.Proofs.YtihfpbhalnedcaaGreat.AM
open Go Go.RowKit

variable {P : Program} {T : Nat -> Option TI} {A : Sy}

def forget (s : St) (fs : List Nat) : St := { s with tmps := rmL fs s.tmps }

theorem lk_rmL {α : Type} (fs : List Nat) : ∀ (l : List (Nat × α)) (k : Nat) (v : α), lk (rmL fs l) k = some v -> lk l k = some v
  | [], k, v, h => by simp [rmL, lk] at h
  | (j, u) :: r, k, v, h => by
    unfold rmL at h
    cases hj : hasN j fs with
    | false =>
      rw [hj] at h
      simp only [cond_false, lk_cons] at h ⊢
      split at h
      · rename_i e; rw [if_pos e]; exact h
      · rename_i e; rw [if_neg e]; exact lk_rmL fs r k v h
    | true =>
      rw [hj] at h
      simp only [cond_true] at h
      have h1 := lk_rmL fs r k v h
      rw [lk_cons]
      by_cases e : j = k
      · exfalso
        subst e
        have hno : ∀ (r : List (Nat × α)), lk (rmL fs r) j = none := fun r => by
          induction r with
          | nil => rfl
          | cons p r ih =>
            obtain ⟨q, w⟩ := p
            unfold rmL
            cases hq : hasN q fs with
            | true => simpa using ih
            | false =>
              simp only [cond_false, lk_cons]
              by_cases e : q = j
              · subst e; rw [hj] at hq; cases hq
              · rw [if_neg e]; exact ih
        rw [hno] at h; cases h
      · rw [if_neg e]; exact h1

theorem Less.forget (s : St) (fs : List Nat) : Less s (AM.forget s fs) :=
  ⟨fun E a hs => ⟨E, rfl, Fr.refl E, ⟨hs.wf, hs.defers, hs.size, fun t v hv => hs.tmps t v (lk_rmL fs _ _ _ hv), hs.sto, hs.used, hs.keys⟩⟩⟩

theorem ALoop.goF {ι : Type} (ts : ι -> List (Nat × AV)) (fs ks : List Nat) (os : ι -> List (Nat × Obj)) (I : ι -> Prop) (μ : ι -> Nat) (i₀ : ι) (htab : TabOk P T) (hm : P.follows .mixedOrders = true) {c : Code} {Q : Exit -> St -> Prop} {s : St} {A : Sy} (hA : A = sy)
    (h₀ : I i₀) (hst : Less (AM.forget s fs) (havD (AM.forget s fs) (dsts c) ks (ts i₀) (os i₀)))
    (round : ∀ i, I i -> Rnd (vc A P T c (havD (AM.forget s fs) (dsts c) ks (ts i) (os i)) (loopVC (fun i => havD (AM.forget s fs) (dsts c) ks (ts i) (os i)) I μ i Q))) : ALoop P c Q s :=
  .pre (Less.forget s fs) (ALoop.goS ts ks os I μ i₀ htab hm hA h₀ hst round)

end Go.Proofs.YtihfpbhalnedcaaGreat.AM

namespace Go.Proofs.YtihfpbhalnedcaaGreat.AM
open Go Go.RowKit

variable {P : Program} {T : Nat -> Option TI} {A : Sy}

theorem ACall.mut3 {α β γ : Type} {g : α -> List AV} {g' : β -> List AV} {g'' : γ -> List AV} {s s' s'' : Nat} {fl fl' fl'' : Bool} {e : Int} {l : List α} {l' : List β} {l'' : List γ} {dr : Bool} {f : FuncId} {al dp : Bool} {avs bs : List AV} {objs : List Obj} {lab : Nat} {st : St} {K : AV -> Dl -> Prop} (h : SoundM P f al bs objs (fun v o => v = .int .i64 e /\ o = [some (.arr s fl (A.enc g l)), some (.arr s' fl' (A.enc g' l')), some (.arr s'' fl'' (A.enc g'' l''))])) (hg : Gives st al dp avs bs objs) (hn : (!dr || bs.all AV.noR) = true)
    (hk : ∀ x m m' m'', x = e -> m = l -> m' = l' -> m'' = l'' -> backChk st (rhoA avs bs) lab objs [some (.arr s fl (A.enc g m)), some (.arr s' fl' (A.enc g' m')), some (.arr s'' fl'' (A.enc g'' m''))] (.int .i64 x) = true /\ K (.int .i64 x) (backD dp A.len st avs bs objs lab [some (.arr s fl (A.enc g m)), some (.arr s' fl' (A.enc g' m')), some (.arr s'' fl'' (A.enc g'' m''))] (.int .i64 x))) : ACall A dr P f avs lab st K :=
  ACall.val (r := fun x : Int × List α × List β × List γ => AV.int .i64 x.1) (os := fun x => [some (.arr s fl (A.enc g x.2.1)), some (.arr s' fl' (A.enc g' x.2.2.1)), some (.arr s'' fl'' (A.enc g'' x.2.2.2))]) (e := (e, l, l', l'')) h hg hn fun x hx => by subst hx; exact hk _ _ _ _ rfl rfl rfl rfl

end Go.Proofs.YtihfpbhalnedcaaGreat.AM

namespace Go.Proofs.YtihfpbhalnedcaaGreat.AM
open Go Go.RowKit

variable {P : Program} {T : Nat -> Option TI} {A : Sy}

theorem CutRef.goP {p : Bool} {off len s size : Nat} {rows : List (List AV)} {l h : Int} {K : Bool -> Nat -> Nat -> Prop} (hs : s = size) (h0 : 0 <= l) (h1 : l <= h) (h2 : h <= len) (hr : off + len <= rows.length)
    (hk : ∀ p' off' len', p' = ((p || decide (0 < len)) && decide (off + l.toNat < rows.length)) -> off' = off + l.toNat -> len' = (h - l).toNat -> K p' off' len') : CutRef p off len s size rows l h K :=
  ⟨⟨h0, h1, .inl h2⟩, hr, hs, hk _ _ _ rfl rfl rfl⟩

theorem CutRef.cap {p : Bool} {off len s size : Nat} {rows : List (List AV)} {l h : Int} {K : Bool -> Nat -> Nat -> Prop} (hs : s = size) (hp : p = true) (h0 : 0 <= l) (h1 : l <= h) (h2 : h <= ((rows.length - off : Nat) : Int)) (hr : off + len <= rows.length)
    (hk : ∀ p' off' len', off' = off + l.toNat -> len' = (h - l).toNat -> K p' off' len') : CutRef p off len s size rows l h K :=
  ⟨⟨h0, h1, .inr ⟨hp, h2⟩⟩, hr, hs, hk _ _ _ rfl rfl⟩

theorem AppRef.inPlace (C : Cx P T A) {α : Type} {f : α -> List AV} {l m : List α} {kd : SK} {fl p : Bool} {off len s size bytes : Nat} {K : Bool -> Nat -> List (List AV) -> Prop} (hs : s = size) (hp : Plain f) (hsz : ∀ x, (f x).length = size) (hpp : p = true ∨ 0 < len) (hl : off + len + m.length <= l.length)
    (h : ∀ (n : Nat) (l' : List α), n = len + m.length -> l' = l.take (off + len) ++ m ++ l.drop (off + len + m.length) -> K true n (A.enc f l')) : AppRef kd fl p off len s size bytes (A.enc f l) (A.enc f m) K := by
  refine ⟨hs, lays_plain hp kd fl C m, fun r hr => ?_, .inr ⟨hpp, by rw [C.lenE', C.lenE']; exact hl, ?_⟩⟩
  · rw [C.enc] at hr
    obtain ⟨x, _, rfl⟩ := List.mem_map.1 hr
    exact hsz x
  · have := h _ _ rfl rfl
    rw [C.lenE', setMany, C.lenE']
    rw [C.enc] at this ⊢
    rw [C.enc]
    rw [List.map_append, List.map_append, List.map_take, List.map_drop] at this
    exact this

end Go.Proofs.YtihfpbhalnedcaaGreat.AM

namespace Go.Proofs.YtihfpbhalnedcaaGreat.AM
open Go Go.RowKit

variable {P : Program} {T : Nat -> Option TI} {A : Sy}

theorem ok_slice3 {o : Oper} {st : St} {K : AV -> St -> Prop} {t e : Nat} {i j : TI} {x lo hi mx : Operand} {p : Bool} {id off len : Nat} {k1 k2 k3 : IntKind} {l hh m : Int} (h : TabOk P T) (hti : T t = some i) (hd : i.desc = .slice e) (hj : T e = some j) (ho : o.op = .slice t x (some lo) (some hi) (some mx))
    (hx : st.ev x = .ref p id off len) (hlo : st.ev lo = .int k1 l) (hhi : st.ev hi = .int k2 hh) (hmx : st.ev mx = .int k3 m) (h0 : 0 <= l) (h1 : l <= hh) (h2 : hh <= m) (h3 : m <= len) (hk : K .undef st) : OpOk P o st K := by
  obtain ⟨d, hu, htd⟩ := h.und hti
  have hd1 := tdOf_slice (htd.trans hd)
  subst hd1
  have hsz := fun w => h.size (P := P) hj w
  refine OpOk.pure _ (fun E a hs => ?_) hk
  have hrx := hs.ev x
  have hrl := hs.ev lo
  have hrh := hs.ev hi
  have hrm := hs.ev mx
  rw [hx] at hrx
  rw [hlo] at hrl
  rw [hhi] at hrh
  rw [hmx] at hrm
  have key : ∀ (ad : Option Addr) (n cap : Nat), a.eval x = .slice ad n cap -> m <= cap -> ∃ v, (execOp a.eval o).run P E.w = .ok (.value v) E.w := fun ad n cap hax hmc => by
    have e1 := run_sliceBound (P := P) E.w k3 m cap .slice3Acap (by omega) hmc
    have e2 := run_sliceBound (P := P) E.w k2 hh m.toNat .slice3B (by omega) (by omega)
    have e3 := run_sliceBound (P := P) E.w k1 l hh.toNat .slice3C (by omega) (by omega)
    have hb : (Instr.sliceBounds true n cap (some (a.eval lo)) (some (a.eval hi)) (some (a.eval mx))).run P E.w = .ok (l.toNat, hh.toNat, m.toNat) E.w := by
      rw [(rel_int hrl).1, (rel_int hrh).1, (rel_int hrm).1]
      simp only [Instr.sliceBounds, Sem.run_bind, Sem.run_pure, Result.andThen_ok, Option.isSome_some, if_true, e1, e2, e3]
    refine ⟨.slice (if m.toNat = l.toNat then ad else ad.map (·.add (l.toNat * j.size))) (hh.toNat - l.toNat) (m.toNat - l.toNat), ?_⟩
    simp [execOp, ho, hax, Instr.sliceAt, Instr.slice, run_underlying hu, hb, hsz]
  generalize hax : a.eval x = xv at hrx
  cases hrx with
  | base _ _ h => cases h
  | ref0 _ _ cap ad hc =>
    obtain ⟨v, hv⟩ := key _ _ _ hax (by omega)
    exact ⟨v, hv, .undef v⟩
  | ref _ _ _ _ L cap hL hle hcap =>
    obtain ⟨v, hv⟩ := key _ _ _ hax (by omega)
    exact ⟨v, hv, .undef v⟩

theorem AOp.slice3 {o : Oper} {st : St} {K : AV -> Dl -> Prop} {t e : Nat} {i j : TI} {x lo hi mx : Operand} {p : Bool} {id off len : Nat} {k1 k2 k3 : IntKind} {l hh m : Int} (h : TabOk P T) (hti : T t = some i) (hd : i.desc = .slice e) (hj : T e = some j) (ho : o.op = .slice t x (some lo) (some hi) (some mx))
    (hx : st.ev x = .ref p id off len) (hlo : st.ev lo = .int k1 l) (hhi : st.ev hi = .int k2 hh) (hmx : st.ev mx = .int k3 m) (h0 : 0 <= l) (h1 : l <= hh) (h2 : hh <= m) (h3 : m <= len) (hk : K .undef .no) : AOp P o st K :=
  ⟨ok_slice3 h hti hd hj ho hx hlo hhi hmx h0 h1 h2 h3 ⟨.no, rfl, hk⟩⟩

end Go.Proofs.YtihfpbhalnedcaaGreat.AM

namespace Go.Proofs.YtihfpbhalnedcaaGreat.AM
open Go Go.RowKit

variable {P : Program} {T : Nat -> Option TI} {A : Sy}

theorem zeroCells_get' (z : Array Value) (n q c : Nat) (hq : q < n) (hc : c < z.size) : (Builtin.zeroCells z n)[q * z.size + c]? = z[c]? := by
  unfold Builtin.zeroCells
  have hlt : q * z.size + c < n * z.size := by
    have : (q + 1) * z.size <= n * z.size := Nat.mul_le_mul_right _ hq
    rw [Nat.add_mul] at this
    omega
  simp only [Array.getElem?_map]
  rw [Array.getElem?_eq_getElem (by simpa using hlt)]
  simp only [Array.getElem_range, Option.map_some]
  have hm : (q * z.size + c) % z.size = c := by rw [Nat.mul_comm, Nat.mul_add_mod]; exact Nat.mod_eq_of_lt hc
  rw [hm, Array.getElem?_eq_getElem hc, getElem!_pos z c hc]

theorem run_append_make (w : World) (t ti ty e : TypeId) (i : TypeInfo) (z : Value) (k k' : IntKind) (ht : P.underlying t = some (.slice e)) (hti : P.underlying ti = some (.int k)) (hi : P.info? e = some i) (hz : i.zero = some z) (hsz : 0 < i.size)
    (n : Nat) (h0 : 0 < n) (h63 : (n : Int) <= 9223372036854775807) (h48 : n * i.bytes <= 281474976710656) :
    (Builtin.append_ #[t, ti] ty #[.slice none 0 0, .int k' (n : Int)]).run P w =
      .ok (.slice (some ⟨w.heap.size, 0, none⟩) n (grownCap w n 0 e)) (w.drew.alloc (.cells (Builtin.zeroCells z.cells n ++ Builtin.zeroCells z.cells (grownCap w n 0 e - n)) e)) := by
  have hn : n ≠ 0 := by omega
  have h63' : ¬ (9223372036854775807 < (n : Int)) := by omega
  have h48' : ¬ (281474976710656 < Builtin.nextslicecap n 0 * i.bytes) := by rw [nextslicecap_zero h0]; omega
  have hw : IntKind.i64.wrap (n : Int) = (n : Int) := wrap_wf (k := .i64) (by rw [wf_iff]; simp [IntKind.min, IntKind.max, IntKind.signed, IntKind.bits]; omega)
  have h48i : ¬ (281474976710656 < (n : Int) * (i.bytes : Int)) := by
    have : ((n * i.bytes : Nat) : Int) <= 281474976710656 := by omega
    rw [Int.natCast_mul] at this; omega
  have hsz0 : i.size ≠ 0 := by omega
  have hms : ¬ (n * i.size = 0) := by
    have := Nat.mul_pos h0 hsz
    omega
  have hneg : ¬ ((n : Int) < 0) := by omega
  simp [Builtin.append_, run_underlying ht, run_underlying hti, sizeOf, typeInfo, zeroValue, hi, hz, asInt, asIntOf, hw, h48i, hneg, hn, h63', h48', hms, hsz0, Question.forced, run_firstCells_none, newRow, grownCap]

theorem ok_appendMake {o : Oper} {st : St} {K : AV -> St -> Prop} {t ti e lab : Nat} {i j i2 : TI} {x y : Operand} {k k' : IntKind} {n : Int} {us : List AV} (h : TabOk P T) (hti : T t = some i) (hd : i.desc = .slice e) (hj : T e = some j) (hpos : 0 < j.size) (hby : 0 < j.bytes)
    (ht2 : T ti = some i2) (hd2 : i2.desc = .int k)
    (ho : o.op = .call { callee := .builtin .append, args := #[x, y], argTypes := #[t, ti] }) (hu : st.used.elem lab = false) (hx : st.ev x = .nilS) (hy : st.ev y = .int k' n) (h0 : 0 < n) (hb : n.toNat * j.bytes <= maxBytes) (hz : cellsOf j.flat j.zero = some us)
    (hk : K (.ref false lab 0 n.toNat) { st with sto := (lab, .arr j.size j.flat (List.replicate n.toNat us)) :: st.sto, used := lab :: st.used }) : OpOk P o st K := by
  obtain ⟨info, d, z, hi1, hi2, hi3, hi4, hi5, hi6, hi7, hi8, hi9⟩ := h.info hj
  obtain ⟨d', hu', htd'⟩ := h.und hti
  have hd1 := tdOf_slice (htd'.trans hd)
  subst hd1
  obtain ⟨d2, hu2, htd2⟩ := h.und ht2
  have hd3 : d2 = .int k := by
    rw [hd2] at htd2
    cases d2 <;> simp [tdOf] at htd2
    rw [htd2]
  subst hd3
  obtain ⟨m, hm⟩ : ∃ m : Nat, m = n.toNat := ⟨_, rfl⟩
  have hnm : n = (m : Int) := by omega
  rw [<- hm] at hb hk
  have hm0 : 0 < m := by omega
  have hml := append_maxLen hby hb
  refine OpOk.upon (fun E a hs => ?_)
  have hxv := rel_nilS (by have := hs.ev x; rw [hx] at this; exact this)
  have hyv := (rel_int (by have := hs.ev y; rw [hy] at this; exact this)).1
  have h63 : (m : Int) <= 9223372036854775807 := by simp only [maxLen] at hml; omega
  have hrun := run_append_make (P := P) E.w t ti o.type e info z k k' hu' hu2 hi1 hi6 (by omega) m hm0 h63 (by rw [hi5]; simp only [maxBytes] at hb; omega)
  have hge : m <= grownCap E.w m 0 e := by simpa using grownCap_ge E.w m 0 e
  have hcm : grownCap E.w m 0 e <= maxLen := grownCap_le_maxLen E.w m 0 e (by first | exact hml | omega)
  obtain ⟨g1, g2⟩ := cellsOf_get hz
  have hzl : j.zero.length = j.size := by rw [<- hi7]; simpa using hi8
  have hcs : (Builtin.zeroCells z.cells m ++ Builtin.zeroCells z.cells (grownCap E.w m 0 e - m)).size = grownCap E.w m 0 e * j.size := by
    simp only [Array.size_append, size_zeroCells, hi8, <- Nat.add_mul]
    congr 1; omega
  obtain ⟨E', hw, hf, hs', hr'⟩ := sim_grown (fl := j.flat) hs hu e (Builtin.zeroCells z.cells m ++ Builtin.zeroCells z.cells (grownCap E.w m 0 e - m)) (grownCap E.w m 0 e) (List.replicate m us) hpos hcs (by simpa using hge) hcm (fun q r hq => by
      have : r = us := (List.mem_replicate.1 (List.mem_of_getElem? hq)).2
      subst this; omega) (fun q c r v hq hc => by
      have hr : r = us := (List.mem_replicate.1 (List.mem_of_getElem? hq)).2
      subst hr
      have hqn : q < m := by
        have := (List.getElem?_eq_some_iff.1 hq).1
        simpa using this
      have hcl : c < j.size := by
        have := (List.getElem?_eq_some_iff.1 hc).1
        omega
      obtain ⟨v0, hv0, hcell⟩ := g2 c v hc
      have hzc : ∃ zc, z.cells[c]? = some zc /\ v0 = ofConst zc := by
        rw [<- hi7] at hv0
        simp only [List.getElem?_map, Option.map_eq_some_iff] at hv0
        obtain ⟨zc, h1, h2⟩ := hv0
        exact ⟨zc, by simpa using h1, h2.symm⟩
      obtain ⟨zc, hzc, rfl⟩ := hzc
      refine ⟨zc, ?_, ?_, ?_⟩
      · have h1 := zeroCells_get' z.cells m q c hqn (by omega)
        rw [hi8] at h1
        have hlt : q * j.size + c < (Builtin.zeroCells z.cells m).size := by
          rw [size_zeroCells, hi8]
          have : (q + 1) * j.size <= m * j.size := Nat.mul_le_mul_right _ hqn
          rw [Nat.add_mul] at this; omega
        rw [Array.getElem?_append_left hlt, h1]; exact hzc
      · exact Array.all_eq_true'.1 hi9 _ (Array.mem_of_getElem? hzc)
      · exact cell_rel (E := E) (rel_const _ zc) hcell)
  refine ⟨_, E', _, _, ?_, hf, hs', by rw [List.length_replicate] at hr'; exact hr', hk⟩
  simp only [execOp, ho, resolve, invoke, builtin, Sem.run_bind, Sem.run_pure, Result.andThen_ok, List.map_toArray, List.map_cons, List.map_nil, hxv, hyv, hnm, hrun, hw]

theorem AOp.appendMake (lab : Nat) {o : Oper} {st : St} {K : AV -> Dl -> Prop} {t ti e : Nat} {i j i2 : TI} {x y : Operand} {k k' : IntKind} {n : Int} {us : List AV} (h : TabOk P T) (hti : T t = some i) (hd : i.desc = .slice e) (hj : T e = some j) (hpos : 0 < j.size) (hby : 0 < j.bytes)
    (ht2 : T ti = some i2) (hd2 : i2.desc = .int k)
    (ho : o.op = .call { callee := .builtin .append, args := #[x, y], argTypes := #[t, ti] }) (hu : st.used.elem lab = false) (hx : st.ev x = .nilS) (hy : st.ev y = .int k' n) (h0 : 0 < n) (hb : n.toNat * j.bytes <= maxBytes) (hz : cellsOf j.flat j.zero = some us)
    (hk : K (.ref false lab 0 n.toNat) ⟨[(lab, some (.arr j.size j.flat (List.replicate n.toNat us)))], [lab], []⟩) : AOp P o st K :=
  ⟨ok_appendMake h hti hd hj hpos hby ht2 hd2 ho hu hx hy h0 hb hz ⟨⟨[(lab, some (.arr j.size j.flat (List.replicate n.toNat us)))], [lab], []⟩, rfl, hk⟩⟩

end Go.Proofs.YtihfpbhalnedcaaGreat.AM

namespace Go.Proofs.YtihfpbhalnedcaaGreat.AM
open Go Go.RowKit

variable {P : Program} {T : Nat -> Option TI} {A : Sy}

theorem Less.initCell (C : Cx P T A) {α : Type} (f : α -> List AV) (L sz : Nat) (fl : Bool) (b j : Nat) {s : St} {cells : List AV} (hb : lk s.sto b = some (.box cells)) (hj : cells[j]? = some .nilS) (hu : s.used.elem L = false) :
    Less s { s with sto := (b, .box (cells.set j (.ref false L 0 0))) :: (L, .arr sz fl (A.enc f [])) :: s.sto, used := L :: s.used } := by
  rw [show A.enc f [] = [] from C.enc f []]
  refine ⟨fun E a hs => ⟨E, rfl, Fr.refl E, ?_⟩⟩
  have hL : E.loc L = none := by
    cases hq : E.loc L with
    | none => rfl
    | some l => have := hs.used L l hq; rw [hu] at this; cases this
  have hbL : b ≠ L := fun e => by have := hs.keys b _ hb; rw [e, hu] at this; cases this
  refine ⟨hs.wf, hs.defers, hs.size, hs.tmps, fun id o h => ?_, fun id l h => ?_, fun id o h => ?_⟩
  · rw [lk_cons] at h
    by_cases he : b = id
    · subst he
      rw [if_pos rfl] at h
      obtain rfl := Option.some.inj h
      obtain ⟨L2, c, ty, h1, h2, h3, h4, h5, h6, h7⟩ := hs.sto b _ hb
      refine ⟨L2, c, ty, h1, h2, h3, h4, by simpa using h5, by simpa using h6, fun k v hk => ?_⟩
      rw [List.getElem?_set] at hk
      by_cases hkj : j = k
      · subst hkj
        have hlt : j < cells.length := (List.getElem?_eq_some_iff.1 hj).1
        rw [if_pos rfl, if_pos hlt] at hk
        obtain rfl := Option.some.inj hk
        obtain ⟨y, g1, g2, g3⟩ := h7 j _ hj
        refine ⟨y, g1, g2, ?_⟩
        cases g3 with
        | base _ _ h => cases h; exact .ref0 L 0 0 none rfl
      · rw [if_neg hkj] at hk
        exact h7 k v hk
    · rw [if_neg he, lk_cons] at h
      by_cases he2 : L = id
      · subst he2; rw [if_pos rfl] at h; obtain rfl := Option.some.inj h; exact .inl ⟨hL, rfl⟩
      · rw [if_neg he2] at h; exact hs.sto id o h
  · have := hs.used id l h
    simp only [List.elem_iff] at this ⊢
    exact List.mem_cons_of_mem _ this
  · rw [lk_cons] at h
    by_cases he : b = id
    · subst he
      have := hs.keys b _ hb
      simp only [List.elem_iff] at this ⊢
      exact List.mem_cons_of_mem _ this
    · rw [if_neg he, lk_cons] at h
      by_cases he2 : L = id
      · subst he2; simp
      · rw [if_neg he2] at h
        have := hs.keys id o h
        simp only [List.elem_iff] at this ⊢
        exact List.mem_cons_of_mem _ this

end Go.Proofs.YtihfpbhalnedcaaGreat.AM
