/- The abstract machine, part 18: an operation comes to one thing, and looks at little. -/
import Derived.Test.YtmbckmfihcojoaaB17
namespace Go.Proofs.Ytmbckmfihcojoaa.AM
open Go Go.RowKit

set_option linter.unusedVariables false
set_option linter.unusedSimpArgs false

/-- What an operation looks at. -/
def seen : Op → List Operand
  | .move x => [x]
  | .assign x => [x]
  | .pick c x y => [c, x, y]
  | .unOp _ _ x => [x]
  | .binOp _ _ x y _ => [x, y]
  | .extract x _ => [x]
  | .convert _ _ x => [x]
  | .makeFunc _ first caps => first.toList ++ caps.toList
  | .box _ x => [x]
  | .build _ parts => parts.toList.map (·.2)
  | .load _ p => [p]
  | .store _ p x => [p, x]
  | .fieldAddr _ p _ => [p]
  | .field _ x _ => [x]
  | .indexAddr _ x y => [x, y]
  | .slice _ x lo hi _ => x :: (lo.toList ++ hi.toList)
  | .makeSlice _ x y => [x, y]
  | .buildSlice _ _ parts => parts.toList.map (·.2)
  | .nilCheck x => [x]
  | .call { callee := .builtin _, args := args, .. } => args.toList
  | .call { callee := .value c, args := args, .. } => c :: args.toList
  | _ => []

def rdOf (st : St) (o : Op) (d : Dl) : List Nat :=
  match o with
  | .call { callee := .value _, .. } => d.rd
  | _ => idsL ((seen o).map st.ev)

structure Agree (l : List Operand) (rd : List Nat) (lab : Nat) (st st' : St) : Prop where
  ev : ∀ x ∈ l, st'.ev x = st.ev x
  sto : ∀ id ∈ rd, lk st'.sto id = lk st.sto id
  new : st.used.elem lab = false → st'.used.elem lab = false
  newL : freshL lab st.used = true → freshL lab st'.used = true

theorem idsL_of_mem {l : List AV} {v : AV} (h : v ∈ l) {id : Nat} (hi : id ∈ v.ids) : id ∈ idsL l := by
  obtain ⟨j, hj⟩ := List.getElem?_of_mem h
  exact idsL_mem hj hi

theorem idsL_drop {l : List AV} {n id : Nat} (h : id ∈ idsL (l.drop n)) : id ∈ idsL l := by
  obtain ⟨v, hv, hi⟩ := idsL_mem_inv h
  exact idsL_of_mem (List.mem_of_mem_drop hv) hi

theorem idsL_append {l m : List AV} {id : Nat} : id ∈ idsL (l ++ m) ↔ id ∈ idsL l ∨ id ∈ idsL m := by
  constructor
  · intro h
    obtain ⟨v, hv, hi⟩ := idsL_mem_inv h
    rcases List.mem_append.1 hv with hv | hv
    · exact .inl (idsL_of_mem hv hi)
    · exact .inr (idsL_of_mem hv hi)
  · rintro (h | h)
    · obtain ⟨v, hv, hi⟩ := idsL_mem_inv h
      exact idsL_of_mem (List.mem_append_left _ hv) hi
    · obtain ⟨v, hv, hi⟩ := idsL_mem_inv h
      exact idsL_of_mem (List.mem_append_right _ hv) hi

section
variable {st st' : St} {dp : Bool}

/-! ### Names that a call matches -/

theorem match0_ids {v b : AV} {t L o : Nat} (h : (t, (L, o)) ∈ match0 v b) : L ∈ v.ids := by
  unfold match0 at h
  split at h
  · split at h
    · simp at h; obtain ⟨_, rfl, _⟩ := h; simp [AV.ids]
    · cases h
  · split at h
    · simp at h; obtain ⟨_, rfl, _⟩ := h; simp [AV.ids]
    · cases h
  · cases h

theorem matchL_ids : ∀ {vs bs : List AV} {t L o : Nat}, (t, (L, o)) ∈ matchL vs bs → L ∈ idsL vs
  | v :: vs, b :: bs, t, L, o, h => by
    unfold idsL
    rcases List.mem_append.1 h with h | h
    · exact List.mem_append_left _ (match0_ids h)
    · exact List.mem_append_right _ (matchL_ids h)
  | [], _, _, _, _, h => by simp [matchL] at h
  | _ :: _, [], _, _, _, h => by simp [matchL] at h

theorem match1_ids {v b : AV} {t L o : Nat} (h : (t, (L, o)) ∈ match1 v b) : L ∈ v.ids := by
  unfold match1 at h
  split at h
  · unfold AV.ids; exact matchL_ids h
  · exact match0_ids h

theorem match1L_ids : ∀ {vs bs : List AV} {t L o : Nat}, (t, (L, o)) ∈ match1L vs bs → L ∈ idsL vs
  | v :: vs, b :: bs, t, L, o, h => by
    unfold idsL
    rcases List.mem_append.1 h with h | h
    · exact List.mem_append_left _ (match1_ids h)
    · exact List.mem_append_right _ (match1L_ids h)
  | [], _, _, _, _, h => by simp [match1L] at h
  | _ :: _, [], _, _, _, h => by simp [match1L] at h

theorem match2_ids {v b : AV} {t L o : Nat} (h : (t, (L, o)) ∈ match2 v b) : L ∈ v.ids := by
  unfold match2 at h
  split at h
  · unfold AV.ids
    rcases List.mem_append.1 h with h | h
    · exact List.mem_append_left _ (match1L_ids h)
    · exact List.mem_append_right _ (match1L_ids h)
  · exact match1_ids h

theorem match2L_ids : ∀ {vs bs : List AV} {t L o : Nat}, (t, (L, o)) ∈ match2L vs bs → L ∈ idsL vs
  | v :: vs, b :: bs, t, L, o, h => by
    unfold idsL
    rcases List.mem_append.1 h with h | h
    · exact List.mem_append_left _ (match2_ids h)
    · exact List.mem_append_right _ (match2L_ids h)
  | [], _, _, _, _, h => by simp [match2L] at h
  | _ :: _, [], _, _, _, h => by simp [match2L] at h

/-- The states agree where a call with these values looks. -/
structure Agr (dp : Bool) (vs : List AV) (st st' : St) : Prop where
  a : ∀ id ∈ idsL vs, lk st'.sto id = lk st.sto id
  b : ∀ id ∈ idsL vs, ∀ i ∈ boxIds st id, lk st'.sto i = lk st.sto i
  c : dp = true → ∀ id ∈ idsL vs, ∀ i ∈ deepIds st id, lk st'.sto i = lk st.sto i

theorem Agr.sub {vs us : List AV} (h : Agr dp vs st st') (hu : ∀ id ∈ idsL us, id ∈ idsL vs) : Agr dp us st st' :=
  ⟨fun id hi => h.a id (hu id hi), fun id hi => h.b id (hu id hi), fun e id hi => h.c e id (hu id hi)⟩

theorem Agr.of_rd {avs : List AV} (h : ∀ id ∈ rdCall dp st avs, lk st'.sto id = lk st.sto id) : Agr dp avs st st' := by
  refine ⟨fun id hi => h id ?_, fun id hi i hi' => h i ?_, fun e id hi i hi' => h i ?_⟩ <;> unfold rdCall
  · exact List.mem_append_left _ (List.mem_append_left _ hi)
  · exact List.mem_append_left _ (List.mem_append_right _ (List.mem_flatMap.2 ⟨id, hi, hi'⟩))
  · subst e; exact List.mem_append_right _ (List.mem_flatMap.2 ⟨id, hi, hi'⟩)

theorem deepCell_agree {no : Nat → Bool} {v b : AV} (h : ∀ id ∈ v.ids, lk st'.sto id = lk st.sto id) (k : deepCell st no v b) : deepCell st' no v b := by
  cases v with
  | ref p id off len =>
    cases b <;> simp only [deepCell] at k ⊢
    rw [h id (by simp [AV.ids])]; exact k
  | own s fl rows => cases fl <;> cases b <;> exact k
  | _ => cases b <;> exact k

theorem deepCells_agree {no : Nat → Bool} : ∀ {vs bs : List AV}, (∀ id ∈ idsL vs, lk st'.sto id = lk st.sto id) → deepCells st no vs bs → deepCells st' no vs bs
  | [], [], _, _ => trivial
  | v :: vs, b :: bs, h, ⟨h1, h2⟩ => ⟨deepCell_agree (fun id hi => h id (by unfold idsL; exact List.mem_append_left _ hi)) h1, deepCells_agree (fun id hi => h id (by unfold idsL; exact List.mem_append_right _ hi)) h2⟩
  | [], _ :: _, _, h => h.elim
  | _ :: _, [], _, h => h.elim

theorem deepRows_agree {no : Nat → Bool} : ∀ {vs bs : List (List AV)}, (∀ r ∈ vs, ∀ id ∈ idsL r, lk st'.sto id = lk st.sto id) → deepRows st no vs bs → deepRows st' no vs bs
  | [], [], _, _ => trivial
  | v :: vs, b :: bs, h, ⟨h1, h2⟩ => ⟨deepCells_agree (fun id hi => h v (List.mem_cons_self ..) id hi) h1, deepRows_agree (fun r hr => h r (List.mem_cons_of_mem _ hr)) h2⟩
  | [], _ :: _, _, h => h.elim
  | _ :: _, [], _, h => h.elim

theorem lendCell_agree {no : Nat → Bool} (hno : no 0 = false → dp = true) {v b : AV} (h : ∀ id ∈ v.ids, lk st'.sto id = lk st.sto id ∧ (dp = true → ∀ i ∈ deepIds st id, lk st'.sto i = lk st.sto i)) (k : lendCell st no v b) : lendCell st' no v b := by
  cases v with
  | ref p id off len =>
    cases b <;> simp only [lendCell] at k ⊢
    obtain ⟨h1, h2⟩ := h id (by simp [AV.ids])
    rw [h1]
    refine ⟨k.1, ?_⟩
    have k2 := k.2
    split at k2
    · rename_i fl rows hq
      refine ⟨k2.1, ?_⟩
      cases fl with
      | true => exact k2.2
      | false =>
        rcases k2.2 with k3 | ⟨k3, k4⟩
        · exact .inl k3
        · refine .inr ⟨k3, deepRows_agree (fun r hr i hi => h2 (hno k3) i ?_) k4⟩
          unfold deepIds
          rw [hq]
          exact List.mem_flatMap.2 ⟨r, List.mem_of_mem_drop (List.mem_of_mem_take hr), hi⟩
    · exact k2.elim
  | _ => cases b <;> exact k

theorem boxIds_agree {id : Nat} (h : lk st'.sto id = lk st.sto id) : boxIds st' id = boxIds st id := by unfold boxIds; rw [h]
theorem deepIds_agree {id : Nat} (h : lk st'.sto id = lk st.sto id) : deepIds st' id = deepIds st id := by unfold deepIds; rw [h]

theorem argP_agree {no : Nat → Bool} (hno : no 0 = false → dp = true) {al : Bool} {v b : AV} (h : Agr dp [v] st st') (k : argP st no al v b) : argP st' no al v b := by
  cases al with
  | true => exact k
  | false => exact lendCell_agree hno (fun id hi => ⟨h.a id (by simpa [idsL] using hi), fun e => h.c e id (by simpa [idsL] using hi)⟩) k

theorem arg0_agree {no : Nat → Bool} (hno : no 0 = false → dp = true) {al : Bool} {v b : AV} (h : Agr dp [v] st st') (hb : b.noR0 = true) (k : arg0 st no al v b) : arg0 st' no al v b := by
  cases b with
  | rptr _ => cases hb
  | ptr t row fld =>
    cases v with
    | ptr id row' fld' =>
      simp only [arg0, isBox] at k ⊢
      rw [h.a id (by simp [idsL, AV.ids])]; exact k
    | _ => exact k
  | ref q t off len => cases v <;> exact k
  | agg _ => exact k
  | tup _ => exact k
  | fn _ _ _ => exact k
  | _ => exact argP_agree hno h k

theorem argL_agree {no : Nat → Bool} (hno : no 0 = false → dp = true) {al : Bool} : ∀ {vs bs : List AV}, Agr dp vs st st' → bs.all AV.noR0 = true → argL st no al vs bs → argL st' no al vs bs
  | [], [], _, _, _ => trivial
  | v :: vs, b :: bs, h, hb, ⟨h1, h2⟩ => by
    simp only [List.all_cons, Bool.and_eq_true] at hb
    exact ⟨arg0_agree hno (h.sub fun id hi => by simp [idsL] at hi ⊢; exact .inl hi) hb.1 h1, argL_agree hno (h.sub fun id hi => by simp [idsL] at hi ⊢; exact .inr hi) hb.2 h2⟩
  | [], _ :: _, _, _, h => h.elim
  | _ :: _, [], _, _, h => h.elim

theorem arg1_agree {no : Nat → Bool} (hno : no 0 = false → dp = true) {al : Bool} {v b : AV} (h : Agr dp [v] st st') (hb : b.noR1 = true) (k : arg1 st no al v b) : arg1 st' no al v b := by
  by_cases hc : ∃ l, b = .agg l
  · obtain ⟨bs, rfl⟩ := hc
    cases v with
    | agg vs => exact argL_agree hno (h.sub fun id hi => by simpa [idsL, AV.ids] using hi) hb k
    | _ => exact k
  · have e1 : b.noR1 = b.noR0 := by cases b <;> first | rfl | exact absurd ⟨_, rfl⟩ hc
    have e2 : ∀ s, arg1 s no al v b = arg0 s no al v b := fun s => by cases b <;> first | rfl | exact absurd ⟨_, rfl⟩ hc
    rw [e2] at k ⊢
    exact arg0_agree hno h (e1 ▸ hb) k

theorem arg1L_agree {no : Nat → Bool} (hno : no 0 = false → dp = true) {al : Bool} : ∀ {vs bs : List AV}, Agr dp vs st st' → bs.all AV.noR1 = true → arg1L st no al vs bs → arg1L st' no al vs bs
  | [], [], _, _, _ => trivial
  | v :: vs, b :: bs, h, hb, ⟨h1, h2⟩ => by
    simp only [List.all_cons, Bool.and_eq_true] at hb
    exact ⟨arg1_agree hno (h.sub fun id hi => by simp [idsL] at hi ⊢; exact .inl hi) hb.1 h1, arg1L_agree hno (h.sub fun id hi => by simp [idsL] at hi ⊢; exact .inr hi) hb.2 h2⟩
  | [], _ :: _, _, _, h => h.elim
  | _ :: _, [], _, _, h => h.elim

theorem arg2_agree {no : Nat → Bool} (hno : no 0 = false → dp = true) {al : Bool} {v b : AV} (h : Agr dp [v] st st') (hb : b.noR = true) (k : arg2 st no al v b) : arg2 st' no al v b := by
  by_cases hc : ∃ g x y, b = .fn g x y
  · obtain ⟨g, x', y', rfl⟩ := hc
    cases v with
    | fn f x y =>
      simp only [AV.noR, Bool.and_eq_true] at hb
      exact ⟨k.1, arg1L_agree hno (h.sub fun id hi => by simp [idsL, AV.ids]; exact .inl hi) hb.1 k.2.1, arg1L_agree hno (h.sub fun id hi => by simp [idsL, AV.ids]; exact .inr hi) hb.2 k.2.2⟩
    | _ => exact k
  · have e1 : b.noR = b.noR1 := by cases b <;> first | rfl | exact absurd ⟨_, _, _, rfl⟩ hc
    have e2 : ∀ s, arg2 s no al v b = arg1 s no al v b := fun s => by cases b <;> first | rfl | exact absurd ⟨_, _, _, rfl⟩ hc
    rw [e2] at k ⊢
    exact arg1_agree hno h (e1 ▸ hb) k

theorem args_agree {no : Nat → Bool} (hno : no 0 = false → dp = true) {al : Bool} : ∀ {vs bs : List AV}, Agr dp vs st st' → bs.all AV.noR = true → args st no al vs bs → args st' no al vs bs
  | [], [], _, _, _ => trivial
  | v :: vs, b :: bs, h, hb, ⟨h1, h2⟩ => by
    simp only [List.all_cons, Bool.and_eq_true] at hb
    exact ⟨arg2_agree hno (h.sub fun id hi => by simp [idsL] at hi ⊢; exact .inl hi) hb.1 h1, args_agree hno (h.sub fun id hi => by simp [idsL] at hi ⊢; exact .inr hi) hb.2 h2⟩
  | [], _ :: _, _, _, h => h.elim
  | _ :: _, [], _, _, h => h.elim

theorem giveCell_agree {al : Bool} {v b : AV} (h : ∀ id ∈ v.ids, lk st'.sto id = lk st.sto id) (k : giveCell st al v b) : giveCell st' al v b := by
  cases b with
  | own s fl rows =>
    cases v with
    | ref p id off len => simp only [giveCell] at k ⊢; rw [h id (by simp [AV.ids])]; exact k
    | _ => exact k
  | _ => exact k

theorem giveCells_agree {al : Bool} : ∀ {vs bs : List AV}, (∀ id ∈ idsL vs, lk st'.sto id = lk st.sto id) → giveCells st al vs bs → giveCells st' al vs bs
  | _, [], _, _ => by unfold giveCells; trivial
  | v :: vs, b :: bs, h, ⟨h1, h2⟩ => ⟨giveCell_agree (fun id hi => h id (by unfold idsL; exact List.mem_append_left _ hi)) h1, giveCells_agree (fun id hi => h id (by unfold idsL; exact List.mem_append_right _ hi)) h2⟩
  | [], _ :: _, _, h => h.elim

theorem giveObjs_agree {al : Bool} {ρ : Ren} (h : ∀ t L o, lk ρ t = some (L, o) → lk st'.sto L = lk st.sto L ∧ ∀ i ∈ boxIds st L, lk st'.sto i = lk st.sto i) : ∀ {objs : List Obj} {k : Nat}, giveObjs st al ρ k objs → giveObjs st' al ρ k objs
  | [], _, _ => trivial
  | .box cells :: r, k, ⟨h1, h2⟩ => by
    refine ⟨?_, giveObjs_agree h h2⟩
    split at h1
    · rename_i id fld hq
      obtain ⟨g1, g2⟩ := h _ _ _ hq
      simp only [hq, g1]
      split at h1
      · rename_i cs hq2
        exact ⟨h1.1, giveCells_agree (fun i hi => g2 i (by unfold boxIds; rw [hq2]; exact idsL_drop hi)) h1.2⟩
      · exact h1.elim
    · exact h1.elim
  | .arr s fl rows :: r, k, ⟨h1, h2⟩ => by
    refine ⟨?_, giveObjs_agree h h2⟩
    split at h1
    · rename_i L off hq
      simp only [hq, (h _ _ _ hq).1]
      exact h1
    · exact h1

theorem matchO_agree {ρ : Ren} (h : ∀ t L o, lk ρ t = some (L, o) → lk st'.sto L = lk st.sto L) : ∀ (objs : List Obj) (k : Nat), matchO st' ρ k objs = matchO st ρ k objs
  | [], _ => rfl
  | .box cells :: r, k => by
    simp only [matchO]
    rw [matchO_agree h r (k + 1)]
    cases hq : lk ρ (gl k) with
    | none => rfl
    | some p => obtain ⟨L, o⟩ := p; simp only [h _ _ _ hq]
  | .arr _ _ _ :: r, k => by simp only [matchO]; exact matchO_agree h r (k + 1)

theorem backSto_agree {ln : List (List AV) → Nat} {ρ : Ren} (h : ∀ t L o, lk ρ t = some (L, o) → lk st'.sto L = lk st.sto L) (lab : Nat) : ∀ (os : List (Option Obj)) (k : Nat), backSto ln st' ρ lab k os = backSto ln st ρ lab k os
  | [], _ => rfl
  | none :: r, k => backSto_agree h lab r (k + 1)
  | some (.box cells) :: r, k => by
    simp only [backSto]
    rw [backSto_agree h lab r (k + 1)]
    cases hq : lk ρ (gl k) with
    | none => rfl
    | some p => obtain ⟨L, o⟩ := p; simp only [h _ _ _ hq]
  | some (.arr _ _ _) :: r, k => by simp only [backSto]; rw [backSto_agree h lab r (k + 1)]

theorem sigO_agree {ρ : Ren} (lab : Nat) : ∀ (os : List (Option Obj)) (k : Nat), sigO st' ρ lab k os = sigO st ρ lab k os
  | [], _ => rfl
  | none :: r, k => sigO_agree lab r (k + 1)
  | some (.box cells) :: r, k => by simp only [sigO]; rw [sigO_agree lab r (k + 1)]
  | some (.arr _ _ _) :: r, k => by simp only [sigO]; rw [sigO_agree lab r (k + 1)]

theorem rho_agree {avs bs : List AV} (h : Agr dp avs st st') : ∀ t L o, lk (rhoA avs bs) t = some (L, o) → lk st'.sto L = lk st.sto L ∧ ∀ i ∈ boxIds st L, lk st'.sto i = lk st.sto i := fun t L o hq => by
  have := match2L_ids (lk_mem hq)
  exact ⟨h.a L this, h.b L this⟩

theorem rhoG_agree {avs bs : List AV} {objs : List Obj} (h : Agr dp avs st st') : rhoG st' avs bs objs = rhoG st avs bs objs := by
  unfold rhoG rhoB
  rw [matchO_agree (fun t L o hq => (rho_agree h t L o hq).1)]

theorem gives_agree {al : Bool} {avs bs : List AV} {objs : List Obj} (h : Agr dp avs st st') (hb : bs.all AV.noR = true) (k : Gives st al dp avs bs objs) : Gives st' al dp avs bs objs := by
  obtain ⟨h1, h2, h3⟩ := k
  have hr := rhoG_agree (bs := bs) (objs := objs) h
  refine ⟨by rw [hr]; exact h1, ?_, giveObjs_agree (rho_agree h) h3⟩
  rw [hr]
  refine args_agree (fun hn => ?_) h hb h2
  unfold given at hn
  cases dp with
  | true => rfl
  | false => simp [nbeq_refl] at hn

theorem backChk_agree {avs bs : List AV} {lab : Nat} {objs : List Obj} {os : List (Option Obj)} {v : AV} : backChk st' (rhoA avs bs) lab objs os v = backChk st (rhoA avs bs) lab objs os v := by
  unfold backChk sigA
  rw [sigO_agree (st := st) (st' := st')]

theorem flatMap_agree {f g : Nat → List Nat} {l : List Nat} (h : ∀ x ∈ l, f x = g x) : l.flatMap f = l.flatMap g := by
  induction l with
  | nil => rfl
  | cons x r ih => simp only [List.flatMap_cons]; rw [h x (List.mem_cons_self ..), ih fun y hy => h y (List.mem_cons_of_mem _ hy)]

theorem backD_agree {ln : List (List AV) → Nat} {avs bs : List AV} {lab : Nat} {objs : List Obj} {os : List (Option Obj)} {v : AV} (h : Agr dp avs st st') : backD dp ln st' avs bs objs lab os v = backD dp ln st avs bs objs lab os v := by
  have hn : ∀ ln, newSto ln st' (rhoA avs bs) lab os v = newSto ln st (rhoA avs bs) lab os v := fun ln => by
    unfold newSto
    rw [backSto_agree (fun t L o hq => (rho_agree h t L o hq).1)]
  unfold backD backUsed rdCall
  rw [hn, hn, rhoG_agree h]
  congr 1
  rw [flatMap_agree fun x hx => boxIds_agree (h.a x hx)]
  cases dp with
  | true => simp only; rw [flatMap_agree fun x hx => deepIds_agree (h.a x hx)]
  | false => rfl

end

/-! ### One thing -/

section
variable {P : Program} {T : Nat → Option TI} {A : Sy} {lab : Nat} {o : Oper} {st : St} {K : AV → Dl → Prop}

def Fun (A : Sy) (P : Program) (T : Nat → Option TI) (lab : Nat) (o : Oper) (st : St) (v : AV) (d : Dl) : Prop :=
  ∀ (st' : St) (K' : AV → Dl → Prop), Agree (seen o.op) (rdOf st o.op d) lab st st' → K' v d → opVC A true P T lab o st' K'

theorem map_ev {st st' : St} {l : List Operand} (h : ∀ x ∈ l, st'.ev x = st.ev x) : l.map st'.ev = l.map st.ev := List.map_congr_left h

theorem opt_ev {st st' : St} {x : Option Operand} (h : ∀ y ∈ x.toList, st'.ev y = st.ev y) : x.map st'.ev = x.map st.ev := by
  cases x with
  | none => rfl
  | some y => simp [h y (by simp)]

theorem fillA_agree {st st' : St} {place : Nat → Option (Nat × Nat)} : ∀ (parts : List (Nat × Operand)) (cells : List AV), (∀ p ∈ parts, st'.ev p.2 = st.ev p.2) → fillA place st'.ev cells parts = fillA place st.ev cells parts
  | [], _, _ => rfl
  | (i, x) :: rest, cells, h => by
    have hx : st'.ev x = st.ev x := h (i, x) (by simp)
    have ih : ∀ c, fillA place st'.ev c rest = fillA place st.ev c rest := fun c => fillA_agree rest c fun p hp => h p (List.mem_cons_of_mem _ hp)
    unfold fillA
    rw [hx]
    cases place i with
    | none => rfl
    | some q =>
      cases (st.ev x).flat with
      | none => rfl
      | some cs => simp only [ih]

theorem elem_agree {st st' : St} {size : Nat} {x : AV} {n : Int} {K : AV → Prop} (h : ∀ id ∈ x.ids, lk st'.sto id = lk st.sto id) (hk : st.elemVC size x n K) : ∃ v, K v ∧ ∀ K' : AV → Prop, K' v → st'.elemVC size x n K' := by
  unfold St.elemVC at hk
  split at hk
  · split at hk
    · rename_i p id off len s fl rows hq
      obtain ⟨⟨h1, h2, h3, h4⟩⟩ := hk
      refine ⟨_, h4, fun K' hk' => ?_⟩
      unfold St.elemVC
      simp only [h _ (List.mem_singleton.2 rfl), hq]
      exact ⟨⟨h1, h2, h3, hk'⟩⟩
    · exact hk.elim
  · obtain ⟨h0, r, h1, h2, h3⟩ := hk.out
    exact ⟨_, h3, fun K' hk' => ⟨h0, r, h1, h2, hk'⟩⟩
  · exact hk.elim

theorem cut_agree {st st' : St} {size : Nat} {x : AV} {lo hi : Option AV} {K : AV → Prop} (h : ∀ id ∈ x.ids, lk st'.sto id = lk st.sto id) (hk : st.cutVC size x lo hi K) : ∃ v, K v ∧ ∀ K' : AV → Prop, K' v → st'.cutVC size x lo hi K' := by
  unfold St.cutVC at hk
  split at hk
  · split at hk
    · rename_i p id off len s fl rows l h1 h2
      split at hk
      · obtain ⟨⟨g1, g2, g3, g4⟩⟩ := hk
        refine ⟨_, g4, fun K' hk' => ?_⟩
        unfold St.cutVC
        simp only [h _ (List.mem_singleton.2 rfl), h1, h2]
        exact ⟨⟨g1, g2, g3, hk'⟩⟩
      · obtain ⟨⟨g1, g2, g3, g4⟩⟩ := hk
        refine ⟨_, g4, fun K' hk' => ?_⟩
        unfold St.cutVC
        simp only [h _ (List.mem_singleton.2 rfl), h1, h2]
        exact ⟨⟨g1, g2, g3, hk'⟩⟩
      · exact hk.elim
    · exact hk.elim
  · split at hk
    · rename_i h1
      split at hk
      · obtain ⟨⟨g1, g2, g4⟩⟩ := hk
        refine ⟨_, g4, fun K' hk' => ?_⟩
        unfold St.cutVC
        simp only [h1]
        exact ⟨⟨g1, g2, hk'⟩⟩
      · obtain ⟨⟨g1, g2, g4⟩⟩ := hk
        refine ⟨_, g4, fun K' hk' => ?_⟩
        unfold St.cutVC
        simp only [h1]
        exact ⟨g1, g2, hk'⟩
      · exact hk.elim
    · exact hk.elim
  · exact hk.elim

theorem int_fun {op : BinOp} {k : IntKind} {m n : Int} {K : AV → Prop} (hk : intVC true op k m n K) : ∃ v, K v ∧ ∀ K' : AV → Prop, K' v → intVC true op k m n K' := by
  cases op <;> first
    | exact hk.elim
    | exact ⟨_, hk.out (.inl rfl), fun K' hk' => ⟨fun _ => hk'⟩⟩
    | exact ⟨_, (hk.out (.inl rfl)).2, fun K' hk' => ⟨fun _ => ⟨(hk.out (.inl rfl)).1, hk'⟩⟩⟩
    | exact ⟨_, hk.out, fun K' hk' => ⟨hk'⟩⟩

theorem shift_fun {op : BinOp} {k : IntKind} {m n : Int} {K : AV → Prop} (hk : shiftVC true op k m n K) : ∃ v, K v ∧ ∀ K' : AV → Prop, K' v → shiftVC true op k m n K' := by
  cases op <;> first
    | exact hk.elim
    | exact ⟨_, (hk.out (.inl rfl)).2, fun K' hk' => ⟨fun _ => ⟨(hk.out (.inl rfl)).1, hk'⟩⟩⟩

theorem len_agree {st st' : St} {t : Nat} {v : AV} {K : AV → Prop} (h : ∀ id ∈ v.ids, lk st'.sto id = lk st.sto id) (hk : lenVC true T st t v K) : ∃ u, K u ∧ ∀ K' : AV → Prop, K' u → lenVC true T st' t v K' := by
  unfold lenVC at hk
  split at hk
  · rename_i ht
    split at hk
    · exact ⟨_, hk, fun K' hk' => by simp only [lenVC, ht]; exact hk'⟩
    · exact ⟨_, hk, fun K' hk' => by simp only [lenVC, ht]; exact hk'⟩
    · have h1 := hk.out.1 rfl
      exact ⟨_, hk.out.2 h1, fun K' hk' => by simp only [lenVC, ht]; exact ⟨fun _ => h1, fun _ => hk'⟩⟩
    · split at hk
      · rename_i hq
        have h1 := hk.out.1 rfl
        exact ⟨_, hk.out.2 h1, fun K' hk' => by simp only [lenVC, ht, h _ (List.mem_singleton.2 rfl), hq]; exact ⟨fun _ => h1, fun _ => hk'⟩⟩
      · exact hk.elim
    · exact hk.elim
  · exact hk.elim

theorem src_agree {st st' : St} {v : AV} {K : SK → List (List AV) → Prop} (h : ∀ id ∈ v.ids, lk st'.sto id = lk st.sto id) (hk : st.srcVC v K) : ∃ kd ys, K kd ys ∧ ∀ K' : SK → List (List AV) → Prop, K' kd ys → st'.srcVC v K' := by
  unfold St.srcVC at hk
  split at hk
  · exact ⟨_, _, hk, fun K' hk' => hk'⟩
  · exact ⟨_, _, hk, fun K' hk' => hk'⟩
  · exact ⟨_, _, hk, fun K' hk' => hk'⟩
  · split at hk
    · rename_i p id off len s rows hq
      obtain ⟨⟨h1, h2⟩⟩ := hk
      refine ⟨_, _, h2, fun K' hk' => ?_⟩
      unfold St.srcVC
      simp only [h _ (List.mem_singleton.2 rfl), hq]
      exact ⟨⟨h1, hk'⟩⟩
    · exact hk.elim
  · exact hk.elim

theorem app_fun {st : St} {j : TI} {x y : AV} (hk : st.appVC j lab x y K) : ∃ v d, K v d ∧ ∀ st' : St, (∀ id ∈ x.ids, lk st'.sto id = lk st.sto id) → (∀ id ∈ y.ids, lk st'.sto id = lk st.sto id) → ∀ K' : AV → Dl → Prop, K' v d → st'.appVC j lab x y K' := by
  unfold St.appVC at hk
  obtain ⟨kd, ys, hk, hf⟩ := src_agree (st' := st) (fun _ _ => rfl) hk
  have hs : ∀ st' : St, (∀ id ∈ y.ids, lk st'.sto id = lk st.sto id) → ∀ K' : SK → List (List AV) → Prop, K' kd ys → st'.srcVC y K' := fun st' h K' hk' => by
    obtain ⟨kd', ys', e, h2⟩ := src_agree (st' := st') (K := fun kd' ys' => kd' = kd ∧ ys' = ys) h (hf _ ⟨rfl, rfl⟩)
    obtain ⟨e1, e2⟩ := e
    subst e1 e2
    exact h2 K' hk'
  split at hk
  · obtain ⟨⟨h1, h2, h3, h4⟩⟩ := hk
    exact ⟨_, _, h4, fun st' _ hy K' hk' => hs st' hy _ ⟨⟨h1, h2, h3, hk'⟩⟩⟩
  · obtain ⟨⟨h1, h2, h3, h4⟩⟩ := hk
    exact ⟨_, _, h4, fun st' _ hy K' hk' => hs st' hy _ ⟨⟨h1, h2, h3, hk'⟩⟩⟩
  · rename_i p id off len
    split at hk
    · rename_i s fl rows hq
      obtain ⟨⟨h1, h2, h3, h4⟩⟩ := hk
      rcases h4 with ⟨g1, g2, g3⟩ | ⟨g1, g2, g3⟩
      · refine ⟨_, _, g3, fun st' hx hy K' hk' => hs st' hy _ ?_⟩
        simp only [hx _ (List.mem_singleton.2 rfl), hq]
        exact ⟨⟨h1, h2, h3, .inl ⟨g1, g2, hk'⟩⟩⟩
      · refine ⟨_, _, g3, fun st' hx hy K' hk' => hs st' hy _ ?_⟩
        simp only [hx _ (List.mem_singleton.2 rfl), hq]
        exact ⟨⟨h1, h2, h3, .inr ⟨g1, g2, hk'⟩⟩⟩
    · exact hk.elim
  · exact hk.elim

theorem store_agree {st st' : St} {t : Nat} {p v : AV} (h : ∀ id ∈ p.ids, lk st'.sto id = lk st.sto id) (hk : storeVC T st t p v K) : ∃ u d, K u d ∧ ∀ K' : AV → Dl → Prop, K' u d → storeVC T st' t p v K' := by
  unfold storeVC at hk
  split at hk
  · rename_i i vs id row fld h1 h2
    have hid := h id (List.mem_singleton.2 rfl)
    split at hk
    · rename_i cells hq
      cases hc : (nbeq row 0 && nbeq vs.length i.size && nble (fld + vs.length) cells.length) with
      | false => rw [hc] at hk; exact hk.elim
      | true =>
        rw [hc] at hk
        refine ⟨_, _, hk, fun K' hk' => ?_⟩
        unfold storeVC
        simp only [h1, h2, hid, hq, hc]
        exact hk'
    · rename_i s fl rows hq
      split at hk
      · rename_i us hu
        obtain ⟨r, hr, hl, hle, hk⟩ := hk.out
        refine ⟨_, _, hk, fun K' hk' => ?_⟩
        unfold storeVC
        simp only [h1, h2, hid, hq, hu]
        exact ⟨r, hr, hl, hle, hk'⟩
      · exact hk.elim
    · exact hk.elim
  · exact hk.elim

theorem load_agree {st st' : St} {t : Nat} {p : AV} {K : AV → Prop} (h : ∀ id ∈ p.ids, lk st'.sto id = lk st.sto id) (hk : loadVC T st t p K) : ∃ u, K u ∧ ∀ K' : AV → Prop, K' u → loadVC T st' t p K' := by
  unfold loadVC at hk
  split at hk
  · rename_i i hi
    split at hk
    · rename_i hkn
      split at hk
      · rename_i id row fld
        have hid := h id (List.mem_singleton.2 rfl)
        split at hk
        · rename_i cells hq
          split at hk
          · rename_i v hrow hl
            exact ⟨_, hk, fun K' hk' => by simp only [loadVC, hi, hkn, hid, hq, hrow, hl]; exact hk'⟩
          · exact hk.elim
        · rename_i s fl rows hq
          obtain ⟨r, hr, hk⟩ := hk.out
          split at hk
          · rename_i v hl
            exact ⟨_, hk, fun K' hk' => by simp only [loadVC, hi, hkn, hid, hq]; exact ⟨r, hr, by simp only [hl]; exact hk'⟩⟩
          · exact hk.elim
        · exact hk.elim
      · rename_i cells
        split at hk
        · rename_i v hl
          exact ⟨_, hk, fun K' hk' => by simp only [loadVC, hi, hkn, hl]; exact hk'⟩
        · exact hk.elim
      · exact hk.elim
    · exact hk.elim
  · exact hk.elim

end

end Go.Proofs.Ytmbckmfihcojoaa.AM
