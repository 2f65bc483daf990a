/- The abstract machine, part 13: an operation comes to one thing, and looks at little. -/
import Derived.Test.YtmpbmfhlkhonkaaAM12
namespace Go.Proofs.Ytmpbmfhlkhonkaa.AM
open Go Go.RowKit

set_option linter.unusedVariables false
set_option linter.unusedSimpArgs false

/-- What an operation looks at. -/
def seen : Op → List Operand
  | .move x => [x]
  | .assign x => [x]
  | .pick c x y => [c, x, y]
  | .unOp _ _ x => [x]
  | .binOp _ _ x y _ => [x, y]
  | .extract x _ => [x]
  | .convert _ _ x => [x]
  | .makeFunc _ first caps => first.toList ++ caps.toList
  | .box _ x => [x]
  | .build _ parts => parts.toList.map (·.2)
  | .load _ p => [p]
  | .store _ p x => [p, x]
  | .fieldAddr _ p _ => [p]
  | .field _ x _ => [x]
  | .indexAddr _ x y => [x, y]
  | .slice _ x lo hi _ => x :: (lo.toList ++ hi.toList)
  | .makeSlice _ x y => [x, y]
  | .call { callee := .builtin _, args := args, .. } => args.toList
  | .call { callee := .value c, args := args, .. } => c :: args.toList
  | _ => []

def boxIds (st : St) (i : Nat) : List Nat :=
  match lk st.sto i with
  | some (.box cells) => idsL cells
  | _ => []

def rdOf (st : St) (o : Op) : List Nat :=
  match o with
  | .call { callee := .value _, .. } => idsL ((seen o).map st.ev) ++ (idsL ((seen o).map st.ev)).flatMap (boxIds st)
  | _ => idsL ((seen o).map st.ev)

structure Agree (l : List Operand) (rd : List Nat) (lab : Nat) (st st' : St) : Prop where
  ev : ∀ x ∈ l, st'.ev x = st.ev x
  sto : ∀ id ∈ rd, lk st'.sto id = lk st.sto id
  new : st.used.elem lab = false → st'.used.elem lab = false
  newL : freshL lab st.used = true → freshL lab st'.used = true

theorem idsL_of_mem {l : List AV} {v : AV} (h : v ∈ l) {id : Nat} (hi : id ∈ v.ids) : id ∈ idsL l := by
  obtain ⟨j, hj⟩ := List.getElem?_of_mem h
  exact idsL_mem hj hi

theorem idsL_mem_inv {id : Nat} : ∀ {l : List AV}, id ∈ idsL l → ∃ v ∈ l, id ∈ v.ids
  | [], h => by simp [idsL] at h
  | v :: r, h => by
    unfold idsL at h
    rcases List.mem_append.1 h with h | h
    · exact ⟨v, by simp, h⟩
    · obtain ⟨u, hu, hi⟩ := idsL_mem_inv h
      exact ⟨u, List.mem_cons_of_mem _ hu, hi⟩

section
variable {st st' : St}

theorem at_agree {v : AV} (h : ∀ id ∈ v.ids, lk st'.sto id = lk st.sto id) : st'.at v = st.at v := by
  cases v with
  | ptr id row fld => simp only [St.at, h id (by simp [AV.ids])]
  | _ => rfl

theorem lendCell_agree {v b : AV} (h : ∀ id ∈ v.ids, lk st'.sto id = lk st.sto id) (k : lendCell st v b) : lendCell st' v b := by
  cases v with
  | ref p id off len =>
    cases b <;> simp only [lendCell] at k ⊢
    rw [h id (by simp [AV.ids])]; exact k
  | _ => cases b <;> exact k

theorem lendCells_agree : ∀ {vs bs : List AV}, (∀ id ∈ idsL vs, lk st'.sto id = lk st.sto id) → lendCells st vs bs → lendCells st' vs bs
  | [], [], _, _ => trivial
  | v :: vs, b :: bs, h, ⟨h1, h2⟩ => ⟨lendCell_agree (fun id hi => h id (by unfold idsL; exact List.mem_append_left _ hi)) h1, lendCells_agree (fun id hi => h id (by unfold idsL; exact List.mem_append_right _ hi)) h2⟩
  | [], _ :: _, _, h => h.elim
  | _ :: _, [], _, h => h.elim

theorem idsL_drop {l : List AV} {n id : Nat} (h : id ∈ idsL (l.drop n)) : id ∈ idsL l := by
  obtain ⟨v, hv, hi⟩ := idsL_mem_inv h
  exact idsL_of_mem (List.mem_of_mem_drop hv) hi

theorem lend0_agree {v b : AV} (h : ∀ id ∈ v.ids, lk st'.sto id = lk st.sto id ∧ ∀ i ∈ boxIds st id, lk st'.sto i = lk st.sto i) (hb : boxed0 st v = true) (k : lend0 st v b) : lend0 st' v b := by
  cases v with
  | agg vs =>
    cases b <;> simp only [lend0] at k ⊢
    exact lendCells_agree (fun id hi => (h id (by simpa [AV.ids] using hi)).1) k
  | ptr id row fld =>
    cases b <;> simp only [lend0] at k ⊢
    obtain ⟨cells, hc, hl⟩ := k
    obtain ⟨h1, h2⟩ := h id (by simp [AV.ids])
    refine ⟨cells, by rw [at_agree (fun i hi => by simp [AV.ids] at hi; subst hi; exact h1)]; exact hc, lendCells_agree (fun i hi => h2 i ?_) hl⟩
    simp only [boxed0] at hb
    simp only [boxIds]
    simp only [St.at] at hc
    split at hb
    · rename_i cs hq
      simp only [hq] at hc ⊢
      cases hrow : nbeq row 0 with
      | false => rw [hrow] at hc; cases hc
      | true =>
        rw [hrow] at hc
        obtain rfl := Option.some.inj hc
        exact idsL_drop hi
    · cases hb
  | rptr cells => exact k
  | ref p id off len => exact lendCell_agree (fun id hi => (h id hi).1) k
  | _ => cases b <;> exact k

theorem lend0s_agree : ∀ {vs bs : List AV}, (∀ id ∈ idsL vs, lk st'.sto id = lk st.sto id ∧ ∀ i ∈ boxIds st id, lk st'.sto i = lk st.sto i) → vs.all (boxed0 st) = true → lend0s st vs bs → lend0s st' vs bs
  | [], [], _, _, _ => trivial
  | v :: vs, b :: bs, h, hb, ⟨h1, h2⟩ => by
    simp only [List.all_cons, Bool.and_eq_true] at hb
    exact ⟨lend0_agree (fun id hi => h id (by unfold idsL; exact List.mem_append_left _ hi)) hb.1 h1, lend0s_agree (fun id hi => h id (by unfold idsL; exact List.mem_append_right _ hi)) hb.2 h2⟩
  | [], _ :: _, _, _, h => h.elim
  | _ :: _, [], _, _, h => h.elim

theorem lend_agree {v b : AV} (h : ∀ id ∈ v.ids, lk st'.sto id = lk st.sto id ∧ ∀ i ∈ boxIds st id, lk st'.sto i = lk st.sto i) (hb : boxed1 st v = true) (k : lend st v b) : lend st' v b := by
  cases v with
  | fn f x y =>
    cases b <;> simp only [lend] at k ⊢
    simp only [boxed1, Bool.and_eq_true] at hb
    exact ⟨k.1, lend0s_agree (fun id hi => h id (by unfold AV.ids; exact List.mem_append_left _ hi)) hb.1 k.2.1, lend0s_agree (fun id hi => h id (by unfold AV.ids; exact List.mem_append_right _ hi)) hb.2 k.2.2⟩
  | _ => exact lend0_agree (b := b) h hb k

theorem lends_agree : ∀ {vs bs : List AV}, (∀ id ∈ idsL vs, lk st'.sto id = lk st.sto id ∧ ∀ i ∈ boxIds st id, lk st'.sto i = lk st.sto i) → vs.all (boxed1 st) = true → lends st vs bs → lends st' vs bs
  | [], [], _, _, _ => trivial
  | v :: vs, b :: bs, h, hb, ⟨h1, h2⟩ => by
    simp only [List.all_cons, Bool.and_eq_true] at hb
    exact ⟨lend_agree (fun id hi => h id (by unfold idsL; exact List.mem_append_left _ hi)) hb.1 h1, lends_agree (fun id hi => h id (by unfold idsL; exact List.mem_append_right _ hi)) hb.2 h2⟩
  | [], _ :: _, _, _, h => h.elim
  | _ :: _, [], _, _, h => h.elim

theorem fillA_agree {place : Nat → Option (Nat × Nat)} : ∀ (parts : List (Nat × Operand)) (cells : List AV), (∀ p ∈ parts, st'.ev p.2 = st.ev p.2) → fillA place st'.ev cells parts = fillA place st.ev cells parts
  | [], _, _ => rfl
  | (i, x) :: rest, cells, h => by
    have hx : st'.ev x = st.ev x := h (i, x) (by simp)
    have ih : ∀ c, fillA place st'.ev c rest = fillA place st.ev c rest := fun c => fillA_agree rest c fun p hp => h p (List.mem_cons_of_mem _ hp)
    unfold fillA
    rw [hx]
    cases place i with
    | none => rfl
    | some q =>
      cases (st.ev x).flat with
      | none => rfl
      | some cs => simp only [ih]

end

section
variable {P : Program} {T : Nat → Option TI} {A : Sy} {lab : Nat} {o : Oper} {st : St} {K : AV → Dl → Prop}

def Fun (A : Sy) (P : Program) (T : Nat → Option TI) (lab : Nat) (o : Oper) (st : St) (v : AV) (d : Dl) : Prop :=
  ∀ (st' : St) (K' : AV → Dl → Prop), Agree (seen o.op) (rdOf st o.op) lab st st' → K' v d → opVC A true P T lab o st' K'

theorem map_ev {st st' : St} {l : List Operand} (h : ∀ x ∈ l, st'.ev x = st.ev x) : l.map st'.ev = l.map st.ev := List.map_congr_left h

theorem opt_ev {st st' : St} {x : Option Operand} (h : ∀ y ∈ x.toList, st'.ev y = st.ev y) : x.map st'.ev = x.map st.ev := by
  cases x with
  | none => rfl
  | some y => simp [h y (by simp)]

theorem elem_agree {st st' : St} {size : Nat} {x : AV} {n : Int} {K : AV → Prop} (h : ∀ id ∈ x.ids, lk st'.sto id = lk st.sto id) (hk : st.elemVC A size x n K) : ∃ v, K v ∧ ∀ K' : AV → Prop, K' v → st'.elemVC A size x n K' := by
  unfold St.elemVC at hk
  split at hk
  · split at hk
    · rename_i p id off len s fl rows hq
      refine ⟨_, hk.2, fun K' hk' => ?_⟩
      unfold St.elemVC
      simp only [h _ (List.mem_singleton.2 rfl), hq]
      exact ⟨hk.1, hk'⟩
    · exact hk.elim
  · obtain ⟨h0, r, h1, h2, h3⟩ := hk.out
    exact ⟨_, h3, fun K' hk' => ⟨h0, r, h1, h2, hk'⟩⟩
  · exact hk.elim

theorem cut_agree {st st' : St} {size : Nat} {x : AV} {lo hi : Option AV} {K : AV → Prop} (h : ∀ id ∈ x.ids, lk st'.sto id = lk st.sto id) (hk : st.cutVC A size x lo hi K) : ∃ v, K v ∧ ∀ K' : AV → Prop, K' v → st'.cutVC A size x lo hi K' := by
  unfold St.cutVC at hk
  split at hk
  · split at hk
    · rename_i p id off len s fl rows l hh h1 h2 h3
      refine ⟨_, hk.2, fun K' hk' => ?_⟩
      unfold St.cutVC
      simp only [h _ (List.mem_singleton.2 rfl), h1, h2, h3]
      exact ⟨hk.1, hk'⟩
    · exact hk.elim
  · split at hk
    · rename_i h1 h2
      refine ⟨_, hk.2, fun K' hk' => ?_⟩
      unfold St.cutVC
      simp only [h1, h2]
      exact ⟨hk.1, hk'⟩
    · exact hk.elim
  · exact hk.elim

theorem int_fun {op : BinOp} {k : IntKind} {m n : Int} {K : AV → Prop} (hk : intVC A op k m n K) : ∃ v, K v ∧ ∀ K' : AV → Prop, K' v → intVC A op k m n K' := by
  cases op <;> first
    | exact hk.elim
    | exact ⟨_, hk.2, fun K' hk' => ⟨hk.1, hk'⟩⟩
    | exact ⟨_, hk, fun K' hk' => hk'⟩

theorem len_fun {t : Nat} {v : AV} {K : AV → Prop} (hk : lenVC A T t v K) : ∃ u, K u ∧ ∀ K' : AV → Prop, K' u → lenVC A T t v K' := by
  unfold lenVC at hk
  split at hk
  · rename_i ht
    split at hk <;> first
      | exact hk.elim
      | exact ⟨_, hk.2, fun K' hk' => by simp only [lenVC, ht]; exact ⟨hk.1, hk'⟩⟩
      | exact ⟨_, hk, fun K' hk' => by simp only [lenVC, ht]; exact hk'⟩
  · exact hk.elim

theorem src_agree {st st' : St} {v : AV} {K : List (List AV) → Prop} (h : ∀ id ∈ v.ids, lk st'.sto id = lk st.sto id) (hk : st.srcVC A v K) : ∃ ys, K ys ∧ ∀ K' : List (List AV) → Prop, K' ys → st'.srcVC A v K' := by
  unfold St.srcVC at hk
  split at hk
  · exact ⟨_, hk, fun K' hk' => hk'⟩
  · exact ⟨_, hk, fun K' hk' => hk'⟩
  · exact ⟨_, hk, fun K' hk' => hk'⟩
  · split at hk
    · rename_i p id off len s rows hq
      refine ⟨_, hk.2, fun K' hk' => ?_⟩
      unfold St.srcVC
      simp only [h _ (List.mem_singleton.2 rfl), hq]
      exact ⟨hk.1, hk'⟩
    · exact hk.elim
  · exact hk.elim

theorem app_fun {st : St} {j : TI} {x y : AV} (hk : st.appVC A j lab x y K) : ∃ v d, K v d ∧ ∀ st' : St, (∀ id ∈ x.ids, lk st'.sto id = lk st.sto id) → (∀ id ∈ y.ids, lk st'.sto id = lk st.sto id) → ∀ K' : AV → Dl → Prop, K' v d → st'.appVC A j lab x y K' := by
  unfold St.appVC at hk
  obtain ⟨ys, hk, hf⟩ := src_agree (st' := st) (fun _ _ => rfl) hk
  have hs : ∀ st' : St, (∀ id ∈ y.ids, lk st'.sto id = lk st.sto id) → ∀ K' : List (List AV) → Prop, K' ys → st'.srcVC A y K' := fun st' h K' hk' => by
    obtain ⟨ys', e, h2⟩ := src_agree (st' := st') (K := fun ys' => ys' = ys) h (hf _ rfl)
    subst e
    exact h2 K' hk'
  split at hk
  · exact ⟨_, _, hk.2, fun st' _ hy K' hk' => hs st' hy _ ⟨hk.1, hk'⟩⟩
  · exact ⟨_, _, hk.2, fun st' _ hy K' hk' => hs st' hy _ ⟨hk.1, hk'⟩⟩
  · rename_i p id off len
    split at hk
    · rename_i s fl rows hq
      refine ⟨_, _, hk.2, fun st' hx hy K' hk' => hs st' hy _ ?_⟩
      simp only [hx _ (List.mem_singleton.2 rfl), hq]
      exact ⟨hk.1, hk'⟩
    · exact hk.elim
  · exact hk.elim

theorem store_fun {st st' : St} {t : Nat} {p v : AV} (h : ∀ id ∈ p.ids, lk st'.sto id = lk st.sto id) (hk : storeVC A T st t p v K) : ∃ u d, K u d ∧ ∀ K' : AV → Dl → Prop, K' u d → storeVC A T st' t p v K' := by
  unfold storeVC at hk
  split at hk
  · rename_i i vs id row fld h1 h2
    have hid := h id (List.mem_singleton.2 rfl)
    split at hk
    · rename_i cells hq
      cases hc : (nbeq row 0 && nbeq vs.length i.size && nble (fld + vs.length) cells.length) with
      | false => rw [hc] at hk; exact hk.elim
      | true =>
        rw [hc] at hk
        refine ⟨_, _, hk, fun K' hk' => ?_⟩
        unfold storeVC
        simp only [h1, h2, hid, hq, hc]
        exact hk'
    · rename_i s fl rows hq
      split at hk
      · rename_i us hu
        obtain ⟨r, hr, hl, hk⟩ := hk.out
        refine ⟨_, _, hk, fun K' hk' => ?_⟩
        unfold storeVC
        simp only [h1, h2, hid, hq, hu]
        exact ⟨r, hr, hl, hk'⟩
      · exact hk.elim
    · exact hk.elim
  · exact hk.elim

/-- What an operation comes to in one state, it comes to in each that agrees. -/
theorem opVC_fun (hk : opVC A true P T lab o st K) : ∃ v d, K v d ∧ Fun A P T lab o st v d := by
  have hk0 := hk
  unfold opVC at hk
  split at hk
  case h_1 x ho =>
    refine ⟨_, _, hk, fun st' K' ha hk' => ?_⟩
    simp only [opVC, ho]
    rw [ha.ev x (by simp [ho, seen])]; exact hk'
  case h_2 x ho =>
    refine ⟨_, _, hk, fun st' K' ha hk' => ?_⟩
    simp only [opVC, ho]
    rw [ha.ev x (by simp [ho, seen])]; exact hk'
  case h_3 c x y ho =>
    split at hk
    · rename_i b hc
      cases b <;>
      · refine ⟨_, _, hk, fun st' K' ha hk' => ?_⟩
        have h1 := ha.ev c (by simp [ho, seen])
        have h2 := ha.ev x (by simp [ho, seen])
        have h3 := ha.ev y (by simp [ho, seen])
        simp only [opVC, ho, h1, hc, h2, h3]; exact hk'
    · exact hk.elim
  case h_4 op t x ho =>
    split at hk
    · rename_i hx
      refine ⟨_, _, hk, fun st' K' ha hk' => ?_⟩
      have h1 := ha.ev x (by simp [ho, seen])
      simp only [opVC, ho, h1, hx]; exact hk'
    · rename_i hx
      refine ⟨_, _, hk, fun st' K' ha hk' => ?_⟩
      have h1 := ha.ev x (by simp [ho, seen])
      simp only [opVC, ho, h1, hx]; exact hk'
    · exact hk.elim
  case h_5 op t x y u ho =>
    split at hk
    · rename_i k m k' n hx hy
      by_cases hkk : k = k'
      · subst hkk
        rw [show decide (k = k) = true by simp] at hk
        obtain ⟨v, hv, hf⟩ := int_fun hk
        refine ⟨v, _, hv, fun st' K' ha hk' => ?_⟩
        have h1 := ha.ev x (by simp [ho, seen])
        have h2 := ha.ev y (by simp [ho, seen])
        simp only [opVC, ho, h1, h2, hx, hy, show decide (k = k) = true by simp]
        exact hf (fun v => K' v .no) hk'
      · rw [show decide (k = k') = false by simp [hkk]] at hk
        exact hk.elim
    · rename_i m n hx hy
      split at hk
      · rename_i ht
        refine ⟨_, _, hk, fun st' K' ha hk' => ?_⟩
        have h1 := ha.ev x (by simp [ho, seen])
        have h2 := ha.ev y (by simp [ho, seen])
        simp only [opVC, ho, h1, h2, hx, hy, ht]; exact hk'
      · rename_i ht
        refine ⟨_, _, hk, fun st' K' ha hk' => ?_⟩
        have h1 := ha.ev x (by simp [ho, seen])
        have h2 := ha.ev y (by simp [ho, seen])
        simp only [opVC, ho, h1, h2, hx, hy, ht]; exact hk'
      · exact hk.elim
    · exact hk.elim
    · split at hk <;> exact hk.elim
    · exact hk.elim
  case h_6 x i ho =>
    split at hk
    · rename_i vs hx
      split at hk
      · rename_i v hv
        refine ⟨_, _, hk, fun st' K' ha hk' => ?_⟩
        have h1 := ha.ev x (by simp [ho, seen])
        simp only [opVC, ho, h1, hx, hv]; exact hk'
      · exact hk.elim
    · exact hk.elim
  case h_7 s d x ho =>
    split at hk
    · rename_i h2 h3 hx
      refine ⟨_, _, hk, fun st' K' ha hk' => ?_⟩
      have h1 := ha.ev x (by simp [ho, seen])
      simp only [opVC, ho, h1, hx, h2, h3]; exact hk'
    · exact hk.elim
  case h_8 f first caps ho =>
    refine ⟨_, _, hk, fun st' K' ha hk' => ?_⟩
    have h1 : first.toList.map st'.ev = first.toList.map st.ev := map_ev fun x hx => ha.ev x (by simp only [ho, seen]; exact List.mem_append_left _ hx)
    have h2 : caps.toList.map st'.ev = caps.toList.map st.ev := map_ev fun x hx => ha.ev x (by simp only [ho, seen]; exact List.mem_append_right _ hx)
    simp only [opVC, ho, h1, h2]; exact hk'
  case h_9 t ho =>
    split at hk
    · rename_i ht hu
      refine ⟨_, _, hk, fun st' K' ha hk' => ?_⟩
      simp only [opVC, ho, ht, ha.new hu]; exact hk'
    · exact hk.elim
  case h_10 t x ho =>
    split at hk
    · rename_i ht hu
      refine ⟨_, _, hk, fun st' K' ha hk' => ?_⟩
      have h1 := ha.ev x (by simp [ho, seen])
      simp only [opVC, ho, h1, ht, ha.new hu]; exact hk'
    · exact hk.elim
  case h_11 t parts ho =>
    split at hk
    · rename_i ht
      split at hk
      · rename_i h1 h2
        refine ⟨_, _, hk, fun st' K' ha hk' => ?_⟩
        simp only [opVC, ho, ht, h1]
        rw [fillA_agree (st := st) parts.toList _ fun p hp => ha.ev p.2 (by simp only [ho, seen]; exact List.mem_map_of_mem hp), h2]
        exact hk'
      · exact hk.elim
    · exact hk.elim
  case h_12 t p ho =>
    split at hk
    · rename_i h1 h2
      split at hk
      · rename_i h3 h4
        refine ⟨_, _, hk, fun st' K' ha hk' => ?_⟩
        have hp := ha.ev p (by simp [ho, seen])
        have hat : st'.at (st.ev p) = st.at (st.ev p) := at_agree fun id hi => ha.sto id (by simp [ho, rdOf, seen, idsL, hi])
        simp only [opVC, ho, hp, hat, h1, h2, h3, h4]; exact hk'
      · exact hk.elim
    · exact hk.elim
  case h_13 t p x ho =>
    have : ∀ st', Agree (seen o.op) (rdOf st o.op) lab st st' → ∀ id ∈ (st.ev p).ids, lk st'.sto id = lk st.sto id := fun st' ha id hi => ha.sto id (by simp [ho, rdOf, seen, idsL, hi])
    obtain ⟨v, d, hv, _⟩ := store_fun (st' := st) (fun _ _ => rfl) hk
    obtain ⟨v, d, hv, hf⟩ : ∃ v d, K v d ∧ ∀ st', Agree (seen o.op) (rdOf st o.op) lab st st' → ∀ K' : AV → Dl → Prop, K' v d → storeVC A T st' t (st.ev p) (st.ev x) K' := by
      obtain ⟨v, d, hv, hf⟩ := store_fun (st' := st) (fun _ _ => rfl) hk
      refine ⟨v, d, hv, fun st' ha K' hk' => ?_⟩
      obtain ⟨v', d', h1, h2⟩ := store_fun (st' := st') (K := fun v' d' => v' = v ∧ d' = d) (this st' ha) (hf _ ⟨rfl, rfl⟩)
      obtain ⟨rfl, rfl⟩ := h1
      exact h2 K' hk'
    refine ⟨v, d, hv, fun st' K' ha hk' => ?_⟩
    have h1 := ha.ev p (by simp [ho, seen])
    have h2 := ha.ev x (by simp [ho, seen])
    simp only [opVC, ho, h1, h2]
    exact hf st' ha K' hk'
  case h_14 s p f ho =>
    split at hk
    · rename_i h1
      split at hk
      · rename_i h2
        split at hk
        · rename_i h3 h4
          split at hk
          · rename_i h5
            refine ⟨_, _, hk, fun st' K' ha hk' => ?_⟩
            have hp := ha.ev p (by simp [ho, seen])
            simp only [opVC, ho, hp, h1, h2, h3, h4, h5]; exact hk'
          · exact hk.elim
        · exact hk.elim
      · exact hk.elim
    · exact hk.elim
  case h_15 t x f ho =>
    split at hk
    · rename_i h1 h2
      split at hk
      · rename_i h3
        split at hk
        · rename_i h4
          split at hk
          · rename_i h5 h6
            refine ⟨_, _, hk.2, fun st' K' ha hk' => ?_⟩
            have hp := ha.ev x (by simp [ho, seen])
            simp only [opVC, ho, hp, h1, h2, h3, h4, h5, h6]; exact ⟨hk.1, hk'⟩
          · rename_i h5 h6
            split at hk
            · rename_i h7
              refine ⟨_, _, hk, fun st' K' ha hk' => ?_⟩
              have hp := ha.ev x (by simp [ho, seen])
              simp only [opVC, ho, hp, h1, h2, h3, h4, h5, h6, h7]; exact hk'
            · exact hk.elim
          · exact hk.elim
        · exact hk.elim
      · exact hk.elim
    · exact hk.elim
  case h_16 t x y ho =>
    split at hk
    · rename_i h1
      split at hk
      · rename_i h2 h3
        have this : ∀ st', Agree (seen o.op) (rdOf st o.op) lab st st' → ∀ id ∈ (st.ev x).ids, lk st'.sto id = lk st.sto id := fun st' ha id hi => ha.sto id (by simp [ho, rdOf, seen, idsL, hi])
        obtain ⟨v, hv, hf⟩ := elem_agree (st' := st) (fun _ _ => rfl) hk
        refine ⟨v, _, hv, fun st' K' ha hk' => ?_⟩
        have hx := ha.ev x (by simp [ho, seen])
        have hy := ha.ev y (by simp [ho, seen])
        simp only [opVC, ho, hx, hy, h1, h2, h3]
        obtain ⟨v', e, h2'⟩ := elem_agree (st' := st') (K := fun v' => v' = v) (this st' ha) (hf _ rfl)
        subst e
        exact h2' (fun v => K' v .no) hk'
      · exact hk.elim
    · exact hk.elim
  case h_17 t x lo hi ho =>
    split at hk
    · rename_i h1
      split at hk
      · rename_i h2
        split at hk
        · rename_i h3
          refine ⟨_, _, hk, fun st' K' ha hk' => ?_⟩
          have hx := ha.ev x (by simp [ho, seen])
          simp only [opVC, ho, hx, h1, h2, h3]; exact hk'
        · rename_i lo hi _ _ _ hno
          have this : ∀ st', Agree (seen o.op) (rdOf st o.op) lab st st' → ∀ id ∈ (st.ev x).ids, lk st'.sto id = lk st.sto id := fun st' ha id hi => ha.sto id (by simp [ho, rdOf, seen, idsL, hi])
          obtain ⟨v, hv, hf⟩ := cut_agree (st' := st) (fun _ _ => rfl) hk
          refine ⟨v, _, hv, fun st' K' ha hk' => ?_⟩
          have hx := ha.ev x (by simp [ho, seen])
          have hlo : lo.map st'.ev = lo.map st.ev := opt_ev fun y hy => ha.ev y (by simp only [ho, seen]; exact List.mem_cons_of_mem _ (List.mem_append_left _ hy))
          have hhi : hi.map st'.ev = hi.map st.ev := opt_ev fun y hy => ha.ev y (by simp only [ho, seen]; exact List.mem_cons_of_mem _ (List.mem_append_right _ hy))
          obtain ⟨v', e, h2'⟩ := cut_agree (st' := st') (K := fun v' => v' = v) (this st' ha) (hf _ rfl)
          subst e
          have hfin := h2' (fun v => K' v .no) hk'
          simp only [opVC, ho, hx, h1, h2, hlo, hhi]
          exact hfin
      · exact hk.elim
    · exact hk.elim
  case h_18 t x y ho =>
    split at hk
    · rename_i hti
      split at hk
      · rename_i hj hx hy hu
        split at hk
        · rename_i hpos hz
          refine ⟨_, _, hk.2, fun st' K' ha hk' => ?_⟩
          have h1 := ha.ev x (by simp [ho, seen])
          have h2 := ha.ev y (by simp [ho, seen])
          simp only [opVC, ho, h1, h2, hti, hj, hx, hy, ha.new hu, hpos, hz]
          exact ⟨hk.1, hk'⟩
        · exact hk.elim
      · exact hk.elim
    · exact hk.elim
  case h_19 t parts ho =>
    split at hk
    · rename_i hti
      split at hk
      · rename_i hj hp hu
        split at hk
        · rename_i hpos
          refine ⟨_, _, hk, fun st' K' ha hk' => ?_⟩
          simp only [opVC, ho, hti, hj, hp, ha.new hu, hpos]
          exact hk'
        · exact hk.elim
      · exact hk.elim
    · exact hk.elim
  case h_20 args tys ho =>
    split at hk
    · rename_i x y t t' hx ht
      split at hk
      · rename_i htt hti hu
        split at hk
        · rename_i hj
          split at hk
          · rename_i hpos
            obtain ⟨v, d, hv, hf⟩ := app_fun hk
            refine ⟨v, d, hv, fun st' K' ha hk' => ?_⟩
            have h1 := ha.ev x (by simp [ho, seen, hx])
            have h2 := ha.ev y (by simp [ho, seen, hx])
            simp only [opVC, ho, hx, ht, htt, hti, hj, hpos, ha.new hu, h1, h2]
            exact hf st' (fun id hi => ha.sto id (by simp [ho, rdOf, seen, hx, idsL, hi])) (fun id hi => ha.sto id (by simp [ho, rdOf, seen, hx, idsL, hi])) K' hk'
          · exact hk.elim
        · exact hk.elim
      · exact hk.elim
    · exact hk.elim
  case h_21 args tys ho =>
    split at hk
    · rename_i x t hx ht
      obtain ⟨v, hv, hf⟩ := len_fun hk
      refine ⟨v, _, hv, fun st' K' ha hk' => ?_⟩
      have h1 := ha.ev x (by simp [ho, seen, hx])
      simp only [opVC, ho, hx, ht, h1]
      exact hf (fun v => K' v .no) hk'
    · exact hk.elim
  case h_22 c args tys ho =>
    split at hk
    · rename_i f first caps hc hfr
      split at hk
      rotate_left
      · exact hk.elim
      rename_i hbx
      obtain ⟨al, bs, r, h1, h2, h3, h4⟩ := hk.out
      refine ⟨_, _, h4, fun st' K' ha hk' => ?_⟩
      have hcc := ha.ev c (by simp [ho, seen])
      have hargs : args.toList.map st'.ev = args.toList.map st.ev := map_ev fun x hx => ha.ev x (by simp only [ho, seen]; exact List.mem_cons_of_mem _ hx)
      simp only [Bool.not_true, Bool.false_or] at hbx
      have hid0 : ∀ id ∈ idsL (st.ev c :: args.toList.map st.ev), lk st'.sto id = lk st.sto id ∧ ∀ i ∈ boxIds st id, lk st'.sto i = lk st.sto i := fun id hi =>
        ⟨ha.sto id (by simp only [ho, rdOf, seen, List.map_cons]; exact List.mem_append_left _ hi), fun i hi' => ha.sto i (by simp only [ho, rdOf, seen, List.map_cons]; exact List.mem_append_right _ (List.mem_flatMap.2 ⟨id, hi, hi'⟩))⟩
      have hid : ∀ id ∈ idsL (first ++ args.toList.map st.ev ++ caps), lk st'.sto id = lk st.sto id ∧ ∀ i ∈ boxIds st id, lk st'.sto i = lk st.sto i := fun id hi => by
        obtain ⟨v, hv, hi'⟩ := idsL_mem_inv hi
        refine hid0 id ?_
        unfold idsL
        rw [List.append_assoc] at hv
        rcases List.mem_append.1 hv with hv | hv
        · refine List.mem_append_left _ ?_
          rw [hc]; unfold AV.ids; exact List.mem_append_left _ (idsL_of_mem hv hi')
        · rcases List.mem_append.1 hv with hv | hv
          · exact List.mem_append_right _ (idsL_of_mem hv hi')
          · refine List.mem_append_left _ ?_
            rw [hc]; unfold AV.ids; exact List.mem_append_right _ (idsL_of_mem hv hi')
      have hbx' : (first ++ args.toList.map st.ev ++ caps).all (boxed1 st') = true := by
        have b0 : ∀ v : AV, (∀ id ∈ v.ids, lk st'.sto id = lk st.sto id) → boxed0 st v = true → boxed0 st' v = true := fun v h hb => by
          cases v with
          | ptr id row fld => simp only [boxed0] at hb ⊢; rw [h id (by simp [AV.ids])]; exact hb
          | _ => rfl
        have b1 : ∀ v : AV, (∀ id ∈ v.ids, lk st'.sto id = lk st.sto id) → boxed1 st v = true → boxed1 st' v = true := fun v h hb => by
          cases v with
          | fn f x y =>
            simp only [boxed1, Bool.and_eq_true, List.all_eq_true] at hb ⊢
            exact ⟨fun u hu => b0 u (fun id hi => h id (by unfold AV.ids; exact List.mem_append_left _ (idsL_of_mem hu hi))) (hb.1 u hu), fun u hu => b0 u (fun id hi => h id (by unfold AV.ids; exact List.mem_append_right _ (idsL_of_mem hu hi))) (hb.2 u hu)⟩
          | ptr id row fld => exact b0 _ h hb
          | _ => rfl
        rw [List.all_eq_true] at hbx ⊢
        exact fun v hv => b1 v (fun id hi => (hid id (idsL_of_mem hv hi)).1) (hbx v hv)
      simp only [opVC, ho]
      rw [hargs, hcc, hc, ha.newL hfr]
      simp only [Bool.not_true, Bool.false_or, hbx']
      refine ⟨al, bs, r, h1, ?_, h3, hk'⟩
      rcases h2 with ⟨e, hl⟩ | h2
      · exact .inl ⟨e, lends_agree hid hbx hl⟩
      · exact .inr h2
    · exact hk.elim
  case h_23 => exact hk.elim

end
end Go.Proofs.Ytmpbmfhlkhonkaa.AM
