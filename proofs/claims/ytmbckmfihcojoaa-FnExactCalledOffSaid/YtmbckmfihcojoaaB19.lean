/- The abstract machine, part 19: an operation of a drawn region comes to one thing. -/
import Derived.Test.YtmbckmfihcojoaaB18
namespace Go.Proofs.Ytmbckmfihcojoaa.AM
open Go Go.RowKit

set_option linter.unusedVariables false
set_option linter.unusedSimpArgs false

variable {P : Program} {T : Nat → Option TI} {A : Sy} {lab : Nat} {o : Oper} {st : St} {K : AV → Dl → Prop}

theorem call_agree {c : Operand} {args : Array Operand} {tys : Array TypeId} (ho : o.op = .call { callee := .value c, args := args, argTypes := tys })
    (hk : opVC A true P T lab o st K) : ∃ v d, K v d ∧ Fun A P T lab o st v d := by
  simp only [opVC, ho] at hk
  split at hk
  · rename_i f first caps hc hfr
    obtain ⟨al, dp, bs, objs, R, h1, h2, h3, h4⟩ := hk.out
    obtain ⟨hb, v₀, os₀, hR, huniq⟩ := h3 rfl
    obtain ⟨g1, g2⟩ := h4 v₀ os₀ hR
    refine ⟨_, _, g2, fun st' K' ha hk' => ?_⟩
    have hcc := ha.ev c (by simp [ho, seen])
    have hargs : args.toList.map st'.ev = args.toList.map st.ev := map_ev fun x hx => ha.ev x (by simp only [ho, seen]; exact List.mem_cons_of_mem _ hx)
    have hagr : Agr dp (first ++ args.toList.map st.ev ++ caps) st st' := .of_rd fun id hi => ha.sto id (by
      simp only [ho, rdOf, backD]; exact hi)
    simp only [opVC, ho]
    rw [hargs, hcc, hc, ha.newL hfr]
    refine ⟨al, dp, bs, objs, R, h1, gives_agree hagr hb h2, fun _ => ⟨hb, v₀, os₀, hR, huniq⟩, fun v os hvo => ?_⟩
    obtain ⟨rfl, rfl⟩ := huniq v os hvo
    rw [backChk_agree (st := st), backD_agree hagr]
    exact ⟨g1, hk'⟩
  · exact hk.elim

/-- What an operation comes to in one state, it comes to in each that agrees. -/
theorem opVC_fun (hk : opVC A true P T lab o st K) : ∃ v d, K v d ∧ Fun A P T lab o st v d := by
  have hk0 := hk
  unfold opVC at hk
  split at hk
  case h_1 x ho =>
    refine ⟨_, _, hk, fun st' K' ha hk' => ?_⟩
    simp only [opVC, ho]
    rw [ha.ev x (by simp [ho, seen])]; exact hk'
  case h_2 x ho =>
    refine ⟨_, _, hk, fun st' K' ha hk' => ?_⟩
    simp only [opVC, ho]
    rw [ha.ev x (by simp [ho, seen])]; exact hk'
  case h_3 c x y ho =>
    split at hk
    · rename_i b hc
      cases b <;>
      · refine ⟨_, _, hk, fun st' K' ha hk' => ?_⟩
        have h1 := ha.ev c (by simp [ho, seen])
        have h2 := ha.ev x (by simp [ho, seen])
        have h3 := ha.ev y (by simp [ho, seen])
        simp only [opVC, ho, h1, hc, h2, h3]; exact hk'
    · exact hk.elim
  case h_4 op t x ho =>
    split at hk
    · rename_i hx
      refine ⟨_, _, hk, fun st' K' ha hk' => ?_⟩
      have h1 := ha.ev x (by simp [ho, seen])
      simp only [opVC, ho, h1, hx]; exact hk'
    · rename_i hx
      refine ⟨_, _, hk.out, fun st' K' ha hk' => ?_⟩
      have h1 := ha.ev x (by simp [ho, seen])
      simp only [opVC, ho, h1, hx]; exact ⟨hk'⟩
    · exact hk.elim
  case h_5 op t x y u ho =>
    have ev : ∀ st', Agree (seen o.op) (rdOf st o.op .no) lab st st' → st'.ev x = st.ev x ∧ st'.ev y = st.ev y := fun st' ha => ⟨ha.ev x (by simp [ho, seen]), ha.ev y (by simp [ho, seen])⟩
    have rd : ∀ d, rdOf st o.op d = rdOf st o.op .no := fun d => by simp [ho, rdOf]
    split at hk
    · rename_i k m k' n hx hy
      split at hk
      · obtain ⟨v, hv, hf⟩ := shift_fun hk
        refine ⟨v, _, hv, fun st' K' ha hk' => ?_⟩
        obtain ⟨h1, h2⟩ := ev st' (rd _ ▸ ha)
        simp only [opVC, ho, h1, h2, hx, hy]
        exact hf (fun v => K' v .no) hk'
      · obtain ⟨v, hv, hf⟩ := shift_fun hk
        refine ⟨v, _, hv, fun st' K' ha hk' => ?_⟩
        obtain ⟨h1, h2⟩ := ev st' (rd _ ▸ ha)
        simp only [opVC, ho, h1, h2, hx, hy]
        exact hf (fun v => K' v .no) hk'
      · rename_i op' hn1 hn2
        by_cases hkk : k = k'
        · subst hkk
          rw [show decide (k = k) = true by simp] at hk
          obtain ⟨v, hv, hf⟩ := int_fun hk
          refine ⟨v, _, hv, fun st' K' ha hk' => ?_⟩
          obtain ⟨h1, h2⟩ := ev st' (rd _ ▸ ha)
          have hfin := hf (fun v => K' v .no) hk'
          simp only [opVC, ho, h1, h2, hx, hy]
          cases op <;> first | exact absurd rfl hn1 | exact absurd rfl hn2 | exact hfin
        · rw [show decide (k = k') = false by simp [hkk]] at hk
          exact hk.elim
    · rename_i m n hx hy
      split at hk
      · rename_i ht
        cases n <;>
        · refine ⟨_, _, hk, fun st' K' ha hk' => ?_⟩
          obtain ⟨h1, h2⟩ := ev st' (rd _ ▸ ha)
          simp only [opVC, ho, h1, h2, hx, hy, ht]; exact hk'
      · rename_i ht
        cases n <;>
        · refine ⟨_, _, hk, fun st' K' ha hk' => ?_⟩
          obtain ⟨h1, h2⟩ := ev st' (rd _ ▸ ha)
          simp only [opVC, ho, h1, h2, hx, hy, ht]; exact hk'
      · exact hk.elim
    · rename_i us vs hx hy
      split at hk
      · rename_i ht
        obtain ⟨hfit, hk⟩ := hk
        split at hk
        · rename_i hp
          obtain ⟨b, hb⟩ : ∃ b : Bool, b = true ↔ us = vs := by
            by_cases he : us = vs
            · exact ⟨true, by simp [he]⟩
            · exact ⟨false, by simp [he]⟩
          have hu : ∀ b' : Bool, (b' = true ↔ us = vs) → b' = b := fun b' hb' => by
            have : b' = true ↔ b = true := hb'.trans hb.symm
            cases b <;> cases b' <;> simp_all
          split at hk
          · refine ⟨_, _, hk.out b hb, fun st' K' ha hk' => ?_⟩
            obtain ⟨h1, h2⟩ := ev st' (rd _ ▸ ha)
            simp only [opVC, ho, h1, h2, hx, hy, ht, hp]
            exact ⟨hfit, ⟨fun b' hb' => by rw [hu b' hb']; exact hk'⟩⟩
          · refine ⟨_, _, hk.out b hb, fun st' K' ha hk' => ?_⟩
            obtain ⟨h1, h2⟩ := ev st' (rd _ ▸ ha)
            simp only [opVC, ho, h1, h2, hx, hy, ht, hp]
            exact ⟨hfit, ⟨fun b' hb' => by rw [hu b' hb']; exact hk'⟩⟩
          · exact hk.elim
        · exact hk.elim
      · exact hk.elim
    · split at hk <;> exact hk.elim
    · exact hk.elim
  case h_6 x i ho =>
    split at hk
    · rename_i vs hx
      split at hk
      · rename_i v hv
        refine ⟨_, _, hk, fun st' K' ha hk' => ?_⟩
        have h1 := ha.ev x (by simp [ho, seen])
        simp only [opVC, ho, h1, hx, hv]; exact hk'
      · exact hk.elim
    · exact hk.elim
  case h_7 s d x ho =>
    split at hk
    · rename_i h2 h3 hx
      split at hk
      · rename_i hkk
        refine ⟨_, _, hk, fun st' K' ha hk' => ?_⟩
        have h1 := ha.ev x (by simp [ho, seen])
        simp only [opVC, ho, h1, hx, h2, h3, hkk]; exact hk'
      · rename_i hkk
        refine ⟨_, _, hk.out, fun st' K' ha hk' => ?_⟩
        have h1 := ha.ev x (by simp [ho, seen])
        simp only [opVC, ho, h1, hx, h2, h3, hkk]; exact ⟨hk'⟩
    · exact hk.elim
  case h_8 f first caps ho =>
    refine ⟨_, _, hk, fun st' K' ha hk' => ?_⟩
    simp only [opVC, ho]
    rw [map_ev (st := st) fun x hx => ha.ev x (by simp only [ho, seen]; exact List.mem_append_left _ hx), map_ev (st := st) fun x hx => ha.ev x (by simp only [ho, seen]; exact List.mem_append_right _ hx)]
    exact hk'
  case h_9 t ho =>
    split at hk
    · rename_i ht hu
      refine ⟨_, _, hk, fun st' K' ha hk' => ?_⟩
      simp only [opVC, ho, ht, ha.new hu]; exact hk'
    · exact hk.elim
  case h_10 t x ho =>
    split at hk
    · rename_i ht hu
      refine ⟨_, _, hk, fun st' K' ha hk' => ?_⟩
      have h1 := ha.ev x (by simp [ho, seen])
      simp only [opVC, ho, h1, ht, ha.new hu]; exact hk'
    · exact hk.elim
  case h_11 t parts ho =>
    split at hk
    · rename_i ht
      split at hk
      · rename_i h1 h2
        refine ⟨_, _, hk, fun st' K' ha hk' => ?_⟩
        simp only [opVC, ho, ht, h1]
        rw [fillA_agree (st := st) parts.toList _ fun p hp => ha.ev p.2 (by simp only [ho, seen]; exact List.mem_map_of_mem hp), h2]
        exact hk'
      · exact hk.elim
    · exact hk.elim
  case h_12 t p ho =>
    obtain ⟨v, hv, hf⟩ := load_agree (st' := st) (fun _ _ => rfl) hk
    refine ⟨v, _, hv, fun st' K' ha hk' => ?_⟩
    have hp := ha.ev p (by simp [ho, seen])
    simp only [opVC, ho, hp]
    obtain ⟨v', e, h2'⟩ := load_agree (st' := st') (K := fun v' => v' = v) (fun id hi => ha.sto id (by simp [ho, rdOf, seen, idsL, hi])) (hf _ rfl)
    subst e
    exact h2' (fun v => K' v .no) hk'
  case h_13 t p x ho =>
    obtain ⟨v, d, hv, hf⟩ := store_agree (st' := st) (fun _ _ => rfl) hk
    refine ⟨v, d, hv, fun st' K' ha hk' => ?_⟩
    have h1 := ha.ev p (by simp [ho, seen])
    have h2 := ha.ev x (by simp [ho, seen])
    simp only [opVC, ho, h1, h2]
    obtain ⟨v', d', e, h3⟩ := store_agree (st' := st') (K := fun v' d' => v' = v ∧ d' = d) (fun id hi => ha.sto id (by simp [ho, rdOf, seen, idsL, hi])) (hf _ ⟨rfl, rfl⟩)
    obtain ⟨rfl, rfl⟩ := e
    exact h3 K' hk'
  case h_14 s p f ho =>
    split at hk
    · rename_i h1
      split at hk
      · rename_i h2
        split at hk
        · rename_i h3 h4
          split at hk
          · rename_i h5
            refine ⟨_, _, hk, fun st' K' ha hk' => ?_⟩
            have hp := ha.ev p (by simp [ho, seen])
            simp only [opVC, ho, hp, h1, h2, h3, h4, h5]; exact hk'
          · exact hk.elim
        · exact hk.elim
      · exact hk.elim
    · exact hk.elim
  case h_15 t x f ho =>
    split at hk
    · rename_i h1 h2
      split at hk
      · rename_i h3
        split at hk
        · rename_i h4
          split at hk
          · rename_i h5 h6
            refine ⟨_, _, hk.2, fun st' K' ha hk' => ?_⟩
            have hp := ha.ev x (by simp [ho, seen])
            simp only [opVC, ho, hp, h1, h2, h3, h4, h5, h6]; exact ⟨hk.1, hk'⟩
          · rename_i h5 h6
            split at hk
            · rename_i h7
              refine ⟨_, _, hk, fun st' K' ha hk' => ?_⟩
              have hp := ha.ev x (by simp [ho, seen])
              simp only [opVC, ho, hp, h1, h2, h3, h4, h5, h6, h7]; exact hk'
            · exact hk.elim
          · exact hk.elim
        · exact hk.elim
      · exact hk.elim
    · exact hk.elim
  case h_16 t x y ho =>
    split at hk
    · rename_i h1
      split at hk
      · rename_i h2 h3
        have this : ∀ st', Agree (seen o.op) (rdOf st o.op .no) lab st st' → ∀ id ∈ (st.ev x).ids, lk st'.sto id = lk st.sto id := fun st' ha id hi => ha.sto id (by simp [ho, rdOf, seen, idsL, hi])
        obtain ⟨v, hv, hf⟩ := elem_agree (st' := st) (fun _ _ => rfl) hk
        refine ⟨v, _, hv, fun st' K' ha hk' => ?_⟩
        have hx := ha.ev x (by simp [ho, seen])
        have hy := ha.ev y (by simp [ho, seen])
        simp only [opVC, ho, hx, hy, h1, h2, h3]
        obtain ⟨v', e, h2'⟩ := elem_agree (st' := st') (K := fun v' => v' = v) (this st' ha) (hf _ rfl)
        subst e
        exact h2' (fun v => K' v .no) hk'
      · exact hk.elim
    · exact hk.elim
  case h_17 t x lo hi ho =>
    split at hk
    · rename_i h1
      split at hk
      · rename_i h2
        split at hk
        · rename_i h3
          refine ⟨_, _, hk, fun st' K' ha hk' => ?_⟩
          have hx := ha.ev x (by simp [ho, seen])
          simp only [opVC, ho, hx, h1, h2, h3]; exact hk'
        · rename_i lo hi _ _ _ hno
          have this : ∀ st', Agree (seen o.op) (rdOf st o.op .no) lab st st' → ∀ id ∈ (st.ev x).ids, lk st'.sto id = lk st.sto id := fun st' ha id hi => ha.sto id (by simp [ho, rdOf, seen, idsL, hi])
          obtain ⟨v, hv, hf⟩ := cut_agree (st' := st) (fun _ _ => rfl) hk
          refine ⟨v, _, hv, fun st' K' ha hk' => ?_⟩
          have hx := ha.ev x (by simp [ho, seen])
          have hlo : lo.map st'.ev = lo.map st.ev := opt_ev fun y hy => ha.ev y (by simp only [ho, seen]; exact List.mem_cons_of_mem _ (List.mem_append_left _ hy))
          have hhi : hi.map st'.ev = hi.map st.ev := opt_ev fun y hy => ha.ev y (by simp only [ho, seen]; exact List.mem_cons_of_mem _ (List.mem_append_right _ hy))
          obtain ⟨v', e, h2'⟩ := cut_agree (st' := st') (K := fun v' => v' = v) (this st' ha) (hf _ rfl)
          subst e
          have hfin := h2' (fun v => K' v .no) hk'
          simp only [opVC, ho, hx, h1, h2, hlo, hhi]
          exact hfin
      · exact hk.elim
    · exact hk.elim
  case h_18 t x y ho =>
    split at hk
    · rename_i hti
      split at hk
      · rename_i hj hx hy hu
        split at hk
        · rename_i hpos hz
          obtain ⟨⟨g1, g2, g3, g4⟩⟩ := hk
          refine ⟨_, _, g4, fun st' K' ha hk' => ?_⟩
          have h1 := ha.ev x (by simp [ho, seen])
          have h2 := ha.ev y (by simp [ho, seen])
          simp only [opVC, ho, h1, h2, hti, hj, hx, hy, ha.new hu, hpos, hz]
          exact ⟨⟨g1, g2, g3, hk'⟩⟩
        · exact hk.elim
      · exact hk.elim
    · exact hk.elim
  case h_19 t n parts ho =>
    split at hk
    · rename_i hti
      split at hk
      · rename_i hj hu
        split at hk
        · rename_i hpos hp
          refine ⟨_, _, hk, fun st' K' ha hk' => ?_⟩
          simp only [opVC, ho, hti, hj, hp, ha.new hu, hpos]
          exact hk'
        · rename_i hpos
          split at hk
          · rename_i hsm hf
            split at hk
            · rename_i hrows
              refine ⟨_, _, hk, fun st' K' ha hk' => ?_⟩
              simp only [opVC, ho, hti, hj, ha.new hu, hpos, hsm]
              rw [fillA_agree (st := st) parts.toList _ fun p hp => ha.ev p.2 (by simp only [ho, seen]; exact List.mem_map_of_mem hp), hf]
              simp only [hrows]
              exact hk'
            · exact hk.elim
          · exact hk.elim
        · exact hk.elim
      · exact hk.elim
    · exact hk.elim
  case h_20 x ho =>
    split at hk
    · rename_i hx
      refine ⟨_, _, hk, fun st' K' ha hk' => ?_⟩
      have h1 := ha.ev x (by simp [ho, seen])
      simp only [opVC, ho, h1, hx]; exact hk'
    · exact hk.elim
  case h_21 args tys ho =>
    split at hk
    · rename_i x y t t' hx ht
      split at hk
      · rename_i htt hti hu
        split at hk
        · rename_i hj
          split at hk
          · rename_i hpos
            obtain ⟨v, d, hv, hf⟩ := app_fun hk
            refine ⟨v, d, hv, fun st' K' ha hk' => ?_⟩
            have h1 := ha.ev x (by simp [ho, seen, hx])
            have h2 := ha.ev y (by simp [ho, seen, hx])
            simp only [opVC, ho, hx, ht, htt, hti, hj, hpos, ha.new hu, h1, h2]
            exact hf st' (fun id hi => ha.sto id (by simp [ho, rdOf, seen, hx, idsL, hi])) (fun id hi => ha.sto id (by simp [ho, rdOf, seen, hx, idsL, hi])) K' hk'
          · exact hk.elim
        · exact hk.elim
      · exact hk.elim
    · exact hk.elim
  case h_22 args tys ho =>
    split at hk
    · rename_i x t hx ht
      obtain ⟨v, hv, hf⟩ := len_agree (st' := st) (fun _ _ => rfl) hk
      refine ⟨v, _, hv, fun st' K' ha hk' => ?_⟩
      have h1 := ha.ev x (by simp [ho, seen, hx])
      simp only [opVC, ho, hx, ht, h1]
      obtain ⟨v', e, h2⟩ := len_agree (st' := st') (K := fun v' => v' = v) (fun id hi => ha.sto id (by simp [ho, rdOf, seen, hx, idsL, hi])) (hf _ rfl)
      subst e
      exact h2 (fun v => K' v .no) hk'
    · exact hk.elim
  case h_23 args tys ho =>
    split at hk
    · rename_i x t hx ht
      split at hk
      · rename_i hti hv
        refine ⟨_, _, hk, fun st' K' ha hk' => ?_⟩
        have h1 := ha.ev x (by simp [ho, seen, hx])
        simp only [opVC, ho, hx, ht, h1, hti, hv]; exact hk'
      · exact hk.elim
    · exact hk.elim
  case h_24 args tys ho => exact hk.elim
  case h_25 c args tys ho => exact call_agree ho hk0
  case h_26 => exact hk.elim

end Go.Proofs.Ytmbckmfihcojoaa.AM
