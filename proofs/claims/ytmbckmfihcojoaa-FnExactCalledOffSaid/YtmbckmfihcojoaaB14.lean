/- The abstract machine, part 14: calls: what comes back; the rule. -/
import Derived.Test.YtmbckmfihcojoaaB13
namespace Go.Proofs.Ytmbckmfihcojoaa.AM
open Go Go.RowKit

set_option linter.unusedVariables false
set_option linter.unusedSimpArgs false

variable {P : Program} {T : Nat → Option TI} {E E0 : Env} {st : St} {a : Act} {K : AV → St → Prop} {o : Oper}

/-! ### The values that are handed over -/

theorem mem_matchL : ∀ {vs bs : List AV} {j : Nat} {v b : AV} {q : Nat × Nat × Nat}, vs[j]? = some v → bs[j]? = some b → q ∈ match0 v b → q ∈ matchL vs bs
  | v :: vs, b :: bs, 0, v', b', q, h1, h2, h => by simp at h1 h2; subst h1 h2; exact List.mem_append_left _ h
  | v :: vs, b :: bs, j + 1, v', b', q, h1, h2, h => List.mem_append_right _ (mem_matchL (by simpa using h1) (by simpa using h2) h)
  | [], _, _, _, _, _, h1, _, _ => by simp at h1
  | _ :: _, [], _, _, _, _, _, h2, _ => by simp at h2

theorem mem_match1L : ∀ {vs bs : List AV} {j : Nat} {v b : AV} {q : Nat × Nat × Nat}, vs[j]? = some v → bs[j]? = some b → q ∈ match1 v b → q ∈ match1L vs bs
  | v :: vs, b :: bs, 0, v', b', q, h1, h2, h => by simp at h1 h2; subst h1 h2; exact List.mem_append_left _ h
  | v :: vs, b :: bs, j + 1, v', b', q, h1, h2, h => List.mem_append_right _ (mem_match1L (by simpa using h1) (by simpa using h2) h)
  | [], _, _, _, _, _, h1, _, _ => by simp at h1
  | _ :: _, [], _, _, _, _, _, h2, _ => by simp at h2

theorem mem_match2L : ∀ {vs bs : List AV} {j : Nat} {v b : AV} {q : Nat × Nat × Nat}, vs[j]? = some v → bs[j]? = some b → q ∈ match2 v b → q ∈ match2L vs bs
  | v :: vs, b :: bs, 0, v', b', q, h1, h2, h => by simp at h1 h2; subst h1 h2; exact List.mem_append_left _ h
  | v :: vs, b :: bs, j + 1, v', b', q, h1, h2, h => List.mem_append_right _ (mem_match2L (by simpa using h1) (by simpa using h2) h)
  | [], _, _, _, _, _, h1, _, _ => by simp at h1
  | _ :: _, [], _, _, _, _, _, h2, _ => by simp at h2

theorem argL_get {no : Nat → Bool} {al : Bool} : ∀ {vs bs : List AV}, argL st no al vs bs → vs.length = bs.length ∧ ∀ (j : Nat) (b : AV), bs[j]? = some b → ∃ v, vs[j]? = some v ∧ arg0 st no al v b
  | [], [], _ => ⟨rfl, fun j r h => by simp at h⟩
  | v :: vs, r :: rs, ⟨h1, h2⟩ => by
    obtain ⟨g1, g2⟩ := argL_get h2
    refine ⟨by simp [g1], fun j r' hj => ?_⟩
    cases j with
    | zero => simp at hj; subst hj; exact ⟨v, rfl, h1⟩
    | succ j => simpa using g2 j r' (by simpa using hj)
  | [], _ :: _, h => h.elim
  | _ :: _, [], h => h.elim
theorem arg1L_get {no : Nat → Bool} {al : Bool} : ∀ {vs bs : List AV}, arg1L st no al vs bs → vs.length = bs.length ∧ ∀ (j : Nat) (b : AV), bs[j]? = some b → ∃ v, vs[j]? = some v ∧ arg1 st no al v b
  | [], [], _ => ⟨rfl, fun j r h => by simp at h⟩
  | v :: vs, r :: rs, ⟨h1, h2⟩ => by
    obtain ⟨g1, g2⟩ := arg1L_get h2
    refine ⟨by simp [g1], fun j r' hj => ?_⟩
    cases j with
    | zero => simp at hj; subst hj; exact ⟨v, rfl, h1⟩
    | succ j => simpa using g2 j r' (by simpa using hj)
  | [], _ :: _, h => h.elim
  | _ :: _, [], h => h.elim
theorem args_get {no : Nat → Bool} {al : Bool} : ∀ {vs bs : List AV}, args st no al vs bs → vs.length = bs.length ∧ ∀ (j : Nat) (b : AV), bs[j]? = some b → ∃ v, vs[j]? = some v ∧ arg2 st no al v b
  | [], [], _ => ⟨rfl, fun j r h => by simp at h⟩
  | v :: vs, r :: rs, ⟨h1, h2⟩ => by
    obtain ⟨g1, g2⟩ := args_get h2
    refine ⟨by simp [g1], fun j r' hj => ?_⟩
    cases j with
    | zero => simp at hj; subst hj; exact ⟨v, rfl, h1⟩
    | succ j => simpa using g2 j r' (by simpa using hj)
  | [], _ :: _, h => h.elim
  | _ :: _, [], h => h.elim

section
variable {ρ : Ren} {al dp : Bool} {objs : List Obj}

theorem arg0_rel (hs : Sim E st a) (hρ : ρ.ok = true) {v b : AV} {x : Value} (hr : Rel E v x) (h : arg0 st (given dp ρ) al v b) (hm : ∀ q ∈ match0 v b, q ∈ ρ) : Rel (E.given al ρ objs) b x := by
  have hSs := seen_still hs (al := al) (ρ := ρ)
  have plain : (∀ q t o l, b ≠ .ref q t o l) → (∀ t r f, b ≠ .ptr t r f) → (∀ bs, b ≠ .rptr bs) → (∀ f x y, b ≠ .fn f x y) → (∀ c, b ≠ .agg c) → (∀ c, b ≠ .tup c) → argP st (given dp ρ) al v b → Rel (E.given al ρ objs) b x := by
    intro n1 n2 n3 n4 n5 n6 h
    cases al with
    | true =>
      simp only [argP] at h
      subst h
      refine hr.to (fun b hb => ⟨hSs b hb, rfl⟩) fun id L hi _ => ?_
      cases v <;> first
        | exact absurd rfl (n1 _ _ _ _)
        | exact absurd rfl (n2 _ _ _)
        | exact absurd rfl (n4 _ _ _)
        | exact absurd rfl (n5 _)
        | exact absurd rfl (n6 _)
        | (simp [AV.ids] at hi)
    | false => exact lendCell_rel (E' := E.given false ρ objs) hs (lent_of hs) rfl rfl hr h
  cases b with
  | ref q t off len' =>
    obtain ⟨⟨rfl, rfl⟩, h⟩ := h
    cases v <;> simp only at h
    · subst h; rw [rel_nilS hr]; exact .ref0 _ _ _ _ rfl
    · subst h
      cases hr with
      | base _ _ h => cases h; exact .ref0 _ _ _ _ rfl
    · rename_i p L o len
      subst h
      have hl := (Ren.of_mem hρ (hm (t, (L, o)) (by simp [match0]))).1
      exact (hr.noPeek (q := false)).ren hSs (.ref false t 0 len') (by simp [AV.back, hl]) (by simp [AV.fits, hl])
  | ptr t row' fld' =>
    obtain ⟨⟨rfl, rfl⟩, h⟩ := h
    cases v <;> simp only at h
    rename_i id row fld
    obtain ⟨rfl, hb⟩ := h
    have hl := (Ren.of_mem hρ (hm (t, (id, fld)) (by simp [match0]))).1
    unfold isBox at hb
    split at hb
    · rename_i cs hq
      obtain ⟨L, c, ty, k1, k2, _⟩ := hs.sto id _ hq
      cases hr with
      | base _ _ h => cases h
      | ptr _ _ _ L' hL =>
        rw [k1] at hL
        obtain rfl := Option.some.inj hL
        have := Rel.ptr (E := E.given al ρ objs) t 0 0 (L.shift fld) (by simp [Env.given, Env.ren, hl, k1])
        simp only [Loc.shift, k2] at this
        simpa using this
    · cases hb
  | rptr bs =>
    simp only [arg0] at h
    cases v <;> simp only at h
    · rename_i id row fld
      obtain ⟨rfl, hn, h⟩ := h
      split at h
      · rename_i cells hc
        obtain ⟨bl, oo, rfl, hcell⟩ := at_rel hs hr hc
        obtain ⟨g1, g2⟩ := lendCells_get h
        have hval : ∀ j u, bs[j]? = some u → ∃ y, E.w.cell? ⟨bl, oo + j, none⟩ = some y ∧ RRel E.w (seenS E false ρ) u y := fun j u hu => by
          have hjl := (List.getElem?_eq_some_iff.1 hu).1
          have hv := List.getElem?_eq_getElem (show j < cells.length by omega)
          obtain ⟨hvl, hud⟩ := g2 j _ u hv hu
          obtain ⟨y, y1, y2, y3⟩ := hcell j _ hv
          have hu' : u ≠ .undef := fun e => by subst e; cases hud
          have : (cells[j]).view = cells[j] := by
            generalize cells[j] = w at hvl
            cases w <;> first | rfl | (cases u <;> simp only [lendCell] at hvl <;> exact absurd rfl hu')
          rw [this] at y3
          exact ⟨y, y1, lendCell_rrel hs (lent_of hs) y3 hvl hu'⟩
        have hseen : seenS E false ρ bl := by
          have key : ∀ (b : Nat), E.tag b = some (.root id) → seenS E false ρ b := fun b ht => (lent_of hs).root b id hn ht
          cases hr with
          | base _ _ h => cases h
          | ptr _ _ _ L hL =>
            simp only [St.at] at hc
            split at hc
            · rename_i cs hq
              obtain ⟨L', c, ty, h1, h2, h3, h4⟩ := hs.sto id _ hq
              rw [h1] at hL
              obtain rfl := Option.some.inj hL
              exact key _ h3
            · rename_i sz fl rows hq
              rcases hs.sto id _ hq with ⟨h1, h2⟩ | ⟨L', c, ty, h1, hsz', h2, h3, h4⟩
              · rw [h1] at hL; cases hL
              · rw [h1] at hL
                obtain rfl := Option.some.inj hL
                exact key _ h3
            · cases hc
        refine .rptr bs bl oo (fun j => (E.w.cell? ⟨bl, oo + j, none⟩).getD undef) hseen (fun j u hu => ?_) (fun j u hu => ?_)
        · obtain ⟨y, y1, y2⟩ := hval j u hu
          show E.w.cell? _ = _
          rw [y1]; rfl
        · obtain ⟨y, y1, y2⟩ := hval j u hu
          rw [y1]; exact y2
      · exact h.elim
    · rename_i cells
      subst h
      cases hr with
      | base _ _ h => cases h
      | rptr _ b oo f h1 h2 h3 => exact .rptr _ b oo f (hSs b h1) h2 (fun j v hj => (h3 j v hj).mono hSs (fun _ _ => rfl))
  | fn f x y => simp only [arg0] at h
  | agg c => simp only [arg0] at h
  | tup c => simp only [arg0] at h
  | _ => exact plain (fun _ _ _ _ e => by cases e) (fun _ _ _ e => by cases e) (fun _ e => by cases e) (fun _ _ _ e => by cases e) (fun _ e => by cases e) (fun _ e => by cases e) h

theorem arg1_rel (hs : Sim E st a) (hρ : ρ.ok = true) {v b : AV} {x : Value} (hr : Rel E v x) (h : arg1 st (given dp ρ) al v b) (hm : ∀ q ∈ match1 v b, q ∈ ρ) : Rel (E.given al ρ objs) b x := by
  cases b with
  | agg bs =>
    simp only [arg1] at h
    cases v <;> simp only at h
    rename_i vs
    obtain ⟨xs, rfl, x1, x2, x3⟩ := rel_agg hr
    obtain ⟨g1, g2⟩ := argL_get h
    refine .agg _ xs (by rw [x1, g1]) x2 fun j u y hu hy => ?_
    obtain ⟨v, hv, hvl⟩ := g2 j u hu
    exact arg0_rel hs hρ (x3 j v y hv hy) hvl fun q hq => hm q (mem_matchL hv hu hq)
  | _ => exact arg0_rel (dp := dp) hs hρ hr h (fun q hq => hm q (by cases v <;> exact hq))

theorem arg2_rel (hs : Sim E st a) (hρ : ρ.ok = true) {v b : AV} {x : Value} (hr : Rel E v x) (h : arg2 st (given dp ρ) al v b) (hm : ∀ q ∈ match2 v b, q ∈ ρ) : Rel (E.given al ρ objs) b x := by
  cases b with
  | fn g x' y' =>
    simp only [arg2] at h
    cases v <;> simp only at h
    rename_i f first caps
    obtain ⟨rfl, h1, h2⟩ := h
    cases hr with
    | base _ _ h => cases h
    | fn _ _ _ xs ys g1 g2 g3 g4 =>
      obtain ⟨q1, q2⟩ := arg1L_get h1
      obtain ⟨p1, p2⟩ := arg1L_get h2
      refine .fn f x' y' xs ys (by rw [g1, q1]) (by rw [g2, p1]) (fun j u y hu hy => ?_) (fun j u y hu hy => ?_)
      · obtain ⟨v, hv, hvl⟩ := q2 j u hu
        exact arg1_rel hs hρ (g3 j v y hv hy) hvl fun q hq => hm q (List.mem_append_left _ (mem_match1L hv hu hq))
      · obtain ⟨v, hv, hvl⟩ := p2 j u hu
        exact arg1_rel hs hρ (g4 j v y hv hy) hvl fun q hq => hm q (List.mem_append_right _ (mem_match1L hv hu hq))
  | _ => exact arg1_rel (dp := dp) hs hρ hr h (fun q hq => hm q (by cases v <;> exact hq))

end

end Go.Proofs.Ytmbckmfihcojoaa.AM
