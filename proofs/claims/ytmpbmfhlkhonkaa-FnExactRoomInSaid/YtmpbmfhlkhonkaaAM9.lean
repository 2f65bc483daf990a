/- The abstract machine, part 9: calls. -/
import Derived.Test.YtmpbmfhlkhonkaaAM8
namespace Go.Proofs.Ytmpbmfhlkhonkaa.AM
open Go Go.RowKit

set_option linter.unusedVariables false
set_option linter.unusedSimpArgs false

variable {P : Program} {T : Nat → Option TI} {E : Env} {st : St} {a : Act} {K : AV → St → Prop} {o : Oper}

/-! ### What is handed -/

/-- An array's own arrays, as still ones. -/
def AV.still : AV → AV
  | .own _ _ rows => .ro rows
  | v => v

def stillRows (fl : Bool) (rows : List (List AV)) : List (List AV) :=
  bif fl then rows else rows.map fun r => r.map AV.still

/-- A cell that is lent. -/
def lendCell (st : St) (v b : AV) : Prop :=
  match v, b with
  | .int k n, b => b = .int k n
  | .bool c, b => b = .bool c
  | .nilS, .ro rows => rows = []
  | .emp, .ro rows => rows = []
  | .nilS, .nilS => True
  | .emp, .emp => True
  | .ro rows, b => b = .ro rows
  | .ref _ id off len, .ro rows' => ∃ s fl rows, lk st.sto id = some (.arr s fl rows) ∧ off + len ≤ rows.length ∧ rows' = stillRows fl ((rows.drop off).take len)
  | _, _ => False

def lendCells (st : St) : List AV → List AV → Prop
  | [], [] => True
  | v :: vs, b :: bs => lendCell st v b ∧ lendCells st vs bs
  | _, _ => False

/-- A pointer to a variable of ours, as one to still cells. -/
def lend0 (st : St) (v b : AV) : Prop :=
  match v with
  | .agg vs => match b with
    | .agg bs => lendCells st vs bs
    | _ => False
  | .ptr id row fld => match b with
    | .rptr bs => ∃ cells, st.at (.ptr id row fld) = some cells ∧ lendCells st cells bs
    | _ => False
  | .rptr cells => b = .rptr cells
  | v => lendCell st v b

def lend0s (st : St) : List AV → List AV → Prop
  | [], [] => True
  | v :: vs, b :: bs => lend0 st v b ∧ lend0s st vs bs
  | _, _ => False

def lend (st : St) (v b : AV) : Prop :=
  match v with
  | .fn f x y => match b with
    | .fn g x' y' => f = g ∧ lend0s st x x' ∧ lend0s st y y'
    | _ => False
  | v => lend0 st v b

def lends (st : St) : List AV → List AV → Prop
  | [], [] => True
  | v :: vs, b :: bs => lend st v b ∧ lends st vs bs
  | _, _ => False

theorem lendCells_get : ∀ {vs bs : List AV}, lendCells st vs bs → vs.length = bs.length ∧ ∀ (j : Nat) (b : AV), bs[j]? = some b → ∃ v, vs[j]? = some v ∧ lendCell st v b
  | [], [], _ => ⟨rfl, fun j r h => by simp at h⟩
  | v :: vs, r :: rs, ⟨h1, h2⟩ => by
    obtain ⟨g1, g2⟩ := lendCells_get h2
    refine ⟨by simp [g1], fun j r' hj => ?_⟩
    cases j with
    | zero => simp at hj; subst hj; exact ⟨v, rfl, h1⟩
    | succ j => simpa using g2 j r' (by simpa using hj)
  | [], _ :: _, h => h.elim
  | _ :: _, [], h => h.elim
theorem lend0s_get : ∀ {vs bs : List AV}, lend0s st vs bs → vs.length = bs.length ∧ ∀ (j : Nat) (b : AV), bs[j]? = some b → ∃ v, vs[j]? = some v ∧ lend0 st v b
  | [], [], _ => ⟨rfl, fun j r h => by simp at h⟩
  | v :: vs, r :: rs, ⟨h1, h2⟩ => by
    obtain ⟨g1, g2⟩ := lend0s_get h2
    refine ⟨by simp [g1], fun j r' hj => ?_⟩
    cases j with
    | zero => simp at hj; subst hj; exact ⟨v, rfl, h1⟩
    | succ j => simpa using g2 j r' (by simpa using hj)
  | [], _ :: _, h => h.elim
  | _ :: _, [], h => h.elim
theorem lends_get : ∀ {vs bs : List AV}, lends st vs bs → vs.length = bs.length ∧ ∀ (j : Nat) (b : AV), bs[j]? = some b → ∃ v, vs[j]? = some v ∧ lend st v b
  | [], [], _ => ⟨rfl, fun j r h => by simp at h⟩
  | v :: vs, r :: rs, ⟨h1, h2⟩ => by
    obtain ⟨g1, g2⟩ := lends_get h2
    refine ⟨by simp [g1], fun j r' hj => ?_⟩
    cases j with
    | zero => simp at hj; subst hj; exact ⟨v, rfl, h1⟩
    | succ j => simpa using g2 j r' (by simpa using hj)
  | [], _ :: _, h => h.elim
  | _ :: _, [], h => h.elim

/-- Everything that is there, still while a call runs. -/
abbrev Env.lent (E : Env) : Env := ⟨E.w, fun b => b < E.w.heap.size, fun _ => none, fun _ => none⟩

theorem rrel_all (hs : Sim E st a) {v : AV} {x : Value} (h : RRel E.w E.S v x) : RRel E.w (fun b => b < E.w.heap.size) v x :=
  h.mono (fun b hb => (hs.wf.still b hb).2) (fun _ _ => rfl)

theorem own_still (hs : Sim E st a) {τ : Tag} {s : Nat} {rows : List (List AV)} {x : Value} (h : OwnAt E.w E.tag τ (fun _ _ => RRel E.w E.S) s rows x) : RRel E.w (fun b => b < E.w.heap.size) (.ro rows) x := by
  rcases h with ⟨h1, h2⟩ | ⟨b, o, cap, c, ty, h1, h2, h3, h4, h5, h6, h7, h8, h9⟩
  · subst h1
    rcases h2 with ⟨ad, rfl⟩ | rfl
    · exact .ro0 _ _ (Nat.zero_le _) (fun h => by cases h)
    · exact .ro0 _ _ (Nat.zero_le _) (fun _ => rfl)
  · subst h1
    by_cases he : rows = []
    · subst he; exact .ro0 _ _ h6 (fun h => by cases h)
    · refine .ro rows b o cap s (fun i j => (c[o + i * s + j]?).getD undef) he h5 h6 (hs.wf.owned b (by rw [h2]; simp)) h8 (fun i j r v hi hj => ?_) (fun i j r v hi hj => ?_)
      · obtain ⟨y, y1, y2, y3⟩ := h9 i j r v hi hj
        rw [cell_of_row E.w b _ c ty (0, 0) h3, y1]; rfl
      · obtain ⟨y, y1, y2, y3⟩ := h9 i j r v hi hj
        rw [y1]; exact rrel_all hs y3

theorem still_cell (hs : Sim E st a) {fl : Bool} {τ : Tag} {v : AV} {x : Value} (h : Cell1 fl E.w E.S E.tag τ v x) : RRel E.w (fun b => b < E.w.heap.size) (bif fl then v else v.still) x := by
  rcases h with h | ⟨hfl, s, rows, rfl, h⟩
  · have := rrel_all hs h
    cases fl
    · cases v <;> first | exact this | cases h
    · exact this
  · subst hfl
    exact own_still hs h

theorem lendCell_rel (hs : Sim E st a) {v b : AV} {x : Value} (hr : Rel E v x) (hl : lendCell st v b) : RRel E.w (fun b => b < E.w.heap.size) b x := by
  cases v with
  | int k n => simp only [lendCell] at hl; subst hl; rw [(rel_int hr).1]; exact .int _ _ (rel_int hr).2
  | bool c => simp only [lendCell] at hl; subst hl; rw [rel_bool hr]; exact .bool _
  | nilS =>
    rw [rel_nilS hr]
    cases b <;> simp only [lendCell] at hl
    · exact .nilS
    · subst hl; exact .ro0 none 0 (Nat.zero_le _) (fun _ => rfl)
  | emp =>
    cases hr with
    | base _ _ h =>
      cases h
      cases b <;> simp only [lendCell] at hl
      · exact .emp _
      · subst hl; exact .ro0 _ 0 (Nat.zero_le _) (fun h => by cases h)
  | ro rows =>
    simp only [lendCell] at hl; subst hl
    cases hr with
    | base _ _ h => exact rrel_all hs h
  | ref p id off len =>
    cases b <;> simp only [lendCell] at hl
    rename_i rows'
    obtain ⟨s, fl, rows, hq, hle, rfl⟩ := hl
    have hl : (stillRows fl ((rows.drop off).take len)).length = len := by
      unfold stillRows
      cases fl <;> simp <;> omega
    cases hr with
    | base _ _ h => cases h
    | ref0 _ _ cap ad hc =>
      subst hc
      rw [List.eq_nil_of_length_eq_zero hl]
      cases ad with
      | none => exact .ro0 none 0 (Nat.zero_le _) (fun _ => rfl)
      | some ad => exact .ro0 _ 0 (Nat.zero_le _) (fun h => by cases h)
    | ref _ _ _ _ L cap hL h1 h2 =>
      rcases hs.sto id _ hq with ⟨g1, g2⟩ | ⟨L', c, ty, g1, gsz, g2, g3, g4, g5, g6, g7, g8, g9⟩
      · rw [g1] at hL; cases hL
      rw [g1] at hL
      obtain rfl := Option.some.inj hL
      by_cases hz : len = 0
      · subst hz
        rw [List.eq_nil_of_length_eq_zero hl]
        exact .ro0 _ _ (by omega) (fun h => by cases h)
      · have hget : ∀ (i : Nat) (r' : List AV), (stillRows fl ((rows.drop off).take len))[i]? = some r' → ∃ r, rows[off + i]? = some r ∧ r' = bif fl then r else r.map AV.still := fun i r' hh => by
          have h0 : ∀ r, ((rows.drop off).take len)[i]? = some r → rows[off + i]? = some r := fun r hh => by
            rw [List.getElem?_take] at hh
            split at hh
            · rw [List.getElem?_drop] at hh; exact hh
            · cases hh
          unfold stillRows at hh
          cases fl
          · simp only [cond_false, List.getElem?_map, Option.map_eq_some_iff] at hh
            obtain ⟨r, h1, rfl⟩ := hh
            exact ⟨r, h0 r h1, rfl⟩
          · exact ⟨r', h0 r' hh, rfl⟩
        have hcell : ∀ (i j : Nat) (r : List AV) (v : AV), (stillRows fl ((rows.drop off).take len))[i]? = some r → r[j]? = some v → ∃ y, c[L'.base + (off + i) * L'.siz + j]? = some y ∧ RRel E.w (fun b => b < E.w.heap.size) v y := fun i j r' v hi hj => by
          obtain ⟨r, hr, rfl⟩ := hget i r' hi
          have hjv : ∃ u, r[j]? = some u ∧ v = bif fl then u else u.still := by
            cases fl
            · simp only [cond_false, List.getElem?_map, Option.map_eq_some_iff] at hj
              obtain ⟨u, h1, h2⟩ := hj
              exact ⟨u, h1, h2.symm⟩
            · exact ⟨v, hj, rfl⟩
          obtain ⟨u, hu, rfl⟩ := hjv
          obtain ⟨y, y1, y2, y3⟩ := g9 _ j r u hr hu
          exact ⟨y, y1, still_cell hs y3⟩
        have hne : stillRows fl ((rows.drop off).take len) ≠ [] := fun e => by rw [e] at hl; simp at hl; omega
        have := RRel.ro (w := E.w) (S := fun b => b < E.w.heap.size) (stillRows fl ((rows.drop off).take len)) L'.blk (L'.base + off * L'.siz) cap L'.siz (fun i j => (c[L'.base + (off + i) * L'.siz + j]?).getD undef) hne (by omega) (by omega)
          (hs.wf.owned _ (by rw [g3]; simp)) (fun i r' hi => by
            obtain ⟨r, hr, rfl⟩ := hget i r' hi
            have := g8 _ _ hr
            cases fl <;> simpa using this) (fun i j r v hi hj => by
            obtain ⟨y, y1, y2⟩ := hcell i j r v hi hj
            rw [cell_of_row E.w L'.blk _ c ty (0, 0) g4, y1]
            simp only [Option.getD_some]
            rw [← y1]; congr 1
            rw [Nat.add_mul]; omega) (fun i j r v hi hj => by
            obtain ⟨y, y1, y2⟩ := hcell i j r v hi hj
            rw [y1]; exact y2)
        rw [hl] at this
        exact this
  | _ => simp only [lendCell] at hl

theorem lend0_rel (hs : Sim E st a) {v b : AV} {x : Value} (hr : Rel E v x) (hl : lend0 st v b) : Rel E.lent b x := by
  cases v with
  | agg vs =>
    cases b <;> simp only [lend0] at hl
    obtain ⟨xs, rfl, h2, h3, h4⟩ := rel_agg hr
    obtain ⟨g1, g2⟩ := lendCells_get hl
    refine .agg _ xs (by rw [h2, g1]) h3 fun j u y hu hy => ?_
    obtain ⟨v, hv, hvl⟩ := g2 j u hu
    exact .base _ _ (lendCell_rel hs (h4 j v y hv hy) hvl)
  | ptr id row fld =>
    cases b <;> simp only [lend0] at hl
    rename_i bs
    obtain ⟨cells, hc, hcl⟩ := hl
    obtain ⟨bl, oo, rfl, hcell⟩ := at_rel hs hr hc
    obtain ⟨g1, g2⟩ := lendCells_get hcl
    have hval : ∀ j u, bs[j]? = some u → ∃ y, E.w.cell? ⟨bl, oo + j, none⟩ = some y ∧ RRel E.w (fun b => b < E.w.heap.size) u y := fun j u hu => by
      obtain ⟨v, hv, hvl⟩ := g2 j u hu
      obtain ⟨y, y1, y2, y3⟩ := hcell j v hv
      refine ⟨y, y1, ?_⟩
      have : v.view = v := by cases v <;> first | rfl | simp only [lendCell] at hvl
      rw [this] at y3
      exact lendCell_rel hs y3 hvl
    have hlt : bl < E.w.heap.size := by
      cases hr with
      | base _ _ h => cases h
      | ptr _ _ _ L hL =>
        simp only [St.at] at hc
        split at hc
        · rename_i cs hq
          obtain ⟨L', c, ty, h1, h2, h3, h4, h5, h6⟩ := hs.sto id _ hq
          rw [h1] at hL
          obtain rfl := Option.some.inj hL
          exact hs.wf.owned _ (by rw [h3]; simp)
        · rename_i sz fl rows hq
          rcases hs.sto id _ hq with ⟨h1, h2⟩ | ⟨L', c, ty, h1, hsz', h2, h3, h4, h5, h6, h7, h8, h9⟩
          · rw [h1] at hL; cases hL
          · rw [h1] at hL
            obtain rfl := Option.some.inj hL
            exact hs.wf.owned _ (by rw [h3]; simp)
        · cases hc
    refine .rptr bs bl oo (fun j => (E.w.cell? ⟨bl, oo + j, none⟩).getD undef) hlt (fun j u hu => ?_) (fun j u hu => ?_)
    · obtain ⟨y, y1, y2⟩ := hval j u hu
      show E.w.cell? _ = _
      rw [y1]; rfl
    · obtain ⟨y, y1, y2⟩ := hval j u hu
      rw [y1]; exact y2
  | rptr cells =>
    simp only [lend0] at hl; subst hl
    cases hr with
    | base _ _ h => cases h
    | rptr _ b oo f h1 h2 h3 => exact .rptr _ b oo f (hs.wf.still b h1).2 h2 (fun j v hj => rrel_all hs (h3 j v hj))
  | _ => exact .base _ _ (lendCell_rel hs hr hl)

theorem lend_rel (hs : Sim E st a) {v b : AV} {x : Value} (hr : Rel E v x) (hl : lend st v b) : Rel E.lent b x := by
  cases v with
  | fn f first caps =>
    cases b <;> simp only [lend] at hl
    rename_i g first' caps'
    obtain ⟨rfl, h1, h2⟩ := hl
    cases hr with
    | base _ _ h => cases h
    | fn _ _ _ xs ys g1 g2 g3 g4 =>
      obtain ⟨q1, q2⟩ := lend0s_get h1
      obtain ⟨p1, p2⟩ := lend0s_get h2
      refine .fn f first' caps' xs ys (by rw [g1, q1]) (by rw [g2, p1]) (fun j u y hu hy => ?_) (fun j u y hu hy => ?_)
      · obtain ⟨v, hv, hvl⟩ := q2 j u hu
        exact lend0_rel hs (g3 j v y hv hy) hvl
      · obtain ⟨v, hv, hvl⟩ := p2 j u hu
        exact lend0_rel hs (g4 j v y hv hy) hvl
  | _ => exact lend0_rel hs hr hl

end Go.Proofs.Ytmpbmfhlkhonkaa.AM
