/- The abstract machine, part 6: operations that make or write memory. -/
import Derived.Test.YtmbckmfihcojoaaB5
namespace Go.Proofs.Ytmbckmfihcojoaa.AM
open Go Go.RowKit

set_option linter.unusedVariables false
set_option linter.unusedSimpArgs false

variable {P : Program} {T : Nat → Option TI} {E : Env} {st : St} {a : Act} {K : AV → St → Prop} {o : Oper}

theorem OpOk.new {id : Nat} (hu : st.used.elem id = false) (ob : Obj) (v : AV)
    (h : ∀ E a, Sim E st a → ∃ c ty siz cap x, (execOp a.eval o).run P E.w = .ok (.value x) (E.w.alloc (.cells c ty)) ∧ ORel (E.new id c ty siz cap) id ob ∧ Rel (E.new id c ty siz cap) v x)
    (hk : K v { st with sto := (id, ob) :: st.sto, used := id :: st.used }) : OpOk P o st K := by
  intro E a KW QW hs hK
  obtain ⟨c, ty, siz, cap, x, hx, ho, hr⟩ := h E a hs
  unfold Oper.wp
  rw [hx]
  exact hK _ v x _ (Env.new_fr (hs.notUsed hu) hs.wf c ty siz cap) (hs.new hu ho) hr hk

theorem Sim.noWin (hs : Sim E st a) : E.win E.w.heap.size = none := by
  cases hq : E.win E.w.heap.size with
  | none => rfl
  | some p => exact absurd (hs.wf.windows _ (by rw [hq]; simp)).1 (Nat.lt_irrefl _)

theorem Env.new_loc {E : Env} {id : Nat} {c : Array Value} {ty : TypeId} {siz cap : Nat} : (E.new id c ty siz cap).loc id = some ⟨E.w.heap.size, 0, siz, cap⟩ := by simp [Env.new]

/-- The zero value's cells. -/
theorem TabOk.zero (h : TabOk P T) {t : Nat} {i : TI} (hi : T t = some i) : ∃ z : Value, (∀ w, (zeroValue t).run P w = .ok z w) ∧ z.cells.size = i.zero.length ∧ i.zero.length = i.size ∧
    (∀ (j : Nat) (y : Value), z.cells[j]? = some y → y.oneCell' = true) ∧ ∀ (E : Env) (j : Nat) (v : AV) (y : Value), i.zero[j]? = some v → z.cells[j]? = some y → Rel E v y := by
  obtain ⟨info, d, z, h1, h2, h3, h4, h5, h6, h7, h8, h9⟩ := h.info hi
  refine ⟨z, fun w => by simp [zeroValue, typeInfo, h1, h6], by rw [← h7]; simp, (h t i hi).2.1, fun j y hy => ?_, fun E j v y hv hy => ?_⟩
  · exact (Array.all_eq_true_iff_forall_mem.1 h9) y (Array.mem_of_getElem? hy)
  · rw [← h7] at hv
    simp only [List.getElem?_map, Option.map_eq_some_iff] at hv
    obtain ⟨u, hu, rfl⟩ := hv
    have : u = y := by simpa [hy] using hu.symm
    subst this
    exact rel_const E u

theorem ok_alloc {id t : Nat} {i : TI} (h : TabOk P T) (hi : T t = some i) (hu : st.used.elem id = false) (ho : o.op = .alloc t)
    (hk : K (.ptr id 0 0) { st with sto := (id, .box i.zero) :: st.sto, used := id :: st.used }) : OpOk P o st K := by
  obtain ⟨z, hz, hz1, hz2, hz3, hz4⟩ := h.zero hi
  refine OpOk.new hu _ _ (fun E a hs => ⟨z.cells, t, 1, i.zero.length, .pointer (some ⟨E.w.heap.size, 0, none⟩), ?_, ?_, ?_⟩) hk
  · simp [execOp, ho, Instr.alloc, hz, newVar, newRow]
  · refine ⟨_, z.cells, t, Env.new_loc, rfl, by simp [Env.new], heap_new _ _, by simp [hz1], fun lo hi hw => (by rw [show (E.new id z.cells t 1 i.zero.length).win = E.win from rfl, hs.noWin] at hw; cases hw), fun j v hj => ?_⟩
    have hlt : j < z.cells.size := by rw [hz1]; exact (List.getElem?_eq_some_iff.1 hj).1
    exact ⟨z.cells[j], by simp [hlt], hz3 j _ (Array.getElem?_eq_getElem hlt), hz4 _ j v _ hj (Array.getElem?_eq_getElem hlt)⟩
  · have := Rel.ptr (E := E.new id z.cells t 1 i.zero.length) id 0 0 _ Env.new_loc
    simpa using this

theorem ok_box {id t : Nat} {x : Operand} {cs : List AV} (hu : st.used.elem id = false) (ho : o.op = .box t x) (hf : (st.ev x).flat = some cs)
    (hk : K (.ptr id 0 0) { st with sto := (id, .box cs) :: st.sto, used := id :: st.used }) : OpOk P o st K := by
  refine OpOk.new hu _ _ (fun E a hs => ⟨(a.eval x).cells, t, 1, cs.length, .pointer (some ⟨E.w.heap.size, 0, none⟩), ?_, ?_, ?_⟩) hk
  · simp [execOp, ho, Instr.box, newVar, newRow]
  · obtain ⟨h1, h2, h3⟩ := rel_flat (hs.ev x) hf
    refine ⟨_, _, t, Env.new_loc, rfl, by simp [Env.new], heap_new _ _, by simp [h1], fun lo hi hw => (by rw [show (E.new id (a.eval x).cells t 1 cs.length).win = E.win from rfl, hs.noWin] at hw; cases hw), fun j v hj => ?_⟩
    have hlt : j < (a.eval x).cells.size := by rw [h1]; exact (List.getElem?_eq_some_iff.1 hj).1
    have hg := Array.getElem?_eq_getElem hlt
    exact ⟨_, by simp [hlt], h2 j _ hg, hs.relNew hu _ _ _ _ (h3 j v _ hj hg)⟩
  · have := Rel.ptr (E := E.new id (a.eval x).cells t 1 cs.length) id 0 0 _ Env.new_loc
    simpa using this

/-! ### Structs that are built -/

def setMany {α : Type} (l : List α) (o : Nat) (vs : List α) : List α := l.take o ++ vs ++ l.drop (o + vs.length)

theorem setMany_get {α : Type} (l : List α) (o : Nat) (vs : List α) (h : o + vs.length ≤ l.length) (j : Nat) : (setMany l o vs)[j]? = if o ≤ j ∧ j < o + vs.length then vs[j - o]? else l[j]? := by
  unfold setMany
  rw [List.append_assoc, List.getElem?_append, List.length_take, Nat.min_eq_left (by omega)]
  by_cases h1 : j < o
  · rw [if_pos h1, if_neg (by omega), List.getElem?_take, if_pos h1]
  · rw [if_neg h1, List.getElem?_append]
    by_cases h2 : j - o < vs.length
    · rw [if_pos h2, if_pos (by omega)]
    · rw [if_neg h2, if_neg (by omega), List.getElem?_drop]
      congr 1; omega

theorem setMany_length {α : Type} (l : List α) (o : Nat) (vs : List α) (h : o + vs.length ≤ l.length) : (setMany l o vs).length = l.length := by
  unfold setMany
  simp only [List.length_append, List.length_take, List.length_drop]
  omega

def CellsRel (E : Env) (cells : List AV) (xs : Array Value) : Prop :=
  xs.size = cells.length ∧ (∀ (j : Nat) (y : Value), xs[j]? = some y → y.oneCell' = true) ∧ ∀ (j : Nat) (v : AV) (y : Value), cells[j]? = some v → xs[j]? = some y → Rel E v y

def fillA (place : Nat → Option (Nat × Nat)) (ev : Operand → AV) : List AV → List (Nat × Operand) → Option (List AV)
  | cells, [] => some cells
  | cells, (i, x) :: rest =>
    match place i, (ev x).flat with
    | some (off, size), some cs => bif nbeq cs.length size && nble (off + cs.length) cells.length then fillA place ev (setMany cells off cs) rest else none
    | _, _ => none

theorem fold_set (cs : List Value) : ∀ (k off : Nat) (xs : Array Value), 
    ((cs.zipIdx k).foldl (fun cs (x : Value × Nat) => cs.setIfInBounds (off + x.2) x.1) xs).size = xs.size ∧
    ∀ j, ((cs.zipIdx k).foldl (fun cs (x : Value × Nat) => cs.setIfInBounds (off + x.2) x.1) xs)[j]? = if off + k ≤ j ∧ j < off + k + cs.length ∧ j < xs.size then cs[j - (off + k)]? else xs[j]? := by
  induction cs with
  | nil => intro k off xs; exact ⟨rfl, fun j => by rw [if_neg (by simp; omega)]; rfl⟩
  | cons c r ih =>
    intro k off xs
    obtain ⟨h1, h2⟩ := ih (k + 1) off (xs.setIfInBounds (off + k) c)
    simp only [List.zipIdx_cons, List.foldl_cons]
    refine ⟨by rw [h1]; simp, fun j => ?_⟩
    rw [h2]
    simp only [Array.size_setIfInBounds, List.length_cons]
    by_cases hj : off + (k + 1) ≤ j ∧ j < off + (k + 1) + r.length ∧ j < xs.size
    · rw [if_pos hj, if_pos (by omega), show j - (off + k) = (j - (off + (k + 1))) + 1 by omega, List.getElem?_cons_succ]
    · rw [if_neg hj, Array.getElem?_setIfInBounds]
      by_cases he : off + k = j
      · rw [if_pos he]
        by_cases hlt : off + k < xs.size
        · rw [if_pos hlt, if_pos (by omega), show j - (off + k) = 0 by omega]; rfl
        · rw [if_neg hlt, if_neg (by omega)]
          rw [Array.getElem?_eq_none (by omega)]
      · rw [if_neg he, if_neg (by omega)]

theorem fillA_rel (hs : Sim E st a) (place : Nat → Option (Nat × Nat)) : ∀ (parts : List (Nat × Operand)) (cells cells' : List AV) (xs : Array Value), CellsRel E cells xs → fillA place st.ev cells parts = some cells' →
    ∃ xs', Instr.fill place xs (parts.map fun p => (p.1, a.eval p.2)) = some xs' ∧ CellsRel E cells' xs'
  | [], cells, cells', xs, h, hf => by simp [fillA] at hf; subst hf; exact ⟨xs, rfl, h⟩
  | (i, x) :: rest, cells, cells', xs, ⟨h1, h2, h3⟩, hf => by
    unfold fillA at hf
    split at hf
    · rename_i off size cs hp hfl
      cases hc : (nbeq cs.length size && nble (off + cs.length) cells.length) with
      | false => simp [hc] at hf
      | true =>
        simp only [hc, cond_true] at hf
        rw [Bool.and_eq_true] at hc
        have hcs := nbeq_eq hc.1
        have hle := nble_le hc.2
        obtain ⟨g1, g2, g3⟩ := rel_flat (hs.ev x) hfl
        have hfold := fold_set (a.eval x).cells.toList 0 off xs
        have hfe : ((a.eval x).cells.zipIdx.foldl (fun cs (x : Value × Nat) => cs.setIfInBounds (off + x.2) x.1) xs) = (((a.eval x).cells.toList.zipIdx 0).foldl (fun cs (x : Value × Nat) => cs.setIfInBounds (off + x.2) x.1) xs) := by
          rw [← Array.foldl_toList, Array.toList_zipIdx]
        obtain ⟨xs', hx', hr'⟩ := fillA_rel hs place rest (setMany cells off cs) cells' ((a.eval x).cells.zipIdx.foldl (fun cs (x : Value × Nat) => cs.setIfInBounds (off + x.2) x.1) xs)
          (by
            rw [hfe]
            have hget := fun j => hfold.2 j
            simp only [Nat.add_zero, Array.length_toList] at hget
            refine ⟨by rw [hfold.1, setMany_length _ _ _ hle, h1], fun j y hy => ?_, fun j v y hv hy => ?_⟩
            · rw [hget] at hy
              split at hy
              · exact g2 (j - off) y (by simpa using hy)
              · exact h2 j y hy
            · rw [hget] at hy
              rw [setMany_get _ _ _ hle] at hv
              by_cases hj : off ≤ j ∧ j < off + cs.length
              · have hj' : off ≤ j ∧ j < off + (a.eval x).cells.size ∧ j < xs.size := by rw [g1, h1]; omega
                rw [if_pos hj'] at hy
                rw [if_pos hj] at hv
                exact g3 (j - off) v y hv (by simpa using hy)
              · have hj' : ¬ (off ≤ j ∧ j < off + (a.eval x).cells.size ∧ j < xs.size) := by rw [g1, h1]; omega
                rw [if_neg hj'] at hy
                rw [if_neg hj] at hv
                exact h3 j v y hv hy) hf
        refine ⟨xs', ?_, hr'⟩
        have hcond : ((decide ((a.eval x).cells.size ≠ size) || decide (off + (a.eval x).cells.size > xs.size)) = true) → False := by
          rw [g1, h1, hcs]
          simp
          omega
        simp only [List.map_cons, Instr.fill, hp]
        rw [if_neg hcond]
        exact hx'
    · cases hf

def placesOf (T : Nat → Option TI) (fs : List (Nat × Nat)) (i : Nat) : Option (Nat × Nat) :=
  match fs[i]? with
  | some (off, ft) => (T ft).map fun j => (off, j.size)
  | none => none

theorem ok_build {t : Nat} {i : TI} {fs : List (Nat × Nat)} {parts : Array (Nat × Operand)} {cells : List AV} (h : TabOk P T) (hi : T t = some i) (hd : i.desc = .strct fs) (hall : fs.all (fun p => (T p.2).isSome) = true)
    (ho : o.op = .build t parts) (hf : fillA (placesOf T fs) st.ev i.zero parts.toList = some cells) (hk : K (.agg cells) st) : OpOk P o st K := by
  obtain ⟨info, d, z0, h1, hu, htd, hsz, hby, hz0, hzc, hzs, hzo⟩ := h.info hi
  obtain ⟨F, rfl, hF⟩ := tdOf_strct (htd.trans hd)
  refine OpOk.pure _ (fun E a hs => ?_) hk
  have hz : CellsRel E i.zero z0.cells := by
    refine ⟨by rw [hzs]; exact (h t i hi).2.1.symm, fun j y hy => (Array.all_eq_true_iff_forall_mem.1 hzo) y (Array.mem_of_getElem? hy), fun j v y hv hy => ?_⟩
    rw [← hzc] at hv
    simp only [List.getElem?_map, Option.map_eq_some_iff] at hv
    obtain ⟨u, hu, rfl⟩ := hv
    have : u = y := by simpa [hy] using hu.symm
    subst this
    exact rel_const E u
  obtain ⟨xs, hx, hr⟩ := fillA_rel hs _ _ _ _ _ hz hf
  have hpl : ∃ places, F.toList.mapM (fun f => (P.info? f.type).map fun i => (f.offset, i.size)) = some places ∧ ∀ i, placesOf T fs i = places[i]? := by
    rw [← hF]
    rw [← hF] at hall
    generalize F.toList = l at hall
    clear hF hf hx hu htd
    induction l with
    | nil => exact ⟨[], rfl, fun i => by simp [placesOf]⟩
    | cons f r ih =>
      simp only [List.map_cons, List.all_cons, Bool.and_eq_true] at hall
      obtain ⟨ps, hp1, hp2⟩ := ih hall.2
      obtain ⟨j, hj⟩ := Option.isSome_iff_exists.1 hall.1
      obtain ⟨info', _, _, g1, _, _, g2, _⟩ := h.info hj
      refine ⟨(f.offset, j.size) :: ps, by simp [List.mapM_cons, g1, g2, hp1], fun i => ?_⟩
      cases i with
      | zero => simp [placesOf, hj]
      | succ i => simpa [placesOf] using hp2 i
  obtain ⟨places, hp1, hp2⟩ := hpl
  have hplace : placesOf T fs = (places.toArray[·]?) := funext fun i => by rw [hp2]; simp
  refine ⟨.agg xs, ?_, .agg _ _ hr.1 hr.2.1 hr.2.2⟩
  have hb : P.built t ((parts.map fun (i, x) => (i, a.eval x))).toList = some xs := by
    unfold Program.built
    rw [h1, hu]
    simp only [hz0, hp1]
    rw [← hplace, ← hx]
    congr 1
    simp
  simp only [execOp, ho, Sem.run_bind, run_build E.w t _ xs hb, Result.andThen_ok, Sem.run_pure]

/-- A part of a struct. -/
theorem ok_field {t f : Nat} {i j : TI} {fs : List (Nat × Nat)} {off ft : Nat} {x : Operand} {cells : List AV} (h : TabOk P T) (hi : T t = some i) (hd : i.desc = .strct fs) (hf : fs[f]? = some (off, ft)) (hj : T ft = some j) (hkn : j.desc.known = true)
    (ho : o.op = .field t x f) (hx : st.ev x = .agg cells)
    (hk : if j.desc.isAgg then off + j.size ≤ cells.length ∧ K (.agg ((cells.drop off).take j.size)) st else ∃ v r, cells.drop off = v :: r ∧ K v st) : OpOk P o st K := by
  obtain ⟨d, hu, htd⟩ := h.und hi
  obtain ⟨F, rfl, hF⟩ := tdOf_strct (htd.trans hd)
  have hfl : ∃ fld, F[f]? = some fld ∧ fld.offset = off ∧ fld.type = ft := by
    rw [← hF] at hf
    simp only [List.getElem?_map, Option.map_eq_some_iff] at hf
    obtain ⟨fld, h1, h2⟩ := hf
    exact ⟨fld, by simpa using h1, by simpa using congrArg Prod.fst h2, by simpa using congrArg Prod.snd h2⟩
  obtain ⟨fld, hfl, hoff, hty⟩ := hfl
  have hsz := fun w => h.size (P := P) hj w
  have hag := fun w => h.agg (P := P) hj hkn w
  cases hq : j.desc.isAgg with
  | true =>
    rw [hq] at hag hk
    simp only [if_true] at hk
    refine OpOk.pure _ (fun E a hs => ?_) hk.2
    have hr := hs.ev x
    rw [hx] at hr
    obtain ⟨xs, h1, h2, h3, h4⟩ := rel_agg hr
    refine ⟨.agg (xs.extract off (off + j.size)), by simp [execOp, ho, h1, Instr.field, run_underlying hu, hfl, hty, hoff, asAgg, part, hag, hsz], .agg _ _ (by simp; omega) (fun q y hy => ?_) (fun q v y hv hy => ?_)⟩
    · simp only [Array.getElem?_extract] at hy
      split at hy
      · exact h3 _ y hy
      · cases hy
    · simp only [Array.getElem?_extract] at hy
      rw [List.getElem?_take] at hv
      split at hv
      · rw [List.getElem?_drop] at hv
        split at hy
        · exact h4 _ v y hv hy
        · cases hy
      · cases hv
  | false =>
    rw [hq] at hag hk
    obtain ⟨v, r, hc, hk⟩ := hk
    refine OpOk.pure _ (fun E a hs => ?_) hk
    have hr := hs.ev x
    rw [hx] at hr
    obtain ⟨xs, h1, h2, h3, h4⟩ := rel_agg hr
    have hv : cells[off]? = some v := by
      have : (cells.drop off)[0]? = some v := by rw [hc]; rfl
      simpa using this
    have hlt : off < xs.size := by rw [h2]; exact (List.getElem?_eq_some_iff.1 hv).1
    have hg : xs[off]? = some xs[off] := Array.getElem?_eq_getElem hlt
    exact ⟨xs[off], by simp [execOp, ho, h1, Instr.field, run_underlying hu, hfl, hty, hoff, asAgg, part, hag, hg], h4 _ v _ hv hg⟩

end Go.Proofs.Ytmbckmfihcojoaa.AM
