/- The abstract machine, part 9: make, slice literals, equal structs, clear. -/
import Derived.Test.YtmbckmfihcojoaaB8
import Derived.Laws.MakeOwn
import Derived.Great.BuildSlice
import Derived.Laws.StructEq
namespace Go.Proofs.Ytmbckmfihcojoaa.AM
open Go Go.RowKit

set_option linter.unusedVariables false
set_option linter.unusedSimpArgs false

variable {P : Program} {T : Nat → Option TI} {E : Env} {st : St} {a : Act} {K : AV → St → Prop} {o : Oper}

theorem madeCells_get {z : Array Value} {n size i j : Nat} (hz : z.size = size) (hi : i < n) (hj : j < size) : (madeCells z (n * size))[i * size + j]? = z[j]? := by
  have h1 : i * size + j < n * size := by
    have : i * size + size ≤ n * size := by rw [← Nat.succ_mul]; exact Nat.mul_le_mul_right _ hi
    omega
  have h2 : (i * size + j) % z.size = j := by rw [hz, Nat.mul_comm, Nat.mul_add_mod, Nat.mod_eq_of_lt hj]
  have hjz : j < z.size := by omega
  simp only [madeCells, Array.getElem?_map, Array.getElem?_range, h1, if_true, Option.map_some]
  rw [h2]
  simp [hjz]

theorem ok_makeSlice {t e lab : Nat} {i j : TI} {x y : Operand} {k k' : IntKind} {n m : Int} {us : List AV} (h : TabOk P T) (hti : T t = some i) (hd : i.desc = .slice e) (hj : T e = some j) (hpos : 0 < j.size) (hby : 0 < j.bytes)
    (ho : o.op = .makeSlice t x y) (hu : st.used.elem lab = false) (hx : st.ev x = .int k n) (hy : st.ev y = .int k' m) (h0 : 0 ≤ n) (hnm : n ≤ m) (hb : m.toNat * j.bytes ≤ maxBytes) (hz : cellsOf j.flat j.zero = some us)
    (hk : K (.ref false lab 0 n.toNat) { st with sto := (lab, .arr j.size j.flat (List.replicate n.toNat us)) :: st.sto, used := lab :: st.used }) : OpOk P o st K := by
  obtain ⟨info, d, z, hi1, hi2, hi3, hi4, hi5, hi6, hi7, hi8, hi9⟩ := h.info hj
  obtain ⟨d', hu', htd'⟩ := h.und hti
  have hd1 := tdOf_slice (htd'.trans hd)
  subst hd1
  have hcm : m.toNat ≤ maxLen := append_maxLen hby hb
  have hbytes : (info.bytes : Int) * m ≤ 281474976710656 := by
    have h1 : ((m.toNat * j.bytes : Nat) : Int) ≤ 140737488355328 := by simp only [maxBytes] at hb; omega
    rw [hi5, Int.mul_comm]
    rw [Int.natCast_mul, Int.toNat_of_nonneg (by omega)] at h1
    omega
  have h63 : m ≤ 9223372036854775807 := by simp only [maxLen] at hcm; omega
  refine OpOk.upon (fun E a hs => ?_)
  have hxv := rel_int (by have := hs.ev x; rw [hx] at this; exact this)
  have hyv := rel_int (by have := hs.ev y; rw [hy] at this; exact this)
  have hrun := run_make (P := P) E.w t e info z hu' hi1 hi6 k k' n m h0 hnm hbytes h63
  obtain ⟨g1, g2⟩ := cellsOf_get hz
  have hzl : j.zero.length = j.size := by rw [← hi7]; simpa using hi8
  let cells := madeCells z.cells (m.toNat * j.size)
  have hs' := hs.new (id := lab) (c := cells) (ty := e) (siz := j.size) (cap := m.toNat) (ob := .arr j.size j.flat (List.replicate n.toNat us)) hu
    (.inr ⟨_, cells, e, Env.new_loc, rfl, hpos, by simp [Env.new], heap_new _ _, by simp [cells, size_madeCells], by simp; omega, hcm, hs.noWin, fun q r hq => ?_, fun q c r v hq hc => ?_⟩)
  · refine ⟨.slice (some ⟨E.w.heap.size, 0, none⟩) n.toNat m.toNat, E.new lab cells e j.size m.toNat, _, _, ?_, Env.new_fr (hs.notUsed hu) hs.wf _ _ _ _, hs', ?_, hk⟩
    · simp only [execOp, ho, hxv.1, hyv.1, Sem.run_bind, hrun, Result.andThen_ok, hi4]
      rfl
    · have := Rel.ref (E := E.new lab cells e j.size m.toNat) false lab 0 n.toNat _ m.toNat Env.new_loc (by omega) (by simp)
      simp only [Nat.zero_mul, Nat.add_zero] at this
      exact this
  · have : r = us := by
      have := List.mem_of_getElem? hq
      exact (List.mem_replicate.1 this).2
    subst this
    show r.length = j.size
    omega
  · have hr : r = us := (List.mem_replicate.1 (List.mem_of_getElem? hq)).2
    subst hr
    have hqn : q < n.toNat := by
      have := (List.getElem?_eq_some_iff.1 hq).1
      simpa using this
    have hcl : c < j.size := by
      have := (List.getElem?_eq_some_iff.1 hc).1
      omega
    obtain ⟨v0, hv0, hcell⟩ := g2 c v hc
    have hzc : ∃ zc, z.cells[c]? = some zc ∧ v0 = ofConst zc := by
      rw [← hi7] at hv0
      simp only [List.getElem?_map, Option.map_eq_some_iff] at hv0
      obtain ⟨zc, h1, h2⟩ := hv0
      exact ⟨zc, by simpa using h1, h2.symm⟩
    obtain ⟨zc, hzc, rfl⟩ := hzc
    refine ⟨zc, ?_, ?_, ?_⟩
    · have := madeCells_get (n := m.toNat) (i := q) (j := c) hi8 (by omega) hcl
      simp only [Nat.zero_add]
      rw [this]; exact hzc
    · have : zc ∈ z.cells := Array.mem_of_getElem? hzc
      exact Array.all_eq_true'.1 hi9 _ this
    · exact cell_rel (E := E.new lab cells e j.size m.toNat) (rel_const _ zc) hcell

/-- A slice literal without elements. -/
theorem ok_buildNil {t e lab : Nat} {i j : TI} {parts : Array (Nat × Operand)} (h : TabOk P T) (hti : T t = some i) (hd : i.desc = .slice e) (hj : T e = some j) (hpos : 0 < j.size) (ho : o.op = .buildSlice t 0 parts) (hp : parts.toList = [])
    (hu : st.used.elem lab = false) (hk : K .emp { st with sto := (lab, .arr j.size j.flat []) :: st.sto, used := lab :: st.used }) : OpOk P o st K := by
  obtain ⟨info, d, z, hi1, hi2, hi3, hi4, hi5, hi6, hi7, hi8, hi9⟩ := h.info hj
  obtain ⟨d', hu', htd'⟩ := h.und hti
  have hd1 := tdOf_slice (htd'.trans hd)
  subst hd1
  refine OpOk.upon (fun E a hs => ?_)
  have hs' := hs.new (id := lab) (c := #[]) (ty := e) (siz := j.size) (cap := 0) (ob := .arr j.size j.flat []) hu
    (.inr ⟨_, #[], e, Env.new_loc, rfl, hpos, by simp [Env.new], heap_new _ _, by simp, by simp, by simp, hs.noWin, fun q r hq => by simp at hq, fun q c r v hq hc => by simp at hq⟩)
  refine ⟨.slice (some ⟨E.w.heap.size, 0, none⟩) 0 0, E.new lab #[] e j.size 0, _, _, ?_, Env.new_fr (hs.notUsed hu) hs.wf _ _ _ _, hs', .base _ _ (.emp _), hk⟩
  have hpe : parts = #[] := by rw [← Array.toArray_toList (xs := parts), hp]
  subst hpe
  simp [execOp, ho, Instr.buildSlice, run_underlying hu', sizeOf, typeInfo, hi1, Instr.fill, newRow, Env.new, Array.range_zero']

/-! ### A slice literal with elements -/

def chunk (s : Nat) : Nat → List AV → List (List AV)
  | 0, _ => []
  | n + 1, l => l.take s :: chunk s n (l.drop s)

theorem chunk_length (s : Nat) : ∀ (n : Nat) (l : List AV), (chunk s n l).length = n
  | 0, _ => rfl
  | n + 1, l => by simp [chunk, chunk_length s n]

theorem chunk_get (s : Nat) : ∀ (n : Nat) (l : List AV) (i : Nat), i < n → (chunk s n l)[i]? = some ((l.drop (i * s)).take s)
  | n + 1, l, 0, _ => by simp [chunk]
  | n + 1, l, i + 1, h => by
    have := chunk_get s n (l.drop s) i (by omega)
    rw [List.drop_drop] at this
    simp only [chunk, List.getElem?_cons_succ, this]
    rw [show s + i * s = (i + 1) * s by rw [Nat.add_mul]; omega]

def cellsOfL (fl : Bool) : List (List AV) → Option (List (List AV))
  | [] => some []
  | r :: rs => match cellsOf fl r, cellsOfL fl rs with
    | some u, some us => some (u :: us)
    | _, _ => none

theorem cellsOfL_get {fl : Bool} : ∀ {vs us : List (List AV)}, cellsOfL fl vs = some us → us.length = vs.length ∧ ∀ (i : Nat) (u : List AV), us[i]? = some u → ∃ v, vs[i]? = some v ∧ cellsOf fl v = some u
  | [], us, h => by simp [cellsOfL] at h; subst h; exact ⟨rfl, fun i u hi => by simp at hi⟩
  | v :: r, us, h => by
    unfold cellsOfL at h
    split at h
    · rename_i u us' h1 h2
      obtain rfl := Option.some.inj h
      obtain ⟨g1, g2⟩ := cellsOfL_get h2
      refine ⟨by simp [g1], fun i w hi => ?_⟩
      cases i with
      | zero => simp at hi; subst hi; exact ⟨v, rfl, h1⟩
      | succ i => exact g2 i w (by simpa using hi)
    · cases h

def repl (zero : List AV) : Nat → List AV
  | 0 => []
  | n + 1 => zero ++ repl zero n

theorem repl_length (zero : List AV) : ∀ n, (repl zero n).length = n * zero.length
  | 0 => by simp [repl]
  | n + 1 => by simp [repl, repl_length zero n, Nat.add_mul]; omega

theorem repl_get (zero : List AV) : ∀ (n k : Nat), k < n * zero.length → (repl zero n)[k]? = zero[k % zero.length]?
  | 0, k, h => by simp at h
  | n + 1, k, h => by
    unfold repl
    rw [List.getElem?_append]
    by_cases hk : k < zero.length
    · rw [if_pos hk, Nat.mod_eq_of_lt hk]
    · rw [if_neg hk, repl_get zero n _ (by rw [Nat.add_mul, Nat.one_mul] at h; omega), ← Nat.mod_eq_sub_mod (by omega)]

theorem fillA_length (place : Nat → Option (Nat × Nat)) (ev : Operand → AV) : ∀ (parts : List (Nat × Operand)) (cells cells' : List AV), fillA place ev cells parts = some cells' → cells'.length = cells.length
  | [], cells, cells', h => by simp [fillA] at h; rw [h]
  | (i, x) :: rest, cells, cells', h => by
    unfold fillA at h
    split at h
    · rename_i off size cs _ _
      cases hc : (nbeq cs.length size && nble (off + cs.length) cells.length) with
      | false => simp [hc] at h
      | true =>
        simp only [hc, cond_true] at h
        rw [Bool.and_eq_true] at hc
        rw [fillA_length place ev rest _ _ h, setMany_length _ _ _ (nble_le hc.2)]
    · cases h

theorem ok_buildSlice {t e lab n : Nat} {i j : TI} {parts : Array (Nat × Operand)} {cells : List AV} {rows : List (List AV)} (h : TabOk P T) (hti : T t = some i) (hd : i.desc = .slice e) (hj : T e = some j) (hpos : 0 < j.size) (ho : o.op = .buildSlice t n parts)
    (hn : 0 < n) (hsm : n * j.size ≤ 10000) (hf : fillA (fun i => some (i * j.size, j.size)) st.ev (repl j.zero n) parts.toList = some cells) (hrows : cellsOfL j.flat (chunk j.size n cells) = some rows)
    (hu : st.used.elem lab = false) (hk : K (.ref true lab 0 n) { st with sto := (lab, .arr j.size j.flat rows) :: st.sto, used := lab :: st.used }) : OpOk P o st K := by
  obtain ⟨info, d, z, hi1, hi2, hi3, hi4, hi5, hi6, hi7, hi8, hi9⟩ := h.info hj
  obtain ⟨d', hu', htd'⟩ := h.und hti
  have hd1 := tdOf_slice (htd'.trans hd)
  subst hd1
  have hzl : j.zero.length = j.size := (h e j hj).2.1
  refine OpOk.upon (fun E a hs => ?_)
  have hz : CellsRel E (repl j.zero n) ((Array.range (n * info.size)).map (z.cells[· % z.cells.size]!)) := by
    have hmod : ∀ k, k % j.size < z.cells.size := fun k => by rw [hi8]; exact Nat.mod_lt _ hpos
    have hcell : ∀ k, k < n * j.size → ((Array.range (n * info.size)).map (z.cells[· % z.cells.size]!))[k]? = some (z.cells[k % j.size]'(hmod k)) := fun k hk => by
      have := hmod k
      simp only [Array.getElem?_map, hi4, Array.getElem?_range, hk, if_true, Option.map_some, hi8]
      simp [this]
    have hsz : ((Array.range (n * info.size)).map (z.cells[· % z.cells.size]!)).size = n * j.size := by simp [hi4]
    refine ⟨by rw [hsz, repl_length, hzl], fun k y hy => ?_, fun k v y hv hy => ?_⟩
    · have hlt : k < n * j.size := by rw [← hsz]; exact (Array.getElem?_eq_some_iff.1 hy).1
      rw [hcell k hlt] at hy
      obtain rfl := Option.some.inj hy
      exact (Array.all_eq_true_iff_forall_mem.1 hi9) _ (Array.getElem_mem _)
    · have hlt : k < n * j.size := by rw [← hsz]; exact (Array.getElem?_eq_some_iff.1 hy).1
      rw [hcell k hlt] at hy
      obtain rfl := Option.some.inj hy
      rw [repl_get _ _ _ (by rw [hzl]; exact hlt), hzl, ← hi7] at hv
      simp only [List.getElem?_map, Option.map_eq_some_iff] at hv
      obtain ⟨u, hu, rfl⟩ := hv
      have : z.cells[k % j.size]'(hmod k) = u := by
        have := hmod k
        simpa [this] using hu
      rw [this]
      exact rel_const E u
  obtain ⟨xs, hx, hr1, hr2, hr3⟩ := fillA_rel hs _ _ _ _ _ hz hf
  have hrun := run_buildSlice (P := P) E.w t e n (parts.map fun (i, x) => (i, a.eval x)) xs info z hu' hi1 hi6 (by rw [hi4]; omega) (by
    rw [hi4]
    have := Nat.mul_le_mul hn hpos
    omega) (by
    rw [← hx, hi4]
    congr 1
    simp)
  have hcl : cells.length = n * j.size := by rw [fillA_length _ _ _ _ _ hf, repl_length, hzl]
  obtain ⟨g1, g2⟩ := cellsOfL_get hrows
  rw [chunk_length] at g1
  have hrow : ∀ (q : Nat) (r : List AV), rows[q]? = some r → q < n ∧ r.length = j.size ∧ ∀ (c : Nat) (u : AV), r[c]? = some u → c < j.size ∧ ∃ v, cells[q * j.size + c]? = some v ∧ v.cell j.flat = some u := fun q r hq => by
    have hqn : q < n := by rw [← g1]; exact (List.getElem?_eq_some_iff.1 hq).1
    obtain ⟨v, hv, hc⟩ := g2 q r hq
    rw [chunk_get _ _ _ _ hqn] at hv
    obtain rfl := Option.some.inj hv
    obtain ⟨k1, k2⟩ := cellsOf_get hc
    have hmul : q * j.size + j.size ≤ n * j.size := by rw [← Nat.succ_mul]; exact Nat.mul_le_mul_right _ hqn
    have hlen : ((cells.drop (q * j.size)).take j.size).length = j.size := by simp; omega
    refine ⟨hqn, by rw [k1, hlen], fun c u hcu => ?_⟩
    have hcl' : c < j.size := by rw [← hlen, ← k1]; exact (List.getElem?_eq_some_iff.1 hcu).1
    obtain ⟨v, hv, hvc⟩ := k2 c u hcu
    rw [List.getElem?_take_of_lt hcl', List.getElem?_drop] at hv
    exact ⟨hcl', v, hv, hvc⟩
  have hs' := hs.new (id := lab) (c := xs) (ty := e) (siz := j.size) (cap := n) (ob := .arr j.size j.flat rows) hu
    (.inr ⟨_, xs, e, Env.new_loc, rfl, hpos, by simp [Env.new], heap_new _ _, by simp [hr1, hcl], by simp [g1], (show n ≤ maxLen by
      have : n ≤ n * j.size := Nat.le_mul_of_pos_right _ hpos
      simp only [maxLen]; omega), hs.noWin, fun q r hq => (hrow q r hq).2.1, fun q c r v hq hc => ?_⟩)
  · refine ⟨.slice (some ⟨E.w.heap.size, 0, none⟩) n n, E.new lab xs e j.size n, _, _, ?_, Env.new_fr (hs.notUsed hu) hs.wf _ _ _ _, hs', ?_, hk⟩
    · simp only [execOp, ho, Sem.run_bind, hrun, Result.andThen_ok, Sem.run_pure]
      rfl
    · have := Rel.ref (E := E.new lab xs e j.size n) true lab 0 n _ n Env.new_loc (Nat.le_refl _) (by simp)
      simpa using this
  · obtain ⟨hqn, _, hrc⟩ := hrow q r hq
    obtain ⟨hcj, u, hu1, hu2⟩ := hrc c v hc
    have hmul : q * j.size + j.size ≤ n * j.size := by rw [← Nat.succ_mul]; exact Nat.mul_le_mul_right _ hqn
    have hlt : q * j.size + c < xs.size := by rw [hr1, hcl]; omega
    have hg := Array.getElem?_eq_getElem hlt
    refine ⟨xs[q * j.size + c], by simp [hlt], hr2 _ _ hg, cell_rel (hs.relNew hu _ _ _ _ (hr3 _ u _ hu1 hg)) hu2⟩

/-! ### Equal structs -/

def plain1 (d : TD) (u v : AV) : Bool :=
  match d, u, v with
  | .int _, .int K _, .int K' _ => decide (K = K')
  | .bool, .bool _, .bool _ => true
  | _, _, _ => false

/-- The fields, one cell each, in order, and plain; the cells of their kinds. -/
def plainEq (T : Nat → Option TI) : Nat → List (Nat × Nat) → List AV → List AV → Bool
  | _, [], [], [] => true
  | k, (o, t) :: r, u :: us, v :: vs => nbeq o k && (match T t with | some i => plain1 i.desc u v | none => false) && plainEq T (k + 1) r us vs
  | _, _, _, _ => false

/-- What the model asks of a struct's type before it compares two. -/
def eqFit (P : Program) (t : Nat) : Bool := !(P.stoodInHeld t) && !(P.eqGuardType P.depth t) && (P.fieldsOf t).toList.all (fun f => f.name != "_")

theorem run_eqFields (h : TabOk P T) (w : World) (E : Env) : ∀ (fs : List Field) (k : Nat) (us vs : List AV) (X Y : Array Value), plainEq T k (fs.map fun f => (f.offset, f.type)) us vs = true → fs.all (fun f => f.name != "_") = true →
    (∀ (j : Nat) (u : AV) (x : Value), us[j]? = some u → X[k + j]? = some x → Rel E u x) → (∀ (j : Nat) (u : AV) (x : Value), vs[j]? = some u → Y[k + j]? = some x → Rel E u x) → k + us.length ≤ X.size → k + vs.length ≤ Y.size →
    ∃ b : Bool, (b = true ↔ us = vs) ∧ (Op.eqFields 9999 X Y fs).run P w = .ok b w
  | [], k, us, vs, X, Y, hp, _, _, _, _, _ => by
    cases us <;> cases vs <;> simp [plainEq] at hp
    exact ⟨true, by simp, by simp [Op.eqFields]⟩
  | f :: fs, k, us, vs, X, Y, hp, hn, hx, hy, h1, h2 => by
    cases us with
    | nil => cases vs <;> simp [plainEq] at hp
    | cons u us =>
      cases vs with
      | nil => simp [plainEq] at hp
      | cons v vs =>
        simp only [List.length_cons] at h1 h2
        simp only [List.map_cons, plainEq, Bool.and_eq_true] at hp
        simp only [List.all_cons, Bool.and_eq_true] at hn
        obtain ⟨⟨ho, ht⟩, hp⟩ := hp
        have ho := nbeq_eq ho
        have gx := Array.getElem?_eq_getElem (show k < X.size by omega)
        have gy := Array.getElem?_eq_getElem (show k < Y.size by omega)
        have rx := hx 0 u _ rfl gx
        have ry := hy 0 v _ rfl gy
        cases hq : T f.type with
        | none => rw [hq] at ht; cases ht
        | some i =>
          rw [hq] at ht
          simp only at ht
          obtain ⟨d, hu, htd⟩ := h.und hq
          have hkn : i.desc.known = true ∧ i.desc.isAgg = false := by
            cases hd : i.desc <;> rw [hd] at ht <;> first | exact ⟨rfl, rfl⟩ | simp [plain1] at ht
          have hag := fun w => h.agg (P := P) hq hkn.1 w
          rw [hkn.2] at hag
          have px : (part f.type X f.offset).run P w = .ok X[k] w := by simp [part, hag, ho, gx]
          have py : (part f.type Y f.offset).run P w = .ok Y[k] w := by simp [part, hag, ho, gy]
          obtain ⟨b', hb', hr'⟩ := run_eqFields h w E fs (k + 1) us vs X Y hp hn.2 (fun j u x hu' hx' => hx (j + 1) u x (by simpa using hu') (by rw [← hx']; congr 1; omega)) (fun j u x hu' hx' => hy (j + 1) u x (by simpa using hu') (by rw [← hx']; congr 1; omega)) (by omega) (by omega)
          have step : (∃ b : Bool, (b = true ↔ u = v) ∧ (Op.equalIn 9999 f.type X[k] Y[k]).run P w = .ok b w) → ∃ b : Bool, (b = true ↔ (u :: us = v :: vs)) ∧ (Op.eqFields 9999 X Y (f :: fs)).run P w = .ok b w := by
            rintro ⟨b, hb, hr⟩
            have hne : f.name ≠ "_" := by simpa using hn.1
            cases b with
            | false => exact ⟨false, by simp only [List.cons.injEq, ← hb]; simp, by simp only [Op.eqFields, if_pos hne, Sem.run_bind, px, py, hr, Result.andThen_ok, Bool.not_false, if_true, Sem.run_pure]⟩
            | true => exact ⟨b', by simp only [List.cons.injEq, ← hb, ← hb']; simp, by simp only [Op.eqFields, if_pos hne, Sem.run_bind, px, py, hr, Result.andThen_ok, Bool.not_true, Bool.false_eq_true, if_false, hr']⟩
          refine step ?_
          clear step
          generalize X[k] = xk at rx px
          generalize Y[k] = yk at ry py
          cases hd : i.desc with
          | int k' =>
            rw [hd] at ht
            have hdd := tdOf_int (htd.trans hd)
            subst hdd
            cases u <;> simp [plain1] at ht
            cases v <;> simp at ht
            subst ht
            rw [(rel_int rx).1, (rel_int ry).1]
            exact ⟨_, by simp, run_equalIn_int w 9998 f.type _ k' _ _ hu⟩
          | bool =>
            rw [hd] at ht
            have hdd := tdOf_bool (htd.trans hd)
            subst hdd
            cases u <;> simp [plain1] at ht
            cases v <;> simp at ht
            rw [rel_bool rx, rel_bool ry]
            exact ⟨_, by simp, run_equalIn_bool w 9998 f.type _ _ hu⟩
          | _ => rw [hd] at ht; simp [plain1] at ht

theorem ok_structEq {op : BinOp} {t u : Nat} {x y : Operand} {us vs : List AV} {i : TI} {fs : List (Nat × Nat)} (h : TabOk P T) (hi : T t = some i) (hd : i.desc = .strct fs) (hfit : eqFit P t = true) (ho : o.op = .binOp op t x y u) (hx : st.ev x = .agg us) (hy : st.ev y = .agg vs)
    (hp : plainEq T 0 fs us vs = true) {b : Bool} (hb : b = true ↔ us = vs) (hk : (op = .eql ∧ K (.bool b) st) ∨ (op = .neq ∧ K (.bool (!b)) st)) : OpOk P o st K := by
  obtain ⟨d, hu, htd⟩ := h.und hi
  obtain ⟨F, rfl, hF⟩ := tdOf_strct (htd.trans hd)
  unfold eqFit at hfit
  simp only [Bool.and_eq_true, Bool.not_eq_true'] at hfit
  have hfo : P.fieldsOf t = F := by simp [Program.fieldsOf, hu]
  have key : ∀ E a, Sim E st a → ∃ X Y, a.eval x = .agg X ∧ a.eval y = .agg Y ∧ (Op.equalIn 10000 t (.agg X) (.agg Y)).run P E.w = .ok b E.w := by
    intro E a hs
    have hrx := hs.ev x
    have hry := hs.ev y
    rw [hx] at hrx
    rw [hy] at hry
    obtain ⟨X, hX, x1, x2, x3⟩ := rel_agg hrx
    obtain ⟨Y, hY, y1, y2, y3⟩ := rel_agg hry
    refine ⟨X, Y, hX, hY, ?_⟩
    obtain ⟨b', hb', hr⟩ := run_eqFields (P := P) h E.w E F.toList 0 us vs X Y (by rw [hF]; exact hp) (by rw [← hfo]; exact hfit.2) (fun j u x hu hx => x3 j u x hu (by simpa using hx)) (fun j u x hu hx => y3 j u x hu (by simpa using hx)) (by omega) (by omega)
    rw [run_equalIn_agg E.w 9999 t X Y (by rw [hfo]; exact hu) hfit.1.1, hfo, hr]
    have : b' = b := by rw [Bool.eq_iff_iff, hb', hb]
    rw [this]
  rcases hk with ⟨rfl, hk⟩ | ⟨rfl, hk⟩
  · refine OpOk.pure _ (fun E a hs => ?_) hk
    obtain ⟨X, Y, hX, hY, hr⟩ := key E a hs
    refine ⟨.bool b, ?_, .base _ _ (.bool _)⟩
    simp only [execOp, ho, Sem.run_bind, hX, hY, run_eqGuard_agg E.w .eql t x y X Y hfit.1.2, Result.andThen_ok, run_eql_struct, hr, Sem.run_pure]
  · refine OpOk.pure _ (fun E a hs => ?_) hk
    obtain ⟨X, Y, hX, hY, hr⟩ := key E a hs
    refine ⟨.bool (!b), ?_, .base _ _ (.bool _)⟩
    simp only [execOp, ho, Sem.run_bind, hX, hY, run_eqGuard_agg E.w .neq t x y X Y hfit.1.2, Result.andThen_ok, run_neq_struct, hr, Sem.run_pure]

/-! ### Small ones -/

def AV.sure : AV → Bool
  | .ptr _ _ _ => true
  | .rptr _ => true
  | .fn _ _ _ => true
  | _ => false

theorem ok_nilCheck {x : Operand} (ho : o.op = .nilCheck x) (hx : (st.ev x).sure = true) (hk : K (st.ev x) st) : OpOk P o st K :=
  OpOk.pure _ (fun E a hs => by
    have hr := hs.ev x
    refine ⟨a.eval x, ?_, hr⟩
    generalize hq : a.eval x = xv at hr
    simp only [execOp, ho, hq]
    cases hv : st.ev x <;> rw [hv] at hx hr <;> simp [AV.sure] at hx
    · cases hr with
      | base _ _ h => cases h
      | ptr => rfl
    · cases hr with
      | base _ _ h => cases h
      | rptr => rfl
    · cases hr with
      | base _ _ h => cases h
      | fn => rfl) hk

theorem ok_capNil {x : Operand} {t ty e : Nat} {i : TI} (h : TabOk P T) (hi : T t = some i) (hd : i.desc = .slice e) (ho : o.op = .call { callee := .builtin .cap, args := #[x], argTypes := #[t] }) (hx : st.ev x = .nilS) (hk : K (.int .i64 0) st) : OpOk P o st K := by
  obtain ⟨d, hu, htd⟩ := h.und hi
  have h1 := tdOf_slice (htd.trans hd)
  subst h1
  refine OpOk.pure _ (fun E a hs => ?_) hk
  have hr := hs.ev x
  rw [hx] at hr
  exact ⟨.int .i64 0, by simp [execOp, ho, resolve, invoke, builtin, Builtin.cap_, rel_nilS hr, run_underlying hu, goInt], .base _ _ (.int _ _ (by decide))⟩

theorem ok_xor {t u : Nat} {x y : Operand} {k : IntKind} {m n : Int} (ho : o.op = .binOp .xor t x y u) (hx : st.ev x = .int k m) (hy : st.ev y = .int k n)
    (hk : K (.int k (k.wrap (BitVec.ofInt k.bits m ^^^ BitVec.ofInt k.bits n).toNat)) st) : OpOk P o st K :=
  OpOk.pure _ (fun E a hs => by
    have hrx := hs.ev x
    have hry := hs.ev y
    rw [hx] at hrx
    rw [hy] at hry
    exact ⟨.int k (k.wrap (BitVec.ofInt k.bits m ^^^ BitVec.ofInt k.bits n).toNat), by simp [execOp, ho, (rel_int hrx).1, (rel_int hry).1, eqGuard_int, binOp, Op.intBits], .base _ _ (.int _ _ (wf_wrap _ _))⟩) hk

theorem ok_shl {t u : Nat} {x y : Operand} {k k' : IntKind} {m n : Int} (ho : o.op = .binOp .shl t x y u) (hx : st.ev x = .int k m) (hy : st.ev y = .int k' n) (h0 : 0 ≤ n)
    (hk : K (.int k (k.wrap (m * 2 ^ (min n.toNat k.bits)))) st) : OpOk P o st K :=
  OpOk.pure _ (fun E a hs => by
    have hrx := hs.ev x
    have hry := hs.ev y
    rw [hx] at hrx
    rw [hy] at hry
    exact ⟨.int k (k.wrap (m * 2 ^ (min n.toNat k.bits))), by simp [execOp, ho, (rel_int hrx).1, (rel_int hry).1, eqGuard_int, binOp, Op.shift, Int.not_lt.2 h0], .base _ _ (.int _ _ (wf_wrap _ _))⟩) hk

theorem ok_shr {t u : Nat} {x y : Operand} {k k' : IntKind} {m n : Int} (ho : o.op = .binOp .shr t x y u) (hx : st.ev x = .int k m) (hy : st.ev y = .int k' n) (h0 : 0 ≤ n)
    (hk : K (.int k (k.wrap (m.fdiv (2 ^ (min n.toNat k.bits))))) st) : OpOk P o st K :=
  OpOk.pure _ (fun E a hs => by
    have hrx := hs.ev x
    have hry := hs.ev y
    rw [hx] at hrx
    rw [hy] at hry
    refine ⟨.int k (m.fdiv (2 ^ (min n.toNat k.bits))), by simp [execOp, ho, (rel_int hrx).1, (rel_int hry).1, eqGuard_int, binOp, Op.shift, Int.not_lt.2 h0], ?_⟩
    rw [wf_fdiv _ _ _ (rel_int hrx).2]
    exact .base _ _ (.int _ _ (by rw [← wf_fdiv _ _ _ (rel_int hrx).2]; exact wf_wrap _ _))) hk

/-- What is cleared of an array of ours. -/
theorem ok_clear {t e id off len : Nat} {p : Bool} {i j : TI} {x : Operand} {rows : List (List AV)} {us : List AV} (h : TabOk P T) (hti : T t = some i) (hd : i.desc = .slice e) (hj : T e = some j) (hpos : 0 < j.size)
    (ho : o.op = .call { callee := .builtin .clear, args := #[x], argTypes := #[t] }) (hx : st.ev x = .ref p id off len) (hq : lk st.sto id = some (.arr j.size j.flat rows)) (hle : off + len ≤ rows.length) (hz : cellsOf j.flat j.zero = some us)
    (hk : K (.tup []) { st with sto := (id, .arr j.size j.flat (setMany rows off (List.replicate len us))) :: st.sto }) : OpOk P o st K := by
  obtain ⟨info, d, z, hi1, hi2, hi3, hi4, hi5, hi6, hi7, hi8, hi9⟩ := h.info hj
  obtain ⟨d', hu', htd'⟩ := h.und hti
  have hd1 := tdOf_slice (htd'.trans hd)
  subst hd1
  obtain ⟨g1', g2'⟩ := cellsOf_get hz
  have hzl : j.zero.length = j.size := (h e j hj).2.1
  refine OpOk.upon (fun E a hs => ?_)
  have hrx := hs.ev x
  rw [hx] at hrx
  have hid : len = 0 → setMany rows off (List.replicate len us) = rows := fun e => by subst e; simp [setMany]
  generalize hxv : a.eval x = xv at hrx
  have triv : ∀ (ad : Option Addr) (cap : Nat), xv = .slice ad 0 cap → len = 0 → ∃ x E' v st', (execOp a.eval o).run P E.w = .ok (.value x) E'.w ∧ Fr E E' ∧ Sim E' st' a ∧ Rel E' v x ∧ K v st' := fun ad cap e h0 => by
    subst e
    refine ⟨.tuple #[], E, .tup [], { st with sto := (id, .arr j.size j.flat rows) :: st.sto }, ?_, Fr.refl E, ⟨hs.wf, hs.defers, hs.size, hs.tmps, fun k ob hk => ?_, hs.used, fun k ob hk => ?_⟩, .tup _ _ rfl (fun j v x hj => by simp at hj), by rw [← hid h0]; exact hk⟩
    · cases ad <;> simp [execOp, ho, hxv, resolve, invoke, builtin, Builtin.clear_, run_underlying hu']
    · rw [lk_cons] at hk
      by_cases e : id = k
      · subst e; rw [if_pos rfl] at hk; obtain rfl := Option.some.inj hk; exact hs.sto _ _ hq
      · rw [if_neg e] at hk; exact hs.sto _ _ hk
    · rw [lk_cons] at hk
      by_cases e : id = k
      · subst e; exact hs.keys _ _ hq
      · rw [if_neg e] at hk; exact hs.keys _ _ hk
  cases hrx with
  | base _ _ h => cases h
  | ref0 => exact triv _ _ rfl rfl
  | ref _ _ _ _ L cap hL hcap1 hcap2 =>
    by_cases h0 : len = 0
    · exact triv _ _ (by rw [h0]) h0
    rcases hs.sto id _ hq with ⟨g1, g2⟩ | ⟨L', c0, ty, g1, gsz, g2, g3, g4, g5, g6, g7, gwa, g8, g9⟩
    · rw [g1] at hL; cases hL
    rw [g1] at hL
    obtain rfl := Option.some.inj hL
    have hle2 : L'.base + off * j.size + cap * j.size ≤ c0.size := by rw [← gsz, Nat.add_assoc, ← Nat.add_mul, hcap2]; exact g5
    have hmul : len * j.size ≤ cap * j.size := Nat.mul_le_mul_right _ hcap1
    obtain ⟨zs, hzs⟩ : ∃ zs, zs = (Builtin.zeroCells z.cells len) := ⟨_, rfl⟩
    have hzsz : zs.size = len * j.size := by rw [hzs, size_zeroCells, hi8]
    have hzget : ∀ q c, q < len → c < j.size → ∃ y : Value, zs[q * j.size + c]? = some y ∧ z.cells[c]? = some y := fun q c hq hc => by
      have hlt : q * j.size + c < len * j.size := by
        have : q * j.size + j.size ≤ len * j.size := by rw [← Nat.succ_mul]; exact Nat.mul_le_mul_right _ hq
        omega
      have hcz : c < z.cells.size := by omega
      refine ⟨z.cells[c], ?_, Array.getElem?_eq_getElem hcz⟩
      have hmod : (q * j.size + c) % z.cells.size = c := by rw [hi8, Nat.mul_comm, Nat.mul_add_mod, Nat.mod_eq_of_lt hc]
      rw [hzs]
      simp only [Builtin.zeroCells, Array.getElem?_map, Array.getElem?_range, hi8, hlt, if_true, Option.map_some]
      rw [hi8] at hmod
      rw [hmod]
      simp [hcz]
    have hone : ∀ (y : Value), y ∈ zs.toList → y.oneCell' = true := fun y hy => by
      obtain ⟨k, hk⟩ := List.getElem?_of_mem hy
      have hlt : k < len * j.size := by rw [← hzsz]; have := (List.getElem?_eq_some_iff.1 hk).1; simpa using this
      obtain ⟨q1, q2, q3⟩ := flat_div hlt
      obtain ⟨y', y1, y2⟩ := hzget _ _ q1 q2
      rw [← q3] at y1
      have : y' = y := by simpa [y1] using hk
      subst this
      exact (Array.all_eq_true_iff_forall_mem.1 hi9) _ (Array.mem_of_getElem? y2)
    have hst := run_storeCells_cells (P := P) L'.blk (L'.base + off * L'.siz) zs.toList 0 E.w
      (fun k hk => by
        rw [cell_of_row E.w L'.blk _ c0 ty (0, 0) g4]
        have : L'.base + off * L'.siz + 0 + k < c0.size := by rw [gsz]; simp [hzsz] at hk; omega
        simpa using this)
      (fun k hk => by simp [World.frozen?, g4]) hone
    simp only [Nat.add_zero] at hst
    obtain ⟨c', hc1, hc2, hc3⟩ := heap_setCells L'.blk ty zs.toList (L'.base + off * L'.siz) E.w c0 g4
    obtain ⟨r1, r2, r3, r4, r5⟩ := setCells_rest L'.blk zs.toList (L'.base + off * L'.siz) E.w
    have hsame := still_write hs (vs := zs.toList) (of := L'.base + off * L'.siz) g3
    have hrl : (List.replicate len us).length = len := by simp
    have hsl := setMany_length rows off (List.replicate len us) (by rw [hrl]; exact hle)
    have hor : ORel { E with w := E.w.setCells L'.blk (L'.base + off * L'.siz) zs.toList } id (.arr j.size j.flat (setMany rows off (List.replicate len us))) := by
      refine .inr ⟨L', c', ty, g1, gsz, g2, g3, hc1, by rw [hc2]; exact g5, by rw [hsl]; exact g6, g7, gwa, fun i r hir => ?_, fun i jj r v hir hjv => ?_⟩
      · rw [setMany_get _ _ _ (by rw [hrl]; exact hle)] at hir
        split at hir
        · rw [(List.mem_replicate.1 (List.mem_of_getElem? hir)).2, gsz]; omega
        · exact g8 i r hir
      · rw [setMany_get _ _ _ (by rw [hrl]; exact hle), hrl] at hir
        have hmul2 : ∀ a b : Nat, (a + b) * j.size = a * j.size + b * j.size := fun a b => Nat.add_mul ..
        rw [hc3]
        simp only [Array.length_toList, hzsz]
        have eo : off * L'.siz = off * j.size := by rw [gsz]
        have ei : i * L'.siz = i * j.size := by rw [gsz]
        by_cases hii : off ≤ i ∧ i < off + len
        · rw [if_pos hii] at hir
          obtain rfl := (List.mem_replicate.1 (List.mem_of_getElem? hir)).2
          have hjl : jj < j.size := by have := (List.getElem?_eq_some_iff.1 hjv).1; omega
          obtain ⟨y, y1, y2⟩ := hzget (i - off) jj (by omega) hjl
          have e2 : i * j.size = off * j.size + (i - off) * j.size := by rw [← hmul2]; congr 1; omega
          have hlt : (i - off) * j.size + jj < len * j.size := by rw [← hzsz]; exact (Array.getElem?_eq_some_iff.1 y1).1
          obtain ⟨u, hu1, hu2⟩ := g2' jj v hjv
          rw [← hi7] at hu1
          simp only [List.getElem?_map, Option.map_eq_some_iff] at hu1
          obtain ⟨zc, hzc, rfl⟩ := hu1
          have : zc = y := by simpa [y2] using hzc.symm
          subst this
          refine ⟨zc, ?_, (Array.all_eq_true_iff_forall_mem.1 hi9) _ (Array.mem_of_getElem? y2), cell_rel (E := { E with w := E.w.setCells L'.blk (L'.base + off * L'.siz) zs.toList }) (rel_const _ zc) hu2⟩
          rw [if_pos (by omega)]
          rw [show L'.base + i * L'.siz + jj - (L'.base + off * L'.siz) = (i - off) * j.size + jj by omega]
          simpa using y1
        · rw [if_neg hii] at hir
          obtain ⟨u, h1, h2, h3⟩ := g9 i jj r v hir hjv
          have hjl : jj < j.size := by rw [← gsz, ← g8 i r hir]; exact (List.getElem?_eq_some_iff.1 hjv).1
          refine ⟨u, ?_, h2, h3.to hsame (fun _ _ _ h => h) fun b hb => ⟨hb, r5 b (fun e => by rw [e, g3] at hb; cases hb)⟩⟩
          rw [if_neg, h1]
          rcases Nat.lt_or_ge i off with hlt | hge
          · have : i * j.size + j.size ≤ off * j.size := by rw [← Nat.succ_mul]; exact Nat.mul_le_mul_right _ hlt
            omega
          · have : off * j.size + len * j.size ≤ i * j.size := by rw [← Nat.add_mul]; exact Nat.mul_le_mul_right _ (by omega)
            omega
    obtain ⟨q1, q2⟩ := hs.write (id := id) (ob := .arr j.size j.flat (setMany rows off (List.replicate len us))) (w' := E.w.setCells L'.blk (L'.base + off * L'.siz) zs.toList) hq r1 r2 r3 r4 (fun k hk => r5 k (fun e => hk (e ▸ g3))) (fun k lo hi hw cc T hcc => ⟨cc, by rw [r5 k (fun e => by rw [e, gwa] at hw; cases hw)]; exact hcc, rfl, fun _ _ => rfl⟩) hor
    refine ⟨.tuple #[], _, .tup [], _, ?_, q2, q1, .tup _ _ rfl (fun j v x hj => by simp at hj), hk⟩
    cases len with
    | zero => exact absurd rfl h0
    | succ n =>
      simp only [execOp, ho, hxv, resolve, invoke, builtin, Builtin.clear_, run_underlying hu', Sem.run_bind, Sem.run_pure, Result.andThen_ok, List.map_toArray, List.map_cons, List.map_nil, zeroValue, typeInfo, hi1, hi6]
      simp [run_underlying hu', hi1, hi6, ← hzs, hst]

end Go.Proofs.Ytmbckmfihcojoaa.AM
