/- The abstract machine, part 23: what is to be said where the reckoning stops. -/
import Derived.Test.YtmbckmfihcojoaaB22
namespace Go.Proofs.Ytmbckmfihcojoaa.AM
open Go Go.RowKit

set_option linter.unusedVariables false
set_option linter.unusedSimpArgs false

variable {P : Program} {T : Nat → Option TI}

/-! ### What is there -/

def AV.real (v : AV) : Prop := ∃ E x, Rel E v x
def Obj.real (o : Obj) : Prop := ∃ E id, ORel E id o

theorem wf_bounds {n : Int} (h : (Lit.int .i64 n).wf = true) : -9223372036854775808 ≤ n ∧ n ≤ 9223372036854775807 := by
  rw [wf_iff] at h
  simpa [IntKind.min, IntKind.max, IntKind.signed, IntKind.bits] using h

theorem AV.real.int {k : IntKind} {n : Int} (h : (AV.int k n).real) : (Lit.int k n).wf = true := by
  obtain ⟨E, x, h⟩ := h
  exact (rel_int h).2

theorem AV.real.i64 {n : Int} (h : (AV.int .i64 n).real) : -9223372036854775808 ≤ n ∧ n ≤ 9223372036854775807 := wf_bounds h.int

theorem AV.real.len {rows : List (List AV)} (h : (AV.ro rows).real) : rows.length ≤ maxLen := by
  obtain ⟨E, x, h⟩ := h
  exact rel_roLen h

theorem AV.real.cell {rows : List (List AV)} (h : (AV.ro rows).real) {r : List AV} (hr : r ∈ rows) {v : AV} (hv : v ∈ r) : v.real := by
  obtain ⟨E, x, h⟩ := h
  obtain ⟨i, hi⟩ := List.getElem?_of_mem hr
  obtain ⟨j, hj⟩ := List.getElem?_of_mem hv
  cases h with
  | base _ _ h =>
    cases h with
    | ro0 => cases hr
    | ro _ _ _ _ _ f h1 h2 h3 h4 h5 h6 h7 => exact ⟨E, f i j, .base _ _ (h7 i j r v hi hj)⟩

theorem AV.real.agg {cells : List AV} (h : (AV.agg cells).real) {v : AV} (hv : v ∈ cells) : v.real := by
  obtain ⟨E, x, h⟩ := h
  obtain ⟨j, hj⟩ := List.getElem?_of_mem hv
  cases h with
  | base _ _ h => cases h
  | agg _ xs h1 h2 h3 =>
    have hlt : j < xs.size := by rw [h1]; exact (List.getElem?_eq_some_iff.1 hj).1
    exact ⟨E, xs[j], h3 j v _ hj (Array.getElem?_eq_getElem hlt)⟩

theorem Obj.real.len {s : Nat} {fl : Bool} {rows : List (List AV)} (h : (Obj.arr s fl rows).real) : rows.length ≤ maxLen := by
  obtain ⟨E, id, h⟩ := h
  rcases h with ⟨_, h⟩ | ⟨L, c, ty, g1, gsz, g2, g3, g4, g5, g6, g7, _⟩
  · subst h; simp [maxLen]
  · omega

theorem Obj.real.arr {s : Nat} {rows : List (List AV)} (h : (Obj.arr s true rows).real) {r : List AV} (hr : r ∈ rows) {v : AV} (hv : v ∈ r) : v.real := by
  obtain ⟨E, id, h⟩ := h
  obtain ⟨i, hi⟩ := List.getElem?_of_mem hr
  obtain ⟨j, hj⟩ := List.getElem?_of_mem hv
  rcases h with ⟨_, h⟩ | ⟨L, c, ty, g1, gsz, g2, g3, g4, g5, g6, g7, g8, g9, g10⟩
  · subst h; cases hr
  · obtain ⟨y, _, _, hy⟩ := g10 i j r v hi hj
    exact ⟨E, y, SRel.rel hy⟩

theorem Obj.real.box {cells : List AV} (h : (Obj.box cells).real) {v : AV} (hv : v ∈ cells) : v.real := by
  obtain ⟨E, id, h⟩ := h
  obtain ⟨j, hj⟩ := List.getElem?_of_mem hv
  obtain ⟨L, c, ty, g1, g2, g3, g4, g5, g6, g7⟩ := h
  obtain ⟨y, _, _, hy⟩ := g7 j v hj
  exact ⟨E, y, hy⟩

theorem St.real.obj {st : St} (h : st.real) {id : Nat} {o : Obj} (hq : lk st.sto id = some o) : o.real := by
  obtain ⟨E, a, hs⟩ := h
  exact ⟨E, id, hs.sto id o hq⟩

theorem St.real.slot {st : St} (h : st.real) {t : Nat} {v : AV} (hq : lk st.tmps t = some v) : v.real := by
  obtain ⟨E, a, hs⟩ := h
  obtain ⟨x, _, hr⟩ := hs.tmps t v hq
  exact ⟨E, x, hr⟩

theorem SoundM.of_real {f : FuncId} {al : Bool} {args : List AV} {objs : List Obj} {R : AV → List (Option Obj) → Prop} (h0 : ∃ fn, P.funcs[f]? = some fn ∧ (fn.name == "runtime.NumGoroutine") = false ∧ fn.body.isNone = false)
    (h : (∀ v ∈ args, v.real) → (∀ k o, lk (flats List.length 0 objs) k = some o → o.real) → SoundM P f al args objs R) : SoundM P f al args objs R := by
  refine ⟨h0, fun E xs h1 h2 h3 h4 h5 => (h (fun v hv => ?_) (fun id o hq => ⟨E, id, h5 id o hq⟩)).2 E xs h1 h2 h3 h4 h5⟩
  obtain ⟨j, hj⟩ := List.getElem?_of_mem hv
  have hlt : j < xs.size := by rw [h3]; exact (List.getElem?_eq_some_iff.1 hj).1
  exact ⟨_, xs[j], h4 j v _ hj (Array.getElem?_eq_getElem hlt)⟩

/-! ### A setting -/

/-- A program with its table; what is kept apart. -/
structure Cx (P : Program) (T : Nat → Option TI) (A : Sy) : Prop where
  tab : TabOk P T
  mix : P.follows .mixedOrders = true
  eq : A = sy

variable {A : Sy}

theorem Cx.enc (C : Cx P T A) {α : Type} (f : α → List AV) (l : List α) : A.enc f l = l.map f := by rw [C.eq]; rfl
theorem Cx.len (C : Cx P T A) (rows : List (List AV)) : A.len rows = rows.length := by rw [C.eq]; rfl
theorem Cx.lenE (C : Cx P T A) {α : Type} (f : α → List AV) (l : List α) : A.len (A.enc f l) = l.length := by rw [C.len, C.enc, List.length_map]
theorem Cx.lenE' (C : Cx P T A) {α : Type} (f : α → List AV) (l : List α) : (A.enc f l).length = l.length := by rw [C.enc, List.length_map]

theorem Cx.by (C : Cx P T A) {f : FuncId} {fn : Func} {c : Code} {n : Nat} {rs : List ResultVar} {al : Bool} {args : List AV} {objs : List Obj} {R : AV → List (Option Obj) → Prop} (hf : P.funcs[f]? = some fn) (hb : fn.body = some c) (hn : fn.ntmps = n) (hr : fn.results.toList = rs)
    (hname : (fn.name == "runtime.NumGoroutine") = false) (h : (∀ v ∈ args, v.real) → (∀ k o, lk (flats List.length 0 objs) k = some o → o.real) → vc A P T c (entryM A.len n args objs) (endsVC T rs al objs R)) : SoundM P f al args objs R :=
  .of_real ⟨fn, hf, hname, by rw [hb]; rfl⟩ fun h1 h2 => sound_vc C.mix C.tab hf hb hn hr hname C.eq (h h1 h2)

/-! ### Stops -/

theorem Arith.add {m n : Int} {K : Int → Prop} (h1 : -9223372036854775808 ≤ m + n) (h2 : m + n ≤ 9223372036854775807) (h : ∀ x, x = m + n → K x) (hh : True) : Arith false .i64 m n (fun _ => m + n) K := by
  refine ⟨fun _ => ?_⟩
  rw [wrap_wf (k := .i64) (n := m + n) (by rw [wf_iff]; simp [IntKind.min, IntKind.max, IntKind.signed, IntKind.bits]; omega)]
  exact h _ rfl

/-- A number that stays in range. -/
theorem Arith.go {dr : Bool} {m n : Int} {e : Unit → Int} {K : Int → Prop} (h1 : -9223372036854775808 ≤ e () ∧ e () ≤ 9223372036854775807) (h : ∀ x, x = e () → K x) : Arith dr .i64 m n e K := by
  refine ⟨fun _ => ?_⟩
  rw [wrap_wf (k := .i64) (n := e ()) (by rw [wf_iff]; simp [IntKind.min, IntKind.max, IntKind.signed, IntKind.bits]; omega)]
  exact h _ rfl

/-- The same, knowing that the operands are in range. -/
theorem Arith.know {m n : Int} {e : Unit → Int} {K : Int → Prop} (h1 : -9223372036854775808 ≤ m ∧ m ≤ 9223372036854775807 → -9223372036854775808 ≤ n ∧ n ≤ 9223372036854775807 → -9223372036854775808 ≤ e () ∧ e () ≤ 9223372036854775807)
    (h : ∀ x, x = e () → -9223372036854775808 ≤ m ∧ m ≤ 9223372036854775807 → -9223372036854775808 ≤ n ∧ n ≤ 9223372036854775807 → K x) : Arith false .i64 m n e K := by
  refine ⟨fun hw => ?_⟩
  rcases hw with hw | ⟨hm, hn⟩
  · cases hw
  have hm := wf_bounds hm
  have hn := wf_bounds hn
  have h1 := h1 hm hn
  rw [wrap_wf (k := .i64) (n := e ()) (by rw [wf_iff]; simp [IntKind.min, IntKind.max, IntKind.signed, IntKind.bits]; omega)]
  exact h _ rfl hm hn

theorem wrap_in (k : IntKind) (n : Int) : (Lit.int k (k.wrap n)).wf = true := by
  rw [wf_iff]
  cases k <;> simp only [IntKind.wrap, IntKind.min, IntKind.max, IntKind.signed, IntKind.bits] <;> simp <;> (try split) <;> omega

/-- Some number. -/
theorem Arith.any {dr : Bool} {k : IntKind} {m n : Int} {e : Unit → Int} {K : Int → Prop} (h : ∀ x, (Lit.int k x).wf = true → K x) : Arith dr k m n e K := ⟨fun _ => h _ (wrap_in k _)⟩
theorem ArithN.any {p : Unit → Prop} {dr : Bool} {k : IntKind} {m n : Int} {e : Unit → Int} {K : Int → Prop} (hp : p ()) (h : ∀ x, (Lit.int k x).wf = true → K x) : ArithN p dr k m n e K := ⟨fun _ => ⟨hp, h _ (wrap_in k _)⟩⟩
theorem Conv.any {k k' : IntKind} {n : Int} {K : Int → Prop} (h : ∀ x, (Lit.int k' x).wf = true → K x) : Conv k k' n K := ⟨h _ (wrap_in k' _)⟩
theorem Conv.go {k : IntKind} {n : Int} {K : Int → Prop} (h1 : -9223372036854775808 ≤ n ∧ n ≤ 9223372036854775807) (h : ∀ x, x = n → K x) : Conv k .i64 n K := by
  refine ⟨?_⟩
  rw [wrap_wf (k := .i64) (n := n) (by rw [wf_iff]; simp [IntKind.min, IntKind.max, IntKind.signed, IntKind.bits]; omega)]
  exact h _ rfl

theorem RemA.go {dr : Bool} {k : IntKind} {m n : Int} {K : Int → Prop} (h0 : n ≠ 0) (h : ∀ x, x = m.tmod n → K x) : RemA dr k m n K := ⟨fun _ => ⟨h0, h _ rfl⟩⟩

theorem Test.lss {m n : Int} {K : Bool → Prop} (h1 : m < n → K true) (h2 : n ≤ m → K false) : Test .lss m n K := by
  refine ⟨?_⟩
  by_cases h : m < n
  · rw [show tstB .lss m n = true by simp [tstB, h]]; exact h1 h
  · rw [show tstB .lss m n = false by simp [tstB]; omega]; exact h2 (by omega)
theorem Test.leq {m n : Int} {K : Bool → Prop} (h1 : m ≤ n → K true) (h2 : n < m → K false) : Test .leq m n K := by
  refine ⟨?_⟩
  by_cases h : m ≤ n
  · rw [show tstB .leq m n = true by simp [tstB, h]]; exact h1 h
  · rw [show tstB .leq m n = false by simp [tstB]; omega]; exact h2 (by omega)
theorem Test.gtr {m n : Int} {K : Bool → Prop} (h1 : n < m → K true) (h2 : m ≤ n → K false) : Test .gtr m n K := by
  refine ⟨?_⟩
  by_cases h : n < m
  · rw [show tstB .gtr m n = true by simp [tstB, h]]; exact h1 h
  · rw [show tstB .gtr m n = false by simp [tstB]; omega]; exact h2 (by omega)
theorem Test.geq {m n : Int} {K : Bool → Prop} (h1 : n ≤ m → K true) (h2 : m < n → K false) : Test .geq m n K := by
  refine ⟨?_⟩
  by_cases h : n ≤ m
  · rw [show tstB .geq m n = true by simp [tstB, h]]; exact h1 h
  · rw [show tstB .geq m n = false by simp [tstB]; omega]; exact h2 (by omega)
theorem Test.eql {m n : Int} {K : Bool → Prop} (h1 : m = n → K true) (h2 : m ≠ n → K false) : Test .eql m n K := by
  refine ⟨?_⟩
  by_cases h : m = n
  · rw [show tstB .eql m n = true by simp [tstB, h]]; exact h1 h
  · rw [show tstB .eql m n = false by simp [tstB, h]]; exact h2 h
theorem Test.neq {m n : Int} {K : Bool → Prop} (h1 : m ≠ n → K true) (h2 : m = n → K false) : Test .neq m n K := by
  refine ⟨?_⟩
  by_cases h : m = n
  · rw [show tstB .neq m n = false by simp [tstB, h]]; exact h2 h
  · rw [show tstB .neq m n = true by simp [tstB, h]]; exact h1 h
/-- A test whose outcome is known. -/
theorem Test.is {op : BinOp} {m n : Int} {K : Bool → Prop} (b : Bool) (hb : tstB op m n = b) (h : K b) : Test op m n K := ⟨by rw [hb]; exact h⟩

theorem Len.go {n : Nat} {K : Int → Prop} (h : ∀ x : Int, x = n → n ≤ maxLen → K x) : Len false n K := ⟨⟨fun e => (by cases e), fun hm => h _ rfl hm⟩⟩
theorem Len.dr {dr : Bool} {n : Nat} {K : Int → Prop} (hm : n ≤ maxLen) (h : ∀ x : Int, x = n → K x) : Len dr n K := ⟨⟨fun e => hm, fun hm => h _ rfl⟩⟩
theorem LenR.enc (C : Cx P T A) {α : Type} {f : α → List AV} {l : List α} {K : Int → Prop} (h : ∀ x : Int, x = l.length → l.length ≤ maxLen → K x) : LenR false (A.enc f l) K :=
  ⟨⟨fun e => (by cases e), fun hm => h _ (by rw [C.lenE']) (by rwa [C.lenE'] at hm)⟩⟩
theorem LenR.dr (C : Cx P T A) {dr : Bool} {α : Type} {f : α → List AV} {l : List α} {K : Int → Prop} (hm : l.length ≤ maxLen) (h : ∀ x : Int, x = l.length → K x) : LenR dr (A.enc f l) K :=
  ⟨⟨fun e => by rwa [C.lenE'], fun hm => h _ (by rw [C.lenE'])⟩⟩

theorem ElemRo.enc (C : Cx P T A) {α : Type} {f : α → List AV} {l : List α} {size : Nat} {n : Int} {K : List AV → Prop} (hsz : ∀ x, (f x).length = size) (h0 : 0 ≤ n) (hl : n < l.length) (h : ∀ x, l[n.toNat]? = some x → K (f x)) : ElemRo (A.enc f l) size n K := by
  have hlt : n.toNat < l.length := by omega
  refine ⟨h0, f l[n.toNat], ?_, hsz _, h _ (List.getElem?_eq_getElem hlt)⟩
  rw [C.enc]; simp [hlt]

theorem ElemRo.at (C : Cx P T A) {α : Type} {f : α → List AV} {l : List α} {size : Nat} {n : Int} {K : List AV → Prop} {x : α} (hsz : (f x).length = size) (h0 : 0 ≤ n) (hx : l[n.toNat]? = some x) (h : K (f x)) : ElemRo (A.enc f l) size n K := by
  refine ⟨h0, f x, ?_, hsz, h⟩
  rw [C.enc]; simp [hx]

theorem ElemRef.go {off len s size : Nat} {rows : List (List AV)} {n : Int} {K : Nat → Prop} (hs : s = size) (h0 : 0 ≤ n) (hl : n < len) (hr : off + len ≤ rows.length) (h : ∀ row, row = off + n.toNat → K row) : ElemRef off len s size rows n K :=
  ⟨⟨h0, hl⟩, hs, by omega, h _ rfl⟩

theorem Row.enc (C : Cx P T A) {α : Type} {f : α → List AV} {l : List α} {row : Nat} {K : List AV → Prop} (hl : row < l.length) (h : ∀ x, l[row]? = some x → K (f x)) : Row (A.enc f l) row K := by
  refine ⟨f l[row], ?_, h _ (List.getElem?_eq_getElem hl)⟩
  rw [C.enc]; simp [hl]

/-- A store into an element: the element afterwards is told. -/
theorem RowSet.enc (C : Cx P T A) {α : Type} {f : α → List AV} {l : List α} {row fld size : Nat} {us : List AV} {K : List (List AV) → Prop} (x y : α) (hx : l[row]? = some x) (hu : us.length = size) (hle : fld + us.length ≤ (f x).length) (hy : setMany (f x) fld us = f y)
    (h : ∀ l', l' = l.set row y → K (A.enc f l')) : RowSet (A.enc f l) row fld size us K := by
  refine ⟨f x, ?_, hu, hle, ?_⟩
  · rw [C.enc]; simp [hx]
  · have := h _ rfl
    rw [C.enc] at this ⊢
    rw [hy, ← List.map_set]; exact this

theorem CutRo.enc (C : Cx P T A) {α : Type} {f : α → List AV} {l : List α} {size : Nat} {lo hi : Int} {K : List (List AV) → Prop} (hsz : ∀ x, (f x).length = size) (h0 : 0 ≤ lo) (h1 : lo ≤ hi) (h2 : hi ≤ l.length) (h : ∀ l', l' = (l.take hi.toNat).drop lo.toNat → K (A.enc f l')) : CutRo size (A.enc f l) lo hi K := by
  refine ⟨⟨h0, h1, by rw [C.lenE']; exact h2⟩, fun r hr => ?_, ?_⟩
  · rw [C.enc] at hr
    obtain ⟨x, _, rfl⟩ := List.mem_map.1 hr
    exact hsz x
  · have := h _ rfl
    rw [C.enc] at this ⊢
    rw [← List.map_take, ← List.map_drop]; exact this

theorem CutRoE.enc (C : Cx P T A) {α : Type} {f : α → List AV} {l : List α} {size : Nat} {lo : Int} {K : List (List AV) → Prop} (hsz : ∀ x, (f x).length = size) (h0 : 0 ≤ lo) (h1 : lo ≤ l.length) (h : ∀ l', l' = l.drop lo.toNat → K (A.enc f l')) : CutRoE size (A.enc f l) lo K := by
  refine ⟨⟨h0, by rw [C.lenE']; exact h1⟩, fun r hr => ?_, ?_⟩
  · rw [C.enc] at hr
    obtain ⟨x, _, rfl⟩ := List.mem_map.1 hr
    exact hsz x
  · have := h _ rfl
    rw [C.enc] at this ⊢
    rw [← List.map_drop]; exact this

theorem CutRef.go {p : Bool} {off len s size : Nat} {rows : List (List AV)} {l h : Int} {K : Bool → Nat → Nat → Prop} (hs : s = size) (h0 : 0 ≤ l) (h1 : l ≤ h) (h2 : h ≤ len) (hr : off + len ≤ rows.length)
    (hk : ∀ p' off' len', off' = off + l.toNat → len' = (h - l).toNat → K p' off' len') : CutRef p off len s size rows l h K :=
  ⟨⟨h0, h1, .inl h2⟩, hr, hs, hk _ _ _ rfl rfl⟩

theorem Part.all (C : Cx P T A) {α : Type} {f : α → List AV} {l : List α} {len : Nat} {K : List (List AV) → Prop} (hl : len = l.length) (h : K (A.enc f l)) : Part 0 len (A.enc f l) K := by
  subst hl
  refine ⟨by rw [C.lenE']; omega, ?_⟩
  rw [List.drop_zero, ← C.lenE' f l, List.take_length]; exact h

theorem Part.enc (C : Cx P T A) {α : Type} {f : α → List AV} {l : List α} {off len : Nat} {K : List (List AV) → Prop} (hl : off + len ≤ l.length) (h : ∀ l', l' = (l.drop off).take len → K (A.enc f l')) : Part off len (A.enc f l) K := by
  refine ⟨by rw [C.lenE']; exact hl, ?_⟩
  have := h _ rfl
  rw [C.enc] at this ⊢
  rw [← List.map_drop, ← List.map_take]; exact this

end Go.Proofs.Ytmbckmfihcojoaa.AM
