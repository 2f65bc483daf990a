/- Contracts: slices.Values, slices.Sorted of its closure (from the kit's walk, Z1). -/
import Derived.Test.YtaibcmhhccanoaaGreatZ1
import Derived.Test.YtaibcmhhccanoaaGreatY1
set_option linter.unusedVariables false
set_option linter.unusedSimpArgs false
namespace Go.Proofs.YtaibcmhhccanoaaGreat.AM
open Go Go.Proofs Go.RowKit

set_option linter.unusedVariables false
set_option linter.unusedSimpArgs false

variable {P : Program} {A : Sy}

theorem Env.noLoc {E : Env} (h : ∀ id L, E.loc id = some L → ((flats List.length 0 []).map (·.1)).elem id = true) : ∀ id, E.loc id = none := fun id => by
  cases hl : E.loc id with
  | none => rfl
  | some L => have := h id L hl; simp [flats] at this
theorem Env.noWin {E : Env} (hw : E.Wf) (h : ∀ id, E.loc id = none) (b : Nat) : E.win b = none := by
  cases hb : E.win b with
  | none => rfl
  | some p =>
    obtain ⟨_, k, L, _, hl, _⟩ := hw.windows b (by rw [hb]; simp)
    rw [h k] at hl; cases hl

/-- A slice that is read: its value. -/
theorem rel_roSlice {E : Env} {rows : List (List AV)} {x : Value} (h : Rel E (.ro rows) x) : ∃ a n cap, x = .slice a n cap ∧ RRel E.w E.S (.ro rows) (.slice a n cap) := by
  cases h with
  | base _ _ h =>
    cases h with
    | ro0 a cap h1 h2 => exact ⟨_, _, _, rfl, .ro0 a cap h1 h2⟩
    | ro rows b o cap s f h1 h2 h3 h4 h5 h6 h7 => exact ⟨_, _, _, rfl, .ro rows b o cap s f h1 h2 h3 h4 h5 h6 h7⟩

theorem values_c (S : Se P A) (l : List Int) : SoundM P 177 true [.ro (A.enc cInt64 l)] [] (fun v os => v = .fn 226 [] [.rptr [.ro (A.enc cInt64 l)]] ∧ os = []) := by
  obtain ⟨rows, hrows⟩ : ∃ rows, A.enc cInt64 l = rows := ⟨_, rfl⟩
  rw [hrows]
  refine ⟨⟨_, S.prog ▸ Tryz.func177, rfl, rfl⟩, fun E xs hwf hloc hsz hrel _ => ?_⟩
  obtain ⟨x, hx⟩ : ∃ x, xs[0]? = some x := ⟨xs[0]'(by rw [hsz]; exact Nat.zero_lt_one), Array.getElem?_eq_getElem _⟩
  have hxs : xs = #[x] := by
    apply Array.ext
    · simpa using hsz
    · intro i h1 h2
      obtain rfl : i = 0 := by simp at h2; omega
      rw [Array.getElem?_eq_getElem h1] at hx
      simpa using hx
  obtain ⟨a, n, cap, rfl, hr⟩ := rel_roSlice (hrel 0 _ x rfl hx)
  have hl := Env.noLoc hloc
  have hw := Env.noWin hwf hl
  rw [hxs, S.prog]
  refine (YtaibcmhhccanoaaGreatZ.values_calls a n cap E.w).mono ?_
  rintro e w' ⟨rfl, rfl⟩
  obtain ⟨w1, hw1⟩ : ∃ w1, w1 = E.w.alloc (.cells #[.slice a n cap] 26) := ⟨_, rfl⟩
  have hsize : w1.heap.size = E.w.heap.size + 1 := by rw [hw1]; simp
  have hold : ∀ b, b < E.w.heap.size → w1.heap[b]? = E.w.heap[b]? := fun b hb => by rw [hw1]; exact Below.heap_alloc _ _ b hb
  have hnew : w1.heap[E.w.heap.size]? = some (.cells #[.slice a n cap] 26 (0, 0)) := by rw [hw1]; exact World.alloc_heap_new E.w _
  have hos : w1.os = E.w.os ∧ w1.tape = E.w.tape ∧ w1.output = E.w.output := by rw [hw1]; exact ⟨rfl, rfl, rfl⟩
  rw [← hw1]
  refine ⟨_, _, [], { E.only (kept []) with w := w1, S := fun b => E.S b ∨ b = E.w.heap.size }, rfl, rfl, ⟨rfl, rfl⟩, rfl, rfl, ?_, ?_, ?_, fun id o ho => by simp [flatsO, objsOf, objsV] at ho⟩
  · exact ⟨hos.1, hos.2.1, hos.2.2, by show _ ≤ w1.heap.size; rw [hsize]; exact Nat.le_succ _, fun b hb _ => hold b hb, fun b hb => .inl hb, fun b hb => .inl hb, fun b hb => hb.imp id (fun e => by rw [e]; exact Nat.le_refl _),
      fun id L _ h => h, fun b lo hi h => (by rw [show (E.only (kept [])).win b = E.win b from rfl, hw b] at h; cases h), rfl⟩
  · refine ⟨fun b hb => ?_, fun b hb => ?_, fun b hb => absurd (hw b) hb⟩
    · rcases hb with hb | rfl
      · have := hwf.still b hb
        exact ⟨this.1, by show b < w1.heap.size; omega⟩
      · refine ⟨?_, by show _ < w1.heap.size; omega⟩
        cases ht : E.tag E.w.heap.size with
        | none => exact ht
        | some t => exact absurd (hwf.owned _ (by rw [ht]; simp)) (Nat.lt_irrefl _)
    · have := hwf.owned b hb
      show b < w1.heap.size
      omega
  · refine .fn _ [] _ #[] #[.pointer (some ⟨E.w.heap.size, 0, none⟩)] rfl rfl (fun j v x h => by cases h) (fun j v x h1 h2 => ?_)
    obtain rfl : j = 0 := by
      rcases j with _ | j
      · rfl
      · simp at h1
    simp only [List.getElem?_cons_zero, Option.some.injEq] at h1
    simp at h2
    subst h1
    subst h2
    refine .rptr _ _ _ (fun _ => .slice a n cap) ⟨.inr rfl, .inr (Nat.le_refl _)⟩ (fun j v h => ?_) (fun j v h _ => ?_) (fun j v h hf => ?_) (fun j v h hf => ?_)
    · obtain rfl : j = 0 := by
        rcases j with _ | j
        · rfl
        · simp at h
      show w1.cell? _ = _
      simp [World.cell?, hnew]
    · obtain rfl : j = 0 := by
        rcases j with _ | j
        · rfl
        · simp at h
      simp only [List.getElem?_cons_zero, Option.some.injEq] at h
      subst h
      exact hr.mono (fun b hb => ⟨.inl hb, .inl ⟨rfl, hb⟩⟩) (fun b hb => hold b (hwf.still b hb).2)
    · exfalso
      rcases j with _ | j
      · simp only [List.getElem?_cons_zero, Option.some.injEq] at h; subst h; cases hf
      · simp at h
    · exfalso
      rcases j with _ | j
      · simp only [List.getElem?_cons_zero, Option.some.injEq] at h; subst h; cases hf
      · simp at h

/-- Numbers that are read, as the kit says it. -/
theorem ints_of {E : Env} (C : Cx P tab A) (hwf : E.Wf) {l : List Int} {sv : Value} (h : RRel E.w E.S (.ro (A.enc cInt64 l)) sv) : YtaibcmhhccanoaaGreatZ.Ints E.w.heap.size E.w sv l := by
  have henc : A.enc cInt64 l = l.map cInt64 := by rw [C.enc]
  generalize hrows : A.enc cInt64 l = rows at h
  rw [henc] at hrows
  cases h with
  | ro0 a cap h1 h2 => exact .inl ⟨a, cap, rfl, by cases l with | nil => rfl | cons x r => cases hrows⟩
  | ro _ b o cap s f h1 h2 h3 h4 h5 h6 h7 =>
    subst hrows
    have hs : ∀ i, i < l.length → s = 1 := fun i hi => by
      have := h5 i (cInt64 l[i]) (by simp [hi])
      exact this.symm
    refine .inr ⟨b, o, cap, by simp, (hwf.still b h4).2, fun j hj => ?_⟩
    have e1 := h6 j 0 (cInt64 l[j]) (.int .i64 l[j]) (by simp [hj]) rfl
    have e2 := h7 j 0 (cInt64 l[j]) (.int .i64 l[j]) (by simp [hj]) rfl
    rw [hs j hj] at e1
    simp only [Nat.mul_one, Nat.add_zero] at e1
    rw [e1]
    generalize f j 0 = y at e2
    cases e2
    simp [hj]

theorem ints_wf {E : Env} (C : Cx P tab A) {l : List Int} {sv : Value} (h : RRel E.w E.S (.ro (A.enc cInt64 l)) sv) : ∀ x ∈ l, (Lit.int .i64 x).wf = true := by
  have henc : A.enc cInt64 l = l.map cInt64 := by rw [C.enc]
  generalize hrows : A.enc cInt64 l = rows at h
  rw [henc] at hrows
  cases h with
  | ro0 a cap h1 h2 => exact fun x hx => by cases l with | nil => cases hx | cons y r => cases hrows
  | ro _ b o cap s f h1 h2 h3 h4 h5 h6 h7 =>
    subst hrows
    intro x hx
    obtain ⟨j, hj⟩ := List.getElem?_of_mem hx
    have e2 := h7 j 0 (cInt64 x) (.int .i64 x) (by simp [hj]) rfl
    generalize f j 0 = y at e2
    cases e2
    assumption

theorem sorted_c (S : Se P A) (l : List Int) (hb : l.length ≤ 1000000) : Is1 P 176 [.fn 226 [] [.rptr [.ro (A.enc cInt64 l)]]] (rInt64 A (sortI l)) := by
  refine ⟨⟨_, S.prog ▸ Tryz.func176, rfl, rfl⟩, fun E xs hwf hloc hsz hrel _ => ?_⟩
  obtain ⟨x, hx⟩ : ∃ x, xs[0]? = some x := ⟨xs[0]'(by rw [hsz]; exact Nat.zero_lt_one), Array.getElem?_eq_getElem _⟩
  have hxs : xs = #[x] := by
    apply Array.ext
    · simpa using hsz
    · intro i h1 h2
      obtain rfl : i = 0 := by simp at h2; omega
      rw [Array.getElem?_eq_getElem h1] at hx
      simpa using hx
  have hl := Env.noLoc hloc
  have hw := Env.noWin hwf hl
  obtain ⟨bs, bo, sv, rfl, hbs, hcell, hr⟩ : ∃ bs bo sv, x = .func (.func 226) #[] #[.pointer (some ⟨bs, bo, none⟩)] ∧ E.S bs ∧ E.w.cell? ⟨bs, bo, none⟩ = some sv ∧ RRel E.w E.S (.ro (A.enc cInt64 l)) sv := by
    have h := hrel 0 _ x rfl hx
    cases h with
    | base _ _ h => cases h
    | fn f first caps us ys h1 h2 h3 h4 =>
      have hu : us = #[] := by apply Array.eq_empty_of_size_eq_zero; simpa using h1
      obtain ⟨y, hy⟩ : ∃ y, ys[0]? = some y := ⟨ys[0]'(by rw [h2]; exact Nat.zero_lt_one), Array.getElem?_eq_getElem _⟩
      have hys : ys = #[y] := by
        apply Array.ext
        · simpa using h2
        · intro i g1 g2
          obtain rfl : i = 0 := by simp at g2; omega
          rw [Array.getElem?_eq_getElem g1] at hy
          simpa using hy
      have h5 := h4 0 _ y rfl hy
      cases h5 with
      | base _ _ h => cases h
      | rptr cells b o f g1 g2 g3 g4 g5 =>
        exact ⟨b, o, f 0, by rw [hu, hys], g1, by simpa using g2 0 _ rfl, g3 0 _ rfl rfl⟩
  rw [hxs, S.prog]
  refine (YtaibcmhhccanoaaGreatZ.sorted_calls bs bo sv l hb E.w (hwf.still bs hbs).2 hcell (ints_of S.cx hwf hr)).mono ?_
  rintro e w1 ⟨v, rfl, hrow, hbelow⟩
  have hlen : (sortI l).length = l.length := (sortI_perm l).length_eq
  have hwf2 : ∀ b, E.S b → b < E.w.heap.size := fun b hb => (hwf.still b hb).2
  have hkl : kept [] = fun _ => false := rfl
  have henc : A.enc cInt64 (sortI l) = (sortI l).map cInt64 := by rw [S.cx.enc]
  have hln : (A.enc cInt64 (sortI l)).length = l.length := by rw [henc, List.length_map, hlen]
  rcases hrow.2 with ⟨rfl, hz⟩ | ⟨g, cap, cur, rfl, hbase, hgb, r1, r2, r3, r4⟩
  · have hnil : l = [] := List.eq_nil_of_length_eq_zero hz
    subst hnil
    have e0 : A.enc cInt64 (sortI []) = [] := by rw [henc]; simp [sortI]
    refine ⟨_, rInt64 A (sortI []), [], { E.only (kept []) with w := w1 }, rfl, rfl, ⟨rfl, rfl⟩, rfl, rfl, ?_, ?_, ?_, fun id o ho => ?_⟩
    · exact ⟨hbelow.os, hbelow.tape, hbelow.output, hbelow.size, fun b hb _ => hbelow.block b hb, fun b hb => .inl hb, fun b hb => hb, fun b hb => .inl hb, fun id L _ h => h,
        fun b lo hi h => (by rw [show (E.only (kept [])).win b = E.win b from rfl, hw b] at h; cases h), rfl⟩
    · exact ⟨fun b hb => ⟨(hwf.still b hb).1, Nat.lt_of_lt_of_le (hwf2 b hb) hbelow.size⟩, fun b hb => Nat.lt_of_lt_of_le (hwf.owned b hb) hbelow.size, fun b hb => absurd (hw b) hb⟩
    · show Rel _ (.ref false rl 0 (A.enc cInt64 (sortI [])).length) _
      rw [e0]
      exact .ref0 _ _ _ _ rfl
    · have ho : (id, o) ∈ [(rl, Obj.arr 1 true (A.enc cInt64 (sortI [])))] := ho
      obtain ⟨rfl, rfl⟩ : id = rl ∧ o = Obj.arr 1 true (A.enc cInt64 (sortI [])) := by simpa using ho
      exact ⟨.inl ⟨rfl, e0⟩, fun s rows e => by cases e⟩
  · refine ⟨_, rInt64 A (sortI l), [], { E.only (kept []) with w := w1, tag := fun b => if b = g then some (.root rl) else E.tag b, loc := fun id => if id = rl then some ⟨g, 0, 1, cap⟩ else none }, rfl, rfl, ⟨rfl, rfl⟩, rfl, rfl, ?_, ?_, ?_, fun id o ho => ?_⟩
    · refine ⟨hbelow.os, hbelow.tape, hbelow.output, hbelow.size, fun b hb _ => hbelow.block b hb, fun b hb => ?_, fun b hb => hb, fun b hb => .inl hb, fun id L _ h => (by cases h),
        fun b lo hi h => (by rw [show (E.only (kept [])).win b = E.win b from rfl, hw b] at h; cases h), rfl⟩
      by_cases e : b = g
      · exact .inr (by rw [e]; exact hbase)
      · have h5 : (if b = g then some (Tag.root rl) else E.tag b) ≠ none := hb
        rw [if_neg e] at h5
        exact .inl h5
    · refine ⟨fun b hb => ?_, fun b hb => ?_, fun b hb => absurd (hw b) hb⟩
      · have h1 := hwf2 b hb
        refine ⟨?_, Nat.lt_of_lt_of_le h1 hbelow.size⟩
        show (if b = g then _ else E.tag b) = none
        rw [if_neg (by omega)]
        exact (hwf.still b hb).1
      · by_cases e : b = g
        · rw [e]; exact (Array.getElem?_eq_some_iff.1 hgb).1
        · have h5 : (if b = g then some (Tag.root rl) else E.tag b) ≠ none := hb
          rw [if_neg e] at h5
          exact Nat.lt_of_lt_of_le (hwf.owned b h5) hbelow.size
    · show Rel _ (.ref false rl 0 (A.enc cInt64 (sortI l)).length) _
      rw [hln]
      have := Rel.ref (E := Env.cut { E.only (kept []) with w := w1, tag := fun b => if b = g then some (.root rl) else E.tag b, loc := fun id => if id = rl then some ⟨g, 0, 1, cap⟩ else none } false E) false rl 0 l.length ⟨g, 0, 1, cap⟩ cap (by show (if rl = rl then some (⟨g, 0, 1, cap⟩ : Loc) else none) = _; exact if_pos rfl) r1 (Nat.zero_add cap)
      simpa using this
    · have ho : (id, o) ∈ [(rl, Obj.arr 1 true (A.enc cInt64 (sortI l)))] := ho
      obtain ⟨rfl, rfl⟩ : id = rl ∧ o = Obj.arr 1 true (A.enc cInt64 (sortI l)) := by simpa using ho
      refine ⟨.inr ⟨⟨g, 0, 1, cap⟩, cur, 2, by show (if rl = rl then some (⟨g, 0, 1, cap⟩ : Loc) else none) = _; exact if_pos rfl, rfl, Nat.zero_lt_one, by show (if g = g then some (Tag.root rl) else E.tag g) = _; exact if_pos rfl, hgb, by show 0 + cap * 1 ≤ cur.size; omega, by rw [hln]; exact r1, r2, hw g, fun i r hi => ?_, fun i j r u hi hj => ?_⟩, fun s rows e => by cases e⟩
      · rw [henc] at hi
        obtain ⟨y, _, rfl⟩ := List.mem_map.1 (List.mem_of_getElem? hi)
        rfl
      · rw [henc] at hi
        have hil : i < (sortI l).length := by have := lt_of_get hi; simpa using this
        have hr2 : r = cInt64 (sortI l)[i] := by
          rw [List.getElem?_map, List.getElem?_eq_getElem hil] at hi
          exact (Option.some.inj hi).symm
        subst hr2
        have hj0 : j = 0 := by
          rcases j with _ | j
          · rfl
          · simp [cInt64] at hj
        subst hj0
        obtain rfl : u = .int .i64 (sortI l)[i] := by simpa [cInt64] using hj.symm
        have hc : cur[i]? = some (.int .i64 (sortI l)[i]) := by
          have h3 : (cur.toList.take (l.length * 1))[i]? = ((sortI l).map (Value.int .i64))[i]? := by rw [r4]; rfl
          rw [List.getElem?_take_of_lt (by omega), List.getElem?_map, List.getElem?_eq_getElem hil, Array.getElem?_toList] at h3
          exact h3
        refine ⟨.int .i64 (sortI l)[i], by simpa using hc, rfl, .int _ _ ?_⟩
        exact ints_wf S.cx hr _ ((sortI_perm l).mem_iff.1 (List.getElem_mem hil))

end Go.Proofs.YtaibcmhhccanoaaGreat.AM
