/- The abstract machine, part 11: the call's rule. -/
import Derived.Test.YtmpbmfhlkhonkaaAM10
namespace Go.Proofs.Ytmpbmfhlkhonkaa.AM
open Go Go.RowKit

set_option linter.unusedVariables false
set_option linter.unusedSimpArgs false

variable {P : Program} {T : Nat → Option TI} {E : Env} {st : St} {a : Act} {K : AV → St → Prop} {o : Oper}

theorem shape_of_res1 {w : World} {S : Nat → Prop} {tag : Nat → Option Tag} {base : Nat} {v : AV} {x : Value} (h : Res1 w S tag base v x) : shape1 v x := by
  rintro cells rfl
  obtain ⟨xs, h1, h2, _⟩ := h
  exact ⟨xs, h1, h2⟩

theorem res1_at {w : World} {S : Nat → Prop} {tag : Nat → Option Tag} {base j : Nat} {v : AV} {x : Value} {u : AV} {y : Value} (h : Res1 w S tag base v x) (hc : cellAt1 v x j = some (u, y)) : Cell2 w S tag (base + j) u y := by
  cases v with
  | agg cells =>
    obtain ⟨xs, rfl, h2, h3, h4⟩ := h
    simp only [cellAt1] at hc
    split at hc
    · rename_i u' y' hu hy
      simp at hc
      obtain ⟨rfl, rfl⟩ := hc
      exact h4 j _ _ hu hy
    · cases hc
  | _ =>
    simp only [cellAt1] at hc
    split at hc
    · rename_i hj
      subst hj
      simp at hc
      obtain ⟨rfl, rfl⟩ := hc
      exact h
    · cases hc

theorem res_at {w : World} {S : Nat → Prop} {tag : Nat → Option Tag} {q : Nat} {v : AV} {x : Value} {u : AV} {y : Value} (h : Res w S tag v x) (hc : cellAt v x q = some (u, y)) : Cell2 w S tag q u y := by
  by_cases hv : ∃ vs, v = .tup vs
  · obtain ⟨vs, rfl⟩ := hv
    obtain ⟨xs, rfl, h2, h3⟩ := h
    simp only [cellAt] at hc
    split at hc
    · rename_i u' y' hu hy
      have := res1_at (h3 _ _ _ hu hy) hc
      rwa [show q / 100 * 100 + q % 100 = q by omega] at this
    · cases hc
  · have h' : Res1 w S tag 0 v x := by cases v <;> first | exact h | exact absurd ⟨_, rfl⟩ hv
    have hc' : cellAt1 v x q = some (u, y) := by cases v <;> first | exact hc | exact absurd ⟨_, rfl⟩ hv
    simpa using res1_at h' hc'

theorem objsOf_lk {w : World} {S : Nat → Prop} {tag : Nat → Option Tag} {v : AV} {x : Value} {lab k : Nat} {ob : Obj} (h : Res w S tag v x) (hsm : v.small = true) (hk : lk (objsOf lab v) k = some ob) :
    ∃ q s fl rows y, k = lab + q ∧ q < 10000 ∧ cellAt v x q = some (.own s fl rows, y) ∧ ob = .arr s fl rows := by
  by_cases hv : ∃ vs, v = .tup vs
  · obtain ⟨vs, rfl⟩ := hv
    obtain ⟨xs, rfl, h2, h3⟩ := h
    simp only [AV.small, Bool.and_eq_true] at hsm
    obtain ⟨q, s, fl, rows, y, v, x, h4, h5, h6, h7, h8⟩ := objsT_lk vs xs.toList lab k ob (by simp [h2]) (fun j v x hv hx => shape_of_res1 (h3 j v x hv (by simpa using hx))) hsm.1 hk
    have hl := (List.getElem?_eq_some_iff.1 h5).1
    have := nble_le hsm.2
    refine ⟨q, s, fl, rows, y, h4, by omega, ?_, h8⟩
    have h6' : xs[q / 100]? = some x := by simpa using h6
    simp only [cellAt, h5, h6']
    exact h7
  · have h' : Res1 w S tag 0 v x := by cases v <;> first | exact h | exact absurd ⟨_, rfl⟩ hv
    have hk' : lk (objsV lab v) k = some ob := by cases v <;> first | exact hk | exact absurd ⟨_, rfl⟩ hv
    have hsm' : small1 v = true := by cases v <;> first | exact hsm | exact absurd ⟨_, rfl⟩ hv
    obtain ⟨j, s, fl, rows, y, h1, h2, h3⟩ := objsV_lk hk' x (shape_of_res1 h')
    have hj := cellAt1_lt hsm' h2
    refine ⟨j, s, fl, rows, y, h1, by omega, ?_, h3⟩
    cases v <;> first | exact h2 | exact absurd ⟨_, rfl⟩ hv

theorem objsOf_get {v : AV} {x y : Value} {lab q s : Nat} {fl : Bool} {rows : List (List AV)} (hsm : v.small = true) (h : cellAt v x q = some (.own s fl rows, y)) : lk (objsOf lab v) (lab + q) = some (.arr s fl rows) := by
  by_cases hv : ∃ vs, v = .tup vs
  · obtain ⟨vs, rfl⟩ := hv
    simp only [AV.small, Bool.and_eq_true] at hsm
    cases x <;> simp only [cellAt, cellAt1] at h <;> try (split at h <;> simp at h; done)
    split at h
    · rename_i u z hu hz
      exact objsT_get vs lab q hsm.1 hu h
    · cases h
  · have hc' : cellAt1 v x q = some (.own s fl rows, y) := by cases v <;> first | exact h | exact absurd ⟨_, rfl⟩ hv
    have := objsV_get (base := lab) hc'
    cases v <;> first | exact this | exact absurd ⟨_, rfl⟩ hv

theorem elem_map_fst {α : Type} {l : List (Nat × α)} {k : Nat} {v : α} (h : lk l k = some v) : (l.map (·.1)).elem k = true := by
  have := List.mem_map_of_mem (f := (·.1)) (lk_mem h)
  simpa [List.elem_iff] using this

theorem elem_append_or {l m : List Nat} {k : Nat} : (l ++ m).elem k = (l.elem k || m.elem k) := by
  rw [Bool.eq_iff_iff]; simp [List.elem_iff]

/-- What a call made is ours. -/
theorem adopt_sim (hs : Sim E st a) {lab : Nat} (hfresh : freshL lab st.used = true) {v : AV} (hsm : v.small = true) {w' : World} {S' : Nat → Prop} {tag' : Nat → Option Tag} {x : Value} (hb : Below E.w.heap.size E.w w')
    (htag : ∀ b, tag' b ≠ none → E.w.heap.size ≤ b ∧ b < w'.heap.size) (hS : ∀ b, S' b → E.S b ∨ (E.w.heap.size ≤ b ∧ b < w'.heap.size)) (hSt : ∀ b, S' b → tag' b = none) (hres : Res w' S' tag' v x) :
    ∃ E', E'.w = w' ∧ Fr E E' ∧ Sim E' (st.adopt lab v) a ∧ Rel E' (adopt lab v) x := by
  let loc' : Nat → Option Loc := fun k => if lab ≤ k ∧ k < lab + 10000 then locOf (cellAt v x (k - lab)) else E.loc k
  let E' : Env := ⟨w', fun b => E.S b ∨ S' b, fun b => if b < E.w.heap.size then E.tag b else relabel lab (tag' b), loc'⟩
  have hout : ∀ k, st.used.elem k = true → ¬ (lab ≤ k ∧ k < lab + 10000) := fun k hk => by
    have := List.all_eq_true.1 hfresh k (by simpa [List.elem_iff] using hk)
    simp only [Bool.or_eq_true] at this
    rcases this with h | h
    · have : k < lab := by simpa [nblt_eq] using h
      omega
    · have := nble_le h
      omega
  have hloc : ∀ k L, E.loc k = some L → E'.loc k = some L := fun k L hL => by
    show (if lab ≤ k ∧ k < lab + 10000 then locOf (cellAt v x (k - lab)) else E.loc k) = some L
    rw [if_neg (hout k (hs.used k L hL))]; exact hL
  have hSS : ∀ b, E.S b → E'.S b ∧ w'.heap[b]? = E.w.heap[b]? := fun b h => ⟨.inl h, hb.block b (hs.wf.still b h).2⟩
  have hlocq : ∀ q, q < 10000 → E'.loc (lab + q) = locOf (cellAt v x q) := fun q hq => by
    show (if lab ≤ lab + q ∧ lab + q < lab + 10000 then locOf (cellAt v x (lab + q - lab)) else E.loc (lab + q)) = _
    rw [if_pos (by omega), show lab + q - lab = q by omega]
  have htagq : ∀ b t, tag' b = some t → E'.tag b = relabel lab (some t) := fun b t ht => by
    have := (htag b (by rw [ht]; simp)).1
    show (if b < E.w.heap.size then E.tag b else relabel lab (tag' b)) = _
    rw [if_neg (by omega), ht]
  have hcell2 : ∀ q u y, cellAt v x q = some (u, y) → Cell2 w' S' tag' q u y := fun q u y h => res_at hres h
  have hSto : ∀ b, S' b → E'.S b ∧ w'.heap[b]? = w'.heap[b]? := fun b h => ⟨.inr h, rfl⟩
  -- an own array at a place
  have hown : ∀ q s fl rows y, q < 10000 → cellAt v x q = some (.own s fl rows, y) → ORel E' (lab + q) (.arr s fl rows) ∧ Rel E' (.ref false (lab + q) 0 rows.length) y := by
    intro q s fl rows y hq hc
    have hl := hlocq q hq
    rw [hc] at hl
    rcases hcell2 q _ y hc with h | ⟨s', fl', rows', he, h⟩
    · cases h
    · cases he
      rcases h with ⟨h1, h2⟩ | ⟨b, oo, cap, c, ty, h1, h2, h3, h4, h5, h6, h7, h8, h9⟩
      · subst h1
        have hn : E'.loc (lab + q) = none := by
          rw [hl]
          rcases h2 with ⟨ad, rfl⟩ | rfl
          · obtain ⟨b, oo, sp⟩ := ad
            cases sp <;> simp [locOf]
          · rfl
        refine ⟨.inl ⟨hn, rfl⟩, ?_⟩
        rcases h2 with ⟨ad, rfl⟩ | rfl
        · exact .ref0 _ _ _ _ rfl
        · exact .ref0 _ _ _ _ rfl
      · subst h1
        by_cases hc0 : cap = 0
        · subst hc0
          have : rows = [] := List.eq_nil_of_length_eq_zero (by omega)
          subst this
          exact ⟨.inl ⟨by rw [hl]; simp [locOf], rfl⟩, .ref0 _ _ _ _ rfl⟩
        · have hl' : E'.loc (lab + q) = some ⟨b, oo, s, cap⟩ := by rw [hl]; simp [locOf, hc0]
          refine ⟨.inr ⟨_, c, ty, hl', rfl, h7, by rw [htagq b _ h2]; rfl, h3, h4, h5, h6, h8, fun i j r u hi hj => ?_⟩, ?_⟩
          · obtain ⟨z, z1, z2, z3⟩ := h9 i j r u hi hj
            exact ⟨z, z1, z2, z3.to hSto fun b' hb' => ⟨by rw [htagq b' _ hb']; rfl, rfl⟩⟩
          · have := Rel.ref (E := E') false (lab + q) 0 rows.length _ cap hl' h5 (by simp)
            simpa using this
  have hrelcell : ∀ q u y, q < 10000 → cellAt v x q = some (u, y) → Rel E' (match u with | .own _ _ rows => .ref false (lab + q) 0 rows.length | u => u) y := by
    intro q u y hq hc
    rcases hcell2 q u y hc with h | ⟨s, fl, rows, rfl, _⟩
    · have hb : Rel E' u y := .base _ _ (h.mono (fun b hb => (hSto b hb).1) (fun _ _ => rfl))
      cases u <;> first | exact hb | cases h
    · exact (hown q s fl rows y hq hc).2
  refine ⟨E', rfl, ?_, ⟨⟨fun b h => ?_, fun b h => ?_⟩, hs.defers, hs.size, fun t u hu => ?_, fun k ob hk => ?_, fun k L hL => ?_, fun k ob hk => ?_⟩, ?_⟩
  · refine ⟨hb.os, hb.tape, hb.output, hb.size, fun b h _ => hb.block b h, fun b h => ?_, fun b h => .inl h, fun b h => ?_⟩
    · by_cases hlt : b < E.w.heap.size
      · simp only [E', if_pos hlt] at h; exact .inl h
      · exact .inr (by omega)
    · rcases h with h | h
      · exact .inl h
      · rcases hS b h with h | h
        · exact .inl h
        · exact .inr h.1
  · have hlt := hb.size
    rcases h with h | h
    · obtain ⟨h1, h2⟩ := hs.wf.still b h
      exact ⟨by simp only [E', if_pos h2]; exact h1, Nat.lt_of_lt_of_le h2 hlt⟩
    · rcases hS b h with h' | h'
      · obtain ⟨h1, h2⟩ := hs.wf.still b h'
        exact ⟨by simp only [E', if_pos h2]; exact h1, Nat.lt_of_lt_of_le h2 hlt⟩
      · exact ⟨by simp only [E', if_neg (show ¬ b < E.w.heap.size by omega), hSt b h]; rfl, h'.2⟩
  · by_cases hlt : b < E.w.heap.size
    · exact Nat.lt_of_lt_of_le hlt hb.size
    · simp only [E', if_neg hlt] at h
      exact (htag b (fun e => h (by rw [e]; rfl))).2
  · obtain ⟨y, hy, hr⟩ := hs.tmps t u hu
    exact ⟨y, hy, hr.to hSS fun k L _ hL => hloc k L hL⟩
  · simp only [St.adopt, lk_append] at hk
    cases hq : lk (objsOf lab v) k with
    | some ob' =>
      rw [hq] at hk
      simp at hk
      subst hk
      obtain ⟨q, s, fl, rows, y, rfl, hq2, hc, rfl⟩ := objsOf_lk hres hsm hq
      exact (hown q s fl rows y hq2 hc).1
    | none =>
      rw [hq] at hk
      simp at hk
      refine (hs.sto k ob hk).to hSS ?_ (fun i L _ hL => hloc i L hL) (fun b hbt => ?_)
      · show (if lab ≤ k ∧ k < lab + 10000 then locOf (cellAt v x (k - lab)) else E.loc k) = _
        rw [if_neg (hout k (hs.keys k ob hk))]
      · have hlt : b < E.w.heap.size := hs.wf.owned b (by rcases hbt with h | ⟨_, _, h⟩ <;> rw [h] <;> simp)
        exact ⟨by simp only [E', if_pos hlt], hb.block b hlt⟩
  · show (((objsOf lab v).map (·.1)) ++ st.used).elem k = true
    rw [elem_append_or, Bool.or_eq_true]
    by_cases hin : lab ≤ k ∧ k < lab + 10000
    · left
      simp only [E', loc', if_pos hin] at hL
      have : ∃ s fl rows y, cellAt v x (k - lab) = some (.own s fl rows, y) := by
        unfold locOf at hL
        split at hL
        · exact ⟨_, _, _, _, ‹_›⟩
        · cases hL
      obtain ⟨s, fl, rows, y, hc⟩ := this
      have := objsOf_get (lab := lab) hsm hc
      rw [show lab + (k - lab) = k by omega] at this
      exact elem_map_fst this
    · right
      simp only [E', loc', if_neg hin] at hL
      exact hs.used k L hL
  · show (((objsOf lab v).map (·.1)) ++ st.used).elem k = true
    rw [elem_append_or, Bool.or_eq_true]
    simp only [St.adopt, lk_append] at hk
    cases hq : lk (objsOf lab v) k with
    | some ob' => exact .inl (elem_map_fst hq)
    | none =>
      rw [hq] at hk
      simp at hk
      exact .inr (hs.keys k ob hk)
  · -- the value
    have hone : ∀ (base : Nat) (u : AV) (z : Value), base + 100 ≤ 10000 → small1 u = true → (∀ j p, cellAt1 u z j = some p → cellAt v x (base + j) = some p) → (∃ b0, Res1 w' S' tag' b0 u z) → Rel E' (adoptV (lab + base) u) z := by
      rintro base u z hbase hsu hcat ⟨b0, hr1⟩
      cases u with
      | agg cells =>
        obtain ⟨xs, rfl, h2, h3, h4⟩ := hr1
        refine .agg _ xs (by rw [h2, adopt1_length]) h3 fun j w y hw hy => ?_
        have hlt : j < cells.length := by rw [← h2]; exact (Array.getElem?_eq_some_iff.1 hy).1
        have hcj := List.getElem?_eq_getElem hlt
        have hl : cells.length ≤ 100 := nble_le hsu
        rw [adopt1_get _ _ _ _ hcj] at hw
        obtain rfl := Option.some.inj hw
        have := hrelcell (base + j) cells[j] y (by omega) (hcat j _ (by simp [cellAt1, hcj, hy]))
        rw [show lab + (base + j) = lab + base + j by omega] at this
        cases hcc : cells[j] <;> rw [hcc] at this <;> exact this
      | own s fl rows =>
        have := hrelcell (base + 0) _ z (by omega) (hcat 0 _ rfl)
        exact this
      | _ =>
        have := hrelcell (base + 0) _ z (by omega) (hcat 0 _ rfl)
        exact this
    by_cases hv : ∃ vs, v = .tup vs
    · obtain ⟨vs, rfl⟩ := hv
      obtain ⟨xs, rfl, h2, h3⟩ := hres
      simp only [AV.small, Bool.and_eq_true] at hsm
      have hvl := nble_le hsm.2
      have hget : ∀ (l : List AV) (base j : Nat) (u : AV), l[j]? = some u → (adoptT base l)[j]? = some (adoptV (base + j * 100) u) := by
        intro l
        induction l with
        | nil => intro base j u h; simp at h
        | cons w r ih =>
          intro base j u h
          cases j with
          | zero => simp at h; subst h; simp [adoptT]
          | succ j =>
            have := ih (base + 100) j u (by simpa using h)
            rw [show base + 100 + j * 100 = base + (j + 1) * 100 by omega] at this
            simpa [adoptT] using this
      have hlen : ∀ (l : List AV) (base : Nat), (adoptT base l).length = l.length := by
        intro l
        induction l with
        | nil => intro _; rfl
        | cons w r ih => intro base; simp [adoptT, ih]
      refine .tup _ xs (by rw [hlen, h2]) fun j w y hw hy => ?_
      have hlt : j < vs.length := by rw [← h2]; exact (Array.getElem?_eq_some_iff.1 hy).1
      have hcj := List.getElem?_eq_getElem hlt
      rw [hget _ _ _ _ hcj] at hw
      obtain rfl := Option.some.inj hw
      have hsj : small1 vs[j] = true := List.all_eq_true.1 hsm.1 _ (List.getElem_mem hlt)
      refine hone (j * 100) vs[j] y (by omega) hsj (fun q p hqp => ?_) ⟨_, h3 j _ y hcj hy⟩
      have hq := cellAt1_lt hsj hqp
      simp only [cellAt, show (j * 100 + q) / 100 = j by omega, show (j * 100 + q) % 100 = q by omega, hcj, hy]
      exact hqp
    · have h' : Res1 w' S' tag' 0 v x := by cases v <;> first | exact hres | exact absurd ⟨_, rfl⟩ hv
      have hsm' : small1 v = true := by cases v <;> first | exact hsm | exact absurd ⟨_, rfl⟩ hv
      have := hone 0 v x (by omega) hsm' (fun j p hp => by
        rw [Nat.zero_add]
        cases v <;> first | exact hp | exact absurd ⟨_, rfl⟩ hv) ⟨_, h'⟩
      cases v <;> first | exact this | exact absurd ⟨_, rfl⟩ hv

/-! ### The rule -/

theorem run_callFunc {f : FuncId} {fn : Func} (hf : P.funcs[f]? = some fn) (hname : (fn.name == "runtime.NumGoroutine") = false) (hbody : fn.body.isNone = false) (xs : Array Value) (w : World) : (callFunc f xs).run P w = .ok (.enter f xs) w := by
  simp only [callFunc, Sem.run_bind, run_program, Result.andThen_ok, hf, hname, hbody, Bool.false_eq_true, if_false, Sem.run_pure]

theorem getD_append3 {α : Type} (l m n : List α) (j : Nat) : (l ++ m ++ n)[j]? = if j < l.length then l[j]? else if j < l.length + m.length then m[j - l.length]? else n[j - l.length - m.length]? := by
  rw [List.append_assoc, List.getElem?_append]
  split
  · rfl
  · rw [List.getElem?_append]
    split
    · rw [if_pos (by omega)]
    · rw [if_neg (by omega)]

/-- The values that a call hands over. -/
theorem call_values (hs : Sim E st a) {c : Operand} {args : Array Operand} {f : FuncId} {first caps : List AV} (hc : st.ev c = .fn f first caps) :
    ∃ xs ys : Array Value, a.eval c = .func (.func f) xs ys ∧ (xs ++ args.map a.eval ++ ys).size = (first ++ args.toList.map st.ev ++ caps).length ∧
      ∀ (j : Nat) (v : AV) (x : Value), (first ++ args.toList.map st.ev ++ caps)[j]? = some v → (xs ++ args.map a.eval ++ ys)[j]? = some x → Rel E v x := by
  have hr := hs.ev c
  rw [hc] at hr
  generalize a.eval c = cv at hr
  cases hr with
  | base _ _ h => cases h
  | fn _ _ _ xs ys h1 h2 h3 h4 =>
    refine ⟨xs, ys, rfl, by simp [h1, h2], fun j v x hv hx => ?_⟩
    rw [getD_append3] at hv
    rw [Array.getElem?_append, Array.getElem?_append] at hx
    simp only [List.length_map, Array.length_toList] at hv
    simp only [Array.size_append, Array.size_map] at hx
    by_cases g1 : j < first.length
    · rw [if_pos g1] at hv
      rw [if_pos (by omega), if_pos (by omega)] at hx
      exact h3 j v x hv hx
    · rw [if_neg g1] at hv
      by_cases g2 : j < first.length + args.size
      · rw [if_pos g2] at hv
        rw [if_pos (by omega), if_neg (by omega)] at hx
        rw [h1] at hx
        simp only [List.getElem?_map, Option.map_eq_some_iff] at hv
        obtain ⟨p, hp, rfl⟩ := hv
        simp only [Array.getElem?_map, Option.map_eq_some_iff] at hx
        obtain ⟨q, hq, rfl⟩ := hx
        have : p = q := by simpa [hq] using hp.symm
        subst this
        exact hs.ev p
      · rw [if_neg g2] at hv
        rw [if_neg (by omega)] at hx
        refine h4 _ v x hv ?_
        rw [← hx]; congr 1; omega

theorem ok_callBy {c : Operand} {args : Array Operand} {tys : Array TypeId} {f : FuncId} {first caps bs : List AV} {al : Bool} {R : AV → Prop} {lab : Nat} (ho : o.op = .call { callee := .value c, args := args, argTypes := tys }) (hc : st.ev c = .fn f first caps)
    (h : Sound P f al bs R) (hl : al = false ∧ lends st (first ++ args.toList.map st.ev ++ caps) bs ∨ bs = first ++ args.toList.map st.ev ++ caps ∧ idsL bs = []) (hfresh : freshL lab st.used = true)
    (hk : ∀ v, R v → v.small = true ∧ K (adopt lab v) (st.adopt lab v)) : OpOk P o st K := by
  obtain ⟨⟨fn, hf, hname, hbody⟩, hcall⟩ := h
  intro E a KW QW hs hK
  obtain ⟨xs, ys, hcv, hsz, hrel⟩ := call_values hs (args := args) hc
  have hrun : (execOp a.eval o).run P E.w = .ok (.enter f (xs ++ args.map a.eval ++ ys)) E.w := by
    simp only [execOp, ho, resolve, Deferred.ofValue, hcv, Sem.run_bind, Sem.run_pure, Result.andThen_ok, invoke, run_callFunc hf hname hbody]
  unfold Oper.wp
  rw [hrun, Oper.upon_enter]
  rcases hl with ⟨rfl, hl⟩ | ⟨hl, hids⟩
  · obtain ⟨g1, g2⟩ := lends_get hl
    refine (hcall E.w (fun b => b < E.w.heap.size) _ (fun b hb => hb) (by rw [hsz, g1]) fun j v x hv hx => ?_).mono ?_
    · obtain ⟨u, hu, hul⟩ := g2 j v hv
      exact lend_rel hs (hrel j u x hu hx) hul
    · rintro e w' ⟨x, v, S', tag', rfl, hR, hb, htag, hS, hSt, hres⟩
      obtain ⟨hsm, hk⟩ := hk v hR
      obtain ⟨E', rfl, hf', hs', hr'⟩ := adopt_sim hs hfresh hsm hb htag (fun b hb' => by
        rcases hS b hb' with h | h
        · cases h.1
        · exact .inr h) hSt hres
      exact hK E' _ x _ hf' hs' hr' hk
  · refine (hcall E.w E.S _ (fun b hb => (hs.wf.still b hb).2) (by rw [hsz, hl]) fun j v x hv hx => ?_).mono ?_
    · rw [hl] at hv
      have hnil : ∀ i, i ∈ v.ids → False := fun i hi => by
        have := idsL_mem hv hi
        rw [← hl, hids] at this
        cases this
      exact (hrel j v x hv hx).to (fun b hb => ⟨hb, rfl⟩) fun i L hi _ => (hnil i hi).elim
    · rintro e w' ⟨x, v, S', tag', rfl, hR, hb, htag, hS, hSt, hres⟩
      obtain ⟨hsm, hk⟩ := hk v hR
      obtain ⟨E', rfl, hf', hs', hr'⟩ := adopt_sim hs hfresh hsm hb htag (fun b hb' => by
        rcases hS b hb' with h | h
        · exact .inl h.2
        · exact .inr h) hSt hres
      exact hK E' _ x _ hf' hs' hr' hk

end Go.Proofs.Ytmpbmfhlkhonkaa.AM
