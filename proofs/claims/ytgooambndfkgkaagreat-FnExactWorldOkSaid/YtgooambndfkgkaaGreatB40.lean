/- The abstract machine, part 40: arrays of arrays: folded, unfolded, lent, given back; loops whose state is told otherwise at their head. -/
import Derived.Test.YtgooambndfkgkaaGreatB39
namespace Go.Proofs.YtgooambndfkgkaaGreat.AM
open Go Go.RowKit

set_option linter.unusedVariables false
set_option linter.unusedSimpArgs false

variable {P : Program} {T : Nat → Option TI} {A : Sy}

/-- A named array goes into the cell that holds it. -/
theorem Less.fold (C : Cx P T A) {s : St} {id i j sz s0 L n : Nat} {p : Bool} {α β : Type} {f : α → List AV} {g : β → List AV} {m m' : List α} {l : List β} (x y : α) (hq : lk s.sto id = some (.arr s0 false (A.enc f m))) (hx : m[i]? = some x)
    (hc : (f x)[j]? = some (.ref p L 0 n)) (hL : lk s.sto L = some (.arr sz true (A.enc g l))) (hn : n = l.length) (hlow : nble lab0 L = true) (hy : f y = (f x).set j (.own sz true (A.enc g l))) (hm : m' = m.set i y) :
    Less s { s with sto := (id, .arr s0 false (A.enc f m')) :: rm s.sto L } := by
  subst hm
  have hr : (A.enc f m)[i]? = some (f x) := by rw [C.enc]; simp [hx]
  have := Weak.fold hq hr hc hL (by rw [C.lenE', hn]) (nble_le hlow)
  rw [← hy] at this
  have e : (A.enc f m).set i (f y) = A.enc f (m.set i y) := by rw [C.enc, C.enc, List.map_set]
  rw [e] at this
  exact ⟨this⟩

/-- The array in a cell gets a name. -/
theorem Less.unfold (C : Cx P T A) {s : St} {id i j sz s0 L n : Nat} {α β : Type} {f : α → List AV} {g : β → List AV} {m m' : List α} {l : List β} (x y : α) (hq : lk s.sto id = some (.arr s0 false (A.enc f m))) (hx : m[i]? = some x)
    (hc : (f x)[j]? = some (.own sz true (A.enc g l))) (hu : s.used.elem L = false) (hn : n = l.length) (hy : f y = (f x).set j (.ref false L 0 n)) (hm : m' = m.set i y) :
    Less s { s with sto := (L, .arr sz true (A.enc g l)) :: (id, .arr s0 false (A.enc f m')) :: s.sto, used := L :: s.used } := by
  subst hm
  have hr : (A.enc f m)[i]? = some (f x) := by rw [C.enc]; simp [hx]
  have := Weak.unfold hq hr hc hu
  rw [C.lenE', ← hn, ← hy] at this
  have e : (A.enc f m).set i (f y) = A.enc f (m.set i y) := by rw [C.enc, C.enc, List.map_set]
  rw [e] at this
  exact ⟨this⟩

/-- A round that is begun from what its head says, told otherwise. -/
structure Round (P : Program) (c : Code) (s : St) (Q : Exit → St → Prop) : Prop where
  out : awp P c Q s

theorem Round.go {c : Code} {s : St} {Q : Exit → St → Prop} (cuts : List Nat) (htab : TabOk P T) (hm : P.follows .mixedOrders = true) (hA : A = sy) (h : Rnd (vcS A P T cuts c s Q)) : Round P c s Q := by
  subst hA
  exact ⟨vcS_sound htab hm c s Q h.out⟩
theorem Round.pre {c : Code} {s s' : St} {Q : Exit → St → Prop} (h : Less s s') (k : Round P c s' Q) : Round P c s Q := ⟨awp_weak h.out k.out⟩

/-- A loop, each round of which may be begun from less. -/
theorem ALoop.goR {ι : Type} (ts : ι → List (Nat × AV)) (fs ks : List Nat) (os : ι → List (Nat × Obj)) (I : ι → Prop) (μ : ι → Nat) (i₀ : ι) {c : Code} {Q : Exit → St → Prop} {s : St}
    (h₀ : I i₀) (hst : Less (AM.forget s fs) (havD (AM.forget s fs) (dsts c) ks (ts i₀) (os i₀)))
    (round : ∀ i, I i → Round P c (havD (AM.forget s fs) (dsts c) ks (ts i) (os i)) (loopVC (fun i => havD (AM.forget s fs) (dsts c) ks (ts i) (os i)) I μ i Q)) : ALoop P c Q s := by
  refine .pre (Less.forget s fs) ⟨awp_loop (fun n s' => ∃ i, μ i = n ∧ I i ∧ s' = havD (AM.forget s fs) (dsts c) ks (ts i) (os i)) (μ i₀) _ hst.out ⟨i₀, rfl, h₀, rfl⟩ ?_⟩
  rintro n s' ⟨i, rfl, hi, rfl⟩
  refine awp_mono (round i hi).out fun e s'' hq => ?_
  cases e with
  | normal =>
    obtain ⟨j, h1, h2, h3⟩ := hq.out
    exact ⟨μ j, _, h1, ⟨j, rfl, h2, rfl⟩, h3⟩
  | _ => exact hq

/-! ### Arrays of arrays as wholes -/

/-- No names in the cells, no still memory. -/
def Fre {α : Type} (f : α → List AV) : Prop := ∀ x, ∀ v ∈ f x, v.free false
/-- The same cells, still. -/
def Stl {α : Type} (f g : α → List AV) : Prop := ∀ x, (f x).map AV.still = g x

theorem AV.free.any {v : AV} (h : v.free false) (al : Bool) : v.free al := by
  cases al with
  | false => exact h
  | true =>
    cases v with
    | ro => exact .inl rfl
    | own s fl rows => cases fl <;> exact h
    | _ => exact h

theorem Cx.freeE (C : Cx P T A) {α : Type} {f : α → List AV} (h : Fre f) (al : Bool) (l : List α) : FreeRows al (A.enc f l) := fun r hr v hv => by
  rw [C.enc] at hr
  obtain ⟨x, _, rfl⟩ := List.mem_map.1 hr
  exact (h x v hv).any al

theorem Cx.noRefsE (C : Cx P T A) {α : Type} {f : α → List AV} {l : List α} (h : ∀ x ∈ l, ∀ v ∈ f x, v.free false) : noRefs (A.enc f l) := (show FreeRows false (A.enc f l) from fun r hr v hv => by
  rw [C.enc] at hr
  obtain ⟨x, hx, rfl⟩ := List.mem_map.1 hr
  exact h x hx v hv).noRefs

theorem Cx.lendE (C : Cx P T A) {st : St} {no : Nat → Bool} {α : Type} {f g : α → List AV} {l : List α} {n : Nat} (h : Fre f) (hs : Stl f g) (hn : n = l.length) : lendRows st no false (((A.enc f l).drop 0).take n) (A.enc g l) := by
  have e : ((A.enc f l).drop 0).take n = A.enc f l := (C.lendEq hn).symm
  rw [e]
  refine .inl ⟨C.freeE h true l, ?_⟩
  show A.enc g l = (A.enc f l).map fun r => r.map AV.still
  rw [C.enc, C.enc, List.map_map]
  exact List.map_congr_left fun x _ => (hs x).symm

theorem resOwnF (C : Cx P T A) {al : Bool} {st : St} {p : Bool} {id n s : Nat} {α : Type} {f : α → List AV} {l : List α} (hf : Fre f) (hq : lk st.sto id = some (.arr s false (A.enc f l))) (hn : n = l.length) : resCell al st (.ref p id 0 n) (.own s false (A.enc f l)) := by
  simp only [resCell, hq]
  exact ⟨⟨trivial, trivial⟩, ⟨C.lendLe hn, C.lendEq hn⟩, C.freeE hf al l⟩

theorem resOwnF1 (C : Cx P T A) {al : Bool} {st : St} {p : Bool} {id n s : Nat} {α : Type} {f : α → List AV} {l : List α} (hf : Fre f) (hq : lk st.sto id = some (.arr s false (A.enc f l))) (hn : n = l.length) : resOk al st (.ref p id 0 n) (.own s false (A.enc f l)) := by
  show resCell al st (.ref p id 0 n) (.own s false (A.enc f l))
  exact resOwnF C hf hq hn

/-- Rows told in another way. -/
theorem Cx.encMap (C : Cx P T A) {α β : Type} {f : α → List AV} {g : β → List AV} {h : β → α} (e : ∀ x, g x = f (h x)) (l : List β) : A.enc f (l.map h) = A.enc g l := by
  rw [C.enc, C.enc, List.map_map]
  exact List.map_congr_left fun x _ => (e x).symm

/-- A slice told anew: without its peek, its array as rows of typed things. -/
theorem Less.told (C : Cx P T A) {α : Type} (f : α → List AV) (l : List α) {s : St} {t L off n sz : Nat} {p fl : Bool} {rows : List (List AV)} (hv : lk s.tmps t = some (.ref p L off n)) (hq : lk s.sto L = some (.arr sz fl rows)) (he : rows = l.map f) :
    Less s { s with tmps := (t, .ref false L off n) :: s.tmps, sto := (L, .arr sz fl (A.enc f l)) :: s.sto } := by
  refine Less.trans (Less.slot (t := t) hv fun E a x _ hr => hr.noPeek (q := false)) ⟨fun E a hs => ⟨E, rfl, Fr.refl E, ?_⟩⟩
  refine ⟨hs.wf, hs.defers, hs.size, hs.tmps, fun id o h => ?_, hs.used, fun id o h => ?_⟩
  · rw [lk_cons] at h
    by_cases e : L = id
    · subst e
      rw [if_pos rfl] at h
      obtain rfl := Option.some.inj h
      have := hs.sto L _ hq
      rw [he] at this
      rw [C.enc]; exact this
    · rw [if_neg e] at h; exact hs.sto id o h
  · rw [lk_cons] at h
    by_cases e : L = id
    · subst e; exact hs.keys _ _ hq
    · rw [if_neg e] at h; exact hs.keys id o h

end Go.Proofs.YtgooambndfkgkaaGreat.AM
