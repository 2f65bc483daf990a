/- The abstract machine, part 27: more of what is said where the reckoning stops. -/
import Derived.Test.YtmbckmfihcojoaaB24
namespace Go.Proofs.Ytmbckmfihcojoaa.AM
open Go Go.RowKit

set_option linter.unusedVariables false
set_option linter.unusedSimpArgs false

variable {P : Program} {T : Nat → Option TI} {A : Sy}

theorem lays_plain {α : Type} {f : α → List AV} (hp : Plain f) (kd : SK) (fl : Bool) (C : Cx P T A) (l : List α) : Lays kd fl (A.enc f l) := by
  have hs : ∀ r ∈ A.enc f l, ∀ v ∈ r, v.scal = true := fun r hr v hv => by
    rw [C.enc] at hr
    obtain ⟨x, _, rfl⟩ := List.mem_map.1 hr
    exact List.all_eq_true.1 (hp x) v hv
  cases kd <;> cases fl <;> first | trivial | exact hs | exact fun r hr v hv => (by have := hs r hr v hv; cases v <;> first | rfl | cases this)

/-- To an own array something is appended: a new array. -/
theorem AppRef.enc (C : Cx P T A) {α : Type} {f : α → List AV} {l m : List α} {kd : SK} {fl p : Bool} {off len s size bytes : Nat} {K : Bool → Nat → List (List AV) → Prop} (hs : s = size) (hp : Plain f) (hsz : ∀ x, (f x).length = size) (hl : off + len ≤ l.length) (hb : (len + m.length) * bytes ≤ maxBytes)
    (h : ∀ (n : Nat) (l' : List α), n = len + m.length → l' = (l.drop off).take len ++ m → K false n (A.enc f l')) : AppRef kd fl p off len s size bytes (A.enc f l) (A.enc f m) K := by
  refine ⟨hs, lays_plain hp kd fl C m, fun r hr => ?_, .inl ⟨by rw [C.lenE']; exact hl, by rw [C.lenE']; exact hb, ?_⟩⟩
  · rw [C.enc] at hr
    obtain ⟨x, _, rfl⟩ := List.mem_map.1 hr
    exact hsz x
  · rw [C.lenE']
    have := h _ _ rfl rfl
    rw [C.enc, List.map_append, List.map_take, List.map_drop] at this
    rw [C.enc, C.enc]; exact this

theorem AppRef.one (C : Cx P T A) {α : Type} {f : α → List AV} {l : List α} (x : α) {ys : List (List AV)} (hy : ys = [f x]) {kd : SK} {fl p : Bool} {off len s size bytes : Nat} {K : Bool → Nat → List (List AV) → Prop} (hs : s = size) (hp : Plain f) (hsz : ∀ x, (f x).length = size) (hl : off + len ≤ l.length) (hb : (len + 1) * bytes ≤ maxBytes)
    (h : ∀ (n : Nat) (l' : List α), n = len + 1 → l' = (l.drop off).take len ++ [x] → K false n (A.enc f l')) : AppRef kd fl p off len s size bytes (A.enc f l) ys K := by
  have : ys = A.enc f [x] := by rw [hy, C.enc]; rfl
  rw [this]
  exact AppRef.enc C hs hp hsz hl hb h

theorem AppNew.one (C : Cx P T A) {α : Type} {f : α → List AV} (x : α) {ys : List (List AV)} (hy : ys = [f x]) {kd : SK} {fl : Bool} {size bytes : Nat} {K : Nat → List (List AV) → Prop} (hp : Plain f) (hsz : ∀ x, (f x).length = size) (hb : bytes ≤ maxBytes)
    (h : K 1 (A.enc f [x])) : AppNew kd fl size bytes ys K := by
  have : ys = A.enc f [x] := by rw [hy, C.enc]; rfl
  rw [this]
  exact AppNew.enc C hp (.inr (.inr trivial)) hsz (by simpa using hb) fun n hn => by rw [hn]; exact h

/-- Lengths, told without a cast: the reckoning turns casts into others. -/
theorem LenR.nat (C : Cx P T A) {α : Type} {f : α → List AV} {l : List α} {K : Int → Prop} (h : ∀ x : Int, 0 ≤ x ∧ x.toNat = l.length → l.length ≤ 9223372036854775807 → K x) : LenR false (A.enc f l) K :=
  LenR.enc C fun x hx hm => h x (by omega) (by simp only [maxLen] at hm; omega)
theorem Len.nat {n : Nat} {K : Int → Prop} (h : ∀ x : Int, 0 ≤ x ∧ x.toNat = n → n ≤ 9223372036854775807 → K x) : Len false n K :=
  Len.go fun x hx hm => h x (by omega) (by simp only [maxLen] at hm; omega)
theorem LenR.natD (C : Cx P T A) {dr : Bool} {α : Type} {f : α → List AV} {l : List α} {K : Int → Prop} (hm : l.length ≤ 9223372036854775807) (h : ∀ x : Int, 0 ≤ x ∧ x.toNat = l.length → K x) : LenR dr (A.enc f l) K :=
  LenR.dr C (by simp only [maxLen]; omega) fun x hx => h x (by omega)
theorem Len.natD {dr : Bool} {n : Nat} {K : Int → Prop} (hm : n ≤ 9223372036854775807) (h : ∀ x : Int, 0 ≤ x ∧ x.toNat = n → K x) : Len dr n K :=
  Len.dr (by simp only [maxLen]; omega) fun x hx => h x (by omega)

theorem Part.one {r : List AV} {K : List (List AV) → Prop} (h : K [r]) : Part 0 1 [r] K := ⟨by simp, h⟩

theorem plain_of {α : Type} {f : α → List AV} (h : ∀ x, (f x).all AV.scal = true) : Plain f := h

theorem Cx.lendLe0 (C : Cx P T A) {α : Type} {f : α → List AV} {l : List α} : 0 + A.len (A.enc f l) ≤ (A.enc f l).length := C.lendLe (C.lenE f l)
theorem Cx.lendEq0 (C : Cx P T A) {α : Type} {f : α → List AV} {l : List α} : A.enc f l = ((A.enc f l).drop 0).take (A.len (A.enc f l)) := C.lendEq (C.lenE f l)

/-- A part of an own array comes back as a whole. -/
theorem resPart (C : Cx P T A) {al : Bool} {st : St} {p : Bool} {id off n s : Nat} {α : Type} {f : α → List AV} {l m : List α} (hq : lk st.sto id = some (.arr s true (A.enc f l))) (hn : off + n ≤ l.length) (hm : m = (l.drop off).take n) : resCell al st (.ref p id off n) (.own s true (A.enc f m)) := by
  simp only [resCell, hq]
  refine ⟨⟨trivial, trivial⟩, ⟨by rw [C.lenE']; exact hn, ?_⟩, trivial⟩
  rw [hm, C.enc, C.enc, List.map_take, List.map_drop]

/-- The end: this value. -/
theorem Done.is {ι : Type} {r : ι → AV} {al : Bool} {st : St} {v : AV} {e x : ι} (h1 : resOk al st v (r x)) (h2 : (Fits st v [] && (r x).small && boxesKept [] []) = true) (h : e = x) : Done al st v [] (fun v o => v = r e ∧ o = []) := by
  subst h
  exact Done.to _ [] h2 h1 trivial ⟨rfl, rfl⟩

end Go.Proofs.Ytmbckmfihcojoaa.AM
