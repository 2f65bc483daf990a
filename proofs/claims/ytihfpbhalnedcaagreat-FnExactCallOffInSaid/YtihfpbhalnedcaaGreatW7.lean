/- Contracts: the laws' own helpers: programs, groups. (printed by gw5.py) -/
import Derived.Test.YtihfpbhalnedcaaGreatDA
import Derived.Test.YtihfpbhalnedcaaGreatBD
import Derived.Test.YtihfpbhalnedcaaGreatG5
set_option linter.unusedVariables false
set_option linter.unusedSimpArgs false
namespace Go.Proofs.YtihfpbhalnedcaaGreat.AM
open Go Go.Proofs

set_option maxRecDepth 100000
set_option maxHeartbeats 4000000

variable {P : Program} {A : Sy}

def sumBy {α : Type} (f : α -> Nat) : List α -> Nat
  | [] => 0
  | x :: r => f x + sumBy f r

theorem sumBy_append {α : Type} (f : α -> Nat) : ∀ l m : List α, sumBy f (l ++ m) = sumBy f l + sumBy f m
  | [], m => by simp [sumBy]
  | x :: r, m => by simp only [List.cons_append, sumBy, sumBy_append f r m]; omega

theorem sumBy_next {α : Type} {f : α -> Nat} {l : List α} {i i' : Int} {x : α} (h0 : 0 <= i) (hx : l[i.toNat]? = some x) (hi : i' = i + 1) : sumBy f (l.take i'.toNat) = sumBy f (l.take i.toNat) + f x := by
  rw [show i'.toNat = i.toNat + 1 by omega, take_next hx, sumBy_append]
  simp [sumBy]

theorem sumBy_take {α : Type} (f : α -> Nat) (l : List α) (i : Nat) : sumBy f (l.take i) <= sumBy f l := by
  have := sumBy_append f (l.take i) (l.drop i)
  rw [List.take_append_drop] at this
  omega

theorem sumBy_at {α : Type} {f : α -> Nat} {l : List α} {i : Nat} {x : α} (hx : l[i]? = some x) : f x <= sumBy f l := by
  have h1 := sumBy_take f l (i + 1)
  rw [take_next hx, sumBy_append] at h1
  simp only [sumBy] at h1
  omega

theorem fre_ownProg : Fre (ownProg A) := fun x v hv => by
  simp only [ownProg, List.mem_cons, List.not_mem_nil, or_false] at hv
  subst hv; trivial
theorem stl_ownProg : Stl (ownProg A) (roProg A) := fun x => rfl
theorem fre_ownGroup : Fre (ownGroup A) := fun x v hv => by
  simp only [ownGroup, List.mem_cons, List.not_mem_nil, or_false] at hv
  rcases hv with rfl | rfl | rfl | rfl | rfl <;> trivial
theorem stl_ownGroup : Stl (ownGroup A) (roGroup A) := fun x => rfl

section
variable {l : List (List Ins)} {g : List Group} {n id : Nat} {st : St} {al p : Bool} {no : Nat -> Bool}
theorem Se.gi (S : Se P A) (h : n = l.length) : lendRows st no false (((A.enc (ownProg A) l).drop 0).take n) (A.enc (roProg A) l) := S.cx.lendE fre_ownProg stl_ownProg h
theorem Se.gj (S : Se P A) (h : n = g.length) : lendRows st no false (((A.enc (ownGroup A) g).drop 0).take n) (A.enc (roGroup A) g) := S.cx.lendE fre_ownGroup stl_ownGroup h
theorem Se.gk (S : Se P A) : FreeRows al (A.enc (ownProg A) l) := S.cx.freeE fre_ownProg al l
theorem Se.gl (S : Se P A) : FreeRows al (A.enc (ownGroup A) g) := S.cx.freeE fre_ownGroup al g
theorem Se.re (S : Se P A) (hq : lk st.sto id = some (.arr 1 false (A.enc (ownProg A) l))) (hn : n = l.length) : resCell al st (.ref p id 0 n) (.own 1 false (A.enc (ownProg A) l)) := resOwnF S.cx fre_ownProg hq hn
theorem Se.rf (S : Se P A) (hq : lk st.sto id = some (.arr 5 false (A.enc (ownGroup A) g))) (hn : n = g.length) : resCell al st (.ref p id 0 n) (.own 5 false (A.enc (ownGroup A) g)) := resOwnF S.cx fre_ownGroup hq hn
theorem Se.rg (S : Se P A) (hq : lk st.sto id = some (.arr 1 false (A.enc (ownProg A) l))) (hn : n = l.length) : resOk al st (.ref p id 0 n) (.own 1 false (A.enc (ownProg A) l)) := resOwnF1 S.cx fre_ownProg hq hn
end

inductive PC where
  | none
  | own (l : List Ins)
  | ref (L n : Nat)
def cPC (A : Sy) : PC -> List AV
  | .none => [.own 1 true []]
  | .own l => [.own 3 true (A.enc cIns l)]
  | .ref L n => [.ref false L 0 n]
inductive GC where
  | own (g : Group)
  | ref (g : Group) (L n : Nat)
def cGC (A : Sy) : GC -> List AV
  | .own g => [.int .i64 g.node, .int .i64 g.limit, .int .i64 g.active, .own 1 true (A.enc cInt64 g.waits), .int .i64 g.first]
  | .ref g L n => [.int .i64 g.node, .int .i64 g.limit, .int .i64 g.active, .ref false L 0 n, .int .i64 g.first]
def PC.fre : PC -> Prop
  | .ref _ _ => False
  | _ => True
def GC.fre : GC -> Prop
  | .ref _ _ _ => False
  | _ => True
theorem noRefsPC {T : Nat -> Option TI} (C : Cx P T A) {l : List PC} (h : ∀ x ∈ l, x.fre) : noRefs (A.enc (cPC A) l) := C.noRefsE fun x hx v hv => by
  have := h x hx
  cases x <;> first | exact this.elim | (simp only [cPC, List.mem_cons, List.not_mem_nil, or_false] at hv; subst hv; trivial)
theorem noRefsGC {T : Nat -> Option TI} (C : Cx P T A) {l : List GC} (h : ∀ x ∈ l, x.fre) : noRefs (A.enc (cGC A) l) := C.noRefsE fun x hx v hv => by
  have := h x hx
  cases x <;> first | exact this.elim | (simp only [cGC, List.mem_cons, List.not_mem_nil, or_false] at hv; rcases hv with rfl | rfl | rfl | rfl | rfl <;> trivial)
theorem mem_set_of {α : Type} {l m : List α} {i : Nat} {y : α} {p : α -> Prop} (hm : m = l.set i y) (h : ∀ x ∈ l, p x) (hy : p y) : ∀ x ∈ m, p x := fun x hx => by
  rw [hm] at hx
  rcases List.mem_or_eq_of_mem_set hx with h1 | h1
  · exact h x h1
  · exact h1 ▸ hy
theorem len_cPC (A : Sy) (x : PC) : (cPC A x).length = 1 := by cases x <;> rfl
theorem len_cGC (A : Sy) (x : GC) : (cGC A x).length = 5 := by cases x <;> rfl
theorem encPC {T : Nat -> Option TI} (C : Cx P T A) (l : List (List Ins)) : A.enc (cPC A) (l.map PC.own) = A.enc (ownProg A) l := C.encMap (f := cPC A) (g := ownProg A) (h := PC.own) (fun _ => rfl) l
theorem encGC {T : Nat -> Option TI} (C : Cx P T A) (l : List Group) : A.enc (cGC A) (l.map GC.own) = A.enc (ownGroup A) l := C.encMap (f := cGC A) (g := ownGroup A) (h := GC.own) (fun _ => rfl) l

theorem szInsSS_c (S : Se P A) (l : List (List Ins)) (left0 : Int) (h0 : 0 <= left0) : Nums P 34 [.ro (A.enc (roProg A) l), .int .i64 left0] (fun n => n = -1 ∨ 0 <= n /\ n = left0 - (l.length + sumBy List.length l)) := by
  refine S.cx.by (S.prog ▸ Tryz.func34) rfl rfl rfl rfl (fun hv ho => ?_)
  cbv
  have hl := (hv (.int .i64 left0) (by simp)).i64
  refine LenR.nat S.cx (fun n hn hm => ?_); cbv
  refine Arith.go (by lia) (fun left1 hleft1 => ?_); cbv
  refine Test.lss (fun h => ?_) (fun h => ?_) <;> cbv
  · exact Done.num (.inl rfl)
  have hnn : (n.toNat : Int) = l.length := by lia
  refine ALoop.goS (ι := Int × Int) (fun i => [(5, .int .i64 i.1), (1, .int .i64 i.2)]) [] (fun i => []) (fun i => 0 <= i.1 /\ i.1.toNat <= l.length /\ 0 <= i.2 /\ i.2 = left1 - (sumBy List.length (l.take i.1.toNat) : Nat)) (fun i => (l.length - i.1.toNat)) ((0, left1)) S.cx.tab S.cx.mix S.eq ?_ ?_ ?_
  · exact ⟨Int.le_refl _, Nat.zero_le _, h, by simp [sumBy]⟩
  · (cbv; exact Less.toA [])
  rintro ⟨i, left⟩ ⟨h1, h2, h3, h4⟩
  dsimp only at h1 h2 h3 h4
  refine Rnd.mk ?_; cbv
  refine LenR.nat S.cx (fun n' hn' hm' => ?_); cbv
  refine Test.lss (fun h5 => ?_) (fun h5 => ?_) <;> cbv
  · refine ElemRo.enc S.cx (fun _ => rfl) (by lia) (by lia) (fun x hx => ?_); cbv
    have hnx : ∀ i', i' = i + 1 -> sumBy List.length (l.take i'.toNat) = sumBy List.length (l.take i.toNat) + x.length := fun i' hi' => sumBy_next h1 hx hi'
    refine ACall.int (dp := false) (szInsS_c S x left (by lia)) .go rfl (fun q hq => ?_); cbv
    refine Test.lss (fun h2 => ?_) (fun h2 => ?_) <;> cbv
    · exact Done.num (.inl rfl)
    replace hq : q = left - x.length := by split at hq <;> lia
    refine Arith.go (by lia) (fun i' hi' => ?_); cbv
    refine Again.on (i', q) (by dsimp only; lia) ⟨by dsimp only; lia, by dsimp only; lia, by dsimp only; lia, by dsimp only; rw [hnx i' hi']; lia⟩ ?_
    (cbv; exact Less.toA [])
  · rw [take_all (by lia)] at h4
    exact Done.num (.inr ⟨h3, by rw [h4, hleft1]; lia⟩)

theorem eqInsSS_c (S : Se P A) (l l' : List (List Ins)) : Tests P 61 [.ro (A.enc (roProg A) l), .ro (A.enc (roProg A) l')] (l = l') := by
  refine S.cx.by (S.prog ▸ Tryz.func61) rfl rfl rfl rfl (fun hv ho => ?_)
  cbv
  refine LenR.enc S.cx (fun n hn hm => ?_); cbv
  refine LenR.enc S.cx (fun n' hn' hm' => ?_); cbv
  refine Test.neq (fun h => ?_) (fun h => ?_) <;> cbv
  · exact Done.no fun e => h (by subst e; lia)
  refine ALoop.goS (ι := Int) (fun i => [(5, .int .i64 i)]) [] (fun i => []) (fun i => 0 <= i /\ i <= n /\ ∀ j : Nat, (j : Int) < i -> l[j]? = l'[j]?) (fun i => (n - i).toNat) (0) S.cx.tab S.cx.mix S.eq ?_ ?_ ?_
  · exact ⟨Int.le_refl _, by lia, fun j hj => by lia⟩
  · (cbv; exact Less.toA [])
  rintro i ⟨h1, h2, h3⟩
  refine Rnd.mk ?_; cbv
  refine LenR.enc S.cx (fun q hq hmq => ?_); cbv
  refine Test.lss (fun h => ?_) (fun h => ?_) <;> cbv
  rotate_left
  · exact Done.yes (ext_lt (by lia) fun j hj => h3 j (by lia))
  try (refine Drawn.mk ⟨by kernel_rfl, fun _ => ?_⟩)
  refine ElemRo.enc S.cx (fun _ => rfl) (by lia) (by lia) (fun x hx => ?_); cbv
  refine ElemRo.enc S.cx (fun _ => rfl) (by lia) (by lia) (fun y hy => ?_); cbv
  refine ACall.testD (dp := false) (eqInsS_c S x y) .go rfl (fun h => ?_) (fun h => ?_) <;> cbv
  rotate_left
  · exact Done.no fun e => h (by subst e; rw [hx] at hy; exact Option.some.inj hy)
  have hxy : l[i.toNat]? = l'[i.toNat]? := by rw [hx, hy, h]
  refine Arith.go (by simp only [maxLen] at hmq; lia) (fun i' hi' => ?_); cbv
  refine Again.on i' (by lia) ⟨by lia, by lia, fun j hj => ?_⟩ ?_
  · by_cases hji : (j : Int) = i
    · have : j = i.toNat := by lia
      rw [this]; exact hxy
    · exact h3 j (by lia)
  · (cbv; exact Less.toA [])

theorem szGroupS_c (S : Se P A) (l : List (Group)) (left0 : Int) (h0 : 0 <= left0) : Nums P 41 [.ro (A.enc (roGroup A) l), .int .i64 left0] (fun n => n = -1 ∨ 0 <= n /\ n = left0 - (l.length + sumBy (fun g : Group => g.waits.length) l)) := by
  refine S.cx.by (S.prog ▸ Tryz.func41) rfl rfl rfl rfl (fun hv ho => ?_)
  cbv
  have hl := (hv (.int .i64 left0) (by simp)).i64
  refine LenR.nat S.cx (fun n hn hm => ?_); cbv
  refine Arith.go (by lia) (fun left1 hleft1 => ?_); cbv
  refine Test.lss (fun h => ?_) (fun h => ?_) <;> cbv
  · exact Done.num (.inl rfl)
  have hnn : (n.toNat : Int) = l.length := by lia
  refine ALoop.goS (ι := Int × Int) (fun i => [(5, .int .i64 i.1), (1, .int .i64 i.2)]) [] (fun i => []) (fun i => 0 <= i.1 /\ i.1.toNat <= l.length /\ 0 <= i.2 /\ i.2 = left1 - (sumBy (fun g : Group => g.waits.length) (l.take i.1.toNat) : Nat)) (fun i => (l.length - i.1.toNat)) ((0, left1)) S.cx.tab S.cx.mix S.eq ?_ ?_ ?_
  · exact ⟨Int.le_refl _, Nat.zero_le _, h, by simp [sumBy]⟩
  · (cbv; exact Less.toA [])
  rintro ⟨i, left⟩ ⟨h1, h2, h3, h4⟩
  dsimp only at h1 h2 h3 h4
  refine Rnd.mk ?_; cbv
  refine LenR.nat S.cx (fun n' hn' hm' => ?_); cbv
  refine Test.lss (fun h5 => ?_) (fun h5 => ?_) <;> cbv
  · refine ElemRo.enc S.cx (fun _ => rfl) (by lia) (by lia) (fun x hx => ?_); cbv
    have hnx : ∀ i', i' = i + 1 -> sumBy (fun g : Group => g.waits.length) (l.take i'.toNat) = sumBy (fun g : Group => g.waits.length) (l.take i.toNat) + x.waits.length := fun i' hi' => sumBy_next h1 hx hi'
    refine ACall.num (dp := false) (szGroup_c S x left (by lia)) .go (fun q hq => ?_); cbv
    refine Test.lss (fun h2 => ?_) (fun h2 => ?_) <;> cbv
    · exact Done.num (.inl rfl)
    replace hq : q = left - x.waits.length := by simp only [Group.total] at hq; lia
    refine Arith.go (by lia) (fun i' hi' => ?_); cbv
    refine Again.on (i', q) (by dsimp only; lia) ⟨by dsimp only; lia, by dsimp only; lia, by dsimp only; lia, by dsimp only; rw [hnx i' hi']; lia⟩ ?_
    (cbv; exact Less.toA [])
  · rw [take_all (by lia)] at h4
    exact Done.num (.inr ⟨h3, by rw [h4, hleft1]; lia⟩)

theorem eqGroupS_c (S : Se P A) (l l' : List (Group)) : Tests P 68 [.ro (A.enc (roGroup A) l), .ro (A.enc (roGroup A) l')] (l = l') := by
  refine S.cx.by (S.prog ▸ Tryz.func68) rfl rfl rfl rfl (fun hv ho => ?_)
  cbv
  refine LenR.enc S.cx (fun n hn hm => ?_); cbv
  refine LenR.enc S.cx (fun n' hn' hm' => ?_); cbv
  refine Test.neq (fun h => ?_) (fun h => ?_) <;> cbv
  · exact Done.no fun e => h (by subst e; lia)
  refine ALoop.goS (ι := Int) (fun i => [(5, .int .i64 i)]) [] (fun i => []) (fun i => 0 <= i /\ i <= n /\ ∀ j : Nat, (j : Int) < i -> l[j]? = l'[j]?) (fun i => (n - i).toNat) (0) S.cx.tab S.cx.mix S.eq ?_ ?_ ?_
  · exact ⟨Int.le_refl _, by lia, fun j hj => by lia⟩
  · (cbv; exact Less.toA [])
  rintro i ⟨h1, h2, h3⟩
  refine Rnd.mk ?_; cbv
  refine LenR.enc S.cx (fun q hq hmq => ?_); cbv
  refine Test.lss (fun h => ?_) (fun h => ?_) <;> cbv
  rotate_left
  · exact Done.yes (ext_lt (by lia) fun j hj => h3 j (by lia))
  try (refine Drawn.mk ⟨by kernel_rfl, fun _ => ?_⟩)
  refine ElemRo.enc S.cx (fun _ => rfl) (by lia) (by lia) (fun x hx => ?_); cbv
  refine ElemRo.enc S.cx (fun _ => rfl) (by lia) (by lia) (fun y hy => ?_); cbv
  refine ACall.testD (dp := false) (eqGroup_c S x y) .go rfl (fun h => ?_) (fun h => ?_) <;> cbv
  rotate_left
  · exact Done.no fun e => h (by subst e; rw [hx] at hy; exact Option.some.inj hy)
  have hxy : l[i.toNat]? = l'[i.toNat]? := by rw [hx, hy, h]
  refine Arith.go (by simp only [maxLen] at hmq; lia) (fun i' hi' => ?_); cbv
  refine Again.on i' (by lia) ⟨by lia, by lia, fun j hj => ?_⟩ ?_
  · by_cases hji : (j : Int) = i
    · have : j = i.toNat := by lia
      rw [this]; exact hxy
    · exact h3 j (by lia)
  · (cbv; exact Less.toA [])

end Go.Proofs.YtihfpbhalnedcaaGreat.AM
