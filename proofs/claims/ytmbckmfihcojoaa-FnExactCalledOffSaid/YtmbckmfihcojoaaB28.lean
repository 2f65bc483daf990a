/- The abstract machine, part 28: appending to a whole own slice. -/
import Derived.Test.YtmbckmfihcojoaaB27
namespace Go.Proofs.Ytmbckmfihcojoaa.AM
open Go Go.RowKit

set_option linter.unusedVariables false
set_option linter.unusedSimpArgs false

variable {P : Program} {T : Nat → Option TI} {A : Sy}

theorem AppRef.push (C : Cx P T A) {α : Type} {f : α → List AV} {l : List α} (x : α) {ys : List (List AV)} {kd : SK} {fl p : Bool} {len s size bytes : Nat} {K : Bool → Nat → List (List AV) → Prop} (hN : len = l.length) (hy : ys = [f x]) (hs : s = size) (hp : Plain f) (hsz : ∀ x, (f x).length = size) (hb : (l.length + 1) * bytes ≤ maxBytes)
    (h : ∀ (n : Nat) (l' : List α), l' = l ++ [x] → n = l'.length → K false n (A.enc f l')) : AppRef kd fl p 0 len s size bytes (A.enc f l) ys K :=
  AppRef.one C x hy hs hp hsz (by omega) (by rw [hN]; exact hb) fun n l' hn hl => by
    have hl : l' = l ++ [x] := by rw [hl, hN, List.drop_zero, List.take_length]
    exact h n l' hl (by rw [hn, hl, hN]; simp)

theorem AppRef.pushAll (C : Cx P T A) {α : Type} {f : α → List AV} {l m : List α} {kd : SK} {fl p : Bool} {len s size bytes : Nat} {K : Bool → Nat → List (List AV) → Prop} (hN : len = l.length) (hs : s = size) (hp : Plain f) (hsz : ∀ x, (f x).length = size) (hb : (l.length + m.length) * bytes ≤ maxBytes)
    (h : ∀ (n : Nat) (l' : List α), l' = l ++ m → n = l'.length → K false n (A.enc f l')) : AppRef kd fl p 0 len s size bytes (A.enc f l) (A.enc f m) K :=
  AppRef.enc C hs hp hsz (by omega) (by rw [hN]; exact hb) fun n l' hn hl => by
    have hl : l' = l ++ m := by rw [hl, hN, List.drop_zero, List.take_length]
    exact h n l' hl (by rw [hn, hl, hN]; simp)

/-- An empty slice in a slot as a part of a new empty array of typed things. -/
theorem Less.initE (C : Cx P T A) {α : Type} (f : α → List AV) (L sz : Nat) (fl : Bool) {s : St} {t : Nat} {v : AV} (hv : lk s.tmps t = some v) (h : v = .nilS ∨ v = .emp) (hu : s.used.elem L = false) :
    Less s { s with tmps := (t, .ref false L 0 0) :: s.tmps, sto := (L, .arr sz fl (A.enc f [])) :: s.sto, used := L :: s.used } := by
  rw [show A.enc f [] = [] from C.enc f []]
  exact Less.init L sz fl hv h hu

/-- Only what is told last of each. -/
def dedupL {α : Type} : List (Nat × α) → List (Nat × α)
  | [] => []
  | (k, v) :: r => (k, v) :: rmL [k] (dedupL r)

def havD (s : St) (ds ks : List Nat) (ts : List (Nat × AV)) (os : List (Nat × Obj)) : St := { s with tmps := ts ++ dedupL (rmL ds s.tmps), sto := os ++ dedupL (rmL ks s.sto) }

/-- A loop: what it writes is told anew at its head, the rest stands. -/
theorem ALoop.goD {ι : Type} (ts : ι → List (Nat × AV)) (ks : List Nat) (os : ι → List (Nat × Obj)) (I : ι → Prop) (μ : ι → Nat) (i₀ : ι) (htab : TabOk P T) (hm : P.follows .mixedOrders = true) {c : Code} {Q : Exit → St → Prop} {s : St} {A : Sy} (hA : A = sy)
    (h₀ : I i₀) (hst : Less s (havD s (dsts c) ks (ts i₀) (os i₀)))
    (round : ∀ i, I i → vc A P T c (havD s (dsts c) ks (ts i) (os i)) (loopVC (fun i => havD s (dsts c) ks (ts i) (os i)) I μ i Q)) : ALoop P c Q s :=
  ALoop.ind _ I μ i₀ htab hm hA hst h₀ round

/-- A call that gives such a thing; lengths are told by an unknown measure, so that they can be given names. -/
theorem ACall.valN {ι : Type} {r : ι → AV} {os : ι → List (Option Obj)} {e : ι} {dr : Bool} {f : FuncId} {al dp : Bool} {avs bs : List AV} {objs : List Obj} {lab : Nat} {st : St} {K : AV → Dl → Prop} (C : Cx P T A) (h : SoundM P f al bs objs (fun v o => v = r e ∧ o = os e)) (hg : Gives st al dp avs bs objs) (hn : (!dr || bs.all AV.noR) = true)
    (hk : ∀ (ln : List (List AV) → Nat), (∀ {α : Type} (f : α → List AV) (l : List α), ln (A.enc f l) = l.length) → ∀ x, x = e → backChk st (rhoA avs bs) lab objs (os x) (r x) = true ∧ K (adopt ln lab (r x)) (backD dp ln st avs bs objs lab (os x) (r x))) : ACall A dr P f avs lab st K :=
  ACall.val (r := r) (os := os) h hg hn fun x hx => hk A.len C.lenE x hx

theorem Cx.partLe (C : Cx P T A) {α : Type} {f : α → List AV} {l : List α} {off n : Nat} (h : off + n ≤ l.length) : off + n ≤ (A.enc f l).length := by rw [C.lenE']; exact h
theorem Cx.partEq (C : Cx P T A) {α : Type} {f : α → List AV} {l m : List α} {off n : Nat} (h : m = (l.drop off).take n) : A.enc f m = ((A.enc f l).drop off).take n := by rw [h, C.enc, C.enc, List.map_take, List.map_drop]

end Go.Proofs.Ytmbckmfihcojoaa.AM
