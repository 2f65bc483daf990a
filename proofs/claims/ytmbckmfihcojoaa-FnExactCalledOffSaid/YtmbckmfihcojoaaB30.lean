/- The abstract machine, part 30: clearing; bodies whose given variables hold own slices. -/
import Derived.Test.YtmbckmfihcojoaaB29
namespace Go.Proofs.Ytmbckmfihcojoaa.AM
open Go Go.RowKit

set_option linter.unusedVariables false
set_option linter.unusedSimpArgs false

variable {P : Program} {T : Nat → Option TI} {A : Sy}

theorem Clear.enc (C : Cx P T A) {α : Type} {f : α → List AV} {l : List α} {off len s size : Nat} {us : List AV} {K : List (List AV) → Prop} (z : α) (hz : f z = us) (hs : s = size) (hl : off + len ≤ l.length)
    (h : ∀ l', l' = l.take off ++ List.replicate len z ++ l.drop (off + len) → K (A.enc f l')) : Clear off len s size (A.enc f l) us K := by
  refine ⟨hs, by rw [C.lenE']; exact hl, ?_⟩
  have := h _ rfl
  rw [C.enc] at this ⊢
  rw [List.map_append, List.map_append, List.map_take, List.map_drop, List.map_replicate, hz] at this
  rw [setMany, List.length_replicate]; exact this

theorem Cx.byN (C : Cx P T A) {f : FuncId} {fn : Func} {c : Code} {n : Nat} {rs : List ResultVar} {al : Bool} {args : List AV} {objs : List Obj} {R : AV → List (Option Obj) → Prop} (hf : P.funcs[f]? = some fn) (hb : fn.body = some c) (hn : fn.ntmps = n) (hr : fn.results.toList = rs)
    (hname : (fn.name == "runtime.NumGoroutine") = false) (h : ∀ ln : List (List AV) → Nat, (∀ {α : Type} (f : α → List AV) (l : List α), ln (A.enc f l) = l.length) → (∀ v ∈ args, v.real) → (∀ k o, lk (flats List.length 0 objs) k = some o → o.real) → vc A P T c (entryM ln n args objs) (endsVC T rs al objs R)) : SoundM P f al args objs R :=
  C.by hf hb hn hr hname (h A.len C.lenE)

theorem ACall.valX {ι : Type} {r : ι → AV} {os : ι → List (Option Obj)} {e : ι} {dr : Bool} {f : FuncId} {al dp : Bool} {avs bs : List AV} {objs : List Obj} {lab : Nat} {st : St} {K : AV → Dl → Prop} (C : Cx P T A) (h : SoundM P f al bs objs (fun v o => v = r e ∧ o = os e)) (hg : Gives st al dp avs bs objs) (hn : (!dr || bs.all AV.noR) = true)
    (hk : ∀ (ln : List (List AV) → Nat), (∀ {α : Type} (f : α → List AV) (l : List α), ln (A.enc f l) = l.length) → ∀ x, x = e → backChk st (rhoA avs bs) lab objs (os x) (r x) = true ∧ K (adopt ln lab (r x)) (backD dp ln st avs bs objs lab (os x) (r x))) : ACall A dr P f avs lab st K :=
  ACall.valN (r := r) (os := os) C h hg hn hk

end Go.Proofs.Ytmbckmfihcojoaa.AM
