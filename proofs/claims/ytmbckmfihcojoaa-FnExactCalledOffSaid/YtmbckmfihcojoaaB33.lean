/- The abstract machine, part 33: calls that change three arrays. -/
import Derived.Test.YtmbckmfihcojoaaB32
namespace Go.Proofs.Ytmbckmfihcojoaa.AM
open Go Go.RowKit

set_option linter.unusedVariables false
set_option linter.unusedSimpArgs false

variable {P : Program} {T : Nat → Option TI} {A : Sy}

theorem ACall.mut3 {α β γ : Type} {g : α → List AV} {g' : β → List AV} {g'' : γ → List AV} {s s' s'' : Nat} {fl fl' fl'' : Bool} {e : Int} {l : List α} {l' : List β} {l'' : List γ} {dr : Bool} {f : FuncId} {al dp : Bool} {avs bs : List AV} {objs : List Obj} {lab : Nat} {st : St} {K : AV → Dl → Prop} (h : SoundM P f al bs objs (fun v o => v = .int .i64 e ∧ o = [some (.arr s fl (A.enc g l)), some (.arr s' fl' (A.enc g' l')), some (.arr s'' fl'' (A.enc g'' l''))])) (hg : Gives st al dp avs bs objs) (hn : (!dr || bs.all AV.noR) = true)
    (hk : ∀ x m m' m'', x = e → m = l → m' = l' → m'' = l'' → backChk st (rhoA avs bs) lab objs [some (.arr s fl (A.enc g m)), some (.arr s' fl' (A.enc g' m')), some (.arr s'' fl'' (A.enc g'' m''))] (.int .i64 x) = true ∧ K (.int .i64 x) (backD dp A.len st avs bs objs lab [some (.arr s fl (A.enc g m)), some (.arr s' fl' (A.enc g' m')), some (.arr s'' fl'' (A.enc g'' m''))] (.int .i64 x))) : ACall A dr P f avs lab st K :=
  ACall.val (r := fun x : Int × List α × List β × List γ => AV.int .i64 x.1) (os := fun x => [some (.arr s fl (A.enc g x.2.1)), some (.arr s' fl' (A.enc g' x.2.2.1)), some (.arr s'' fl'' (A.enc g'' x.2.2.2))]) (e := (e, l, l', l'')) h hg hn fun x hx => by subst hx; exact hk _ _ _ _ rfl rfl rfl rfl

end Go.Proofs.Ytmbckmfihcojoaa.AM
