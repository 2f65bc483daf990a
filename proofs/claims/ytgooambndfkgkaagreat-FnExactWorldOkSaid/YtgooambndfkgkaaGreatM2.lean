/- What the program's functions compute: groups. -/
import Derived.Test.YtgooambndfkgkaaGreatPL
namespace Go.Proofs.YtgooambndfkgkaaGreat.AM
open Go Go.Proofs

set_option linter.unusedVariables false

def GroupOk (g : Group) : Prop :=
  (0 ≤ g.node ∧ g.node ≤ 59) ∧ (0 ≤ g.limit ∧ g.limit ≤ 20) ∧ (0 ≤ g.active ∧ g.active ≤ 60) ∧ ¬ (0 < g.limit ∧ g.limit < g.active) ∧ (0 ≤ g.first ∧ g.first ≤ 99) ∧
    (∀ t ∈ g.waits, 0 ≤ t ∧ t ≤ 59) ∧ g.waits.Nodup ∧ (g.waits = [] ∨ 0 < g.limit ∧ g.active = g.limit)

instance (g : Group) : Decidable (GroupOk g) := by unfold GroupOk; infer_instance

def Room (g : Group) : Prop := (g.limit = 0 ∨ g.active < g.limit) ∧ g.active < 60

instance (g : Group) : Decidable (Room g) := by unfold Room; infer_instance

def group0 : Group := ⟨0, 0, 0, [], 0⟩

def Entered (g : Group) : Group × Bool :=
  if GroupOk g then (if Room g then ({ g with active := g.active + 1 }, true) else (g, false)) else (group0, false)

def Lined (g : Group) (t : Int) : Group × Bool :=
  if GroupOk g then (if ¬ Room g ∧ GroupOk { g with waits := g.waits ++ [t] } then ({ g with waits := g.waits ++ [t] }, true) else (g, false)) else (group0, false)

def errFirst (first err : Int) : Int := if first = 0 ∧ err ≠ 0 then err else first

def LeftBy (g : Group) (err : Int) : Group × Bool × Bool :=
  if GroupOk g then (if g.active ≠ 0 ∧ g.waits = [] ∧ 0 ≤ err ∧ err ≤ 99 then ({ g with active := g.active - 1, first := errFirst g.first err }, true, decide (g.first = 0 ∧ err ≠ 0)) else (g, false, false)) else (group0, false, false)

def Passed (g : Group) (err : Int) : Group × Int × Bool × Bool :=
  if GroupOk g then (if g.active ≠ 0 ∧ g.waits ≠ [] ∧ 0 ≤ err ∧ err ≤ 99 then ({ g with waits := g.waits.tail, first := errFirst g.first err }, g.waits.headD 0, true, decide (g.first = 0 ∧ err ≠ 0)) else (g, -1, false, false)) else (group0, -1, false, false)

end Go.Proofs.YtgooambndfkgkaaGreat.AM
