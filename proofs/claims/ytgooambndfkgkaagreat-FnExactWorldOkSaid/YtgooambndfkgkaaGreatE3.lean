/- Contracts: heaps joined. (printed by ge3.py) -/
import Derived.Test.YtgooambndfkgkaaGreatE2
import Derived.Test.YtgooambndfkgkaaGreatBC
namespace Go.Proofs.YtgooambndfkgkaaGreat.AM
open Go Go.Proofs

set_option maxRecDepth 100000
set_option maxHeartbeats 4000000
set_option linter.unusedVariables false
set_option linter.unusedSimpArgs false

variable {P : Program} {A : Sy}

theorem resPart2 {T : Nat → Option TI} (C : Cx P T A) {al : Bool} {st : St} {p : Bool} {id s : Nat} {α : Type} {f : α → List AV} {rows : List (List AV)} (hq : lk st.sto id = some (.arr s true rows)) : resOk al st (.ref p id 0 0) (.own s true (A.enc f ([] : List α))) := by
  show resCell al st (.ref p id 0 0) (.own s true (A.enc f ([] : List α)))
  simp only [resCell, hq]
  exact ⟨⟨trivial, trivial⟩, ⟨Nat.zero_le _, by rw [C.enc]; rfl⟩, trivial⟩

theorem AOp.appendMakeN (lab : Nat) {T : Nat → Option TI} {o : Oper} {st : St} {K : AV → Dl → Prop} {t ti e : Nat} {i j i2 : TI} {x y : Operand} {k k' : IntKind} {n : Int} {us : List AV} (h : TabOk P T) (hti : T t = some i) (hd : i.desc = .slice e) (hj : T e = some j) (hpos : 0 < j.size) (hby : 0 < j.bytes)
    (ht2 : T ti = some i2) (hd2 : i2.desc = .int k)
    (ho : o.op = .call { callee := .builtin .append, args := #[x, y], argTypes := #[t, ti] }) (hu : st.used.elem lab = false) (hx : st.ev x = .nilS) (hy : st.ev y = .int k' n) (h0 : 0 < n) (hb : n.toNat * j.bytes ≤ maxBytes) (hz : cellsOf j.flat j.zero = some us)
    (hk : ∀ (N : Nat) (rows : List (List AV)), N = n.toNat → rows.length = N → K (.ref false lab 0 N) ⟨[(lab, some (.arr j.size j.flat rows))], [lab], []⟩) : AOp P o st K :=
  .appendMake lab h hti hd hj hpos hby ht2 hd2 ho hu hx hy h0 hb hz (hk _ _ rfl (List.length_replicate ..))

end Go.Proofs.YtgooambndfkgkaaGreat.AM
