/- Contracts: heaps joined. (printed by ge4.py) -/
import Derived.Test.YtgooambndfkgkaaGreatE3
namespace Go.Proofs.YtgooambndfkgkaaGreat.AM
open Go Go.Proofs

set_option maxRecDepth 100000
set_option maxHeartbeats 4000000
set_option linter.unusedVariables false
set_option linter.unusedSimpArgs false

variable {P : Program} {A : Sy}

theorem LenR.three {x y z : List AV} {K : Int → Prop} (h : K 3) : LenR false [x, y, z] K := ⟨nofun, fun _ => h⟩
theorem ElemRo.lit {rows : List (List AV)} {size : Nat} {n : Int} {K : List AV → Prop} (r : List AV) (h0 : 0 ≤ n) (h : rows[n.toNat]? = some r) (hs : r.length = size) (hk : K r) : ElemRo rows size n K := ⟨⟨h0, r, h, hs, hk⟩⟩

end Go.Proofs.YtgooambndfkgkaaGreat.AM
