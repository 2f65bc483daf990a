/- Contracts: the laws' own helpers: records of slices. (printed by gen2.py) -/
import Derived.Test.YtmpbmfhlkhonkaaD2
import Derived.Test.YtmpbmfhlkhonkaaG2
import Derived.Test.YtmpbmfhlkhonkaaG3
import Derived.Test.YtmpbmfhlkhonkaaG4
import Derived.Test.YtmpbmfhlkhonkaaGE
namespace Go.Proofs.Ytmpbmfhlkhonkaa.AM
open Go Go.Proofs

set_option maxRecDepth 100000
set_option linter.unusedVariables false
set_option linter.unusedSimpArgs false

variable {P : Program} {A : Sy}

theorem marks_of {α : Type} {m : Int → α} {w k : Int} {l : List α} (h : l = marks m w k l.length) : ∀ (j : Nat) (x : α), l[j]? = some x → x = m (k + w * j) := fun j x hx => by
  have hj := (List.getElem?_eq_some_iff.1 hx).1
  rw [h, marks_get _ _ _ hj] at hx
  exact (Option.some.inj hx).symm

theorem toGroup_c (S : Se P A) (x : Group) (hb : x.few 4294967296) : Is1 P 26 [.agg (roGroup A x)] (.agg (ownGroup A x)) := by
  obtain ⟨node, limit, active, waits, first⟩ := x
  have b_waits : waits.length ≤ 4294967296 := hb
  refine S.cx.by (S.prog ▸ Try.func26) rfl rfl rfl rfl (fun hv ho => ?_)
  cbv
  refine ACall.own (dp := false) S.cx (toInt64S_c S waits b_waits) ⟨rfl, ?_, trivial⟩ rfl rfl (fun waits0 n_waits e_waits l_waits => ?_)
  · repeat' (first | exact trivial | exact rfl | refine ⟨?_, ?_⟩)
  subst e_waits
  cbv
  exact Done.to (.agg (ownGroup A ⟨node, limit, active, waits0, first⟩)) [] rfl ⟨rfl, rfl, rfl, resOwn S.cx rfl l_waits, rfl, trivial⟩ trivial ⟨rfl, rfl⟩

theorem szGroup_c (S : Se P A) (x : Group) (left : Int) (h0 : 0 ≤ left) : Nums P 24 [.agg (roGroup A x), .int .i64 left] (fun n => n = -1 ∨ 0 ≤ n ∧ n = left - x.total) := by
  obtain ⟨node, limit, active, waits, first⟩ := x
  refine S.cx.by (S.prog ▸ Try.func24) rfl rfl rfl rfl (fun hv ho => ?_)
  cbv
  refine ACall.int (dp := false) (szInt64S_c S waits left (by lia)) ⟨rfl, ?_, trivial⟩ rfl (fun q_waits h_waits => ?_)
  · repeat' (first | exact trivial | exact rfl | refine ⟨?_, ?_⟩)
  cbv
  refine Test.lss (fun h => ?_) (fun h => ?_) <;> cbv
  · exact Done.num (.inl rfl)
  have h_waits : q_waits = left - waits.length := by split at h_waits <;> lia
  exact Done.num (.inr ⟨by lia, by simp only [Group.total]; lia⟩)

theorem eqGroup_c (S : Se P A) (x y : Group) : Tests P 28 [.agg (roGroup A x), .agg (roGroup A y)] (x = y) := by
  obtain ⟨node, limit, active, waits, first⟩ := x
  obtain ⟨node', limit', active', waits', first'⟩ := y
  refine S.cx.by (S.prog ▸ Try.func28) rfl rfl rfl rfl (fun hv ho => ?_)
  cbv
  refine Test.neq (fun h => ?_) (fun h => ?_) <;> cbv
  · exact Done.no fun e => h (by cases e; rfl)
  subst h
  refine Test.neq (fun h => ?_) (fun h => ?_) <;> cbv
  · exact Done.no fun e => h (by cases e; rfl)
  subst h
  refine Test.neq (fun h => ?_) (fun h => ?_) <;> cbv
  · exact Done.no fun e => h (by cases e; rfl)
  subst h
  refine ACall.testD (dp := false) (eqInt64S_c S waits waits') ⟨rfl, ?_, trivial⟩ rfl (fun h => ?_) (fun h => ?_)
  · repeat' (first | exact trivial | exact rfl | refine ⟨?_, ?_⟩)
  rotate_left
  · cbv
    exact Done.no fun e => h (by cases e; rfl)
  cases h
  cbv
  refine Test.neq (fun h => ?_) (fun h => ?_) <;> cbv
  · exact Done.no fun e => h (by cases e; rfl)
  subst h
  exact Done.yes rfl

theorem markGroup_c (S : Se P A) (node : Int) (limit : Int) (active : Int) (waits : List Int) (first : Int) (n_waits : Nat) (hn_waits : n_waits = waits.length) (k : Int) (h0 : 0 ≤ k) (hk : k + 1 * (n_waits : Int) ≤ 4611686018427387904) : SoundM P 50 false [.agg [.int .i64 node, .int .i64 limit, .int .i64 active, .ref false 1000 0 n_waits, .int .i64 first], .int .i64 k] [.arr 1 true (A.enc cInt64 waits)]
    (fun v os => v = .int .i64 (k + 1 * (n_waits : Int)) ∧ os = [some (.arr 1 true (A.enc cInt64 (marks mInt64 1 (k) n_waits)))]) := by
  refine S.cx.by (S.prog ▸ Try.func50) rfl rfl rfl rfl (fun hv ho => ?_)
  cbv
  refine ACall.mut1 (dp := false) (markInt64S_c S waits n_waits hn_waits k (by lia) (by lia)) ⟨rfl, ?_, ?_⟩ rfl (fun q_waits m_waits h_waits e_waits => ⟨rfl, ?_⟩)
  · repeat' (first | exact trivial | exact rfl | refine ⟨?_, ?_⟩)
  · repeat' (first | exact trivial | exact rfl | exact Nat.le_refl _ | exact S.cx.giveEq | refine ⟨?_, ?_⟩)
  cbv
  refine Done.to (.int .i64 q_waits) [some (.arr 1 true (A.enc cInt64 m_waits))] rfl rfl ?_ ⟨by first | (congr 1; done) | (congr 1; lia), ?_⟩
  · repeat' (first | exact trivial | exact rfl | refine ⟨?_, ?_⟩)
  · rw [e_waits]

theorem heldGroup_c (S : Se P A) (x : Group) (k : Int) (h0 : 0 ≤ k) (hk : k + 1 * (x.waits.length : Int) ≤ 4611686018427387904) (h_waits : x.waits = marks mInt64 1 (k) x.waits.length) : Is1 P 51 [.agg (roGroup A x), .int .i64 k] (.int .i64 (k + 1 * (x.waits.length : Int))) := by
  obtain ⟨node, limit, active, waits, first⟩ := x
  dsimp only at *
  refine S.cx.by (S.prog ▸ Try.func51) rfl rfl rfl rfl (fun hv ho => ?_)
  cbv
  refine ACall.int (dp := false) (heldInt64S_c S waits k (by lia) (by lia) (marks_of (by rw [show k = k by lia]; exact h_waits))) ⟨rfl, ?_, trivial⟩ rfl (fun q_waits hq_waits => ?_)
  · repeat' (first | exact trivial | exact rfl | refine ⟨?_, ?_⟩)
  cbv
  refine Test.lss (fun h => ?_) (fun h => ?_) <;> cbv
  · lia
  exact Done.to (.int .i64 q_waits) [] rfl rfl trivial ⟨by first | (congr 1; done) | (congr 1; lia), rfl⟩

end Go.Proofs.Ytmpbmfhlkhonkaa.AM
