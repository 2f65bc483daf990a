/- Contracts: Seqs in heaps; valid heaps. (printed by ge6.py) -/
import Derived.Test.YtgooambndfkgkaaGreatE5
namespace Go.Proofs.YtgooambndfkgkaaGreat.AM
open Go Go.Proofs

set_option maxRecDepth 100000
set_option maxHeartbeats 4000000
set_option linter.unusedVariables false
set_option linter.unusedSimpArgs false

variable {P : Program} {A : Sy}

theorem seqAt1_c (S : Se P A) (q : Int) (x : Twig) : Tests P 278 [.agg (cTwig x), .rptr [.int .i64 q]] (x.seq = q) := by
  refine S.cx.by (S.prog ▸ Tryz.func278) rfl rfl rfl rfl (fun hv ho => ?_)
  cbv
  refine Test.eql (fun h => ?_) (fun h => ?_) <;> cbv
  · exact Done.yes h
  · exact Done.no h

def seqIdx (l : List Twig) (q : Int) : Int := match l.findIdx? (fun x => decide (x.seq = q)) with
  | some k => (k : Int)
  | none => -1

theorem seqIdx_le (l : List Twig) (q : Int) : 0 ≤ seqIdx l q ↔ q ∈ l.map (·.seq) := by
  unfold seqIdx
  split
  · rename_i k hk
    obtain ⟨h, h1, _⟩ := List.findIdx?_eq_some_iff_getElem.1 hk
    exact ⟨fun _ => List.mem_map.2 ⟨_, List.getElem_mem h, of_decide_eq_true h1⟩, fun _ => Int.natCast_nonneg _⟩
  · rename_i hk
    refine ⟨fun h => absurd h (by decide), fun h => ?_⟩
    obtain ⟨x, hx, e⟩ := List.mem_map.1 h
    have := List.findIdx?_eq_none_iff.1 hk x hx
    exact absurd e (of_decide_eq_false this)

theorem seqAt_c (S : Se P A) (l : List Twig) (q : Int) : Is1 P 236 [.ro (A.enc cTwig l), .int .i64 q] (.int .i64 (seqIdx l q)) := by
  refine SoundM.knownH (p := fun r => 0 ≤ r ∧ (∃ x, l[r.toNat]? = some x ∧ x.seq = q) ∧ Upto (fun _ x => ¬ x.seq = q) l r ∨ r = -1 ∧ ∀ x ∈ l, ¬ x.seq = q) ?_ (fun n h => ?_)
  rotate_left
  · rcases h with ⟨h0, ⟨x, hx, hq⟩, hu⟩ | ⟨rfl, h⟩
    · have : l.findIdx? (fun x => decide (x.seq = q)) = some n.toNat := by
        obtain ⟨hl, hg⟩ := List.getElem?_eq_some_iff.1 hx
        refine List.findIdx?_eq_some_iff_getElem.2 ⟨hl, by simp [hg, hq], fun j hj => ?_⟩
        have := hu j l[j] (by omega) (List.getElem?_eq_getElem (by omega))
        simpa using this
      unfold seqIdx; rw [this]; dsimp only; omega
    · have : l.findIdx? (fun x => decide (x.seq = q)) = none := List.findIdx?_eq_none_iff.2 fun x hx => decide_eq_false (h x hx)
      unfold seqIdx; rw [this]
  refine S.cx.by (S.prog ▸ Tryz.func236) rfl rfl rfl rfl (fun hv ho => ?_)
  cbv
  refine ACall.num (dp := false) (indexFuncTwig1_c S _ _ _ (seqAt1_c S q) l) ⟨rfl, (by repeat' (first | exact trivial | exact rfl | exact Nat.le_refl _ | exact S.cx.giveEq | exact S.cx.lendLe (by assumption) | exact S.cx.lendEq (by assumption) | exact S.cx.lendLe0 | exact S.cx.lendEq0 | exact S.cx.partLe (by assumption) | exact S.cx.partEq (by assumption) | exact S.cx.enc _ [] | exact .inl rfl | refine ⟨?_, ?_⟩)), (by repeat' (first | exact trivial | exact rfl | exact Nat.le_refl _ | exact S.cx.giveEq | exact S.cx.lendLe (by assumption) | exact S.cx.lendEq (by assumption) | exact S.cx.lendLe0 | exact S.cx.lendEq0 | exact S.cx.partLe (by assumption) | exact S.cx.partEq (by assumption) | exact S.cx.enc _ [] | exact .inl rfl | refine ⟨?_, ?_⟩))⟩ (fun r hr => ?_); cbv
  exact Done.num hr

end Go.Proofs.YtgooambndfkgkaaGreat.AM
