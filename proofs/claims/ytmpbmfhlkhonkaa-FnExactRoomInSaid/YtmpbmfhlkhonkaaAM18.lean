/- The abstract machine, part 18: a law's row out of its contract. -/
import Derived.Test.YtmpbmfhlkhonkaaAM17
import Derived.ProofKit
namespace Go.Proofs.Ytmpbmfhlkhonkaa.AM
open Go Go.RowKit Go.ChangeShapes

set_option linter.unusedVariables false
set_option linter.unusedSimpArgs false

theorem law_post {H : Type} {enc : TypeId × Value → H} {P : Program} {f : Func} {s : ChangeSpec} {apart fresh handsOn : Bool} {t tb : TypeId} {W W' : World} {args : Array Value} {ds gs : List (DataW H)} {before : List MemPlace}
    (hfp : f.params = #[t]) (hfr : f.resultTypes = #[tb]) (hb : P.underlying tb = some .bool) (hv : s.vars = []) (hs : ∀ d, s.fn H [d] = { results := [.lit (.bool true)], args := [d] })
    (hl : laidOutB P = true) (hrd : P.readableRec t = true) (ht : t < P.types.size) (hW : DataW.Whole enc P f.params.toList s.vars apart W args.toList ds gs before) (hbel : Below W.heap.size W W') :
    s.post enc P f apart fresh handsOn false W args (.bool true) W' := by
  have hW' := hW
  obtain ⟨p, q, hA, hV, hbef, hfz, hnd⟩ := hW
  rw [hfp] at hA
  rw [hv] at hV
  obtain ⟨v, d, rfl, rfl, hd⟩ := trodAll_one hA
  obtain ⟨rfl, rfl⟩ := trodVars_none hV
  refine ⟨[d], [], before, [], p, [], hW', ?_, ?_, ?_, hbel.frame _, fun e => by cases e⟩
  · rw [hfr, show ([d] ++ [] : List (DataW H)) = [d] from rfl, hs]
    exact trodAll_mk1 (shut_bool hb true)
  · rw [hfp, show ([d] ++ [] : List (DataW H)) = [d] from rfl, hs]
    refine trodAll_mk1 (hbel.trod hl hrd ht hd fun x hx => hW'.lt x ?_)
    rw [hbef]; simpa using hx
  · rw [hv, show ([d] ++ [] : List (DataW H)) = [d] from rfl, hs]
    trivial

section
variable {T : Nat → Option TI} {t : Nat} {i : TI} {avs : List AV}
theorem Shape.isInt {k : IntKind} (h : Shape T t avs) (hi : T t = some i) (hd : i.desc = .int k) : ∃ n, avs = [.int k n] := by
  cases h with
  | int _ i' k' n h1 h2 => rw [hi] at h1; obtain rfl := Option.some.inj h1; rw [hd] at h2; cases h2; exact ⟨n, rfl⟩
  | bool _ i' b h1 h2 => rw [hi] at h1; obtain rfl := Option.some.inj h1; rw [hd] at h2; cases h2
  | slice _ e i' rows h1 h2 h3 => rw [hi] at h1; obtain rfl := Option.some.inj h1; rw [hd] at h2; cases h2
  | strct _ i' fs avs h1 h2 h3 => rw [hi] at h1; obtain rfl := Option.some.inj h1; rw [hd] at h2; cases h2
theorem Shape.isBool (h : Shape T t avs) (hi : T t = some i) (hd : i.desc = .bool) : ∃ b, avs = [.bool b] := by
  cases h with
  | int _ i' k' n h1 h2 => rw [hi] at h1; obtain rfl := Option.some.inj h1; rw [hd] at h2; cases h2
  | bool _ i' b h1 h2 => exact ⟨b, rfl⟩
  | slice _ e i' rows h1 h2 h3 => rw [hi] at h1; obtain rfl := Option.some.inj h1; rw [hd] at h2; cases h2
  | strct _ i' fs avs h1 h2 h3 => rw [hi] at h1; obtain rfl := Option.some.inj h1; rw [hd] at h2; cases h2
theorem Shape.isSlice {e : Nat} (h : Shape T t avs) (hi : T t = some i) (hd : i.desc = .slice e) : ∃ rows, avs = [.ro rows] ∧ ∀ r ∈ rows, Shape T e r := by
  cases h with
  | int _ i' k' n h1 h2 => rw [hi] at h1; obtain rfl := Option.some.inj h1; rw [hd] at h2; cases h2
  | bool _ i' b h1 h2 => rw [hi] at h1; obtain rfl := Option.some.inj h1; rw [hd] at h2; cases h2
  | slice _ e i' rows h1 h2 h3 => rw [hi] at h1; obtain rfl := Option.some.inj h1; rw [hd] at h2; cases h2; exact ⟨rows, rfl, h3⟩
  | strct _ i' fs avs h1 h2 h3 => rw [hi] at h1; obtain rfl := Option.some.inj h1; rw [hd] at h2; cases h2
theorem Shape.isStruct {fs : List (Nat × Nat)} (h : Shape T t avs) (hi : T t = some i) (hd : i.desc = .strct fs) : ShapeF T fs avs := by
  cases h with
  | int _ i' k' n h1 h2 => rw [hi] at h1; obtain rfl := Option.some.inj h1; rw [hd] at h2; cases h2
  | bool _ i' b h1 h2 => rw [hi] at h1; obtain rfl := Option.some.inj h1; rw [hd] at h2; cases h2
  | slice _ e i' rows h1 h2 h3 => rw [hi] at h1; obtain rfl := Option.some.inj h1; rw [hd] at h2; cases h2
  | strct _ i' fs' avs h1 h2 h3 => rw [hi] at h1; obtain rfl := Option.some.inj h1; rw [hd] at h2; cases h2; exact h3
theorem ShapeF.un {o : Nat} {fs : List (Nat × Nat)} (h : ShapeF T ((o, t) :: fs) avs) : ∃ a b, avs = a ++ b ∧ Shape T t a ∧ ShapeF T fs b := by
  cases h with
  | cons _ _ _ a b h1 h2 => exact ⟨a, b, rfl, h1, h2⟩
theorem ShapeF.done (h : ShapeF T [] avs) : avs = [] := by
  cases h; rfl
end

/-- A law's call, out of its contract: its argument a struct. -/
theorem law_calls {H : Type} {enc : TypeId × Value → H} {P : Program} {T : Nat → Option TI} {K : Nat → Prop} (htab : TabOk P T) (hK : ClosedT T K) {f : FuncId} {t : Nat} {i : TI} {fs : List (Nat × Nat)} (hi : T t = some i) (hd : i.desc = .strct fs) (hKt : K t)
    (hS : ∀ avs, Shape T t avs → Sound P f false [.agg avs] (· = .bool true)) {W : World} {base : Nat} {v : Value} {d : DataW H} {ps : List MemPlace} (hval : Value.okWide P W .any base t v) (hdd : DataW.Trod enc P W 0 (fun _ => true) true t v d ps) :
    Calls P f #[v] W fun e W' => e = .returned (.bool true) ∧ Below W.heap.size W W' := by
  obtain ⟨dd, hu, htd⟩ := htab.und hi
  rw [hd] at htd
  have : ∃ fs', dd = .struct fs' := by cases dd <;> simp [tdOf] at htd; exact ⟨_, rfl⟩
  obtain ⟨fs', rfl⟩ := this
  simp only [Value.okWide, hu] at hval
  obtain ⟨cs, rfl, _⟩ := hval
  obtain ⟨fuel, hf⟩ := hdd
  obtain ⟨avs, h1, h2, h3⟩ := reads htab hK fuel t _ _ hKt hf
  have h2' : cs.size = avs.length := by rw [h2]; simp [Value.cells]
  refine ((hS avs h1).2 W (Old W) #[.agg cs] (fun b hb => hb) rfl fun j v x hv hx => ?_).mono ?_
  · cases j with
    | succ j => simp at hv
    | zero =>
      simp at hv hx
      subst hv; subst hx
      refine .agg avs cs h2' (fun j x hx => ?_) (fun j v x hv hx => .base _ _ (h3 j v x hv (by simpa [Value.cells] using hx)).1)
      have hlt : j < avs.length := by rw [← h2']; exact (Array.getElem?_eq_some_iff.1 hx).1
      exact (h3 j _ x (List.getElem?_eq_getElem hlt) (by simpa [Value.cells] using hx)).2
  · rintro e W' ⟨x, v, S', tag', rfl, rfl, hb, _, _, _, hres⟩
    refine ⟨?_, hb⟩
    have : x = .bool true := by
      have hc : Cell2 W' S' tag' 0 (.bool true) x := hres
      rcases hc with h | ⟨_, _, _, h, _⟩
      · cases h; rfl
      · cases h
    rw [this]

end Go.Proofs.Ytmpbmfhlkhonkaa.AM
