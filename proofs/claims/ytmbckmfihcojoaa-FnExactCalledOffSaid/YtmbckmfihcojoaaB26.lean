/- The abstract machine, part 26: a law's row out of its contract. -/
import Derived.Test.YtmbckmfihcojoaaB25
import Derived.ProofKit
namespace Go.Proofs.Ytmbckmfihcojoaa.AM
open Go Go.RowKit Go.ChangeShapes

set_option linter.unusedVariables false
set_option linter.unusedSimpArgs false

section
variable {T : Nat → Option TI} {t : Nat} {i : TI} {avs : List AV}
theorem Shape.isInt {k : IntKind} (h : Shape T t avs) (hi : T t = some i) (hd : i.desc = .int k) : ∃ n, avs = [.int k n] := by
  cases h with
  | int _ i' k' n h1 h2 => rw [hi] at h1; obtain rfl := Option.some.inj h1; rw [hd] at h2; cases h2; exact ⟨n, rfl⟩
  | bool _ i' b h1 h2 => rw [hi] at h1; obtain rfl := Option.some.inj h1; rw [hd] at h2; cases h2
  | slice _ e i' rows h1 h2 h3 => rw [hi] at h1; obtain rfl := Option.some.inj h1; rw [hd] at h2; cases h2
  | strct _ i' fs avs h1 h2 h3 => rw [hi] at h1; obtain rfl := Option.some.inj h1; rw [hd] at h2; cases h2
theorem Shape.isBool (h : Shape T t avs) (hi : T t = some i) (hd : i.desc = .bool) : ∃ b, avs = [.bool b] := by
  cases h with
  | int _ i' k' n h1 h2 => rw [hi] at h1; obtain rfl := Option.some.inj h1; rw [hd] at h2; cases h2
  | bool _ i' b h1 h2 => exact ⟨b, rfl⟩
  | slice _ e i' rows h1 h2 h3 => rw [hi] at h1; obtain rfl := Option.some.inj h1; rw [hd] at h2; cases h2
  | strct _ i' fs avs h1 h2 h3 => rw [hi] at h1; obtain rfl := Option.some.inj h1; rw [hd] at h2; cases h2
theorem Shape.isSlice {e : Nat} (h : Shape T t avs) (hi : T t = some i) (hd : i.desc = .slice e) : ∃ rows, avs = [.ro rows] ∧ ∀ r ∈ rows, Shape T e r := by
  cases h with
  | int _ i' k' n h1 h2 => rw [hi] at h1; obtain rfl := Option.some.inj h1; rw [hd] at h2; cases h2
  | bool _ i' b h1 h2 => rw [hi] at h1; obtain rfl := Option.some.inj h1; rw [hd] at h2; cases h2
  | slice _ e i' rows h1 h2 h3 => rw [hi] at h1; obtain rfl := Option.some.inj h1; rw [hd] at h2; cases h2; exact ⟨rows, rfl, h3⟩
  | strct _ i' fs avs h1 h2 h3 => rw [hi] at h1; obtain rfl := Option.some.inj h1; rw [hd] at h2; cases h2
theorem Shape.isStruct {fs : List (Nat × Nat)} (h : Shape T t avs) (hi : T t = some i) (hd : i.desc = .strct fs) : ShapeF T fs avs := by
  cases h with
  | int _ i' k' n h1 h2 => rw [hi] at h1; obtain rfl := Option.some.inj h1; rw [hd] at h2; cases h2
  | bool _ i' b h1 h2 => rw [hi] at h1; obtain rfl := Option.some.inj h1; rw [hd] at h2; cases h2
  | slice _ e i' rows h1 h2 h3 => rw [hi] at h1; obtain rfl := Option.some.inj h1; rw [hd] at h2; cases h2
  | strct _ i' fs' avs h1 h2 h3 => rw [hi] at h1; obtain rfl := Option.some.inj h1; rw [hd] at h2; cases h2; exact h3
theorem ShapeF.un {o : Nat} {fs : List (Nat × Nat)} (h : ShapeF T ((o, t) :: fs) avs) : ∃ a b, avs = a ++ b ∧ Shape T t a ∧ ShapeF T fs b := by
  cases h with
  | cons _ _ _ a b h1 h2 => exact ⟨a, b, rfl, h1, h2⟩
theorem ShapeF.done (h : ShapeF T [] avs) : avs = [] := by
  cases h; rfl
end


section
variable {H : Type} {enc : TypeId × Value → H} {P : Program} {T : Nat → Option TI}

/-- What a law is given, as abstract values: of each parameter the type tells the shape. -/
def ArgOk (T : Nat → Option TI) (t : Nat) (v : AV) : Prop :=
  ∃ i avs, T t = some i ∧ Shape T t avs ∧ (match i.desc with
    | .strct _ => v = .agg avs
    | _ => avs = [v])

def ArgsOk (T : Nat → Option TI) : List Nat → List AV → Prop
  | [], [] => True
  | t :: ts, v :: vs => ArgOk T t v ∧ ArgsOk T ts vs
  | _, _ => False

/-- A still world: all that is there is old. -/
def oldEnv (W : World) : Env := ⟨W, Old W, fun _ => none, fun _ => none, fun _ => none⟩

theorem law_arg (htab : TabOk P T) {K : Nat → Prop} (hK : ClosedT T K) {W : World} {base : Nat} {t : Nat} {v : Value} {d : DataW H} {ps : List MemPlace} (hKt : K t) (hval : Value.okWide P W .any base t v) (hdd : DataW.Trod enc P W 0 (fun _ => true) true t v d ps) :
    ∃ av, ArgOk T t av ∧ Rel (oldEnv W) av v := by
  have one : ∀ {u : AV}, Value.okWide P W .any base t v → (∀ cs, v = .agg cs → False) → [u].length = v.cells.toList.length → (∀ (j : Nat) (w : AV) (y : Value), [u][j]? = some w → v.cells.toList[j]? = some y → RRel W (Old W) w y ∧ y.oneCell' = true) → RRel W (Old W) u v := by
    intro u _ hn hl h
    have hc : v.cells = #[v] := by cases v <;> first | rfl | exact (hn _ rfl).elim
    exact (h 0 u v rfl (by rw [hc]; rfl)).1
  obtain ⟨fuel, hf⟩ := hdd
  obtain ⟨avs, h1, h2, h3⟩ := reads htab hK fuel t _ _ hKt hf
  obtain ⟨i, hi, hd⟩ := hK t hKt
  obtain ⟨dd, hu, htd⟩ := htab.und hi
  cases hdesc : i.desc with
  | strct fs =>
    rw [hdesc] at htd
    have : ∃ fs', dd = .struct fs' := by cases dd <;> simp [tdOf] at htd; exact ⟨_, rfl⟩
    obtain ⟨fs', rfl⟩ := this
    simp only [Value.okWide, hu] at hval
    obtain ⟨cs, rfl, _⟩ := hval
    have h2' : cs.size = avs.length := by rw [h2]; simp [Value.cells]
    refine ⟨.agg avs, ⟨i, avs, hi, h1, by rw [hdesc]⟩, .agg avs cs h2' (fun j x hx => ?_) (fun j v x hv hx => .base _ _ (h3 j v x hv (by simpa [Value.cells] using hx)).1)⟩
    have hlt : j < avs.length := by rw [← h2']; exact (Array.getElem?_eq_some_iff.1 hx).1
    exact (h3 j _ x (List.getElem?_eq_getElem hlt) (by simpa [Value.cells] using hx)).2
  | int k =>
    rw [hdesc] at htd
    have : dd = .int k := by cases dd <;> simp [tdOf] at htd; rw [htd]
    subst this
    obtain ⟨n, rfl⟩ := h1.isInt hi hdesc
    refine ⟨.int k n, ⟨i, _, hi, h1, by rw [hdesc]⟩, .base _ _ (one hval ?_ h2 h3)⟩
    intro cs e
    subst e
    simp [Value.okWide, hu, Cell.okWide, Cell.ok] at hval
  | bool =>
    rw [hdesc] at htd
    have : dd = .bool := by cases dd <;> simp [tdOf] at htd; rfl
    subst this
    obtain ⟨n, rfl⟩ := h1.isBool hi hdesc
    refine ⟨.bool n, ⟨i, _, hi, h1, by rw [hdesc]⟩, .base _ _ (one hval ?_ h2 h3)⟩
    intro cs e
    subst e
    simp [Value.okWide, hu, Cell.okWide, Cell.ok] at hval
  | slice e =>
    rw [hdesc] at htd
    have := tdOf_slice htd
    subst this
    obtain ⟨rows, rfl, _⟩ := h1.isSlice hi hdesc
    refine ⟨.ro rows, ⟨i, _, hi, h1, by rw [hdesc]⟩, .base _ _ (one hval ?_ h2 h3)⟩
    intro cs e
    subst e
    simp [Value.okWide, hu, Cell.okWide, Cell.ok] at hval
  | func => rw [hdesc] at hd; exact hd.elim
  | other => rw [hdesc] at hd; exact hd.elim

theorem law_args (htab : TabOk P T) {K : Nat → Prop} (hK : ClosedT T K) {W : World} {base : Nat} : ∀ (ts : List Nat) (vs : List Value) (ds : List (DataW H)) (ps : List MemPlace), (∀ t ∈ ts, K t) → (∀ (j : Nat) (t : Nat) (v : Value), ts[j]? = some t → vs[j]? = some v → Value.okWide P W .any base t v) →
    DataW.TrodAll enc P W 0 (fun _ => true) true ts vs ds ps → ∃ avs : List AV, ArgsOk T ts avs ∧ avs.length = vs.length ∧ ∀ (j : Nat) (a : AV) (v : Value), avs[j]? = some a → vs[j]? = some v → Rel (oldEnv W) a v
  | [], [], [], ps, _, _, _ => ⟨[], trivial, rfl, fun j a v h => by simp at h⟩
  | t :: ts, v :: vs, d :: ds, ps, hKs, hval, h => by
    obtain ⟨p, q, h1, h2, _⟩ := h
    obtain ⟨a, ha, hr⟩ := law_arg htab hK (hKs t (List.mem_cons_self ..)) (hval 0 t v rfl rfl) h1
    obtain ⟨avs, g1, g2, g3⟩ := law_args htab hK ts vs ds q (fun t ht => hKs t (List.mem_cons_of_mem _ ht)) (fun j t v ht hv => hval (j + 1) t v (by simpa using ht) (by simpa using hv)) h2
    refine ⟨a :: avs, ⟨ha, g1⟩, by simp [g2], fun j u w hu hw => ?_⟩
    cases j with
    | zero => simp at hu hw; subst hu hw; exact hr
    | succ j => exact g3 j u w (by simpa using hu) (by simpa using hw)
  | [], [], _ :: _, _, _, _, h => h.elim
  | [], _ :: _, _, _, _, _, h => h.elim
  | _ :: _, [], _, _, _, _, h => h.elim
  | _ :: _, _ :: _, [], _, _, _, h => h.elim

/-- What Fr says where nothing is ours. -/
theorem fr_below {E E' : Env} (h : Fr E E') (ht : ∀ b, E.tag b = none) : Below E.w.heap.size E.w E'.w :=
  ⟨h.os, h.tape, h.output, h.size, fun b hb => h.block b hb (ht b)⟩

/-- A law's call, out of its contract. -/
theorem law_calls (htab : TabOk P T) {K : Nat → Prop} (hK : ClosedT T K) {f : FuncId} {ts : List Nat} (hKs : ∀ t ∈ ts, K t) {W : World} {base : Nat} {args : Array Value} {ds : List (DataW H)} {ps : List MemPlace}
    (hval : ∀ (j : Nat) (t : Nat) (v : Value), ts[j]? = some t → args[j]? = some v → Value.okWide P W .any base t v) (hA : DataW.TrodAll enc P W 0 (fun _ => true) true ts args.toList ds ps)
    (hS : ∀ avs, ArgsOk T ts avs → SoundM P f false avs [] (fun v os => v = .bool true ∧ os = [])) :
    Calls P f args W fun e W' => e = .returned (.bool true) ∧ Below W.heap.size W W' := by
  obtain ⟨avs, h1, h2, h3⟩ := law_args htab hK ts args.toList ds ps hKs (fun j t v ht hv => hval j t v ht (by simpa using hv)) hA
  refine ((hS avs h1).2 (oldEnv W) args ⟨fun b hb => ⟨rfl, hb⟩, fun b hb => absurd rfl hb, fun b hb => absurd rfl hb⟩ (fun id L h => by cases h) (by rw [h2]; simp) (fun j a v ha hv => h3 j a v ha (by simpa using hv)) (fun id o h => by simp [flats, lk] at h)).mono ?_
  rintro e W' ⟨x, v, os, E', rfl, rfl, ⟨rfl, rfl⟩, _, _, hfr, _, hrel, _⟩
  refine ⟨?_, fr_below hfr fun b => rfl⟩
  rw [rel_bool hrel]

theorem below_trod {W W' : World} (hbel : Below W.heap.size W W') (hl : laidOutB P = true) : ∀ (ts : List Nat) (vs : List Value) (ds : List (DataW H)) (ps : List MemPlace), (∀ t ∈ ts, P.readableRec t = true ∧ t < P.types.size) → (∀ x ∈ ps, x.block < W.heap.size) →
    DataW.TrodAll enc P W 0 (fun _ => true) true ts vs ds ps → DataW.TrodAll enc P W' 0 (fun b => decide (b < W.heap.size)) true ts vs ds ps
  | [], [], [], ps, _, _, h => h
  | t :: ts, v :: vs, d :: ds, ps, hr, hp, h => by
    obtain ⟨p, q, h1, h2, rfl⟩ := h
    obtain ⟨r1, r2⟩ := hr t (List.mem_cons_self ..)
    exact ⟨p, q, hbel.trod hl r1 r2 h1 fun x hx => hp x (List.mem_append_left _ hx), below_trod hbel hl ts vs ds q (fun t ht => hr t (List.mem_cons_of_mem _ ht)) (fun x hx => hp x (List.mem_append_right _ hx)) h2, rfl⟩
  | [], [], _ :: _, _, _, _, h => h.elim
  | [], _ :: _, _, _, _, _, h => h.elim
  | _ :: _, [], _, _, _, _, h => h.elim
  | _ :: _, _ :: _, [], _, _, _, h => h.elim

theorem law_post {f : Func} {s : ChangeSpec} {apart fresh handsOn : Bool} {ts : List Nat} {tb : TypeId} {W W' : World} {args : Array Value} {ds gs : List (DataW H)} {before : List MemPlace}
    (hfp : f.params.toList = ts) (hfr : f.resultTypes = #[tb]) (hb : P.underlying tb = some .bool) (hv : s.vars = []) (hs : ∀ ds : List (DataW H), ds.length = ts.length → s.fn H ds = { results := [.lit (.bool true)], args := ds })
    (hl : laidOutB P = true) (hrd : ∀ t ∈ ts, P.readableRec t = true ∧ t < P.types.size) (hW : DataW.Whole enc P f.params.toList s.vars apart W args.toList ds gs before) (hbel : Below W.heap.size W W') :
    s.post enc P f apart fresh handsOn false W args (.bool true) W' := by
  have hW' := hW
  obtain ⟨p, q, hA, hV, hbef, hfz, hnd⟩ := hW
  rw [hv] at hV
  obtain ⟨rfl, rfl⟩ := trodVars_none hV
  have hlen : ∀ (ts : List Nat) (vs : List Value) (ds : List (DataW H)) (ps : List MemPlace), DataW.TrodAll enc P W 0 (fun _ => true) true ts vs ds ps → ds.length = ts.length := by
    intro ts
    induction ts with
    | nil => intro vs ds ps h; cases vs <;> cases ds <;> first | rfl | exact h.elim
    | cons t ts ih =>
      intro vs ds ps h
      cases vs with
      | nil => exact h.elim
      | cons v vs => cases ds with
        | nil => exact h.elim
        | cons d ds =>
          obtain ⟨p, q, _, h2, _⟩ := h
          simp [ih vs ds q h2]
  have hdl : ds.length = ts.length := by rw [hlen _ _ _ _ hA, hfp]
  have hsd : s.fn H (ds ++ []) = { results := [.lit (.bool true)], args := ds } := by rw [List.append_nil]; exact hs ds hdl
  refine ⟨ds, [], before, [], p, [], hW', ?_, ?_, ?_, hbel.frame _, fun e => by cases e⟩
  · rw [hfr, hsd]
    exact trodAll_mk1 (shut_bool hb true)
  · rw [hsd]
    refine below_trod hbel hl _ _ _ _ (by rw [hfp]; exact hrd) (fun x hx => hW'.lt x ?_) hA
    rw [hbef]; simpa using hx
  · rw [hv, hsd]
    trivial
end

end Go.Proofs.Ytmbckmfihcojoaa.AM
