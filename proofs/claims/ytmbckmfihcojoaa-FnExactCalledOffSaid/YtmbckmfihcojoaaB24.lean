/- The abstract machine, part 24: calls and ends, as they are said. -/
import Derived.Test.YtmbckmfihcojoaaB23
namespace Go.Proofs.Ytmbckmfihcojoaa.AM
open Go Go.RowKit

set_option linter.unusedVariables false
set_option linter.unusedSimpArgs false

variable {P : Program} {T : Nat → Option TI} {A : Sy}

/-! ### Calls -/

theorem ACall.of {f : FuncId} {al dp : Bool} {avs bs : List AV} {objs : List Obj} {R : AV → List (Option Obj) → Prop} {lab : Nat} {st : St} {K : AV → Dl → Prop} (h : SoundM P f al bs objs R) (hg : Gives st al dp avs bs objs)
    (hk : ∀ v os, R v os → backChk st (rhoA avs bs) lab objs os v = true ∧ K (adopt A.len lab v) (backD dp A.len st avs bs objs lab os v)) : ACall A false P f avs lab st K :=
  ⟨al, dp, bs, objs, R, h, hg, fun e => (by cases e), hk⟩

/-- A call in a drawn region: it gives one thing. -/
theorem ACall.dr {dr : Bool} {f : FuncId} {al dp : Bool} {avs bs : List AV} {objs : List Obj} {R : AV → List (Option Obj) → Prop} {lab : Nat} {st : St} {K : AV → Dl → Prop} (h : SoundM P f al bs objs R) (hg : Gives st al dp avs bs objs) (hn : bs.all AV.noR = true)
    (v₀ : AV) (os₀ : List (Option Obj)) (hR : R v₀ os₀) (hu : ∀ v os, R v os → v = v₀ ∧ os = os₀)
    (hk : backChk st (rhoA avs bs) lab objs os₀ v₀ = true ∧ K (adopt A.len lab v₀) (backD dp A.len st avs bs objs lab os₀ v₀)) : ACall A dr P f avs lab st K :=
  ⟨al, dp, bs, objs, R, h, hg, fun _ => ⟨hn, v₀, os₀, hR, hu⟩, fun v os hv => by obtain ⟨rfl, rfl⟩ := hu v os hv; exact hk⟩

/-- A call whose value is known. -/
theorem ACall.fn {f : FuncId} {al dp : Bool} {avs bs : List AV} {r : AV} {lab : Nat} {st : St} {K : AV → Dl → Prop} (h : SoundM P f al bs [] (fun v os => v = r ∧ os = [])) (hg : Gives st al dp avs bs [])
    (hk : backChk st (rhoA avs bs) lab [] [] r = true ∧ K (adopt A.len lab r) (backD dp A.len st avs bs [] lab [] r)) : ACall A false P f avs lab st K :=
  .of h hg fun v os hv => by obtain ⟨rfl, rfl⟩ := hv; exact hk

/-- A call whose value is a test. -/
theorem ACall.test {f : FuncId} {al dp : Bool} {avs bs : List AV} {p : Prop} {lab : Nat} {st : St} {K : AV → Dl → Prop} (h : SoundM P f al bs [] (fun v os => (∃ b : Bool, (b = true ↔ p) ∧ v = .bool b) ∧ os = [])) (hg : Gives st al dp avs bs [])
    (h1 : p → K (.bool true) (backD dp A.len st avs bs [] lab [] (.bool true))) (h2 : ¬ p → K (.bool false) (backD dp A.len st avs bs [] lab [] (.bool false))) : ACall A false P f avs lab st K :=
  .of h hg fun v os hv => by
    obtain ⟨⟨b, hb, rfl⟩, rfl⟩ := hv
    cases b with
    | true => exact ⟨rfl, h1 (hb.1 rfl)⟩
    | false => exact ⟨rfl, h2 fun hp => by cases hb.2 hp⟩

/-- A call whose value is a number. -/
theorem ACall.num {f : FuncId} {al dp : Bool} {avs bs : List AV} {k : IntKind} {p : Int → Prop} {lab : Nat} {st : St} {K : AV → Dl → Prop} (h : SoundM P f al bs [] (fun v os => (∃ n : Int, p n ∧ v = .int k n) ∧ os = [])) (hg : Gives st al dp avs bs [])
    (hk : ∀ n, p n → K (.int k n) (backD dp A.len st avs bs [] lab [] (.int k n))) : ACall A false P f avs lab st K :=
  .of h hg fun v os hv => by
    obtain ⟨⟨n, hn, rfl⟩, rfl⟩ := hv
    exact ⟨rfl, hk n hn⟩

/-- A call whose value is a test, wherever it stands. -/
theorem ACall.testD {dr : Bool} {f : FuncId} {al dp : Bool} {avs bs : List AV} {p : Prop} {lab : Nat} {st : St} {K : AV → Dl → Prop} (h : SoundM P f al bs [] (fun v os => (∃ b : Bool, (b = true ↔ p) ∧ v = .bool b) ∧ os = [])) (hg : Gives st al dp avs bs []) (hn : bs.all AV.noR = true)
    (h1 : p → K (.bool true) (backD dp A.len st avs bs [] lab [] (.bool true))) (h2 : ¬ p → K (.bool false) (backD dp A.len st avs bs [] lab [] (.bool false))) : ACall A dr P f avs lab st K := by
  by_cases hp : p
  · refine .dr h hg hn (.bool true) [] ⟨⟨true, by simp [hp], rfl⟩, rfl⟩ ?_ ⟨rfl, h1 hp⟩
    rintro v os ⟨⟨b, hb, rfl⟩, rfl⟩
    exact ⟨by rw [hb.2 hp], rfl⟩
  · refine .dr h hg hn (.bool false) [] ⟨⟨false, by simp [hp], rfl⟩, rfl⟩ ?_ ⟨rfl, h2 hp⟩
    rintro v os ⟨⟨b, hb, rfl⟩, rfl⟩
    refine ⟨?_, rfl⟩
    cases b with
    | true => exact absurd (hb.1 rfl) hp
    | false => rfl

/-- A call that gives such a thing. -/
theorem ACall.val {ι : Type} {r : ι → AV} {os : ι → List (Option Obj)} {e : ι} {dr : Bool} {f : FuncId} {al dp : Bool} {avs bs : List AV} {objs : List Obj} {lab : Nat} {st : St} {K : AV → Dl → Prop} (h : SoundM P f al bs objs (fun v o => v = r e ∧ o = os e)) (hg : Gives st al dp avs bs objs) (hn : (!dr || bs.all AV.noR) = true)
    (hk : ∀ x, x = e → backChk st (rhoA avs bs) lab objs (os x) (r x) = true ∧ K (adopt A.len lab (r x)) (backD dp A.len st avs bs objs lab (os x) (r x))) : ACall A dr P f avs lab st K := by
  refine ⟨al, dp, bs, objs, _, h, hg, fun e' => ?_, fun v o hv => ?_⟩
  · subst e'
    exact ⟨by simpa using hn, _, _, ⟨rfl, rfl⟩, fun v o hv => hv⟩
  · obtain ⟨rfl, rfl⟩ := hv
    exact hk e rfl

/-- A call that gives a record of plain cells. -/
theorem ACall.agg {α : Type} {g : α → List AV} {e : α} {dr : Bool} {f : FuncId} {al dp : Bool} {avs bs : List AV} {lab : Nat} {st : St} {K : AV → Dl → Prop} (h : SoundM P f al bs [] (fun v o => v = .agg (g e) ∧ o = [])) (hg : Gives st al dp avs bs []) (hn : (!dr || bs.all AV.noR) = true)
    (hk : ∀ x, x = e → backChk st (rhoA avs bs) lab [] [] (.agg (g x)) = true ∧ K (adopt A.len lab (.agg (g x))) (backD dp A.len st avs bs [] lab [] (.agg (g x)))) : ACall A dr P f avs lab st K :=
  ACall.val (r := fun x => AV.agg (g x)) (os := fun _ => []) (e := e) h hg hn hk

/-- A call that gives a number. -/
theorem ACall.int {e : Int} {k : IntKind} {dr : Bool} {f : FuncId} {al dp : Bool} {avs bs : List AV} {lab : Nat} {st : St} {K : AV → Dl → Prop} (h : SoundM P f al bs [] (fun v o => v = .int k e ∧ o = [])) (hg : Gives st al dp avs bs []) (hn : (!dr || bs.all AV.noR) = true)
    (hk : ∀ x, x = e → K (.int k x) (backD dp A.len st avs bs [] lab [] (.int k x))) : ACall A dr P f avs lab st K :=
  ACall.val (r := fun x => AV.int k x) (os := fun _ => []) (e := e) h hg hn fun x hx => ⟨rfl, hk x hx⟩

/-- A call that gives an own slice. -/
theorem ACall.own {α : Type} {g : α → List AV} {e : List α} {s : Nat} {fl : Bool} {dr : Bool} {f : FuncId} {al dp : Bool} {avs bs : List AV} {lab : Nat} {st : St} {K : AV → Dl → Prop} (C : Cx P T A) (h : SoundM P f al bs [] (fun v o => v = .own s fl (A.enc g e) ∧ o = [])) (hg : Gives st al dp avs bs []) (hn : (!dr || bs.all AV.noR) = true)
    (hb : inLab lab lab = true)
    (hk : ∀ x n, x = e → n = x.length → K (.ref false lab 0 n) (backD dp A.len st avs bs [] lab [] (.own s fl (A.enc g x)))) : ACall A dr P f avs lab st K :=
  ACall.val (r := fun x => AV.own s fl (A.enc g x)) (os := fun _ => []) (e := e) h hg hn fun x hx => by
    refine ⟨?_, ?_⟩
    · show (true && true && true && (inLab lab lab && true)) = true
      rw [hb]; rfl
    · have := hk x _ hx rfl
      show K (.ref false lab 0 (A.len (A.enc g x))) _
      rw [C.lenE]; exact this

/-- A call that changes an array, and gives a number. -/
theorem ACall.mut1 {α : Type} {g : α → List AV} {s : Nat} {fl : Bool} {e : Int} {l : List α} {dr : Bool} {f : FuncId} {al dp : Bool} {avs bs : List AV} {objs : List Obj} {lab : Nat} {st : St} {K : AV → Dl → Prop} (h : SoundM P f al bs objs (fun v o => v = .int .i64 e ∧ o = [some (.arr s fl (A.enc g l))])) (hg : Gives st al dp avs bs objs) (hn : (!dr || bs.all AV.noR) = true)
    (hk : ∀ x m, x = e → m = l → backChk st (rhoA avs bs) lab objs [some (.arr s fl (A.enc g m))] (.int .i64 x) = true ∧ K (.int .i64 x) (backD dp A.len st avs bs objs lab [some (.arr s fl (A.enc g m))] (.int .i64 x))) : ACall A dr P f avs lab st K :=
  ACall.val (r := fun x : Int × List α => AV.int .i64 x.1) (os := fun x => [some (.arr s fl (A.enc g x.2))]) (e := (e, l)) h hg hn fun x hx => by subst hx; exact hk _ _ rfl rfl

theorem ACall.mut2 {α β : Type} {g : α → List AV} {g' : β → List AV} {s s' : Nat} {fl fl' : Bool} {e : Int} {l : List α} {l' : List β} {dr : Bool} {f : FuncId} {al dp : Bool} {avs bs : List AV} {objs : List Obj} {lab : Nat} {st : St} {K : AV → Dl → Prop} (h : SoundM P f al bs objs (fun v o => v = .int .i64 e ∧ o = [some (.arr s fl (A.enc g l)), some (.arr s' fl' (A.enc g' l'))])) (hg : Gives st al dp avs bs objs) (hn : (!dr || bs.all AV.noR) = true)
    (hk : ∀ x m m', x = e → m = l → m' = l' → backChk st (rhoA avs bs) lab objs [some (.arr s fl (A.enc g m)), some (.arr s' fl' (A.enc g' m'))] (.int .i64 x) = true ∧ K (.int .i64 x) (backD dp A.len st avs bs objs lab [some (.arr s fl (A.enc g m)), some (.arr s' fl' (A.enc g' m'))] (.int .i64 x))) : ACall A dr P f avs lab st K :=
  ACall.val (r := fun x : Int × List α × List β => AV.int .i64 x.1) (os := fun x => [some (.arr s fl (A.enc g x.2.1)), some (.arr s' fl' (A.enc g' x.2.2))]) (e := (e, l, l')) h hg hn fun x hx => by subst hx; exact hk _ _ _ rfl rfl rfl

/-- A function that tests. -/
abbrev Tests (P : Program) (f : FuncId) (args : List AV) (p : Prop) : Prop := SoundM P f false args [] (fun v os => (∃ b : Bool, (b = true ↔ p) ∧ v = .bool b) ∧ os = [])
/-- A function that gives a number. -/
abbrev Nums (P : Program) (f : FuncId) (args : List AV) (p : Int → Prop) : Prop := SoundM P f false args [] (fun v os => (∃ n : Int, p n ∧ v = .int .i64 n) ∧ os = [])
/-- A function that gives this value. -/
abbrev Is1 (P : Program) (f : FuncId) (args : List AV) (r : AV) : Prop := SoundM P f false args [] (fun v os => v = r ∧ os = [])

theorem Cx.lendLe (C : Cx P T A) {α : Type} {f : α → List AV} {l : List α} {n : Nat} (h : n = l.length) : 0 + n ≤ (A.enc f l).length := by rw [C.lenE', h]; omega
theorem Cx.lendEq (C : Cx P T A) {α : Type} {f : α → List AV} {l : List α} {n : Nat} (h : n = l.length) : A.enc f l = ((A.enc f l).drop 0).take n := by
  rw [h, List.drop_zero, ← C.lenE' f l, List.take_length]
theorem Cx.giveEq (C : Cx P T A) {α : Type} {f : α → List AV} {l : List α} : A.enc f l = (A.enc f l).take (A.enc f l).length := by rw [List.take_length]

theorem MakeS.enc (C : Cx P T A) {α : Type} {f : α → List AV} {us : List AV} (z : α) (hz : f z = us) {n : Int} {bytes : Nat} {K : Nat → List (List AV) → Prop} (h0 : 0 ≤ n) (hb : n.toNat * bytes ≤ maxBytes)
    (h : ∀ (N : Nat) (l : List α), (N : Int) = n → l = List.replicate N z → K N (A.enc f l)) : MakeS n n bytes us K := by
  refine ⟨h0, Int.le_refl _, hb, ?_⟩
  have := h n.toNat _ (by omega) rfl
  rw [C.enc, List.map_replicate, hz] at this
  exact this

theorem Test.eqB {m n : Int} {K : Bool → Prop} (h : ∀ b, b = decide (m = n) → K b) : Test .eql m n K := ⟨h _ rfl⟩

theorem NilT.ro (C : Cx P T A) {α : Type} {f : α → List AV} {l : List α} {K : Bool → Prop} (h1 : l = [] → K true) (h2 : K false) : NilT (.ro (A.enc f l)) K :=
  ⟨⟨fun h => h1 (by rw [C.enc] at h; exact List.map_eq_nil_iff.1 h), h2⟩⟩

/-- Plain cells only. -/
def Plain {α : Type} (f : α → List AV) : Prop := ∀ x, (f x).all AV.scal = true

theorem AppNew.enc (C : Cx P T A) {α : Type} {f : α → List AV} {l : List α} {kd : SK} {fl : Bool} {size bytes : Nat} {K : Nat → List (List AV) → Prop} (hp : Plain f) (hk : kd ≠ .raw ∨ fl = true ∨ True) (hsz : ∀ x, (f x).length = size) (hb : l.length * bytes ≤ maxBytes)
    (h : ∀ n : Nat, n = l.length → K n (A.enc f l)) : AppNew kd fl size bytes (A.enc f l) K := by
  refine ⟨?_, fun r hr => ?_, by rw [C.lenE']; exact hb, by rw [C.lenE']; exact h _ rfl⟩
  · have hs : ∀ r ∈ A.enc f l, ∀ v ∈ r, v.scal = true := fun r hr v hv => by
      rw [C.enc] at hr
      obtain ⟨x, _, rfl⟩ := List.mem_map.1 hr
      exact List.all_eq_true.1 (hp x) v hv
    cases kd <;> cases fl <;> first | trivial | exact hs | exact fun r hr v hv => (by have := hs r hr v hv; cases v <;> first | rfl | cases this)
  · rw [C.enc] at hr
    obtain ⟨x, _, rfl⟩ := List.mem_map.1 hr
    exact hsz x

/-! ### Ends -/

theorem Done.to {al : Bool} {st : St} {v : AV} {objs : List Obj} {R : AV → List (Option Obj) → Prop} (r : AV) (os : List (Option Obj)) (h1 : (Fits st v os && r.small && boxesKept objs os) = true) (h2 : resOk al st v r) (h3 : backOk al st 0 os) (h4 : R r os) : Done al st v objs R := by
  simp only [Bool.and_eq_true] at h1
  exact ⟨r, os, ⟨h1.1.1, h1.1.2, h1.2⟩, h2, h3, h4⟩

theorem Done.bool {al : Bool} {st : St} {b : Bool} {p : Prop} (h : b = true ↔ p) : Done al st (.bool b) [] (fun v os => (∃ b : Bool, (b = true ↔ p) ∧ v = .bool b) ∧ os = []) :=
  ⟨.bool b, [], ⟨rfl, rfl, rfl⟩, rfl, trivial, ⟨b, h, rfl⟩, rfl⟩
theorem Done.yes {al : Bool} {st : St} {p : Prop} (h : p) : Done al st (.bool true) [] (fun v os => (∃ b : Bool, (b = true ↔ p) ∧ v = .bool b) ∧ os = []) := .bool ⟨fun _ => h, fun _ => rfl⟩
theorem Done.no {al : Bool} {st : St} {p : Prop} (h : ¬ p) : Done al st (.bool false) [] (fun v os => (∃ b : Bool, (b = true ↔ p) ∧ v = .bool b) ∧ os = []) := .bool ⟨fun e => (by cases e), fun e => absurd e h⟩
theorem Done.num {al : Bool} {st : St} {n : Int} {k : IntKind} {p : Int → Prop} (h : p n) : Done al st (.int k n) [] (fun v os => (∃ n : Int, p n ∧ v = .int k n) ∧ os = []) :=
  ⟨.int k n, [], ⟨rfl, rfl, rfl⟩, rfl, trivial, ⟨n, h, rfl⟩, rfl⟩

/-- Of an own slice that is whole: it comes back by its content. -/
theorem resOwn (C : Cx P T A) {al : Bool} {st : St} {p : Bool} {id n s : Nat} {α : Type} {f : α → List AV} {l : List α} (hq : lk st.sto id = some (.arr s true (A.enc f l))) (hn : n = l.length) : resCell al st (.ref p id 0 n) (.own s true (A.enc f l)) := by
  simp only [resCell, hq]
  exact ⟨⟨trivial, trivial⟩, ⟨C.lendLe hn, C.lendEq hn⟩, trivial⟩

theorem resOwn1 (C : Cx P T A) {al : Bool} {st : St} {p : Bool} {id n s : Nat} {α : Type} {f : α → List AV} {l : List α} (hq : lk st.sto id = some (.arr s true (A.enc f l))) (hn : n = l.length) : resOk al st (.ref p id 0 n) (.own s true (A.enc f l)) := by
  show resCell al st (.ref p id 0 n) (.own s true (A.enc f l))
  exact resOwn C hq hn

/-- An own slice is the value. -/
theorem Done.own (C : Cx P T A) {al : Bool} {st : St} {p : Bool} {id n s : Nat} {α : Type} {f : α → List AV} {l e : List α} (hf : Fits st (.ref p id 0 n) [] = true) (hq : lk st.sto id = some (.arr s true (A.enc f l))) (hn : n = l.length) (he : l = e) :
    Done al st (.ref p id 0 n) [] (fun v os => v = .own s true (A.enc f e) ∧ os = []) :=
  ⟨.own s true (A.enc f l), [], ⟨hf, rfl, rfl⟩, resOwn1 C hq hn, trivial, by rw [he], rfl⟩

end Go.Proofs.Ytmbckmfihcojoaa.AM
