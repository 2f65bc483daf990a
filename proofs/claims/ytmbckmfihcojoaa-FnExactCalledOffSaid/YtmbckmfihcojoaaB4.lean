/- The abstract machine, part 4: the table of types; operations that only compute. -/
import Derived.Test.YtmbckmfihcojoaaB3
import Derived.Lib.SliceRun
import Derived.Laws.Small
import Derived.Laws.StructEq
namespace Go.Proofs.Ytmbckmfihcojoaa.AM
open Go Go.RowKit

set_option linter.unusedVariables false
set_option linter.unusedSimpArgs false

inductive TD where
  | int (k : IntKind)
  | bool
  | slice (e : Nat)
  | strct (fields : List (Nat × Nat))
  | func
  | other
  deriving DecidableEq, Inhabited

structure TI where
  desc : TD
  size : Nat
  bytes : Nat
  zero : List AV
  flat : Bool
  deriving Inhabited

def tdOf : TypeDesc → TD
  | .int k => .int k
  | .bool => .bool
  | .slice e => .slice e
  | .struct fs => .strct (fs.toList.map fun f => (f.offset, f.type))
  | .func _ _ _ => .func
  | _ => .other

/-- What the program's table says of a type, in our words. -/
def tiOf (P : Program) (t : Nat) : Option TI :=
  match P.info? t, P.underlying t with
  | some i, some d => some { desc := tdOf d, size := i.size, bytes := i.bytes, flat := !i.hasPointers, zero := (i.zero.map fun z => z.cells.toList.map ofConst).getD [] }
  | _, _ => none

def TabOk (P : Program) (T : Nat → Option TI) : Prop := ∀ t i, T t = some i → tiOf P t = some i ∧ i.zero.length = i.size ∧ ((P.info? t).bind (·.zero)).any (fun z => z.cells.all (·.oneCell')) = true

theorem tabOk_of {P : Program} {l : List (Nat × TI)} (h : lkAll l fun t i => tiOf P t = some i ∧ i.zero.length = i.size ∧ ((P.info? t).bind (·.zero)).any (fun z => z.cells.all (·.oneCell')) = true) : TabOk P (lk l) :=
  fun t i hi => lkAll_spec l h t i hi

section
variable {P : Program} {T : Nat → Option TI}

theorem TabOk.info (h : TabOk P T) {t : Nat} {i : TI} (hi : T t = some i) :
    ∃ info d z, P.info? t = some info ∧ P.underlying t = some d ∧ tdOf d = i.desc ∧ info.size = i.size ∧ info.bytes = i.bytes ∧ info.zero = some z ∧ z.cells.toList.map ofConst = i.zero ∧ z.cells.size = i.size ∧ z.cells.all (·.oneCell') = true := by
  obtain ⟨h1, h2, h3⟩ := h t i hi
  unfold tiOf at h1
  split at h1
  · rename_i info d hd hu
    obtain rfl := Option.some.inj h1
    cases hz : info.zero with
    | none => simp [hd, hz] at h3
    | some z =>
      refine ⟨info, d, z, hd, hu, rfl, rfl, rfl, hz, by simp [hz], ?_, by simpa [hd, hz] using h3⟩
      have : (z.cells.toList.map ofConst).length = info.size := by simpa [hz] using h2
      simpa using this
  · cases h1

theorem TabOk.size (h : TabOk P T) {t : Nat} {i : TI} (hi : T t = some i) (w : World) : (sizeOf t).run P w = .ok i.size w := by
  obtain ⟨info, d, z, h1, h2, h3, h4, _⟩ := h.info hi
  simp [sizeOf, typeInfo, h1, h4]

theorem TabOk.und (h : TabOk P T) {t : Nat} {i : TI} (hi : T t = some i) : ∃ d, P.underlying t = some d ∧ tdOf d = i.desc := by
  obtain ⟨info, d, z, h1, h2, h3, h4, _⟩ := h.info hi
  exact ⟨d, h2, h3⟩

theorem tdOf_slice {d : TypeDesc} {e : Nat} (h : tdOf d = .slice e) : d = .slice e := by
  cases d <;> simp [tdOf] at h
  subst h; rfl
theorem tdOf_int {d : TypeDesc} {k : IntKind} (h : tdOf d = .int k) : d = .int k := by
  cases d <;> simp [tdOf] at h
  subst h; rfl
theorem tdOf_bool {d : TypeDesc} (h : tdOf d = .bool) : d = .bool := by
  cases d <;> simp [tdOf] at h
  rfl
theorem tdOf_strct {d : TypeDesc} {l : List (Nat × Nat)} (h : tdOf d = .strct l) : ∃ fs, d = .struct fs ∧ fs.toList.map (fun f => (f.offset, f.type)) = l := by
  cases d <;> simp [tdOf] at h
  exact ⟨_, rfl, h⟩

def TD.isAgg : TD → Bool
  | .strct _ => true
  | _ => false

/-- 'other' may be an array: a type of the table whose kind is 'other' is not looked at. -/
def TD.known : TD → Bool
  | .other => false
  | _ => true

theorem TabOk.agg (h : TabOk P T) {t : Nat} {i : TI} (hi : T t = some i) (hk : i.desc.known = true) (w : World) : (isAgg t).run P w = .ok i.desc.isAgg w := by
  obtain ⟨d, h1, h2⟩ := h.und hi
  unfold isAgg
  rw [Sem.run_bind, run_underlying h1 w]
  rw [← h2] at hk ⊢
  clear h1 h2
  cases d <;> simp [tdOf, TD.isAgg, TD.known] at hk ⊢

/-! ### What an abstract value says of the value -/

variable {E : Env}

theorem rel_int {k : IntKind} {n : Int} {x : Value} (h : Rel E (.int k n) x) : x = .int k n ∧ (Lit.int k n).wf = true := by
  cases h with
  | base _ _ h => cases h; exact ⟨rfl, ‹_›⟩

theorem rel_agg {cs : List AV} {x : Value} (h : Rel E (.agg cs) x) : ∃ xs : Array Value, x = .agg xs ∧ xs.size = cs.length ∧ (∀ (j : Nat) (y : Value), xs[j]? = some y → y.oneCell' = true) ∧
    (∀ (j : Nat) (v : AV) (y : Value), cs[j]? = some v → xs[j]? = some y → Rel E v y) := by
  cases h with
  | base _ _ h => cases h
  | agg _ xs h1 h2 h3 => exact ⟨xs, rfl, h1, h2, h3⟩

theorem rel_tup {cs : List AV} {x : Value} (h : Rel E (.tup cs) x) : ∃ xs : Array Value, x = .tuple xs ∧ xs.size = cs.length ∧
    (∀ (j : Nat) (v : AV) (y : Value), cs[j]? = some v → xs[j]? = some y → Rel E v y) := by
  cases h with
  | base _ _ h => cases h
  | tup _ xs h1 h3 => exact ⟨xs, rfl, h1, h3⟩

theorem wf_iff (k : IntKind) (n : Int) : (Lit.int k n).wf = true ↔ k.min ≤ n ∧ n ≤ k.max := by simp [Lit.wf]

theorem wf_wrap (k : IntKind) (n : Int) : (Lit.int k (k.wrap n)).wf = true := by
  rw [wf_iff]
  cases k <;> simp only [IntKind.wrap, IntKind.min, IntKind.max, IntKind.signed, IntKind.bits] <;> simp <;> (try split) <;> omega

theorem wf_tmod (k : IntKind) (a b : Int) (ha : (Lit.int k a).wf = true) : (Lit.int k (a.tmod b)).wf = true := by
  rw [wf_iff] at ha ⊢
  have h1 : a.tmod b = a - b * a.tdiv b := Int.tmod_def a b
  have h2 : (a.tmod b).natAbs ≤ a.natAbs := by
    rw [Int.natAbs_tmod]; exact Nat.mod_le _ _
  have h3 : 0 ≤ a → 0 ≤ a.tmod b := fun h => Int.tmod_nonneg b h
  have h4 : a ≤ 0 → a.tmod b ≤ 0 := fun h => by
    have := Int.tmod_nonneg b (a := -a) (by omega)
    rw [Int.neg_tmod] at this
    omega
  have hk : k.min ≤ 0 ∧ 0 ≤ k.max := by cases k <;> decide
  omega

theorem oneCell_int {k : IntKind} {n : Int} {x : Value} (h : Rel E (.int k n) x) : x.oneCell' = true := by rw [(rel_int h).1]; rfl

/-! ### Operations -/

variable {st : St} {K : AV → St → Prop} {o : Oper}

theorem ok_move {x : Operand} (ho : o.op = .move x ∨ o.op = .assign x) (hk : K (st.ev x) st) : OpOk P o st K :=
  OpOk.pure _ (fun E a hs => ⟨a.eval x, by rcases ho with h | h <;> simp [execOp, h], hs.ev x⟩) hk

theorem ok_pick {c x y : Operand} {b : Bool} (ho : o.op = .pick c x y) (hc : st.ev c = .bool b) (hk : K (bif b then st.ev x else st.ev y) st) : OpOk P o st K :=
  OpOk.pure _ (fun E a hs => by
    have hr := hs.ev c
    rw [hc] at hr
    refine ⟨if b then a.eval x else a.eval y, by simp [execOp, ho, rel_bool hr, asBool], ?_⟩
    cases b
    · exact hs.ev y
    · exact hs.ev x) hk

theorem ok_not {x : Operand} {t : Nat} {b : Bool} (ho : o.op = .unOp .not t x) (hx : st.ev x = .bool b) (hk : K (.bool (!b)) st) : OpOk P o st K :=
  OpOk.pure _ (fun E a hs => by
    have hr := hs.ev x
    rw [hx] at hr
    exact ⟨.bool (!b), by simp [execOp, ho, rel_bool hr, Op.unary], .base _ _ (.bool _)⟩) hk

theorem ok_neg {x : Operand} {t : Nat} {k : IntKind} {n : Int} (ho : o.op = .unOp .neg t x) (hx : st.ev x = .int k n) (hk : K (.int k (k.wrap (0 - n))) st) : OpOk P o st K :=
  OpOk.pure _ (fun E a hs => by
    have hr := hs.ev x
    rw [hx] at hr
    exact ⟨.int k (k.wrap (0 - n)), by simp [execOp, ho, (rel_int hr).1, Op.unary, Op.intArith], .base _ _ (.int _ _ (wf_wrap _ _))⟩) hk

/-- The whole numbers' operators. -/
def intBin (op : BinOp) (k : IntKind) (m n : Int) (K : AV → Prop) : Prop :=
  match op with
  | .add => K (.int k (k.wrap (m + n)))
  | .sub => K (.int k (k.wrap (m - n)))
  | .mul => K (.int k (k.wrap (m * n)))
  | .quo => n ≠ 0 ∧ K (.int k (k.wrap (m.tdiv n)))
  | .rem => n ≠ 0 ∧ K (.int k (m.tmod n))
  | .and => K (.int k (k.wrap (BitVec.ofInt k.bits m &&& BitVec.ofInt k.bits n).toNat))
  | .shr => 0 ≤ n ∧ K (.int k (k.wrap (m.fdiv (2 ^ (min n.toNat k.bits)))))
  | .eql => K (.bool (decide (m = n)))
  | .neq => K (.bool (decide (m ≠ n)))
  | .lss => K (.bool (decide (m < n)))
  | .leq => K (.bool (decide (m ≤ n)))
  | .gtr => K (.bool (decide (m > n)))
  | .geq => K (.bool (decide (m ≥ n)))
  | _ => False

theorem eqGuard_int {op : BinOp} {t : Nat} {x y : Operand} {k k' : IntKind} {m n : Int} (w : World) : (eqGuard op t x y (.int k m) (.int k' n)).run P w = .ok () w := by
  unfold eqGuard
  cases op <;> simp

theorem eqGuard_bool {op : BinOp} {t : Nat} {x y : Operand} {m n : Bool} (w : World) : (eqGuard op t x y (.bool m) (.bool n)).run P w = .ok () w := by
  unfold eqGuard
  cases op <;> simp

theorem eqGuard_slice {op : BinOp} {t : Nat} {x y : Operand} {a b : Option Addr} {m n c d : Nat} (w : World) : (eqGuard op t x y (.slice a m c) (.slice b n d)).run P w = .ok () w := by
  unfold eqGuard
  cases op <;> simp

/-- A shift to the right stays in its kind. -/
theorem wf_fdiv (k : IntKind) (m : Int) (e : Nat) (hm : (Lit.int k m).wf = true) : k.wrap (m.fdiv (2 ^ e)) = m.fdiv (2 ^ e) := by
  rw [wf_iff] at hm
  have hp : (0 : Int) < 2 ^ e := Int.pow_pos (by decide)
  have h1 : m.fdiv (2 ^ e) = m / 2 ^ e := Int.fdiv_eq_ediv_of_nonneg _ (by omega)
  rw [h1]
  have h2 : 0 ≤ m → 0 ≤ m / 2 ^ e ∧ m / 2 ^ e ≤ m := fun h => ⟨Int.ediv_nonneg h (by omega), Int.ediv_le_self _ h⟩
  have h3 : m < 0 → m ≤ m / 2 ^ e ∧ m / 2 ^ e < 0 := fun h => by
    refine ⟨?_, Int.ediv_neg_of_neg_of_pos h hp⟩
    have := Int.le_ediv_of_mul_le (a := m) (b := m) hp (by
      have : (1 : Int) ≤ 2 ^ e := by omega
      calc m * 2 ^ e ≤ m * 1 := Int.mul_le_mul_of_nonpos_left (by omega) this
        _ = m := by omega)
    exact this
  have hb : k.min ≤ m / 2 ^ e ∧ m / 2 ^ e ≤ k.max := by
    have hk : k.min ≤ 0 ∧ 0 ≤ k.max := by cases k <;> decide
    rcases Int.lt_or_le m 0 with h | h
    · have := h3 h; omega
    · have := h2 h; omega
  generalize m / 2 ^ e = q at hb
  cases k <;> simp only [IntKind.wrap, IntKind.min, IntKind.max, IntKind.signed, IntKind.bits] at hb ⊢ <;> simp at hb ⊢ <;> (try split) <;> omega

theorem ok_intBin {op : BinOp} {t u : Nat} {x y : Operand} {k : IntKind} {m n : Int} (ho : o.op = .binOp op t x y u) (hx : st.ev x = .int k m) (hy : st.ev y = .int k n)
    (hk : intBin op k m n fun v => K v st) : OpOk P o st K := by
  have key : ∀ v : AV, ∀ xv : Value, (∀ w, (binOp op t (.int k m) (.int k n)).run P w = .ok xv w) → (∀ E : Env, (Lit.int k m).wf = true → Rel E v xv) → K v st → OpOk P o st K := by
    intro v xv h1 h2 h3
    refine OpOk.pure v (fun E a hs => ?_) h3
    have hrx := hs.ev x
    have hry := hs.ev y
    rw [hx] at hrx
    rw [hy] at hry
    refine ⟨xv, ?_, h2 E (rel_int hrx).2⟩
    simp [execOp, ho, (rel_int hrx).1, (rel_int hry).1, eqGuard_int, h1]
  cases op <;> simp only [intBin] at hk
  case add => exact key _ _ (fun w => by simp [binOp, Op.intArith]) (fun E _ => .base _ _ (.int _ _ (wf_wrap _ _))) hk
  case sub => exact key _ _ (fun w => by simp [binOp, Op.intArith]) (fun E _ => .base _ _ (.int _ _ (wf_wrap _ _))) hk
  case mul => exact key _ _ (fun w => by simp [binOp, Op.intArith]) (fun E _ => .base _ _ (.int _ _ (wf_wrap _ _))) hk
  case quo => exact key _ _ (fun w => by simp [binOp, Op.intDiv, hk.1]) (fun E _ => .base _ _ (.int _ _ (wf_wrap _ _))) hk.2
  case rem => exact key _ _ (fun w => by simp [binOp, Op.intDiv, hk.1]) (fun E hw => .base _ _ (.int _ _ (wf_tmod _ _ _ hw))) hk.2
  case and => exact key _ _ (fun w => by simp [binOp, Op.intBits]) (fun E _ => .base _ _ (.int _ _ (wf_wrap _ _))) hk
  case shr =>
    refine key _ (.int k (m.fdiv (2 ^ (min n.toNat k.bits)))) (fun w => by simp [binOp, Op.shift, Int.not_lt.2 hk.1]) (fun E hw => ?_) hk.2
    rw [wf_fdiv _ _ _ hw]
    exact .base _ _ (.int _ _ (by rw [← wf_fdiv _ _ _ hw]; exact wf_wrap _ _))
  case eql => exact key _ (.bool (decide (m = n))) (fun w => by simp [binOp, Op.intCmp]; rfl) (fun E _ => .base _ _ (.bool _)) hk
  case neq => exact key _ (.bool (decide (m ≠ n))) (fun w => by simp [binOp, Op.intCmp, bne]; rfl) (fun E _ => .base _ _ (.bool _)) hk
  case lss => exact key _ _ (fun w => by simp [binOp, Op.intCmp]) (fun E _ => .base _ _ (.bool _)) hk
  case leq => exact key _ _ (fun w => by simp [binOp, Op.intCmp]) (fun E _ => .base _ _ (.bool _)) hk
  case gtr => exact key _ _ (fun w => by simp [binOp, Op.intCmp]) (fun E _ => .base _ _ (.bool _)) hk
  case geq => exact key _ _ (fun w => by simp [binOp, Op.intCmp]) (fun E _ => .base _ _ (.bool _)) hk

theorem ok_boolEq {op : BinOp} {t u : Nat} {x y : Operand} {m n : Bool} (h : TabOk P T) {i : TI} (hi : T t = some i) (hd : i.desc = .bool) (ho : o.op = .binOp op t x y u) (hx : st.ev x = .bool m) (hy : st.ev y = .bool n)
    (hk : (op = .eql ∧ K (.bool (m == n)) st) ∨ (op = .neq ∧ K (.bool (m != n)) st)) : OpOk P o st K := by
  obtain ⟨d, hu, htd⟩ := h.und hi
  have hdb := tdOf_bool (htd.trans hd)
  subst hdb
  have h1 : ∀ w, (binOp .eql t (.bool m) (.bool n)).run P w = .ok (.bool (m == n)) w := fun w => by simp [binOp, run_equal_bool w t m n hu]
  have h2 : ∀ w, (binOp .neq t (.bool m) (.bool n)).run P w = .ok (.bool (m != n)) w := fun w => by simp [binOp, run_equal_bool w t m n hu, bne]
  rcases hk with ⟨rfl, hk⟩ | ⟨rfl, hk⟩
  · refine OpOk.pure _ (fun E a hs => ?_) hk
    have hrx := hs.ev x
    have hry := hs.ev y
    rw [hx] at hrx
    rw [hy] at hry
    exact ⟨.bool (m == n), by simp [execOp, ho, rel_bool hrx, rel_bool hry, eqGuard_bool, h1], .base _ _ (.bool _)⟩
  · refine OpOk.pure _ (fun E a hs => ?_) hk
    have hrx := hs.ev x
    have hry := hs.ev y
    rw [hx] at hrx
    rw [hy] at hry
    exact ⟨.bool (m != n), by simp [execOp, ho, rel_bool hrx, rel_bool hry, eqGuard_bool, h2], .base _ _ (.bool _)⟩

theorem ok_extract {x : Operand} {i : Nat} {vs : List AV} {v : AV} (ho : o.op = .extract x i) (hx : st.ev x = .tup vs) (hv : vs[i]? = some v) (hk : K v st) : OpOk P o st K :=
  OpOk.pure _ (fun E a hs => by
    have hr := hs.ev x
    rw [hx] at hr
    obtain ⟨xs, h1, h2, h3⟩ := rel_tup hr
    have hlt : i < xs.size := by rw [h2]; exact (List.getElem?_eq_some_iff.1 hv).1
    have hg : xs[i]? = some xs[i] := Array.getElem?_eq_getElem hlt
    exact ⟨xs[i], by simp [execOp, ho, h1, Instr.extract, hg], h3 i v _ hv hg⟩) hk

theorem ok_convInt {src dst : Nat} {x : Operand} {k k' k0 : IntKind} {n : Int} (h : TabOk P T) {i j : TI} (hi : T src = some i) (hj : T dst = some j) (hid : i.desc = .int k0) (hjd : j.desc = .int k')
    (ho : o.op = .convert src dst x) (hx : st.ev x = .int k n) (hk : K (.int k' (k'.wrap n)) st) : OpOk P o st K := by
  obtain ⟨d, hu, htd⟩ := h.und hi
  obtain ⟨d', hu', htd'⟩ := h.und hj
  have h1 := tdOf_int (htd.trans hid)
  have h2 := tdOf_int (htd'.trans hjd)
  subst h1 h2
  refine OpOk.pure _ (fun E a hs => ?_) hk
  have hr := hs.ev x
  rw [hx] at hr
  exact ⟨.int k' (k'.wrap n), by simp [execOp, ho, (rel_int hr).1, convert, run_underlying hu, run_underlying hu', Conv.intToInt], .base _ _ (.int _ _ (wf_wrap _ _))⟩

theorem ok_makeFunc {f : FuncId} {first caps : Array Operand} (ho : o.op = .makeFunc (.func f) first caps) (hk : K (.fn f (first.toList.map st.ev) (caps.toList.map st.ev)) st) : OpOk P o st K :=
  OpOk.pure _ (fun E a hs => by
    refine ⟨.func (.func f) (first.map a.eval) (caps.map a.eval), by simp [execOp, ho, Instr.makeFunc], .fn _ _ _ _ _ (by simp) (by simp) ?_ ?_⟩
    all_goals
      intro j v x hv hx
      simp only [List.getElem?_map, Option.map_eq_some_iff] at hv
      obtain ⟨p, hp, rfl⟩ := hv
      simp only [Array.getElem?_map, Option.map_eq_some_iff] at hx
      obtain ⟨q, hq, rfl⟩ := hx
      have : p = q := by simpa [hq] using hp.symm
      subst this
      exact hs.ev p) hk

/-! ### Slices that are looked at -/

/-- The length of what reads as a slice. -/
def AV.len? : AV → Option Nat
  | .nilS => some 0
  | .emp => some 0
  | .ro rows => some rows.length
  | .ref _ _ _ len => some len
  | _ => none

theorem rel_slice {v : AV} {x : Value} {n : Nat} (h : Rel E v x) (hn : v.len? = some n) : ∃ a cap, x = .slice a n cap := by
  cases h with
  | base _ _ h => cases h <;> simp_all [AV.len?]
  | ref0 => simp [AV.len?] at hn; subst hn; exact ⟨_, _, rfl⟩
  | ref => simp [AV.len?] at hn; subst hn; exact ⟨_, _, rfl⟩
  | ptr => simp [AV.len?] at hn
  | rptr => simp [AV.len?] at hn
  | fn => simp [AV.len?] at hn
  | agg => simp [AV.len?] at hn
  | tup => simp [AV.len?] at hn
  | undef => simp [AV.len?] at hn

theorem ok_len {x : Operand} {t ty : Nat} {n : Nat} (h : TabOk P T) {i : TI} {e : Nat} (hi : T t = some i) (hd : i.desc = .slice e)
    (ho : o.op = .call { callee := .builtin .len, args := #[x], argTypes := #[t] }) (hx : (st.ev x).len? = some n) (hm : n ≤ maxLen) (hk : K (.int .i64 n) st) : OpOk P o st K := by
  obtain ⟨d, hu, htd⟩ := h.und hi
  have h1 := tdOf_slice (htd.trans hd)
  subst h1
  refine OpOk.pure _ (fun E a hs => ?_) hk
  obtain ⟨ad, cap, hv⟩ := rel_slice (hs.ev x) hx
  refine ⟨.int .i64 n, by simp [execOp, ho, resolve, invoke, builtin, Builtin.len_, hv, run_underlying hu, goInt], .base _ _ (.int _ _ ?_)⟩
  rw [wf_iff]
  simp only [maxLen] at hm
  simp [IntKind.min, IntKind.max, IntKind.signed, IntKind.bits]
  omega

theorem rel_nilS {x : Value} (h : Rel E .nilS x) : x = .slice none 0 0 := by
  cases h with
  | base _ _ h => cases h; rfl

/-- Not nil, surely. -/
def AV.some? : AV → Bool
  | .emp => true
  | .ro (_ :: _) => true
  | .ref _ _ _ (_ + 1) => true
  | .ref true _ _ 0 => true
  | _ => false

theorem rel_some {v : AV} {x : Value} (h : Rel E v x) (hv : v.some? = true) : ∃ b n c, x = .slice (some b) n c := by
  cases h with
  | base _ _ h => cases h <;> first | exact ⟨_, _, _, rfl⟩ | simp [AV.some?] at hv
  | ref => exact ⟨_, _, _, rfl⟩
  | _ => simp [AV.some?] at hv

/-- A slice against nil, where we know which it is. -/
theorem ok_nilEq {op : BinOp} {t u e : Nat} {x y : Operand} (h : TabOk P T) {i : TI} (hi : T t = some i) (hd : i.desc = .slice e) (ho : o.op = .binOp op t x y u) (hy : st.ev y = .nilS) {b : Bool}
    (hx : (st.ev x = .nilS ∧ b = true) ∨ ((st.ev x).some? = true ∧ b = false)) (hk : (op = .eql ∧ K (.bool b) st) ∨ (op = .neq ∧ K (.bool (!b)) st)) : OpOk P o st K := by
  obtain ⟨d, hu, htd⟩ := h.und hi
  have h1 := tdOf_slice (htd.trans hd)
  subst h1
  have hv : ∀ E a, Sim E st a → ∃ ad n c, a.eval x = .slice ad n c ∧ ad.isNone = b ∧ a.eval y = .slice none 0 0 := fun E a hs => by
    have hr := hs.ev x
    have hr' := hs.ev y
    rw [hy] at hr'
    rcases hx with ⟨hx, rfl⟩ | ⟨hx, rfl⟩
    · rw [hx] at hr
      exact ⟨none, 0, 0, rel_nilS hr, rfl, rel_nilS hr'⟩
    · obtain ⟨ad, n, c, h⟩ := rel_some hr hx
      exact ⟨some ad, n, c, h, rfl, rel_nilS hr'⟩
  have hneq : ∀ (w : World) (ad : Option Addr) (n c : Nat), (binOp .neq t (.slice ad n c) (.slice none 0 0)).run P w = .ok (.bool (!ad.isNone)) w := fun w ad n c => by
    simp only [binOp]
    simp [Op.equal, Op.maxDepth, Lib.run_equalIn_slice_nil w 9999 t e ad n c 0 0 hu]
  rcases hk with ⟨rfl, hk⟩ | ⟨rfl, hk⟩
  · refine OpOk.pure _ (fun E a hs => ?_) hk
    obtain ⟨ad, n, c, h1, rfl, h2⟩ := hv E a hs
    exact ⟨.bool ad.isNone, by simp [execOp, ho, h1, h2, eqGuard_slice, Lib.run_eql_slice_nil E.w t e ad n c 0 0 hu], .base _ _ (.bool _)⟩
  · refine OpOk.pure _ (fun E a hs => ?_) hk
    obtain ⟨ad, n, c, h1, rfl, h2⟩ := hv E a hs
    exact ⟨.bool (!ad.isNone), by simp [execOp, ho, h1, h2, eqGuard_slice, hneq], .base _ _ (.bool _)⟩

end
end Go.Proofs.Ytmbckmfihcojoaa.AM
