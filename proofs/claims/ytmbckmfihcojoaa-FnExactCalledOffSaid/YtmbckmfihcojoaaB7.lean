/- The abstract machine, part 7: stores, slices, appends. -/
import Derived.Test.YtmbckmfihcojoaaB6
namespace Go.Proofs.Ytmbckmfihcojoaa.AM
open Go Go.RowKit

set_option linter.unusedVariables false
set_option linter.unusedSimpArgs false

variable {P : Program} {T : Nat → Option TI} {E : Env} {st : St} {a : Act} {K : AV → St → Prop} {o : Oper}

theorem run_store_own {t : Nat} {i : TI} (h : TabOk P T) (hi : T t = some i) (w : World) (b of : Nat) (v : Value) (c : Array Value) (ty : TypeId) (hh : w.heap[b]? = some (.cells c ty (0, 0))) (hs : v.cells.size = i.size)
    (hle : of + v.cells.size ≤ c.size) (h1 : ∀ (j : Nat) (y : Value), v.cells[j]? = some y → y.oneCell' = true) :
    (Instr.storeAt t (.pointer (some ⟨b, of, none⟩)) v).run P w = .ok () (w.setCells b of v.cells.toList) := by
  have hst := run_storeCells_cells (P := P) b of v.cells.toList 0 w
    (fun j hj => by
      rw [cell_of_row w b _ c ty (0, 0) hh]
      have : of + 0 + j < c.size := by simp at hj; omega
      simpa using this)
    (fun j hj => by simp [World.frozen?, hh])
    (fun y hy => by
      obtain ⟨j, hj⟩ := List.getElem?_of_mem hy
      exact h1 j y (by simpa using hj))
  simp only [Nat.add_zero] at hst
  simp [Instr.storeAt, Instr.sureAddr, storeVar, h.size hi, hs, hst]

/-- A write of cells into an object of ours. -/
theorem OpOk.write {id : Nat} (ob : Obj) {ob0 : Obj} (hob0 : lk st.sto id = some ob0) (h : ∀ E a, Sim E st a → ∃ b of vs, E.tag b = some (.root id) ∧ (∀ lo hi, E.win b = some (lo, hi) → lo ≤ of ∧ of + vs.length ≤ hi) ∧ (execOp a.eval o).run P E.w = .ok .skip (E.w.setCells b of vs) ∧ ORel { E with w := E.w.setCells b of vs } id ob)
    (hk : K .undef { st with sto := (id, ob) :: st.sto }) : OpOk P o st K := by
  intro E a KW QW hs hK
  obtain ⟨b, of, vs, ht, hwn, hx, ho⟩ := h E a hs
  unfold Oper.wp
  rw [hx]
  obtain ⟨h1, h2, h3, h4, h5⟩ := setCells_rest b vs of E.w
  obtain ⟨g1, g2⟩ := hs.write (id := id) (ob := ob) (w' := E.w.setCells b of vs) hob0 h1 h2 h3 h4 (fun k hk => h5 k (fun e => hk (e ▸ ht))) (fun k lo hi hw c T hc => by
    by_cases e : k = b
    · subst e
      obtain ⟨c', q1, q2, q3⟩ := heap_setCells k T vs of E.w c hc
      obtain ⟨w1, w2⟩ := hwn lo hi hw
      exact ⟨c', q1, q2, fun j hj => by rw [q3, if_neg (by omega)]⟩
    · exact ⟨c, by rw [h5 k e]; exact hc, rfl, fun _ _ => rfl⟩) ho
  exact hK _ .undef _ _ g2 g1 (.undef _) hk

theorem still_write (hs : Sim E st a) {id b of : Nat} {vs : List Value} (ht : E.tag b = some (.root id)) : ∀ k, E.S k → E.S k ∧ (E.w.setCells b of vs).heap[k]? = E.w.heap[k]? := fun k hk =>
  ⟨hk, (setCells_rest b vs of E.w).2.2.2.2 k (fun e => by rw [e] at hk; rw [(hs.wf.still b hk).1] at ht; cases ht)⟩

theorem ok_storeBox {t id fld : Nat} {i : TI} {p x : Operand} {cells vs : List AV} (h : TabOk P T) (hi : T t = some i) (ho : o.op = .store t p x) (hp : st.ev p = .ptr id 0 fld) (hb : lk st.sto id = some (.box cells))
    (hf : (st.ev x).flat = some vs) (hn : vs.length = i.size) (hle : fld + vs.length ≤ cells.length) (hk : K .undef { st with sto := (id, .box (setMany cells fld vs)) :: st.sto }) : OpOk P o st K := by
  refine OpOk.write _ hb (fun E a hs => ?_) hk
  obtain ⟨L, c, ty, h1, h2, h3, h4, h5, hw, h6⟩ := hs.sto id _ hb
  have hrp := hs.ev p
  rw [hp] at hrp
  obtain ⟨g1, g2, g3⟩ := rel_flat (hs.ev x) hf
  have hpv : a.eval p = .pointer (some ⟨L.blk, L.base + fld, none⟩) := by
    generalize a.eval p = xv at hrp
    cases hrp with
    | base _ _ h => cases h
    | ptr _ _ _ L' hL =>
      rw [h1] at hL
      obtain rfl := Option.some.inj hL
      simp
  refine ⟨L.blk, L.base + fld, (a.eval x).cells.toList, h3, fun lo hi hq => ?_, ?_, ?_⟩
  · have := hw lo hi hq
    simp only [Array.length_toList]
    omega
  · simp [execOp, ho, hpv, run_store_own h hi E.w L.blk (L.base + fld) (a.eval x) c ty h4 (by omega) (by omega) g2]
  · obtain ⟨c', hc1, hc2, hc3⟩ := heap_setCells L.blk ty (a.eval x).cells.toList (L.base + fld) E.w c h4
    have hsl := setMany_length cells fld vs hle
    refine ⟨L, c', ty, h1, h2, h3, hc1, by rw [hc2, hsl]; exact h5, by rw [hsl]; exact hw, fun j v hj => ?_⟩
    rw [setMany_get _ _ _ hle] at hj
    rw [hc3]
    simp only [Array.length_toList]
    by_cases hjj : fld ≤ j ∧ j < fld + vs.length
    · rw [if_pos hjj] at hj
      have hlt : j - fld < (a.eval x).cells.size := by omega
      have hg := Array.getElem?_eq_getElem hlt
      rw [if_pos (by omega)]
      exact ⟨(a.eval x).cells[j - fld], by rw [show L.base + j - (L.base + fld) = j - fld by omega]; simp [hlt], g2 _ _ hg, (g3 _ v _ hj hg).to (still_write hs h3) fun _ _ _ hL => hL⟩
    · rw [if_neg hjj] at hj
      rw [if_neg (by omega)]
      obtain ⟨y, hy1, hy2, hy3⟩ := h6 j v hj
      exact ⟨y, hy1, hy2, hy3.to (still_write hs h3) fun _ _ _ hL => hL⟩

/-- What may lie in an array's cell. -/
def AV.cell (fl : Bool) (v : AV) : Option AV :=
  match fl with
  | true => match v with
    | .int k n => some (.int k n)
    | .bool b => some (.bool b)
    | _ => none
  | false => match v with
    | .nilS => some (.own 1 true [])
    | .emp => some (.own 1 true [])
    | .tup _ => none
    | .agg _ => none
    | .own _ _ _ => none
    | .ownp _ => none
    | v => some v

def cellsOf (fl : Bool) : List AV → Option (List AV)
  | [] => some []
  | v :: r => match v.cell fl, cellsOf fl r with
    | some u, some us => some (u :: us)
    | _, _ => none

theorem cellsOf_get {fl : Bool} : ∀ {vs us : List AV}, cellsOf fl vs = some us → us.length = vs.length ∧ ∀ (j : Nat) (u : AV), us[j]? = some u → ∃ v, vs[j]? = some v ∧ v.cell fl = some u
  | [], us, h => by simp [cellsOf] at h; subst h; exact ⟨rfl, fun j u hj => by simp at hj⟩
  | v :: r, us, h => by
    unfold cellsOf at h
    split at h
    · rename_i u us' h1 h2
      obtain rfl := Option.some.inj h
      obtain ⟨g1, g2⟩ := cellsOf_get h2
      refine ⟨by simp [g1], fun j w hj => ?_⟩
      cases j with
      | zero => simp at hj; subst hj; exact ⟨v, rfl, h1⟩
      | succ j => exact g2 j w (by simpa using hj)
    · cases h

theorem cell_rel {fl : Bool} {v u : AV} {x : Value} {τ : Tag} (h : Rel E v x) (hc : v.cell fl = some u) : Cell E fl τ u x := by
  cases fl with
  | true =>
    cases v with
    | int k n => simp [AV.cell] at hc; subst hc; rw [(rel_int h).1]; exact .int _ _ (rel_int h).2
    | bool b => simp [AV.cell] at hc; subst hc; rw [rel_bool h]; exact .bool _
    | _ => simp [AV.cell] at hc
  | false =>
    cases v with
    | nilS => simp [AV.cell] at hc; subst hc; rw [rel_nilS h]; exact .inr ⟨_, [], rfl, .inl ⟨rfl, .inr rfl⟩⟩
    | emp =>
      simp [AV.cell] at hc
      subst hc
      cases h with
      | base _ _ h => cases h; exact .inr ⟨_, [], rfl, .inl ⟨rfl, .inl ⟨_, rfl⟩⟩⟩
    | _ => simp [AV.cell] at hc <;> (subst hc; exact .inl h)

theorem ok_storeArr {t id row fld sz : Nat} {fl : Bool} {i : TI} {p x : Operand} {rows : List (List AV)} {r vs us : List AV} (h : TabOk P T) (hi : T t = some i) (ho : o.op = .store t p x) (hp : st.ev p = .ptr id row fld) (hb : lk st.sto id = some (.arr sz fl rows))
    (hr : rows[row]? = some r) (hf : (st.ev x).flat = some vs) (hn : vs.length = i.size) (hle : fld + vs.length ≤ r.length) (hu : cellsOf fl vs = some us)
    (hk : K .undef { st with sto := (id, .arr sz fl (rows.set row (setMany r fld us))) :: st.sto }) : OpOk P o st K := by
  refine OpOk.write _ hb (fun E a hs => ?_) hk
  rcases hs.sto id _ hb with ⟨_, h2⟩ | ⟨L, c, ty, h1, hsz, h2, h3, h4, h5, h6, h7, hwa, h8, h9⟩
  · rw [h2] at hr; simp at hr
  have hrp := hs.ev p
  rw [hp] at hrp
  obtain ⟨g1, g2, g3⟩ := rel_flat (hs.ev x) hf
  obtain ⟨q1, q2⟩ := cellsOf_get hu
  have hpv : a.eval p = .pointer (some ⟨L.blk, L.base + row * L.siz + fld, none⟩) := by
    generalize a.eval p = xv at hrp
    cases hrp with
    | base _ _ h => cases h
    | ptr _ _ _ L' hL =>
      rw [h1] at hL
      obtain rfl := Option.some.inj hL
      rfl
  have hrow := (List.getElem?_eq_some_iff.1 hr).1
  have hrl := h8 _ _ hr
  have hmul : row * L.siz + L.siz ≤ L.cap * L.siz := by
    rw [← Nat.succ_mul]; exact Nat.mul_le_mul_right _ (by omega)
  refine ⟨L.blk, L.base + row * L.siz + fld, (a.eval x).cells.toList, h3, (fun lo hi hq => by rw [hwa] at hq; cases hq), ?_, ?_⟩
  · simp [execOp, ho, hpv, run_store_own h hi E.w L.blk (L.base + row * L.siz + fld) (a.eval x) c ty h4 (by omega) (by omega) g2]
  · obtain ⟨c', hc1, hc2, hc3⟩ := heap_setCells L.blk ty (a.eval x).cells.toList (L.base + row * L.siz + fld) E.w c h4
    have hset : ∀ (i : Nat) (r' : List AV), (rows.set row (setMany r fld us))[i]? = some r' → r'.length = L.siz := fun i r' hi' => by
      by_cases hri : row = i
      · rw [List.getElem?_set, if_pos hri, if_pos hrow] at hi'
        obtain rfl := Option.some.inj hi'
        rw [setMany_length _ _ _ (by omega)]; exact hrl
      · rw [List.getElem?_set, if_neg hri] at hi'
        exact h8 _ _ hi'
    refine .inr ⟨L, c', ty, h1, hsz, h2, h3, hc1, by rw [hc2]; exact h5, by simpa using h6, h7, hwa, hset, fun i j r' v hi' hj => ?_⟩
    have hcell : ∀ {u : AV} {y : Value}, Cell E fl (.cell id i j) u y → Cell { E with w := E.w.setCells L.blk (L.base + row * L.siz + fld) (a.eval x).cells.toList } fl (.cell id i j) u y := fun hq =>
      hq.to (still_write hs h3) (fun _ _ _ hL => hL) fun b hb => ⟨hb, (setCells_rest _ _ _ _).2.2.2.2 b (fun e => by rw [e, h3] at hb; cases hb)⟩
    rw [hc3]
    simp only [Array.length_toList]
    rw [List.getElem?_set] at hi'
    by_cases hir : row = i
    · subst hir
      rw [if_pos rfl, if_pos hrow] at hi'
      obtain rfl := Option.some.inj hi'
      rw [setMany_get _ _ _ (by omega)] at hj
      by_cases hjj : fld ≤ j ∧ j < fld + us.length
      · rw [if_pos hjj] at hj
        obtain ⟨v', hv1, hv2⟩ := q2 _ _ hj
        have hlt : j - fld < (a.eval x).cells.size := by omega
        have hg := Array.getElem?_eq_getElem hlt
        rw [if_pos (by omega)]
        have he : L.base + row * L.siz + j - (L.base + row * L.siz + fld) = j - fld := by omega
        rw [he]
        exact ⟨(a.eval x).cells[j - fld], by simp [hlt], g2 _ _ hg, hcell (cell_rel (g3 _ v' _ hv1 hg) hv2)⟩
      · rw [if_neg hjj] at hj
        rw [if_neg (by omega)]
        obtain ⟨y, hy1, hy2, hy3⟩ := h9 _ _ _ _ hr hj
        exact ⟨y, hy1, hy2, hcell hy3⟩
    · rw [if_neg hir] at hi'
      have hjl : j < L.siz := by rw [← h8 _ _ hi']; exact (List.getElem?_eq_some_iff.1 hj).1
      have hne : ¬ (L.base + row * L.siz + fld ≤ L.base + i * L.siz + j ∧ L.base + i * L.siz + j < L.base + row * L.siz + fld + (a.eval x).cells.size ∧ L.base + i * L.siz + j < c.size) := by
        rcases Nat.lt_or_gt_of_ne hir with hlt | hgt
        · have : row * L.siz + L.siz ≤ i * L.siz := by rw [← Nat.succ_mul]; exact Nat.mul_le_mul_right _ hlt
          omega
        · have : i * L.siz + L.siz ≤ row * L.siz := by rw [← Nat.succ_mul]; exact Nat.mul_le_mul_right _ hgt
          omega
      rw [if_neg hne]
      obtain ⟨y, hy1, hy2, hy3⟩ := h9 _ _ _ _ hi' hj
      exact ⟨y, hy1, hy2, hcell hy3⟩

/-! ### Slices cut -/

def hiOf (n : Nat) (hi : Option AV) : Option Int :=
  match hi with
  | none => some n
  | some (.int _ h) => some h
  | _ => none

def loOf (lo : Option AV) : Option Int :=
  match lo with
  | none => some 0
  | some (.int _ h) => some h
  | _ => none

theorem loOf_some {v : AV} {l : Int} (h : loOf (some v) = some l) : ∃ k, v = .int k l := by
  cases v <;> simp [loOf] at h
  subst h; exact ⟨_, rfl⟩
theorem hiOf_some {v : AV} {n : Nat} {l : Int} (h : hiOf n (some v) = some l) : ∃ k, v = .int k l := by
  cases v <;> simp [hiOf] at h
  subst h; exact ⟨_, rfl⟩

/-- 'x[lo:hi]'. -/
def St.cut (st : St) (size : Nat) (x : AV) (lo hi : Option AV) (K : AV → Prop) : Prop :=
  match x with
  | .ref p id off len =>
    match lk st.sto id, loOf lo, hiOf len hi with
    | some (.arr s _ rows), some l, some h => (0 ≤ l ∧ l ≤ h ∧ (h ≤ len ∨ (p = true ∧ h ≤ ((rows.length - off : Nat) : Int)))) ∧ (off + len ≤ rows.length) ∧ s = size ∧ K (.ref ((p || decide (0 < len)) && decide (off + l.toNat < rows.length)) id (off + l.toNat) (h - l).toNat)
    | _, _, _ => False
  | .ro rows =>
    match loOf lo, hiOf rows.length hi with
    | some l, some h => (0 ≤ l ∧ l ≤ h ∧ h ≤ rows.length) ∧ (∀ r ∈ rows, r.length = size) ∧ K (.ro ((rows.take h.toNat).drop l.toNat))
    | _, _ => False
  | _ => False

theorem run_sliceBound (w : World) (k : IntKind) (n : Int) (y : Nat) (c : BoundsCode) (h0 : 0 ≤ n) (h : n ≤ y) : (Instr.sliceBound (.int k n) y c).run P w = .ok n.toNat w := by
  simp [Instr.sliceBound, asIntOf, h0, h]

theorem ok_slice {t e : Nat} {i j : TI} {x : Operand} {lo hi : Option Operand} (h : TabOk P T) (hti : T t = some i) (hd : i.desc = .slice e) (hj : T e = some j) (ho : o.op = .slice t x lo hi none)
    (hk : st.cut j.size (st.ev x) (lo.map st.ev) (hi.map st.ev) fun v => K v st) : OpOk P o st K := by
  obtain ⟨d, hu, htd⟩ := h.und hti
  have hd1 := tdOf_slice (htd.trans hd)
  subst hd1
  have hsz := fun w => h.size (P := P) hj w
  have key : ∀ (E : Env) (a : Act), Sim E st a → ∀ (ad : Option Addr) (len cap : Nat) (l hh : Int), a.eval x = .slice ad len cap → len ≤ cap → loOf (lo.map st.ev) = some l → hiOf len (hi.map st.ev) = some hh → 0 ≤ l → l ≤ hh → hh ≤ cap →
      (execOp a.eval o).run P E.w = .ok (.value (.slice (if cap = l.toNat then ad else ad.map (·.add (l.toNat * j.size))) (hh.toNat - l.toNat) (cap - l.toNat))) E.w := by
    intro E a hs ad len cap l hh hx hlc hl hhi h0 hlh hhc
    have hlo : ∀ y : Nat, l ≤ y → (match lo.map a.eval with | some v => Instr.sliceBound v y .sliceB | none => pure 0 : Sem Nat).run P E.w = .ok l.toNat E.w := fun y hy => by
      cases lo with
      | none => simp [loOf] at hl; subst hl; simp
      | some lo =>
        obtain ⟨k, hv⟩ := loOf_some hl
        have hr := hs.ev lo
        rw [hv] at hr
        simp [(rel_int hr).1, run_sliceBound (P := P) E.w _ _ _ _ h0 hy]
    have hb : (Instr.sliceBounds true len cap (lo.map a.eval) (hi.map a.eval) none).run P E.w = .ok (l.toNat, hh.toNat, cap) E.w := by
      cases hi with
      | none =>
        simp [hiOf] at hhi
        subst hhi
        have := hlo len hlh
        simp only [Instr.sliceBounds, Option.map_none, Sem.run_bind, Sem.run_pure, Result.andThen_ok, Option.isSome_none, Bool.false_eq_true, if_false, this, Int.toNat_natCast]
        cases lo with
        | none => simp only [Option.map_none, Sem.run_pure, Result.ok.injEq] at this; simp [this.1]
        | some lo => simp only [Option.map_some] at this; simp only [Option.map_some, Sem.run_bind, this, Result.andThen_ok, Sem.run_pure]
      | some hi =>
        obtain ⟨k, hv⟩ := hiOf_some hhi
        have hr := hs.ev hi
        rw [hv] at hr
        have hb2 := run_sliceBound (P := P) E.w k hh cap .sliceAcap (by omega) hhc
        have := hlo hh.toNat (by omega)
        simp only [Instr.sliceBounds, Option.map_none, Option.map_some, (rel_int hr).1, Sem.run_bind, Sem.run_pure, Result.andThen_ok, Option.isSome_none, Bool.false_eq_true, if_false, if_true, hb2, this]
        cases lo with
        | none => simp only [Option.map_none, Sem.run_pure, Result.ok.injEq] at this; simp [this.1]
        | some lo => simp only [Option.map_some] at this; simp only [Option.map_some, Sem.run_bind, this, Result.andThen_ok, Sem.run_pure]
    simp [execOp, ho, hx, Instr.sliceAt, Instr.slice, run_underlying hu, hb, hsz]
  unfold St.cut at hk
  split at hk
  · rename_i pf id off len hp
    split at hk
    · rename_i sz fl rows l hh hq hl hhi
      obtain ⟨⟨h0, hlh, hhr⟩, hor, hrl, hk⟩ := hk
      refine OpOk.pure _ (fun E a hs => ?_) hk
      have hrx := hs.ev x
      rw [hp] at hrx
      have hk' := key E a hs
      generalize a.eval x = xv at hrx hk'
      cases hrx with
      | base _ _ h => cases h
      | ref0 _ _ cap ad hc =>
        subst hc
        have hh0 : hh = 0 := by rcases hhr with h | ⟨h, _⟩; omega; cases h
        have hl0 : l = 0 := by omega
        subst hh0 hl0
        refine ⟨_, hk' _ _ _ 0 0 rfl (by omega) hl hhi h0 hlh (by omega), ?_⟩
        simp
        exact .ref0 _ _ _ _ rfl
      | ref _ _ _ _ L cap hL hle hcap =>
        rcases hs.sto id _ hq with ⟨h1, h2⟩ | ⟨L', c, ty, h1, hsz2, h2, h3, h4, h5, h6, h7, hwa, h8, h9⟩
        · rw [h1] at hL; cases hL
        rw [h1] at hL
        obtain rfl := Option.some.inj hL
        have hhc : hh ≤ cap := by rcases hhr with h | ⟨_, h⟩ <;> omega
        refine ⟨_, hk' _ _ _ l hh rfl hle hl hhi h0 hlh hhc, ?_⟩
        by_cases hcl : cap = l.toNat
        · rw [if_pos hcl, show hh.toNat - l.toNat = 0 by omega, show (hh - l).toNat = 0 by omega]
          have : decide (off + l.toNat < rows.length) = false := by simp; omega
          rw [this, Bool.and_false]
          exact .ref0 _ _ _ _ (by omega)
        · rw [if_neg hcl]
          simp only [Option.map_some, Addr.add_mid]
          have hsl : l.toNat * j.size = l.toNat * L'.siz := by rw [hsz2, hrl]
          rw [hsl, Nat.add_assoc, ← Nat.add_mul, show hh.toNat - l.toNat = (hh - l).toNat by omega]
          exact .ref _ _ _ _ L' _ h1 (by omega) (by omega)
    · exact hk.elim
  · rename_i rows hp
    split at hk
    · rename_i l hh hl hhi
      obtain ⟨⟨h0, hlh, hhr⟩, hrl, hk⟩ := hk
      refine OpOk.pure _ (fun E a hs => ?_) hk
      have hrx := hs.ev x
      rw [hp] at hrx
      have hk' := key E a hs
      generalize a.eval x = xv at hrx hk'
      cases hrx with
      | base _ _ h =>
        cases h with
        | ro0 ad cap hc1 hc2 =>
          simp at hhr
          refine ⟨_, hk' _ _ _ l hh rfl (by omega) hl hhi h0 hlh (by omega), ?_⟩
          have hl0 : l = 0 := by omega
          have hh0 : hh = 0 := by omega
          subst hl0 hh0
          have : (if cap = Int.toNat 0 then ad else Option.map (fun x => x.add (Int.toNat 0 * j.size)) ad) = ad := by
            split
            · rfl
            · cases ad <;> simp [Addr.add]
          rw [this]
          simpa using Rel.base (E := E) _ _ (.ro0 ad cap hc1 hc2)
        | ro _ b oo cap s f g1 g2 g3 g4 g5 g6 g7 =>
          refine ⟨_, hk' _ _ _ l hh rfl (by omega) hl hhi h0 hlh (by omega), ?_⟩
          have hlen : ((rows.take hh.toNat).drop l.toNat).length = hh.toNat - l.toNat := by simp; omega
          by_cases hemp : hh.toNat - l.toNat = 0
          · have : (rows.take hh.toNat).drop l.toNat = [] := List.eq_nil_of_length_eq_zero (by omega)
            rw [this, hemp]
            refine .base _ _ (.ro0 _ _ (by omega) ?_)
            intro hn
            split at hn <;> simp at hn
          · have hcl : ¬ cap = l.toNat := by omega
            rw [if_neg hcl]
            simp only [Option.map_some, Addr.add_mid]
            have hsl : l.toNat * j.size = l.toNat * s := by
              have hlt : 0 < rows.length := by omega
              have hg := List.getElem?_eq_getElem hlt
              rw [← g5 _ _ hg, hrl _ (List.getElem_mem hlt)]
            rw [hsl, ← hlen]
            refine .base _ _ (.ro _ b _ _ s (fun p q => f (l.toNat + p) q) (fun e => by rw [e] at hlen; simp at hlen; omega) (by omega) (by omega) g4 ?_ ?_ ?_)
            all_goals
              intro p
              have hget : ∀ r', ((rows.take hh.toNat).drop l.toNat)[p]? = some r' → rows[l.toNat + p]? = some r' := fun r' hr' => by
                rw [List.getElem?_drop, List.getElem?_take] at hr'
                split at hr'
                · exact hr'
                · cases hr'
            · intro r' hr'
              exact g5 _ _ (hget _ hr')
            · intro q r' v hr' hq
              rw [← g6 _ _ _ _ (hget _ hr') hq]
              congr 2
              rw [Nat.add_mul]; omega
            · intro q r' v hr' hq
              exact g7 _ _ _ _ (hget _ hr') hq
    · exact hk.elim
  · exact hk.elim

theorem ok_sliceNil {t e : Nat} {i j : TI} {x : Operand} (h : TabOk P T) (hti : T t = some i) (hd : i.desc = .slice e) (hj : T e = some j) (ho : o.op = .slice t x none none none) (hx : st.ev x = .nilS) (hk : K .nilS st) : OpOk P o st K := by
  obtain ⟨d, hu, htd⟩ := h.und hti
  have hd1 := tdOf_slice (htd.trans hd)
  subst hd1
  have hsz := fun w => h.size (P := P) hj w
  refine OpOk.pure _ (fun E a hs => ?_) hk
  have hr := hs.ev x
  rw [hx] at hr
  refine ⟨.slice none 0 0, ?_, .base _ _ .nilS⟩
  simp [execOp, ho, rel_nilS hr, Instr.sliceAt, Instr.slice, run_underlying hu, Instr.sliceBounds, hsz]

end Go.Proofs.Ytmbckmfihcojoaa.AM
