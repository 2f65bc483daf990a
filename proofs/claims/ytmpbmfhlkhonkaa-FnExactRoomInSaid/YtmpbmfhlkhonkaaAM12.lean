/- The abstract machine, part 12: what must be shown of code. -/
import Derived.Test.YtmpbmfhlkhonkaaAM11
import Derived.Test.YtmpbmfhlkhonkaaAM7M
namespace Go.Proofs.Ytmpbmfhlkhonkaa.AM
open Go Go.RowKit

set_option linter.unusedVariables false
set_option linter.unusedSimpArgs false

/-! ### Places where the reckoning stops -/

structure ALoop (P : Program) (c : Code) (Q : Exit → St → Prop) (st : St) : Prop where
  out : awp P (.loop c) Q st

/-- What an operation does to our objects: new ones, changed ones, lost ones; the names that it takes. -/
structure Dl where
  sto : List (Nat × Option Obj)
  used : List Nat

def updSto : List (Nat × Option Obj) → List (Nat × Obj) → List (Nat × Obj)
  | [], s => s
  | (k, some o) :: r, s => (k, o) :: updSto r s
  | (k, none) :: r, s => rm (updSto r s) k

def St.upd (st : St) (d : Dl) : St := { st with sto := updSto d.sto st.sto, used := d.used ++ st.used }

def Dl.no : Dl := ⟨[], []⟩

structure AOp (P : Program) (o : Oper) (st : St) (K : AV → Dl → Prop) : Prop where
  out : OpOk P o st fun v s => ∃ d, s = st.upd d ∧ K v d

/-- A call of f with these values. -/
structure ACall (P : Program) (f : FuncId) (avs : List AV) (lab : Nat) (st : St) (K : AV → Dl → Prop) : Prop where
  out : ∃ al bs r, Sound P f al bs (· = r) ∧ (al = false ∧ lends st avs bs ∨ bs = avs ∧ idsL bs = []) ∧ r.small = true ∧ K (adopt lab r) ⟨(objsOf lab r).map fun p => (p.1, some p.2), (objsOf lab r).map (·.1)⟩

theorem ACall.of {P : Program} {f : FuncId} {avs bs : List AV} {lab : Nat} {st : St} {K : AV → Dl → Prop} {r : AV} (h : Sound P f false bs (· = r)) (hl : lends st avs bs) (hs : r.small = true)
    (hk : K (adopt lab r) ⟨(objsOf lab r).map fun p => (p.1, some p.2), (objsOf lab r).map (·.1)⟩) : ACall P f avs lab st K :=
  ⟨false, bs, r, h, .inl ⟨rfl, hl⟩, hs, hk⟩

theorem updSto_some : ∀ (l s : List (Nat × Obj)), updSto (l.map fun p => (p.1, some p.2)) s = l ++ s
  | [], _ => rfl
  | (k, o) :: r, s => by
    show (k, o) :: updSto (r.map fun p => (p.1, some p.2)) s = _
    rw [updSto_some r s]; rfl

/-! ### The reckoning's own arithmetic: kept apart, so that what is not known stands still -/

structure Sy where
  bin : BinOp → IntKind → Int → Int → Int
  tst : BinOp → Int → Int → Bool
  neg : IntKind → Int → Int
  conv : IntKind → Int → Int
  beq : Bool → Bool → Bool
  len : List (List AV) → Nat
  off : Nat → Int → Nat
  span : Int → Int → Nat
  ofNat : Nat → Int
  cut : List (List AV) → Int → Int → List (List AV)
  get : List (List AV) → Nat → Option (List AV)
  lt : Nat → Nat → Bool
  nat : Int → Nat
  rep : Int → List AV → List (List AV)
  part : List (List AV) → Nat → Nat → List (List AV)
  add : Nat → Nat → Nat
  app : List (List AV) → List (List AV) → List (List AV)
  set : List (List AV) → Nat → List AV → List (List AV)

def syBin (op : BinOp) (k : IntKind) (m n : Int) : Int :=
  match op with
  | .add => k.wrap (m + n)
  | .sub => k.wrap (m - n)
  | .mul => k.wrap (m * n)
  | .quo => k.wrap (m.tdiv n)
  | .rem => m.tmod n
  | .and => k.wrap (BitVec.ofInt k.bits m &&& BitVec.ofInt k.bits n).toNat
  | _ => k.wrap (m.fdiv (2 ^ (min n.toNat k.bits)))

def syTst (op : BinOp) (m n : Int) : Bool :=
  match op with
  | .eql => decide (m = n)
  | .neq => decide (m ≠ n)
  | .lss => decide (m < n)
  | .leq => decide (m ≤ n)
  | .gtr => decide (m > n)
  | _ => decide (m ≥ n)

def sy : Sy where
  bin := syBin
  tst := syTst
  neg := fun k n => k.wrap (0 - n)
  conv := fun k n => k.wrap n
  beq := fun a b => a == b
  len := List.length
  off := fun a n => a + n.toNat
  span := fun l h => (h - l).toNat
  ofNat := fun n => (n : Int)
  cut := fun rows l h => (rows.take h.toNat).drop l.toNat
  get := fun rows i => rows[i]?
  lt := fun a b => decide (a < b)
  nat := fun n => n.toNat
  rep := fun n us => List.replicate n.toNat us
  part := fun rows off len => (rows.drop off).take len
  add := fun a b => a + b
  app := fun a b => a ++ b
  set := fun rows i r => rows.set i r

/-- A pointer that is handed on leads to a variable. -/
def boxed0 (st : St) : AV → Bool
  | .ptr id _ _ => match lk st.sto id with
    | some (.box _) => true
    | _ => false
  | _ => true

def boxed1 (st : St) : AV → Bool
  | .fn _ x y => x.all (boxed0 st) && y.all (boxed0 st)
  | v => boxed0 st v

/-- What is to be shown by hand. -/
structure Need (p : Unit → Prop) : Prop where
  out : p ()

def intVC (A : Sy) (op : BinOp) (k : IntKind) (m n : Int) (K : AV → Prop) : Prop :=
  match op with
  | .add => K (.int k (A.bin .add k m n))
  | .sub => K (.int k (A.bin .sub k m n))
  | .mul => K (.int k (A.bin .mul k m n))
  | .quo => Need (fun _ => n ≠ 0) ∧ K (.int k (A.bin .quo k m n))
  | .rem => Need (fun _ => n ≠ 0) ∧ K (.int k (A.bin .rem k m n))
  | .and => K (.int k (A.bin .and k m n))
  | .shr => Need (fun _ => 0 ≤ n) ∧ K (.int k (A.bin .shr k m n))
  | .eql => K (.bool (A.tst .eql m n))
  | .neq => K (.bool (A.tst .neq m n))
  | .lss => K (.bool (A.tst .lss m n))
  | .leq => K (.bool (A.tst .leq m n))
  | .gtr => K (.bool (A.tst .gtr m n))
  | .geq => K (.bool (A.tst .geq m n))
  | _ => False

theorem intVC_sound {op : BinOp} {k : IntKind} {m n : Int} {K : AV → Prop} (h : intVC sy op k m n K) : intBin op k m n K := by
  cases op <;> first | exact h | exact h.elim | exact ⟨h.1.out, h.2⟩

/-- A slice's length where it reads as one. -/
def lenVC (A : Sy) (T : Nat → Option TI) (t : Nat) (v : AV) (K : AV → Prop) : Prop :=
  match T t with
  | some { desc := .slice _, .. } => match v with
    | .nilS => K (.int .i64 0)
    | .emp => K (.int .i64 0)
    | .ro rows => Need (fun _ => rows.length ≤ maxLen) ∧ K (.int .i64 (A.ofNat (A.len rows)))
    | .ref _ _ _ n => Need (fun _ => n ≤ maxLen) ∧ K (.int .i64 (A.ofNat n))
    | _ => False
  | _ => False

def nilVC (A : Sy) (op : BinOp) (v : AV) (K : AV → Prop) : Prop :=
  match op with
  | .eql => match v with
    | .nilS => K (.bool true)
    | .emp => K (.bool false)
    | .ro rows => Need (fun _ => (rows = [] → K (.bool true)) ∧ K (.bool false))
    | .ref _ _ _ n => Need (fun _ => 0 < n) ∧ K (.bool false)
    | _ => False
  | .neq => match v with
    | .nilS => K (.bool false)
    | .emp => K (.bool true)
    | .ro rows => Need (fun _ => (rows = [] → K (.bool false)) ∧ K (.bool true))
    | .ref _ _ _ n => Need (fun _ => 0 < n) ∧ K (.bool true)
    | _ => False
  | _ => False

def storeVC (A : Sy) (T : Nat → Option TI) (st : St) (t : Nat) (p v : AV) (K : AV → Dl → Prop) : Prop :=
  match T t, v.flat, p with
  | some i, some vs, .ptr id row fld =>
    match lk st.sto id with
    | some (.box cells) => bif nbeq row 0 && nbeq vs.length i.size && nble (fld + vs.length) cells.length then K .undef ⟨[(id, some (.box (setMany cells fld vs)))], []⟩ else False
    | some (.arr s fl rows) =>
      match cellsOf fl vs with
      | some us => Need fun _ => ∃ r, rows[row]? = some r ∧ (vs.length = i.size ∧ fld + vs.length ≤ r.length) ∧ K .undef ⟨[(id, some (.arr s fl (A.set rows row (setMany r fld us))))], []⟩
      | _ => False
    | none => False
  | _, _, _ => False

def St.elemVC (A : Sy) (st : St) (size : Nat) (x : AV) (n : Int) (K : AV → Prop) : Prop :=
  match x with
  | .ref _ id off len => match lk st.sto id with
    | some (.arr s _ rows) => Need (fun _ => (0 ≤ n ∧ n < len) ∧ s = size ∧ off + n.toNat < rows.length) ∧ K (.ptr id (A.off off n) 0)
    | _ => False
  | .ro rows => Need fun _ => 0 ≤ n ∧ ∃ r, rows[n.toNat]? = some r ∧ r.length = size ∧ K (.rptr r)
  | _ => False

theorem St.elemVC_sound {st : St} {size : Nat} {x : AV} {n : Int} {K : AV → Prop} (h : st.elemVC sy size x n K) : st.elem size x n K := by
  unfold St.elemVC at h
  unfold St.elem
  split at h
  · split at h
    · rename_i hq
      simp only [hq]
      exact ⟨h.1.out.1, h.1.out.2.1, h.1.out.2.2, h.2⟩
    · exact h.elim
  · exact h.out
  · exact h.elim

def hiVC (A : Sy) (n : Nat) (hi : Option AV) : Option Int :=
  match hi with
  | some (.int _ n) => some n
  | none => some (A.ofNat n)
  | _ => none

def loVC (lo : Option AV) : Option Int :=
  match lo with
  | some (.int _ n) => some n
  | none => some 0
  | _ => none

def St.cutVC (A : Sy) (st : St) (size : Nat) (x : AV) (lo hi : Option AV) (K : AV → Prop) : Prop :=
  match x with
  | .ref p id off len =>
    match lk st.sto id, loVC lo, hiVC A len hi with
    | some (.arr s _ rows), some l, some h => Need (fun _ => (0 ≤ l ∧ l ≤ h ∧ (h ≤ len ∨ (p = true ∧ h ≤ ((rows.length - off : Nat) : Int)))) ∧ (off + len ≤ rows.length) ∧ s = size) ∧ K (.ref (p && A.lt (A.off off l) (A.len rows)) id (A.off off l) (A.span l h))
    | _, _, _ => False
  | .ro rows =>
    match loVC lo, hiVC A (A.len rows) hi with
    | some l, some h => Need (fun _ => (0 ≤ l ∧ l ≤ h ∧ h ≤ rows.length) ∧ (∀ r ∈ rows, r.length = size)) ∧ K (.ro (A.cut rows l h))
    | _, _ => False
  | _ => False

theorem hiVC_eq (n : Nat) (hi : Option AV) : hiVC sy n hi = hiOf n hi := by
  unfold hiVC hiOf
  split <;> simp_all [sy]
theorem loVC_eq (lo : Option AV) : loVC lo = loOf lo := by
  unfold loVC loOf
  split <;> simp_all [sy]

theorem St.cutVC_sound {st : St} {size : Nat} {x : AV} {lo hi : Option AV} {K : AV → Prop} (h : st.cutVC sy size x lo hi K) : st.cut size x lo hi K := by
  unfold St.cutVC at h
  unfold St.cut
  split at h
  · rw [loVC_eq, hiVC_eq] at h
    split at h
    · rename_i h1 h2 h3
      simp only [h1, h2, h3]
      exact ⟨h.1.out.1, h.1.out.2.1, h.1.out.2.2, h.2⟩
    · exact h.elim
  · rename_i rows
    rw [loVC_eq, show hiVC sy (sy.len rows) hi = hiOf rows.length hi from hiVC_eq _ _] at h
    split at h
    · rename_i h1 h2
      simp only [h1, h2]
      exact ⟨h.1.out.1, h.1.out.2, h.2⟩
    · exact h.elim
  · exact h.elim

/-- What reads as a slice, by its content. -/
def St.srcVC (A : Sy) (st : St) (v : AV) (K : List (List AV) → Prop) : Prop :=
  match v with
  | .nilS => K []
  | .emp => K []
  | .ro rows => K rows
  | .ref _ id off len => match lk st.sto id with
    | some (.arr _ true rows) => Need (fun _ => off + len ≤ rows.length) ∧ K (A.part rows off len)
    | _ => False
  | _ => False

theorem St.srcVC_sound {st : St} {v : AV} {K : List (List AV) → Prop} (h : st.srcVC sy v K) : ∃ ys, st.rows v = some ys ∧ K ys := by
  unfold St.srcVC at h
  split at h
  · exact ⟨_, rfl, h⟩
  · exact ⟨_, rfl, h⟩
  · exact ⟨_, rfl, h⟩
  · split at h
    · rename_i hq
      refine ⟨_, ?_, h.2⟩
      have := h.1.out
      simp only [St.rows, hq, show nble _ _ = true from by simp only [nble]; exact decide_eq_true this]
      rfl
    · exact h.elim
  · exact h.elim

def St.appVC (A : Sy) (st : St) (j : TI) (lab : Nat) (x y : AV) (K : AV → Dl → Prop) : Prop :=
  st.srcVC A y fun ys => match x with
    | .nilS => Need (fun _ => (∀ r ∈ ys, r.length = j.size) ∧ ys.length * j.bytes ≤ maxBytes) ∧ K (.ref false lab 0 (A.len ys)) ⟨[(lab, some (.arr j.size j.flat ys))], [lab]⟩
    | .emp => Need (fun _ => (∀ r ∈ ys, r.length = j.size) ∧ ys.length * j.bytes ≤ maxBytes) ∧ K (.ref false lab 0 (A.len ys)) ⟨[(lab, some (.arr j.size j.flat ys))], [lab]⟩
    | .ref _ id off len => match lk st.sto id with
      | some (.arr s fl rows) => Need (fun _ => s = j.size ∧ off + len ≤ rows.length ∧ (∀ r ∈ ys, r.length = j.size) ∧ (len + ys.length) * j.bytes ≤ maxBytes) ∧
          K (.ref false lab 0 (A.add len (A.len ys))) ⟨[(lab, some (.arr s fl (A.app (A.part rows off len) ys))), (id, none)], [lab]⟩
      | _ => False
    | _ => False

def opVC (A : Sy) (dr : Bool) (P : Program) (T : Nat → Option TI) (lab : Nat) (o : Oper) (st : St) (K : AV → Dl → Prop) : Prop :=
  match o.op with
  | .move x => K (st.ev x) .no
  | .assign x => K (st.ev x) .no
  | .pick c x y => match st.ev c with
    | .bool b => match b with
      | true => K (st.ev x) .no
      | false => K (st.ev y) .no
    | _ => False
  | .unOp op _ x => match op, st.ev x with
    | .not, .bool b => K (.bool (!b)) .no
    | .neg, .int k n => K (.int k (A.neg k n)) .no
    | _, _ => False
  | .binOp op t x y _ => match st.ev x, st.ev y with
    | .int k m, .int k' n => match decide (k = k') with
      | true => intVC A op k m n fun v => K v .no
      | false => False
    | .bool m, .bool n => match T t, op with
      | some { desc := .bool, .. }, .eql => K (.bool (A.beq m n)) .no
      | some { desc := .bool, .. }, .neq => K (.bool (!(A.beq m n))) .no
      | _, _ => False
    | .agg _, .agg _ => match dr with
      | true => False
      | false => AOp P o st K
    | v, .nilS => match T t with
      | some { desc := .slice _, .. } => match dr with
        | true => False
        | false => nilVC A op v fun v => K v .no
      | _ => False
    | _, _ => False
  | .extract x i => match st.ev x with
    | .tup vs => match vs[i]? with
      | some v => K v .no
      | none => False
    | _ => False
  | .convert s d x => match T s, T d, st.ev x with
    | some { desc := .int _, .. }, some { desc := .int k', .. }, .int _ n => K (.int k' (A.conv k' n)) .no
    | _, _, _ => False
  | .makeFunc (.func f) first caps => K (.fn f (first.toList.map st.ev) (caps.toList.map st.ev)) .no
  | .alloc t => match T t, st.used.elem lab with
    | some i, false => K (.ptr lab 0 0) ⟨[(lab, some (.box i.zero))], [lab]⟩
    | _, _ => False
  | .box _ x => match (st.ev x).flat, st.used.elem lab with
    | some cs, false => K (.ptr lab 0 0) ⟨[(lab, some (.box cs))], [lab]⟩
    | _, _ => False
  | .build t parts => match T t with
    | some { desc := .strct fs, zero := z, .. } => match fs.all (fun p => (T p.2).isSome), fillA (placesOf T fs) st.ev z parts.toList with
      | true, some cells => K (.agg cells) .no
      | _, _ => False
    | _ => False
  | .load t p => match T t, st.at (st.ev p) with
    | some i, some cells => match i.desc.known, loadA i cells with
      | true, some v => K v .no
      | _, _ => False
    | _, _ => False
  | .store t p x => storeVC A T st t (st.ev p) (st.ev x) K
  | .fieldAddr s p f => match T s with
    | some { desc := .strct fs, .. } => match fs[f]? with
      | some (off, ft) => match T ft, (st.ev p).shift off with
        | some j, some v => match nblt 0 j.size with
          | true => K v .no
          | false => False
        | _, _ => False
      | none => False
    | _ => False
  | .field t x f => match T t, st.ev x with
    | some { desc := .strct fs, .. }, .agg cells => match fs[f]? with
      | some (off, ft) => match T ft with
        | some j => match j.desc.known, j.desc.isAgg with
          | true, true => off + j.size ≤ cells.length ∧ K (.agg ((cells.drop off).take j.size)) .no
          | true, false => match cells.drop off with
            | v :: _ => K v .no
            | [] => False
          | _, _ => False
        | none => False
      | none => False
    | _, _ => False
  | .indexAddr t x y => match T t with
    | some { desc := .slice e, .. } => match T e, st.ev y with
      | some j, .int _ n => st.elemVC A j.size (st.ev x) n fun v => K v .no
      | _, _ => False
    | _ => False
  | .slice t x lo hi none => match T t with
    | some { desc := .slice e, .. } => match T e with
      | some j => match st.ev x, lo, hi with
        | .nilS, none, none => K .nilS .no
        | v, lo, hi => st.cutVC A j.size v (lo.map st.ev) (hi.map st.ev) fun v => K v .no
      | none => False
    | _ => False
  | .makeSlice t x y => match T t with
    | some { desc := .slice e, .. } => match T e, st.ev x, st.ev y, st.used.elem lab with
      | some j, .int _ n, .int _ m, false => match nblt 0 j.size && nblt 0 j.bytes, cellsOf j.flat j.zero with
        | true, some us => Need (fun _ => 0 ≤ n ∧ n ≤ m ∧ m.toNat * j.bytes ≤ maxBytes) ∧ K (.ref false lab 0 (A.nat n)) ⟨[(lab, some (.arr j.size j.flat (A.rep n us)))], [lab]⟩
        | _, _ => False
      | _, _, _, _ => False
    | _ => False
  | .buildSlice t 0 parts => match T t with
    | some { desc := .slice e, .. } => match T e, parts.toList, st.used.elem lab with
      | some j, [], false => match nblt 0 j.size with
        | true => K .emp ⟨[(lab, some (.arr j.size j.flat []))], [lab]⟩
        | false => False
      | _, _, _ => False
    | _ => False
  | .call { callee := .builtin .append, args := args, argTypes := tys } => match args.toList, tys.toList with
    | [x, y], [t, t'] => match nbeq t t', T t, st.used.elem lab with
      | true, some { desc := .slice e, .. }, false => match T e with
        | some j => match nblt 0 j.size && nblt 0 j.bytes with
          | true => st.appVC A j lab (st.ev x) (st.ev y) K
          | false => False
        | none => False
      | _, _, _ => False
    | _, _ => False
  | .call { callee := .builtin .len, args := args, argTypes := tys } => match args.toList, tys.toList with
    | [x], [t] => lenVC A T t (st.ev x) fun v => K v .no
    | _, _ => False
  | .call { callee := .value c, args := args, .. } => match st.ev c, freshL lab st.used with
    | .fn f first caps, true => match !dr || (first ++ args.toList.map st.ev ++ caps).all (boxed1 st) with
      | true => ACall P f (first ++ args.toList.map st.ev ++ caps) lab st K
      | false => False
    | _, _ => False
  | _ => match dr with
    | true => False
    | false => AOp P o st K

variable {P : Program} {T : Nat → Option TI}

theorem nilVC_sound {A : Sy} (h : TabOk P T) {op : BinOp} {t u e : Nat} {x y : Operand} {st : St} {K : AV → St → Prop} {o : Oper} {i : TI} (hi : T t = some i) (hd : i.desc = .slice e) (ho : o.op = .binOp op t x y u) (hy : st.ev y = .nilS)
    (hk : nilVC A op (st.ev x) fun v => K v st) : OpOk P o st K := by
  have un : ∀ {w : AV}, st.ev x = w → w = .ro [] → K (.bool true) st → K (.bool false) st → (op = .eql ∨ op = .neq) → OpOk P o st K := by
    intro w hw he h1 h2 hop
    subst he
    intro E a KW QW hs hK
    have hr := hs.ev x
    rw [hw] at hr
    have hxv : ∃ ad c, a.eval x = .slice ad 0 c := by
      generalize a.eval x = xv at hr
      cases hr with
      | base _ _ h =>
        cases h with
        | ro0 ad cap _ _ => exact ⟨_, _, rfl⟩
        | ro _ _ _ _ _ _ h1 => exact absurd rfl h1
    obtain ⟨ad, c, hxv⟩ := hxv
    have hr' := hs.ev y
    rw [hy] at hr'
    obtain ⟨d, hu, htd⟩ := h.und hi
    have hd1 := tdOf_slice (htd.trans hd)
    subst hd1
    have hneq : (binOp .neq t (.slice ad 0 c) (.slice none 0 0)).run P E.w = .ok (.bool (!ad.isNone)) E.w := by
      simp only [binOp]
      simp [Op.equal, Op.maxDepth, Lib.run_equalIn_slice_nil E.w 9999 t e ad 0 c 0 0 hu]
    have heql := Lib.run_eql_slice_nil (P := P) E.w t e ad 0 c 0 0 hu
    have hrun : ∃ b, (execOp a.eval o).run P E.w = .ok (.value (.bool b)) E.w := by
      rcases hop with rfl | rfl
      · exact ⟨ad.isNone, by simp [execOp, ho, hxv, rel_nilS hr', eqGuard_slice, heql]⟩
      · exact ⟨!ad.isNone, by simp [execOp, ho, hxv, rel_nilS hr', eqGuard_slice, hneq]⟩
    obtain ⟨b, hrun⟩ := hrun
    unfold Oper.wp
    rw [hrun]
    refine hK E (.bool b) _ st (Fr.refl E) hs (.base _ _ (.bool b)) ?_
    cases b
    · exact h2
    · exact h1
  have ro : ∀ {rows : List (List AV)}, st.ev x = .ro rows → (rows = [] → K (.bool true) st ∧ K (.bool false) st) → ((op = .eql ∧ K (.bool false) st) ∨ (op = .neq ∧ K (.bool true) st)) → OpOk P o st K := by
    intro rows hx h1 h2
    cases rows with
    | nil =>
      obtain ⟨k1, k2⟩ := h1 rfl
      exact un hx rfl k1 k2 (h2.imp (·.1) (·.1))
    | cons r rest =>
      rcases h2 with ⟨rfl, k⟩ | ⟨rfl, k⟩
      · exact ok_nilEq h hi hd ho hy (b := false) (.inr ⟨by rw [hx]; rfl, rfl⟩) (.inl ⟨rfl, k⟩)
      · exact ok_nilEq h hi hd ho hy (b := false) (.inr ⟨by rw [hx]; rfl, rfl⟩) (.inr ⟨rfl, k⟩)
  have rf : ∀ {p : Bool} {id off n : Nat}, st.ev x = .ref p id off n → 0 < n → ((op = .eql ∧ K (.bool false) st) ∨ (op = .neq ∧ K (.bool true) st)) → OpOk P o st K := by
    intro p id off n hx hn h2
    obtain ⟨m, rfl⟩ : ∃ m, n = m + 1 := ⟨n - 1, by omega⟩
    exact ok_nilEq h hi hd ho hy (b := false) (.inr ⟨by rw [hx]; rfl, rfl⟩) (h2.imp (fun q => ⟨q.1, q.2⟩) (fun q => ⟨q.1, q.2⟩))
  cases op <;> simp only [nilVC] at hk <;> try exact hk.elim
  · split at hk
    · rename_i hx; exact ok_nilEq h hi hd ho hy (b := true) (.inl ⟨hx, rfl⟩) (.inl ⟨rfl, hk⟩)
    · rename_i hx; exact ok_nilEq h hi hd ho hy (b := false) (.inr ⟨by rw [hx]; rfl, rfl⟩) (.inl ⟨rfl, hk⟩)
    · rename_i hx; exact ro hx (fun e => ⟨hk.out.1 e, hk.out.2⟩) (.inl ⟨rfl, hk.out.2⟩)
    · rename_i hx; exact rf hx hk.1.out (.inl ⟨rfl, hk.2⟩)
    · exact hk.elim
  · split at hk
    · rename_i hx; exact ok_nilEq h hi hd ho hy (b := true) (.inl ⟨hx, rfl⟩) (.inr ⟨rfl, hk⟩)
    · rename_i hx; exact ok_nilEq h hi hd ho hy (b := false) (.inr ⟨by rw [hx]; rfl, rfl⟩) (.inr ⟨rfl, hk⟩)
    · rename_i hx; exact ro hx (fun e => ⟨hk.out.2, hk.out.1 e⟩) (.inr ⟨rfl, hk.out.2⟩)
    · rename_i hx; exact rf hx hk.1.out (.inr ⟨rfl, hk.2⟩)
    · exact hk.elim

theorem storeVC_sound (h : TabOk P T) {t : Nat} {p x : Operand} {st : St} {K : AV → St → Prop} {o : Oper} (ho : o.op = .store t p x) (hk : storeVC sy T st t (st.ev p) (st.ev x) fun v d => K v (st.upd d)) : OpOk P o st K := by
  unfold storeVC at hk
  split at hk
  · rename_i i vs id row fld hi hf hp
    split at hk
    · rename_i cells hq
      cases hc : (nbeq row 0 && nbeq vs.length i.size && nble (fld + vs.length) cells.length) with
      | false => rw [hc] at hk; exact hk.elim
      | true =>
        rw [hc] at hk
        simp only [Bool.and_eq_true] at hc
        obtain rfl := nbeq_eq hc.1.1
        exact ok_storeBox h hi ho hp hq hf (nbeq_eq hc.1.2) (nble_le hc.2) hk
    · rename_i s fl rows hq
      split at hk
      · rename_i us hu
        obtain ⟨r, hr, hl, hk⟩ := hk.out
        exact ok_storeArr h hi ho hp hq hr hf hl.1 hl.2 hu hk
      · exact hk.elim
    · exact hk.elim
  · exact hk.elim

theorem opVC_sound (h : TabOk P T) {dr : Bool} {lab : Nat} {o : Oper} {st : St} {K : AV → St → Prop} (hk : opVC sy dr P T lab o st fun v d => K v (st.upd d)) : OpOk P o st K := by
  unfold opVC at hk
  split at hk
  case h_1 x ho => exact ok_move (.inl ho) hk
  case h_2 x ho => exact ok_move (.inr ho) hk
  case h_3 c x y ho =>
    split at hk
    · rename_i b hc
      refine ok_pick ho hc ?_
      cases b <;> exact hk
    · exact hk.elim
  case h_4 op t x ho =>
    split at hk
    · exact ok_not ho ‹_› hk
    · exact ok_neg ho ‹_› hk
    · exact hk.elim
  case h_5 op t x y u ho =>
    split at hk
    · rename_i k m k' n hx hy
      by_cases hkk : k = k'
      · subst hkk
        rw [show decide (k = k) = true by simp] at hk
        exact ok_intBin ho hx hy (intVC_sound hk)
      · rw [show decide (k = k') = false by simp [hkk]] at hk
        exact hk.elim
    · rename_i m n hx hy
      split at hk
      · rename_i ht; exact ok_boolEq h ht rfl ho hx hy (.inl ⟨rfl, hk⟩)
      · rename_i ht; exact ok_boolEq h ht rfl ho hx hy (.inr ⟨rfl, hk⟩)
      · exact hk.elim
    · cases dr with
      | true => exact hk.elim
      | false => exact hk.out.mono fun v s ⟨d, hs, hk⟩ => hs ▸ hk
    · rename_i hy
      split at hk
      · rename_i ht
        cases dr with
        | true => exact hk.elim
        | false => exact nilVC_sound h ht rfl ho hy hk
      · exact hk.elim
    · exact hk.elim
  case h_6 x i ho =>
    split at hk
    · rename_i vs hx
      split at hk
      · exact ok_extract ho hx ‹_› hk
      · exact hk.elim
    · exact hk.elim
  case h_7 s d x ho =>
    split at hk
    · rename_i hs hd hx; exact ok_convInt h hs hd rfl rfl ho hx hk
    · exact hk.elim
  case h_8 f first caps ho => exact ok_makeFunc ho hk
  case h_9 t ho =>
    split at hk
    · rename_i hi hu; exact ok_alloc h hi hu ho hk
    · exact hk.elim
  case h_10 t x ho =>
    split at hk
    · rename_i hf hu; exact ok_box hu ho hf hk
    · exact hk.elim
  case h_11 t parts ho =>
    split at hk
    · rename_i ht
      split at hk
      · rename_i ha hf; exact ok_build h ht rfl ha ho hf hk
      · exact hk.elim
    · exact hk.elim
  case h_12 t p ho =>
    split at hk
    · rename_i hi hc
      split at hk
      · rename_i hkn hl; exact ok_load h hi hkn ho hc hl hk
      · exact hk.elim
    · exact hk.elim
  case h_13 t p x ho => exact storeVC_sound h ho hk
  case h_14 s p f ho =>
    split at hk
    · rename_i hi
      split at hk
      · rename_i hf
        split at hk
        · rename_i hj hv
          split at hk
          · rename_i hpos; exact ok_fieldAddr h hi rfl hf hj (by simpa [nblt_eq] using hpos) ho hv hk
          · exact hk.elim
        · exact hk.elim
      · exact hk.elim
    · exact hk.elim
  case h_15 t x f ho =>
    split at hk
    · rename_i hi hx
      split at hk
      · rename_i hf
        split at hk
        · rename_i hj
          split at hk
          · rename_i hkn hag; exact ok_field h hi rfl hf hj hkn ho hx (by rw [hag]; exact hk)
          · rename_i hkn hag
            split at hk
            · rename_i hd; exact ok_field h hi rfl hf hj hkn ho hx (by rw [hag]; exact ⟨_, _, hd, hk⟩)
            · exact hk.elim
          · exact hk.elim
        · exact hk.elim
      · exact hk.elim
    · exact hk.elim
  case h_16 t x y ho =>
    split at hk
    · rename_i hi
      split at hk
      · rename_i hj hy; exact ok_indexAddr h hi rfl hj ho hy (St.elemVC_sound hk)
      · exact hk.elim
    · exact hk.elim
  case h_17 t x lo hi ho =>
    split at hk
    · rename_i hti
      split at hk
      · rename_i hj
        split at hk
        · rename_i hx
          exact ok_sliceNil h hti rfl hj ho hx hk
        · exact ok_slice h hti rfl hj ho (St.cutVC_sound hk)
      · exact hk.elim
    · exact hk.elim
  case h_18 t x y ho =>
    split at hk
    · rename_i hti
      split at hk
      · rename_i hj hx hy hu
        split at hk
        · rename_i hpos hz
          simp only [Bool.and_eq_true, nblt_eq] at hpos
          exact ok_makeSlice h hti rfl hj hpos.1 hpos.2 ho hu hx hy hk.1.out.1 hk.1.out.2.1 hk.1.out.2.2 hz hk.2
        · exact hk.elim
      · exact hk.elim
    · exact hk.elim
  case h_19 t parts ho =>
    split at hk
    · rename_i hti
      split at hk
      · rename_i hj hp hu
        split at hk
        · rename_i hpos
          exact ok_buildNil h hti rfl hj (by simpa [nblt_eq] using hpos) ho hp hu hk
        · exact hk.elim
      · exact hk.elim
    · exact hk.elim
  case h_20 args tys ho =>
    split at hk
    · rename_i x y t t' hx ht
      split at hk
      · rename_i htt hti hu
        obtain rfl := nbeq_eq htt
        split at hk
        · rename_i hj
          split at hk
          · rename_i hpos
            simp only [Bool.and_eq_true, nblt_eq] at hpos
            have h1 : args = #[x, y] := by rw [← Array.toArray_toList (xs := args), hx]
            have h2 : tys = #[t, t] := by rw [← Array.toArray_toList (xs := tys), ht]
            rw [h1, h2] at ho
            obtain ⟨ys, hys, hk⟩ := St.srcVC_sound hk
            split at hk
            · rename_i hxv
              exact ok_appendNew h hti rfl hj hpos.1 hpos.2 ho hu (.inl hxv) hys hk.1.out.1 hk.1.out.2 hk.2
            · rename_i hxv
              exact ok_appendNew h hti rfl hj hpos.1 hpos.2 ho hu (.inr hxv) hys hk.1.out.1 hk.1.out.2 hk.2
            · rename_i hxv
              split at hk
              · rename_i hq
                obtain ⟨⟨rfl, g2, g3, g4⟩⟩ := hk.1
                exact ok_appendRef h hti rfl hj hpos.1 hpos.2 ho hu hxv hq g2 hys g3 g4 hk.2
              · exact hk.elim
            · exact hk.elim
          · exact hk.elim
        · exact hk.elim
      · exact hk.elim
    · exact hk.elim
  case h_21 args tys ho =>
    split at hk
    · rename_i x t hx ht
      have h1 : args = #[x] := by rw [← Array.toArray_toList (xs := args), hx]
      have h2 : tys = #[t] := by rw [← Array.toArray_toList (xs := tys), ht]
      rw [h1, h2] at ho
      unfold lenVC at hk
      split at hk
      · rename_i hti
        split at hk
        · rename_i hv; exact ok_len (ty := 0) h hti rfl (x := x) ho (by rw [hv]; rfl) (by decide) hk
        · rename_i hv; exact ok_len (ty := 0) h hti rfl (x := x) ho (by rw [hv]; rfl) (by decide) hk
        · rename_i hv; exact ok_len (ty := 0) h hti rfl (x := x) ho (by rw [hv]; rfl) hk.1.out hk.2
        · rename_i hv; exact ok_len (ty := 0) h hti rfl (x := x) ho (by rw [hv]; rfl) hk.1.out hk.2
        · exact hk.elim
      · exact hk.elim
    · exact hk.elim
  case h_22 c args tys ho =>
    split at hk
    · rename_i f first caps hc hfr
      split at hk
      rotate_left
      · exact hk.elim
      obtain ⟨al, bs, r, h1, h2, h3, h4⟩ := hk.out
      refine ok_callBy ho hc h1 h2 hfr fun v hv => ?_
      subst hv
      refine ⟨h3, ?_⟩
      unfold St.upd at h4
      rw [updSto_some] at h4
      exact h4
    · exact hk.elim
  case h_23 =>
    cases dr with
    | true => exact hk.elim
    | false => exact hk.out.mono fun v s ⟨d, hs, hk⟩ => hs ▸ hk

end Go.Proofs.Ytmpbmfhlkhonkaa.AM
