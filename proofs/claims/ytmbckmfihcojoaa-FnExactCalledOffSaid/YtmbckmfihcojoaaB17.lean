/- The abstract machine, part 17: what must be shown of an operation. -/
import Derived.Test.YtmbckmfihcojoaaB16
namespace Go.Proofs.Ytmbckmfihcojoaa.AM
open Go Go.RowKit

set_option linter.unusedVariables false
set_option linter.unusedSimpArgs false

/-! ### Places where the reckoning stops -/

/-- What is kept apart, so that the reckoning does not look into it: rows of typed things, lengths. -/
structure Sy where
  enc : {α : Type} → (α → List AV) → List α → List (List AV)
  len : List (List AV) → Nat

def sy : Sy := ⟨fun f l => l.map f, List.length⟩

structure ALoop (P : Program) (c : Code) (Q : Exit → St → Prop) (st : St) : Prop where
  out : awp P (.loop c) Q st

structure AOp (P : Program) (o : Oper) (st : St) (K : AV → Dl → Prop) : Prop where
  out : OpOk P o st fun v s => ∃ d, s = st.upd d ∧ K v d

def AV.noR0 : AV → Bool
  | .rptr _ => false
  | _ => true
def AV.noR1 : AV → Bool
  | .agg l => l.all AV.noR0
  | v => v.noR0
def AV.noR : AV → Bool
  | .fn _ x y => x.all AV.noR1 && y.all AV.noR1
  | v => v.noR1

structure ACall (A : Sy) (dr : Bool) (P : Program) (f : FuncId) (avs : List AV) (lab : Nat) (st : St) (K : AV → Dl → Prop) : Prop where
  out : ∃ al dp bs objs R, SoundM P f al bs objs R ∧ Gives st al dp avs bs objs ∧ (dr = true → bs.all AV.noR = true ∧ ∃ v₀ os₀, R v₀ os₀ ∧ ∀ v os, R v os → v = v₀ ∧ os = os₀) ∧
    ∀ v os, R v os → backChk st (rhoA avs bs) lab objs os v = true ∧ K (adopt A.len lab v) (backD dp A.len st avs bs objs lab os v)

/-- What is to be shown by hand. -/
structure Need (p : Unit → Prop) : Prop where
  out : p ()

/-- A number that is reckoned. -/
structure Arith (dr : Bool) (k : IntKind) (m n : Int) (e : Unit → Int) (K : Int → Prop) : Prop where
  out : (dr = true ∨ (Lit.int k m).wf = true ∧ (Lit.int k n).wf = true) → K (k.wrap (e ()))

structure ArithN (p : Unit → Prop) (dr : Bool) (k : IntKind) (m n : Int) (e : Unit → Int) (K : Int → Prop) : Prop where
  out : (dr = true ∨ (Lit.int k m).wf = true) → p () ∧ K (k.wrap (e ()))

structure RemA (dr : Bool) (k : IntKind) (m n : Int) (K : Int → Prop) : Prop where
  out : (dr = true ∨ (Lit.int k m).wf = true ∧ (Lit.int k n).wf = true) → n ≠ 0 ∧ K (m.tmod n)

def tstB (op : BinOp) (m n : Int) : Bool :=
  match op with
  | .eql => decide (m = n)
  | .neq => decide (m ≠ n)
  | .lss => decide (m < n)
  | .leq => decide (m ≤ n)
  | .gtr => decide (m > n)
  | _ => decide (m ≥ n)

structure Test (op : BinOp) (m n : Int) (K : Bool → Prop) : Prop where
  out : K (tstB op m n)

structure Conv (k k' : IntKind) (n : Int) (K : Int → Prop) : Prop where
  out : K (k'.wrap n)

structure Len (dr : Bool) (n : Nat) (K : Int → Prop) : Prop where
  out : (dr = true → n ≤ maxLen) ∧ (n ≤ maxLen → K (n : Int))

structure LenR (dr : Bool) (rows : List (List AV)) (K : Int → Prop) : Prop where
  out : (dr = true → rows.length ≤ maxLen) ∧ (rows.length ≤ maxLen → K (rows.length : Int))

structure NilT (v : AV) (K : Bool → Prop) : Prop where
  out : match v with
    | .ro rows => (rows = [] → K true) ∧ K false
    | .ref p _ _ n => (p = true ∨ 0 < n) ∧ K false
    | _ => False

structure ElemRef (off len s size : Nat) (rows : List (List AV)) (n : Int) (K : Nat → Prop) : Prop where
  out : (0 ≤ n ∧ n < len) ∧ s = size ∧ off + n.toNat < rows.length ∧ K (off + n.toNat)

structure ElemRo (rows : List (List AV)) (size : Nat) (n : Int) (K : List AV → Prop) : Prop where
  out : 0 ≤ n ∧ ∃ r, rows[n.toNat]? = some r ∧ r.length = size ∧ K r

structure Row (rows : List (List AV)) (row : Nat) (K : List AV → Prop) : Prop where
  out : ∃ r, rows[row]? = some r ∧ K r

structure RowSet (rows : List (List AV)) (row fld size : Nat) (us : List AV) (K : List (List AV) → Prop) : Prop where
  out : ∃ r, rows[row]? = some r ∧ us.length = size ∧ fld + us.length ≤ r.length ∧ K (rows.set row (setMany r fld us))

structure CutRef (p : Bool) (off len s size : Nat) (rows : List (List AV)) (l h : Int) (K : Bool → Nat → Nat → Prop) : Prop where
  out : (0 ≤ l ∧ l ≤ h ∧ (h ≤ len ∨ (p = true ∧ h ≤ ((rows.length - off : Nat) : Int)))) ∧ (off + len ≤ rows.length) ∧ s = size ∧ K ((p || decide (0 < len)) && decide (off + l.toNat < rows.length)) (off + l.toNat) (h - l).toNat

structure CutRo (size : Nat) (rows : List (List AV)) (l h : Int) (K : List (List AV) → Prop) : Prop where
  out : (0 ≤ l ∧ l ≤ h ∧ h ≤ rows.length) ∧ (∀ r ∈ rows, r.length = size) ∧ K ((rows.take h.toNat).drop l.toNat)

structure CutRoE (size : Nat) (rows : List (List AV)) (l : Int) (K : List (List AV) → Prop) : Prop where
  out : (0 ≤ l ∧ l ≤ rows.length) ∧ (∀ r ∈ rows, r.length = size) ∧ K (rows.drop l.toNat)

structure Part (off len : Nat) (rows : List (List AV)) (K : List (List AV) → Prop) : Prop where
  out : off + len ≤ rows.length ∧ K ((rows.drop off).take len)

structure AppNew (kd : SK) (fl : Bool) (size bytes : Nat) (ys : List (List AV)) (K : Nat → List (List AV) → Prop) : Prop where
  out : Lays kd fl ys ∧ (∀ r ∈ ys, r.length = size) ∧ ys.length * bytes ≤ maxBytes ∧ K ys.length ys

structure AppRef (kd : SK) (fl p : Bool) (off len s size bytes : Nat) (rows ys : List (List AV)) (K : Bool → Nat → List (List AV) → Prop) : Prop where
  out : s = size ∧ Lays kd fl ys ∧ (∀ r ∈ ys, r.length = size) ∧
    ((off + len ≤ rows.length ∧ (len + ys.length) * bytes ≤ maxBytes ∧ K false (len + ys.length) ((rows.drop off).take len ++ ys)) ∨
     ((p = true ∨ 0 < len) ∧ off + len + ys.length ≤ rows.length ∧ K true (len + ys.length) (setMany rows (off + len) ys)))

structure MakeS (n m : Int) (bytes : Nat) (us : List AV) (K : Nat → List (List AV) → Prop) : Prop where
  out : 0 ≤ n ∧ n ≤ m ∧ m.toNat * bytes ≤ maxBytes ∧ K n.toNat (List.replicate n.toNat us)

structure SEq (us vs : List AV) (K : Bool → Prop) : Prop where
  out : ∀ b, (b = true ↔ us = vs) → K b

structure Clear (off len s size : Nat) (rows : List (List AV)) (us : List AV) (K : List (List AV) → Prop) : Prop where
  out : s = size ∧ off + len ≤ rows.length ∧ K (setMany rows off (List.replicate len us))

/-! ### Operations -/

def intVC (dr : Bool) (op : BinOp) (k : IntKind) (m n : Int) (K : AV → Prop) : Prop :=
  match op with
  | .add => Arith dr k m n (fun _ => m + n) fun x => K (.int k x)
  | .sub => Arith dr k m n (fun _ => m - n) fun x => K (.int k x)
  | .mul => Arith dr k m n (fun _ => m * n) fun x => K (.int k x)
  | .quo => ArithN (fun _ => n ≠ 0) dr k m n (fun _ => m.tdiv n) fun x => K (.int k x)
  | .rem => RemA dr k m n fun x => K (.int k x)
  | .and => Arith dr k m n (fun _ => (BitVec.ofInt k.bits m &&& BitVec.ofInt k.bits n).toNat) fun x => K (.int k x)
  | .xor => Arith dr k m n (fun _ => (BitVec.ofInt k.bits m ^^^ BitVec.ofInt k.bits n).toNat) fun x => K (.int k x)
  | .eql => Test .eql m n fun b => K (.bool b)
  | .neq => Test .neq m n fun b => K (.bool b)
  | .lss => Test .lss m n fun b => K (.bool b)
  | .leq => Test .leq m n fun b => K (.bool b)
  | .gtr => Test .gtr m n fun b => K (.bool b)
  | .geq => Test .geq m n fun b => K (.bool b)
  | _ => False

def shiftVC (dr : Bool) (op : BinOp) (k : IntKind) (m n : Int) (K : AV → Prop) : Prop :=
  match op with
  | .shl => ArithN (fun _ => 0 ≤ n) dr k m n (fun _ => m * 2 ^ (min n.toNat k.bits)) fun x => K (.int k x)
  | .shr => ArithN (fun _ => 0 ≤ n) dr k m n (fun _ => m.fdiv (2 ^ (min n.toNat k.bits))) fun x => K (.int k x)
  | _ => False

def lenVC (dr : Bool) (T : Nat → Option TI) (st : St) (t : Nat) (v : AV) (K : AV → Prop) : Prop :=
  match T t with
  | some { desc := .slice _, .. } => match v with
    | .nilS => K (.int .i64 0)
    | .emp => K (.int .i64 0)
    | .ro rows => LenR dr rows fun n => K (.int .i64 n)
    | .ref _ id _ n => match lk st.sto id with
      | some (.arr _ _ _) => Len dr n fun n => K (.int .i64 n)
      | _ => False
    | _ => False
  | _ => False

def nilVC (op : BinOp) (v : AV) (K : AV → Prop) : Prop :=
  match op with
  | .eql => match v with
    | .nilS => K (.bool true)
    | .emp => K (.bool false)
    | v => NilT v fun b => K (.bool b)
  | .neq => match v with
    | .nilS => K (.bool false)
    | .emp => K (.bool true)
    | v => NilT v fun b => K (.bool (!b))
  | _ => False

def storeVC (T : Nat → Option TI) (st : St) (t : Nat) (p v : AV) (K : AV → Dl → Prop) : Prop :=
  match T t, v.flat, p with
  | some i, some vs, .ptr id row fld =>
    match lk st.sto id with
    | some (.box cells) => bif nbeq row 0 && nbeq vs.length i.size && nble (fld + vs.length) cells.length then K .undef ⟨[(id, some (.box (setMany cells fld vs)))], [], []⟩ else False
    | some (.arr s fl rows) =>
      match cellsOf fl vs with
      | some us => RowSet rows row fld i.size us fun rows' => K .undef ⟨[(id, some (.arr s fl rows'))], [], []⟩
      | _ => False
    | none => False
  | _, _, _ => False

def loadVC (T : Nat → Option TI) (st : St) (t : Nat) (p : AV) (K : AV → Prop) : Prop :=
  match T t with
  | some i => match i.desc.known with
    | true => match p with
      | .ptr id row fld => match lk st.sto id with
        | some (.box cells) => match nbeq row 0, loadA i (cells.drop fld) with
          | true, some v => K v
          | _, _ => False
        | some (.arr _ _ rows) => Row rows row fun r => match loadA i (r.drop fld) with
          | some v => K v
          | none => False
        | none => False
      | .rptr cells => match loadA i cells with
        | some v => K v
        | none => False
      | _ => False
    | false => False
  | none => False

def St.elemVC (st : St) (size : Nat) (x : AV) (n : Int) (K : AV → Prop) : Prop :=
  match x with
  | .ref _ id off len => match lk st.sto id with
    | some (.arr s _ rows) => ElemRef off len s size rows n fun row => K (.ptr id row 0)
    | _ => False
  | .ro rows => ElemRo rows size n fun r => K (.rptr r)
  | _ => False

def hiVC (v : Option AV) (n : Int → Prop) (d : Prop) : Prop :=
  match v with
  | some (.int _ h) => n h
  | none => d
  | _ => False

def St.cutVC (st : St) (size : Nat) (x : AV) (lo hi : Option AV) (K : AV → Prop) : Prop :=
  match x with
  | .ref p id off len =>
    match lk st.sto id, loOf lo with
    | some (.arr s _ rows), some l => match hi with
      | some (.int _ h) => CutRef p off len s size rows l h fun p' off' len' => K (.ref p' id off' len')
      | none => CutRef p off len s size rows l (len : Int) fun p' off' len' => K (.ref p' id off' len')
      | _ => False
    | _, _ => False
  | .ro rows =>
    match loOf lo with
    | some l => match hi with
      | some (.int _ h) => CutRo size rows l h fun rows' => K (.ro rows')
      | none => CutRoE size rows l fun rows' => K (.ro rows')
      | _ => False
    | _ => False
  | _ => False

/-- What reads as a slice, by its content. -/
def St.srcVC (st : St) (v : AV) (K : SK → List (List AV) → Prop) : Prop :=
  match v with
  | .nilS => K .flat []
  | .emp => K .flat []
  | .ro rows => K .ro rows
  | .ref _ id off len => match lk st.sto id with
    | some (.arr _ fl rows) => Part off len rows fun ys => K (match fl with | true => .flat | false => .raw) ys
    | _ => False
  | _ => False

def St.appVC (st : St) (j : TI) (lab : Nat) (x y : AV) (K : AV → Dl → Prop) : Prop :=
  st.srcVC y fun kd ys => match x with
    | .nilS => AppNew kd j.flat j.size j.bytes ys fun n rows => K (.ref false lab 0 n) ⟨[(lab, some (.arr j.size j.flat rows))], [lab], []⟩
    | .emp => AppNew kd j.flat j.size j.bytes ys fun n rows => K (.ref false lab 0 n) ⟨[(lab, some (.arr j.size j.flat rows))], [lab], []⟩
    | .ref p id off len => match lk st.sto id with
      | some (.arr s fl rows) => AppRef kd fl p off len s j.size j.bytes rows ys fun b n rows' => match b with
        | false => K (.ref false lab 0 n) ⟨[(lab, some (.arr s fl rows')), (id, none)], [lab], []⟩
        | true => K (.ref p id off n) ⟨[(id, some (.arr s fl rows'))], [], []⟩
      | _ => False
    | _ => False

def opVC (A : Sy) (dr : Bool) (P : Program) (T : Nat → Option TI) (lab : Nat) (o : Oper) (st : St) (K : AV → Dl → Prop) : Prop :=
  match o.op with
  | .move x => K (st.ev x) .no
  | .assign x => K (st.ev x) .no
  | .pick c x y => match st.ev c with
    | .bool b => match b with
      | true => K (st.ev x) .no
      | false => K (st.ev y) .no
    | _ => False
  | .unOp op _ x => match op, st.ev x with
    | .not, .bool b => K (.bool (!b)) .no
    | .neg, .int k n => Conv k k (0 - n) fun x => K (.int k x) .no
    | _, _ => False
  | .binOp op t x y _ => match st.ev x, st.ev y with
    | .int k m, .int k' n => match op with
      | .shl => shiftVC dr .shl k m n fun v => K v .no
      | .shr => shiftVC dr .shr k m n fun v => K v .no
      | op => match decide (k = k') with
        | true => intVC dr op k m n fun v => K v .no
        | false => False
    | .bool m, .bool n => match T t, op with
      | some { desc := .bool, .. }, .eql => match n with
        | true => K (.bool m) .no
        | false => K (.bool (!m)) .no
      | some { desc := .bool, .. }, .neq => match n with
        | true => K (.bool (!m)) .no
        | false => K (.bool m) .no
      | _, _ => False
    | .agg us, .agg vs => match T t with
      | some { desc := .strct fs, .. } => Need (fun _ => eqFit P t = true) ∧ match plainEq T 0 fs us vs with
        | true => match op with
          | .eql => SEq us vs fun b => K (.bool b) .no
          | .neq => SEq us vs fun b => K (.bool (!b)) .no
          | _ => False
        | false => False
      | _ => False
    | v, .nilS => match T t with
      | some { desc := .slice _, .. } => match dr with
        | true => False
        | false => nilVC op v fun v => K v .no
      | _ => False
    | _, _ => False
  | .extract x i => match st.ev x with
    | .tup vs => match vs[i]? with
      | some v => K v .no
      | none => False
    | _ => False
  | .convert s d x => match T s, T d, st.ev x with
    | some { desc := .int _, .. }, some { desc := .int k', .. }, .int k n => match decide (k = k') with
      | true => K (.int k' n) .no
      | false => Conv k k' n fun x => K (.int k' x) .no
    | _, _, _ => False
  | .makeFunc (.func f) first caps => K (.fn f (first.toList.map st.ev) (caps.toList.map st.ev)) .no
  | .alloc t => match T t, st.used.elem lab with
    | some i, false => K (.ptr lab 0 0) ⟨[(lab, some (.box i.zero))], [lab], []⟩
    | _, _ => False
  | .box _ x => match (st.ev x).flat, st.used.elem lab with
    | some cs, false => K (.ptr lab 0 0) ⟨[(lab, some (.box cs))], [lab], []⟩
    | _, _ => False
  | .build t parts => match T t with
    | some { desc := .strct fs, zero := z, .. } => match fs.all (fun p => (T p.2).isSome), fillA (placesOf T fs) st.ev z parts.toList with
      | true, some cells => K (.agg cells) .no
      | _, _ => False
    | _ => False
  | .load t p => loadVC T st t (st.ev p) fun v => K v .no
  | .store t p x => storeVC T st t (st.ev p) (st.ev x) K
  | .fieldAddr s p f => match T s with
    | some { desc := .strct fs, .. } => match fs[f]? with
      | some (off, ft) => match T ft, (st.ev p).shift off with
        | some j, some v => match nblt 0 j.size with
          | true => K v .no
          | false => False
        | _, _ => False
      | none => False
    | _ => False
  | .field t x f => match T t, st.ev x with
    | some { desc := .strct fs, .. }, .agg cells => match fs[f]? with
      | some (off, ft) => match T ft with
        | some j => match j.desc.known, j.desc.isAgg with
          | true, true => nble (off + j.size) cells.length = true ∧ K (.agg ((cells.drop off).take j.size)) .no
          | true, false => match cells.drop off with
            | v :: _ => K v .no
            | [] => False
          | _, _ => False
        | none => False
      | none => False
    | _, _ => False
  | .indexAddr t x y => match T t with
    | some { desc := .slice e, .. } => match T e, st.ev y with
      | some j, .int _ n => st.elemVC j.size (st.ev x) n fun v => K v .no
      | _, _ => False
    | _ => False
  | .slice t x lo hi none => match T t with
    | some { desc := .slice e, .. } => match T e with
      | some j => match st.ev x, lo, hi with
        | .nilS, none, none => K .nilS .no
        | v, lo, hi => st.cutVC j.size v (lo.map st.ev) (hi.map st.ev) fun v => K v .no
      | none => False
    | _ => False
  | .makeSlice t x y => match T t with
    | some { desc := .slice e, .. } => match T e, st.ev x, st.ev y, st.used.elem lab with
      | some j, .int _ n, .int _ m, false => match nblt 0 j.size && nblt 0 j.bytes, cellsOf j.flat j.zero with
        | true, some us => MakeS n m j.bytes us fun n rows => K (.ref false lab 0 n) ⟨[(lab, some (.arr j.size j.flat rows))], [lab], []⟩
        | _, _ => False
      | _, _, _, _ => False
    | _ => False
  | .buildSlice t n parts => match T t with
    | some { desc := .slice e, .. } => match T e, st.used.elem lab with
      | some j, false => match nblt 0 j.size, n, parts.toList with
        | true, 0, [] => K .emp ⟨[(lab, some (.arr j.size j.flat []))], [lab], []⟩
        | true, n + 1, l => match nble ((n + 1) * j.size) 10000, fillA (fun i => some (i * j.size, j.size)) st.ev (repl j.zero (n + 1)) l with
          | true, some cells => match cellsOfL j.flat (chunk j.size (n + 1) cells) with
            | some rows => K (.ref true lab 0 (n + 1)) ⟨[(lab, some (.arr j.size j.flat rows))], [lab], []⟩
            | none => False
          | _, _ => False
        | _, _, _ => False
      | _, _ => False
    | _ => False
  | .nilCheck x => match (st.ev x).sure with
    | true => K (st.ev x) .no
    | false => False
  | .call { callee := .builtin .append, args := args, argTypes := tys } => match args.toList, tys.toList with
    | [x, y], [t, t'] => match nbeq t t', T t, st.used.elem lab with
      | true, some { desc := .slice e, .. }, false => match T e with
        | some j => match nblt 0 j.size && nblt 0 j.bytes with
          | true => st.appVC j lab (st.ev x) (st.ev y) K
          | false => False
        | none => False
      | _, _, _ => False
    | _, _ => False
  | .call { callee := .builtin .len, args := args, argTypes := tys } => match args.toList, tys.toList with
    | [x], [t] => lenVC dr T st t (st.ev x) fun v => K v .no
    | _, _ => False
  | .call { callee := .builtin .cap, args := args, argTypes := tys } => match args.toList, tys.toList with
    | [x], [t] => match T t, st.ev x with
      | some { desc := .slice _, .. }, .nilS => K (.int .i64 0) .no
      | _, _ => False
    | _, _ => False
  | .call { callee := .builtin .clear, args := args, argTypes := tys } => match dr with
    | true => False
    | false => match args.toList, tys.toList with
      | [x], [t] => match T t, st.ev x with
        | some { desc := .slice e, .. }, .ref _ id off len => match T e, lk st.sto id with
          | some j, some (.arr s fl rows) => match nblt 0 j.size, cellsOf j.flat j.zero with
            | true, some us => Need (fun _ => fl = j.flat) ∧ Clear off len s j.size rows us fun rows' => K (.tup []) ⟨[(id, some (.arr s fl rows'))], [], []⟩
            | _, _ => False
          | _, _ => False
        | _, _ => False
      | _, _ => False
  | .call { callee := .value c, args := args, .. } => match st.ev c, freshL lab st.used with
    | .fn f first caps, true => ACall A dr P f (first ++ args.toList.map st.ev ++ caps) lab st K
    | _, _ => False
  | _ => match dr with
    | true => False
    | false => AOp P o st K

variable {P : Program} {T : Nat → Option TI}

theorem OpOk.know {P : Program} {o : Oper} {st : St} {K : AV → St → Prop} {p : Prop} (h : ∀ E a, Sim E st a → p) (k : p → OpOk P o st K) : OpOk P o st K :=
  fun E a KW QW hs hK => k (h E a hs) E a KW QW hs hK

theorem Sim.intFact {E : Env} {st : St} {a : Act} (hs : Sim E st a) {x : Operand} {k : IntKind} {n : Int} (h : st.ev x = .int k n) : (Lit.int k n).wf = true := by
  have := hs.ev x
  rw [h] at this
  exact (rel_int this).2

theorem Sim.refFact {E : Env} {st : St} {a : Act} (hs : Sim E st a) {v : AV} {x : Value} (hr : Rel E v x) {p : Bool} {id off n s : Nat} {fl : Bool} {rows : List (List AV)} (h : v = .ref p id off n) (hq : lk st.sto id = some (.arr s fl rows)) : n ≤ maxLen := by
  subst h
  cases hr with
  | base _ _ h => cases h
  | ref0 _ _ cap ad hc => exact Nat.zero_le _
  | ref _ _ _ _ L cap hL h1 h2 =>
    rcases hs.sto id _ hq with ⟨g1, g2⟩ | ⟨L', c, ty, g1, gsz, g2, g3, g4, g5, g6, g7, g8, g9⟩
    · rw [g1] at hL; cases hL
    · rw [g1] at hL
      obtain rfl := Option.some.inj hL
      omega

theorem rel_roLen {E : Env} {rows : List (List AV)} {x : Value} (h : Rel E (.ro rows) x) : rows.length ≤ maxLen := by
  cases h with
  | base _ _ h =>
    cases h with
    | ro0 => simp [maxLen]
    | ro _ _ _ _ _ _ h1 h2 h3 => exact Nat.le_trans h2 h3

theorem wrap_wf {k : IntKind} {n : Int} (h : (Lit.int k n).wf = true) : k.wrap n = n := by
  rw [wf_iff] at h
  cases k <;> simp only [IntKind.wrap, IntKind.min, IntKind.max, IntKind.signed, IntKind.bits] at h ⊢ <;> simp at h ⊢ <;> (try split) <;> omega

theorem intVC_sound {op : BinOp} {t u : Nat} {x y : Operand} {k : IntKind} {m n : Int} {st : St} {K : AV → St → Prop} {o : Oper} {dr : Bool} (ho : o.op = .binOp op t x y u) (hx : st.ev x = .int k m) (hy : st.ev y = .int k n)
    (hk : intVC dr op k m n fun v => K v st) : OpOk P o st K := by
  refine OpOk.know (fun E a hs => And.intro (hs.intFact hx) (hs.intFact hy)) fun hf => ?_
  cases op <;> simp only [intVC] at hk <;> first
    | exact hk.elim
    | exact ok_intBin ho hx hy (hk.out (.inr hf))
    | exact ok_intBin ho hx hy (hk.out (.inr hf.1))
    | exact ok_intBin ho hx hy hk.out
    | exact ok_xor ho hx hy (hk.out (.inr hf))

theorem shiftVC_sound {op : BinOp} {t u : Nat} {x y : Operand} {k k' : IntKind} {m n : Int} {st : St} {K : AV → St → Prop} {o : Oper} {dr : Bool} (ho : o.op = .binOp op t x y u) (hx : st.ev x = .int k m) (hy : st.ev y = .int k' n)
    (hk : shiftVC dr op k m n fun v => K v st) : OpOk P o st K := by
  refine OpOk.know (fun E a hs => hs.intFact hx) fun hf => ?_
  cases op <;> simp only [shiftVC] at hk <;> first
    | exact hk.elim
    | (obtain ⟨h1, h2⟩ := hk.out (.inr hf); exact ok_shl ho hx hy h1 h2)
    | (obtain ⟨h1, h2⟩ := hk.out (.inr hf); exact ok_shr ho hx hy h1 h2)

theorem lenVC_sound (h : TabOk P T) {t : Nat} {x : Operand} {st : St} {K : AV → St → Prop} {o : Oper} {dr : Bool} (ho : o.op = .call { callee := .builtin .len, args := #[x], argTypes := #[t] })
    (hk : lenVC dr T st t (st.ev x) fun v => K v st) : OpOk P o st K := by
  unfold lenVC at hk
  split at hk
  · rename_i hti
    split at hk
    · rename_i hv; exact ok_len (ty := 0) h hti rfl (x := x) ho (by rw [hv]; rfl) (by decide) hk
    · rename_i hv; exact ok_len (ty := 0) h hti rfl (x := x) ho (by rw [hv]; rfl) (by decide) hk
    · rename_i rows hv
      refine OpOk.know (p := rows.length ≤ maxLen) (fun E a hs => rel_roLen (by have := hs.ev x; rw [hv] at this; exact this)) fun hle => ?_
      exact ok_len (ty := 0) h hti rfl (x := x) ho (by rw [hv]; rfl) hle (hk.out.2 hle)
    · rename_i n hv
      split at hk
      · rename_i hq
        refine OpOk.know (p := n ≤ maxLen) (fun E a hs => hs.refFact (hs.ev x) hv hq) fun hle => ?_
        exact ok_len (ty := 0) h hti rfl (x := x) ho (by rw [hv]; rfl) hle (hk.out.2 hle)
      · exact hk.elim
    · exact hk.elim
  · exact hk.elim

theorem nilVC_sound (h : TabOk P T) {op : BinOp} {t u e : Nat} {x y : Operand} {st : St} {K : AV → St → Prop} {o : Oper} {i : TI} (hi : T t = some i) (hd : i.desc = .slice e) (ho : o.op = .binOp op t x y u) (hy : st.ev y = .nilS)
    (hk : nilVC op (st.ev x) fun v => K v st) : OpOk P o st K := by
  have un : ∀ {w : AV}, st.ev x = w → w = .ro [] → K (.bool true) st → K (.bool false) st → (op = .eql ∨ op = .neq) → OpOk P o st K := by
    intro w hw he h1 h2 hop
    subst he
    intro E a KW QW hs hK
    have hr := hs.ev x
    rw [hw] at hr
    have hxv : ∃ ad c, a.eval x = .slice ad 0 c := by
      generalize a.eval x = xv at hr
      cases hr with
      | base _ _ h =>
        cases h with
        | ro0 ad cap _ _ => exact ⟨_, _, rfl⟩
        | ro _ _ _ _ _ _ h1 => exact absurd rfl h1
    obtain ⟨ad, c, hxv⟩ := hxv
    have hr' := hs.ev y
    rw [hy] at hr'
    obtain ⟨d, hu, htd⟩ := h.und hi
    have hd1 := tdOf_slice (htd.trans hd)
    subst hd1
    have hneq : (binOp .neq t (.slice ad 0 c) (.slice none 0 0)).run P E.w = .ok (.bool (!ad.isNone)) E.w := by
      simp only [binOp]
      simp [Op.equal, Op.maxDepth, Lib.run_equalIn_slice_nil E.w 9999 t e ad 0 c 0 0 hu]
    have heql := Lib.run_eql_slice_nil (P := P) E.w t e ad 0 c 0 0 hu
    have hrun : ∃ b, (execOp a.eval o).run P E.w = .ok (.value (.bool b)) E.w := by
      rcases hop with rfl | rfl
      · exact ⟨ad.isNone, by simp [execOp, ho, hxv, rel_nilS hr', eqGuard_slice, heql]⟩
      · exact ⟨!ad.isNone, by simp [execOp, ho, hxv, rel_nilS hr', eqGuard_slice, hneq]⟩
    obtain ⟨b, hrun⟩ := hrun
    unfold Oper.wp
    rw [hrun]
    refine hK E (.bool b) _ st (Fr.refl E) hs (.base _ _ (.bool b)) ?_
    cases b
    · exact h2
    · exact h1
  have ro : ∀ {rows : List (List AV)}, st.ev x = .ro rows → (rows = [] → K (.bool true) st ∧ K (.bool false) st) → ((op = .eql ∧ K (.bool false) st) ∨ (op = .neq ∧ K (.bool true) st)) → OpOk P o st K := by
    intro rows hx h1 h2
    cases rows with
    | nil =>
      obtain ⟨k1, k2⟩ := h1 rfl
      exact un hx rfl k1 k2 (h2.imp (·.1) (·.1))
    | cons r rest =>
      exact ok_nilEq h hi hd ho hy (b := false) (.inr ⟨by rw [hx]; rfl, rfl⟩) h2
  have rf : ∀ {p : Bool} {id off n : Nat}, st.ev x = .ref p id off n → (p = true ∨ 0 < n) → ((op = .eql ∧ K (.bool false) st) ∨ (op = .neq ∧ K (.bool true) st)) → OpOk P o st K := by
    intro p id off n hx hn h2
    refine ok_nilEq h hi hd ho hy (b := false) (.inr ⟨?_, rfl⟩) h2
    rw [hx]
    cases p with
    | true => cases n <;> rfl
    | false =>
      cases n with
      | zero => rcases hn with h | h; cases h; omega
      | succ n => rfl
  cases op <;> simp only [nilVC] at hk <;> try exact hk.elim
  · split at hk
    · rename_i hx; exact ok_nilEq h hi hd ho hy (b := true) (.inl ⟨hx, rfl⟩) (.inl ⟨rfl, hk⟩)
    · rename_i hx; exact ok_nilEq h hi hd ho hy (b := false) (.inr ⟨by rw [hx]; rfl, rfl⟩) (.inl ⟨rfl, hk⟩)
    · have hk := hk.out
      split at hk
      · rename_i hx; exact ro hx (fun e => ⟨hk.1 e, hk.2⟩) (.inl ⟨rfl, hk.2⟩)
      · rename_i hx; exact rf hx hk.1 (.inl ⟨rfl, hk.2⟩)
      · exact hk.elim
  · split at hk
    · rename_i hx; exact ok_nilEq h hi hd ho hy (b := true) (.inl ⟨hx, rfl⟩) (.inr ⟨rfl, hk⟩)
    · rename_i hx; exact ok_nilEq h hi hd ho hy (b := false) (.inr ⟨by rw [hx]; rfl, rfl⟩) (.inr ⟨rfl, hk⟩)
    · have hk := hk.out
      split at hk
      · rename_i hx; exact ro hx (fun e => ⟨hk.2, hk.1 e⟩) (.inr ⟨rfl, hk.2⟩)
      · rename_i hx; exact rf hx hk.1 (.inr ⟨rfl, hk.2⟩)
      · exact hk.elim

theorem storeVC_sound (h : TabOk P T) {t : Nat} {p x : Operand} {st : St} {K : AV → St → Prop} {o : Oper} (ho : o.op = .store t p x) (hk : storeVC T st t (st.ev p) (st.ev x) fun v d => K v (st.upd d)) : OpOk P o st K := by
  unfold storeVC at hk
  split at hk
  · rename_i i vs id row fld hi hf hp
    split at hk
    · rename_i cells hq
      cases hc : (nbeq row 0 && nbeq vs.length i.size && nble (fld + vs.length) cells.length) with
      | false => rw [hc] at hk; exact hk.elim
      | true =>
        rw [hc] at hk
        simp only [Bool.and_eq_true] at hc
        obtain rfl := nbeq_eq hc.1.1
        exact ok_storeBox h hi ho hp hq hf (nbeq_eq hc.1.2) (nble_le hc.2) hk
    · rename_i s fl rows hq
      split at hk
      · rename_i us hu
        obtain ⟨r, hr, hl, hle, hk⟩ := hk.out
        have hlu := (cellsOf_get hu).1
        exact ok_storeArr h hi ho hp hq hr hf (by omega) (by omega) hu hk
      · exact hk.elim
    · exact hk.elim
  · exact hk.elim

theorem loadVC_sound (h : TabOk P T) {t : Nat} {p : Operand} {st : St} {K : AV → St → Prop} {o : Oper} (ho : o.op = .load t p) (hk : loadVC T st t (st.ev p) fun v => K v st) : OpOk P o st K := by
  unfold loadVC at hk
  split at hk
  · rename_i i hi
    split at hk
    · rename_i hkn
      split at hk
      · rename_i id row fld hp
        split at hk
        · rename_i cells hq
          split at hk
          · rename_i v hrow hl
            exact ok_load h hi hkn ho (by simp only [hp, St.at, hq, hrow, cond_true]) hl hk
          · exact hk.elim
        · rename_i s fl rows hq
          obtain ⟨r, hr, hk⟩ := hk.out
          split at hk
          · rename_i v hl
            exact ok_load h hi hkn ho (by simp only [hp, St.at, hq, hr, Option.map_some]) hl hk
          · exact hk.elim
        · exact hk.elim
      · rename_i cells hp
        split at hk
        · rename_i v hl
          exact ok_load h hi hkn ho (by simp only [hp, St.at]) hl hk
        · exact hk.elim
      · exact hk.elim
    · exact hk.elim
  · exact hk.elim

theorem St.elemVC_sound {st : St} {size : Nat} {x : AV} {n : Int} {K : AV → Prop} (h : st.elemVC size x n K) : st.elem size x n K := by
  unfold St.elemVC at h
  unfold St.elem
  split at h
  · split at h
    · rename_i hq
      obtain ⟨⟨h1, h2, h3, h4⟩⟩ := h
      simp only [hq]
      exact ⟨h1, h2, h3, h4⟩
    · exact h.elim
  · exact h.out
  · exact h.elim

theorem St.cutVC_sound {st : St} {size : Nat} {x : AV} {lo hi : Option AV} {K : AV → Prop} (h : st.cutVC size x lo hi K) : st.cut size x lo hi K := by
  unfold St.cutVC at h
  unfold St.cut
  split at h
  · split at h
    · rename_i h1 h2
      split at h
      · simp only [h1, h2, hiOf]; exact h.out
      · simp only [h1, h2, hiOf]; exact h.out
      · exact h.elim
    · exact h.elim
  · split at h
    · rename_i h2
      split at h
      · simp only [h2, hiOf]; exact h.out
      · simp only [h2, hiOf]
        obtain ⟨⟨⟨g1, g2⟩, g3, g4⟩⟩ := h
        refine ⟨⟨g1, g2, Int.le_refl _⟩, g3, ?_⟩
        rw [show ((_ : Nat) : Int).toNat = _ from Int.toNat_natCast _, List.take_length]; exact g4
      · exact h.elim
    · exact h.elim
  · exact h.elim

theorem St.srcVC_sound {st : St} {v : AV} {K : SK → List (List AV) → Prop} (h : st.srcVC v K) : ∃ kd ys, st.rows v = some (kd, ys) ∧ K kd ys := by
  unfold St.srcVC at h
  split at h
  · exact ⟨_, _, rfl, h⟩
  · exact ⟨_, _, rfl, h⟩
  · exact ⟨_, _, rfl, h⟩
  · split at h
    · rename_i fl rows hq
      obtain ⟨⟨h1, h2⟩⟩ := h
      refine ⟨_, _, ?_, h2⟩
      simp only [St.rows, hq, show nble _ _ = true from by simp only [nble]; exact decide_eq_true h1, cond_true]
      cases fl <;> rfl
    · exact h.elim
  · exact h.elim

theorem appVC_sound (h : TabOk P T) {t e lab : Nat} {i j : TI} {x y : Operand} {st : St} {K : AV → St → Prop} {o : Oper} (hti : T t = some i) (hd : i.desc = .slice e) (hj : T e = some j) (hpos : 0 < j.size) (hby : 0 < j.bytes)
    (ho : o.op = .call { callee := .builtin .append, args := #[x, y], argTypes := #[t, t] }) (hu : st.used.elem lab = false) (hk : st.appVC j lab (st.ev x) (st.ev y) fun v d => K v (st.upd d)) : OpOk P o st K := by
  unfold St.appVC at hk
  obtain ⟨kd, ys, hys, hk⟩ := St.srcVC_sound hk
  split at hk
  · rename_i hxv
    obtain ⟨⟨h1, h2, h3, h4⟩⟩ := hk
    exact ok_appendNew h hti hd hj hpos hby ho hu (.inl hxv) hys h1 h2 h3 h4
  · rename_i hxv
    obtain ⟨⟨h1, h2, h3, h4⟩⟩ := hk
    exact ok_appendNew h hti hd hj hpos hby ho hu (.inr hxv) hys h1 h2 h3 h4
  · rename_i hxv
    split at hk
    · rename_i hq
      obtain ⟨⟨rfl, h1, h2, h3⟩⟩ := hk
      rcases h3 with ⟨h3, h4, h5⟩ | ⟨h3, h4, h5⟩
      · exact ok_appendRef h hti hd hj hpos hby ho hu hxv hq h3 hys h1 h2 h4 h5
      · exact ok_appendIn h hti hd hj hpos ho hxv h3 hq h4 hys h1 h2 h5
    · exact hk.elim
  · exact hk.elim

theorem opVC_sound (h : TabOk P T) {dr : Bool} {lab : Nat} {o : Oper} {st : St} {K : AV → St → Prop} (hk : opVC sy dr P T lab o st fun v d => K v (st.upd d)) : OpOk P o st K := by
  unfold opVC at hk
  split at hk
  case h_1 x ho => exact ok_move (.inl ho) hk
  case h_2 x ho => exact ok_move (.inr ho) hk
  case h_3 c x y ho =>
    split at hk
    · rename_i b hc
      refine ok_pick ho hc ?_
      cases b <;> exact hk
    · exact hk.elim
  case h_4 op t x ho =>
    split at hk
    · exact ok_not ho ‹_› hk
    · exact ok_neg ho ‹_› hk.out
    · exact hk.elim
  case h_5 op t x y u ho =>
    split at hk
    · rename_i k m k' n hx hy
      split at hk
      · exact shiftVC_sound ho hx hy hk
      · exact shiftVC_sound ho hx hy hk
      · by_cases hkk : k = k'
        · subst hkk
          rw [show decide (k = k) = true by simp] at hk
          exact intVC_sound ho hx hy hk
        · rw [show decide (k = k') = false by simp [hkk]] at hk
          exact hk.elim
    · rename_i m n hx hy
      split at hk
      · rename_i ht; exact ok_boolEq h ht rfl ho hx hy (.inl ⟨rfl, by cases n <;> cases m <;> exact hk⟩)
      · rename_i ht; exact ok_boolEq h ht rfl ho hx hy (.inr ⟨rfl, by cases n <;> cases m <;> exact hk⟩)
      · exact hk.elim
    · rename_i us vs hx hy
      split at hk
      · rename_i hti
        obtain ⟨hfit, hk⟩ := hk
        split at hk
        · rename_i hp
          obtain ⟨b, hb⟩ : ∃ b : Bool, b = true ↔ us = vs := by
            by_cases he : us = vs
            · exact ⟨true, by simp [he]⟩
            · exact ⟨false, by simp [he]⟩
          split at hk
          · exact ok_structEq h hti rfl hfit.out ho hx hy hp hb (.inl ⟨rfl, hk.out _ hb⟩)
          · exact ok_structEq h hti rfl hfit.out ho hx hy hp hb (.inr ⟨rfl, hk.out _ hb⟩)
          · exact hk.elim
        · exact hk.elim
      · exact hk.elim
    · rename_i hy
      split at hk
      · rename_i ht
        cases dr with
        | true => exact hk.elim
        | false => exact nilVC_sound h ht rfl ho hy hk
      · exact hk.elim
    · exact hk.elim
  case h_6 x i ho =>
    split at hk
    · rename_i vs hx
      split at hk
      · exact ok_extract ho hx ‹_› hk
      · exact hk.elim
    · exact hk.elim
  case h_7 s d x ho =>
    split at hk
    · rename_i hs hd hx
      rename_i k n
      refine OpOk.know (fun E a hs' => hs'.intFact hx) fun hwf => ?_
      refine ok_convInt h hs hd rfl rfl ho hx ?_
      split at hk
      · rename_i hkk
        have := of_decide_eq_true hkk
        subst this
        rw [wrap_wf hwf]; exact hk
      · exact hk.out
    · exact hk.elim
  case h_8 f first caps ho => exact ok_makeFunc ho hk
  case h_9 t ho =>
    split at hk
    · rename_i hi hu; exact ok_alloc h hi hu ho hk
    · exact hk.elim
  case h_10 t x ho =>
    split at hk
    · rename_i hf hu; exact ok_box hu ho hf hk
    · exact hk.elim
  case h_11 t parts ho =>
    split at hk
    · rename_i ht
      split at hk
      · rename_i ha hf; exact ok_build h ht rfl ha ho hf hk
      · exact hk.elim
    · exact hk.elim
  case h_12 t p ho => exact loadVC_sound h ho hk
  case h_13 t p x ho => exact storeVC_sound h ho hk
  case h_14 s p f ho =>
    split at hk
    · rename_i hi
      split at hk
      · rename_i hf
        split at hk
        · rename_i hj hv
          split at hk
          · rename_i hpos; exact ok_fieldAddr h hi rfl hf hj (by simpa [nblt_eq] using hpos) ho hv hk
          · exact hk.elim
        · exact hk.elim
      · exact hk.elim
    · exact hk.elim
  case h_15 t x f ho =>
    split at hk
    · rename_i hi hx
      split at hk
      · rename_i hf
        split at hk
        · rename_i hj
          split at hk
          · rename_i hkn hag; exact ok_field h hi rfl hf hj hkn ho hx (by rw [hag]; exact ⟨nble_le hk.1, hk.2⟩)
          · rename_i hkn hag
            split at hk
            · rename_i hd; exact ok_field h hi rfl hf hj hkn ho hx (by rw [hag]; exact ⟨_, _, hd, hk⟩)
            · exact hk.elim
          · exact hk.elim
        · exact hk.elim
      · exact hk.elim
    · exact hk.elim
  case h_16 t x y ho =>
    split at hk
    · rename_i hi
      split at hk
      · rename_i hj hy; exact ok_indexAddr h hi rfl hj ho hy (St.elemVC_sound hk)
      · exact hk.elim
    · exact hk.elim
  case h_17 t x lo hi ho =>
    split at hk
    · rename_i hti
      split at hk
      · rename_i hj
        split at hk
        · rename_i hx
          exact ok_sliceNil h hti rfl hj ho hx hk
        · exact ok_slice h hti rfl hj ho (St.cutVC_sound hk)
      · exact hk.elim
    · exact hk.elim
  case h_18 t x y ho =>
    split at hk
    · rename_i hti
      split at hk
      · rename_i hj hx hy hu
        split at hk
        · rename_i hpos hz
          simp only [Bool.and_eq_true, nblt_eq] at hpos
          obtain ⟨⟨h1, h2, h3, h4⟩⟩ := hk
          exact ok_makeSlice h hti rfl hj hpos.1 hpos.2 ho hu hx hy h1 h2 h3 hz h4
        · exact hk.elim
      · exact hk.elim
    · exact hk.elim
  case h_19 t n parts ho =>
    split at hk
    · rename_i hti
      split at hk
      · rename_i hj hu
        split at hk
        · rename_i hpos hp
          exact ok_buildNil h hti rfl hj (by simpa [nblt_eq] using hpos) ho hp hu hk
        · rename_i hpos
          split at hk
          · rename_i hsm hf
            split at hk
            · rename_i hrows
              exact ok_buildSlice h hti rfl hj (by simpa [nblt_eq] using hpos) ho (Nat.succ_pos _) (nble_le hsm) hf hrows hu hk
            · exact hk.elim
          · exact hk.elim
        · exact hk.elim
      · exact hk.elim
    · exact hk.elim
  case h_20 x ho =>
    split at hk
    · exact ok_nilCheck ho ‹_› hk
    · exact hk.elim
  case h_21 args tys ho =>
    split at hk
    · rename_i x y t t' hx ht
      split at hk
      · rename_i htt hti hu
        obtain rfl := nbeq_eq htt
        split at hk
        · rename_i hj
          split at hk
          · rename_i hpos
            simp only [Bool.and_eq_true, nblt_eq] at hpos
            have h1 : args = #[x, y] := by rw [← Array.toArray_toList (xs := args), hx]
            have h2 : tys = #[t, t] := by rw [← Array.toArray_toList (xs := tys), ht]
            rw [h1, h2] at ho
            exact appVC_sound h hti rfl hj hpos.1 hpos.2 ho hu hk
          · exact hk.elim
        · exact hk.elim
      · exact hk.elim
    · exact hk.elim
  case h_22 args tys ho =>
    split at hk
    · rename_i x t hx ht
      have h1 : args = #[x] := by rw [← Array.toArray_toList (xs := args), hx]
      have h2 : tys = #[t] := by rw [← Array.toArray_toList (xs := tys), ht]
      rw [h1, h2] at ho
      exact lenVC_sound h ho hk
    · exact hk.elim
  case h_23 args tys ho =>
    split at hk
    · rename_i x t hx ht
      have h1 : args = #[x] := by rw [← Array.toArray_toList (xs := args), hx]
      have h2 : tys = #[t] := by rw [← Array.toArray_toList (xs := tys), ht]
      rw [h1, h2] at ho
      split at hk
      · rename_i hti hv; exact ok_capNil (ty := 0) h hti rfl ho hv hk
      · exact hk.elim
    · exact hk.elim
  case h_24 args tys ho =>
    split at hk
    · exact hk.elim
    split at hk
    · rename_i x t hx ht
      have h1 : args = #[x] := by rw [← Array.toArray_toList (xs := args), hx]
      have h2 : tys = #[t] := by rw [← Array.toArray_toList (xs := tys), ht]
      rw [h1, h2] at ho
      split at hk
      · rename_i hti hv
        split at hk
        · rename_i hj hq
          split at hk
          · rename_i hpos hz
            obtain ⟨⟨rfl⟩, ⟨rfl, h3, h4⟩⟩ := hk
            exact ok_clear h hti rfl hj (by simpa [nblt_eq] using hpos) ho hv hq h3 hz h4
          · exact hk.elim
        · exact hk.elim
      · exact hk.elim
    · exact hk.elim
  case h_25 c args tys ho =>
    split at hk
    · rename_i f first caps hc hfr
      obtain ⟨al, dp, bs, objs, R, h1, h2, _, h4⟩ := hk.out
      exact ok_call ho hc h1 h2 hfr h4
    · exact hk.elim
  case h_26 =>
    cases dr with
    | true => exact hk.elim
    | false => exact hk.out.mono fun v s ⟨d, hs, hk⟩ => hs ▸ hk

end Go.Proofs.Ytmbckmfihcojoaa.AM
