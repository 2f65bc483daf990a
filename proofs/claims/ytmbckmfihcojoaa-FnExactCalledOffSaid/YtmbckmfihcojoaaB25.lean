/- The abstract machine, part 25: what a caller hands in, read as abstract values. -/
import Derived.Test.YtmbckmfihcojoaaB24
import Derived.Deep.Slices
namespace Go.Proofs.Ytmbckmfihcojoaa.AM
open Go Go.RowKit

set_option linter.unusedVariables false
set_option linter.unusedSimpArgs false

variable {P : Program} {T : Nat → Option TI}

mutual
/-- Values of a type, as they come in. -/
inductive Shape (T : Nat → Option TI) : Nat → List AV → Prop
  | int (t : Nat) (i : TI) (k : IntKind) (n : Int) : T t = some i → i.desc = .int k → Shape T t [.int k n]
  | bool (t : Nat) (i : TI) (b : Bool) : T t = some i → i.desc = .bool → Shape T t [.bool b]
  | slice (t e : Nat) (i : TI) (rows : List (List AV)) : T t = some i → i.desc = .slice e → (∀ r ∈ rows, Shape T e r) → Shape T t [.ro rows]
  | strct (t : Nat) (i : TI) (fs : List (Nat × Nat)) (avs : List AV) : T t = some i → i.desc = .strct fs → ShapeF T fs avs → Shape T t avs
inductive ShapeF (T : Nat → Option TI) : List (Nat × Nat) → List AV → Prop
  | nil : ShapeF T [] []
  | cons (o t : Nat) (fs : List (Nat × Nat)) (a b : List AV) : Shape T t a → ShapeF T fs b → ShapeF T ((o, t) :: fs) (a ++ b)
end

/-- The fields lie one behind another, from here to there. -/
def contig (T : Nat → Option TI) (K : Nat → Prop) : Nat → Nat → List (Nat × Nat) → Prop
  | off, size, [] => off = size
  | off, size, (o, t) :: r => o = off ∧ K t ∧ ∃ j, T t = some j ∧ contig T K (off + j.size) size r

/-- A set of types that is closed. -/
def ClosedT (T : Nat → Option TI) (K : Nat → Prop) : Prop :=
  ∀ t, K t → ∃ i, T t = some i ∧ (match i.desc with
    | .int _ => i.size = 1
    | .bool => i.size = 1
    | .slice e => i.size = 1 ∧ K e ∧ ∃ j, T e = some j ∧ 0 < j.size
    | .strct fs => contig T K 0 i.size fs
    | _ => False)

theorem choose_rows {Q : Nat → List AV → Prop} : ∀ (n : Nat), (∀ i, i < n → ∃ r, Q i r) → ∃ rows : List (List AV), rows.length = n ∧ ∀ (i : Nat) (r : List AV), rows[i]? = some r → Q i r
  | 0, _ => ⟨[], rfl, fun i r h => by simp at h⟩
  | n + 1, h => by
    obtain ⟨rows, h1, h2⟩ := choose_rows n fun i hi => h i (by omega)
    obtain ⟨r, hr⟩ := h n (by omega)
    refine ⟨rows ++ [r], by simp [h1], fun i r' hi => ?_⟩
    rcases Nat.lt_or_ge i rows.length with hlt | hge
    · rw [List.getElem?_append_left hlt] at hi; exact h2 i r' hi
    · rw [List.getElem?_append_right hge] at hi
      have hlt := (List.getElem?_eq_some_iff.1 hi).1
      have e : i = n := by simp at hlt; omega
      subst e
      simp [h1] at hi
      subst hi; exact hr

section
variable {H : Type} {enc : TypeId × Value → H} {w : World} {sp : Nat → Bool} {held : Bool}

abbrev Old (w : World) : Nat → Prop := fun b => b < w.heap.size

def ReadsTo (w : World) (avs : List AV) (cs : List Value) : Prop :=
  avs.length = cs.length ∧ ∀ (j : Nat) (v : AV) (y : Value), avs[j]? = some v → cs[j]? = some y → RRel w (Old w) v y ∧ y.oneCell' = true

theorem cell?_old {a : Addr} {v : Value} (h : w.cell? a = some v) : a.block < w.heap.size ∧ a = ⟨a.block, a.off, none⟩ := by
  unfold World.cell? at h
  split at h
  · rename_i c _ _ hq
    refine ⟨(Array.getElem?_eq_some_iff.1 hq).1, ?_⟩
    cases a with
    | mk b o s =>
      cases s with
      | none => rfl
      | some s => simp at h
  · cases h

theorem contig_le {K : Nat → Prop} {size : Nat} : ∀ {fs : List (Nat × Nat)} {off : Nat}, contig T K off size fs → off ≤ size
  | [], off, h => Nat.le_of_eq h
  | (o, t) :: r, off, ⟨_, _, j, _, h⟩ => by have := contig_le h; omega

theorem cellsOf_tab (htab : TabOk P T) {t : Nat} {i : TI} (hi : T t = some i) : P.cellsOf t = i.size := by
  obtain ⟨info, _, _, h1, _, _, h4, _⟩ := htab.info hi
  simp [Program.cellsOf, h1, h4]

theorem reads_fields (htab : TabOk P T) {K : Nat → Prop} {n : Nat} {cs : List Value} {size : Nat} (hlen : cs.length = size)
    (ih : ∀ (t : Nat) (cs : List Value) (x : DataW H × List MemPlace), K t → DataW.trod enc P w 0 sp held n t cs = some x → ∃ avs, Shape T t avs ∧ ReadsTo w avs cs) :
    ∀ (fs : List (Nat × Nat)) (off : Nat), contig T K off size fs → off ≤ size →
      (∀ p ∈ fs, ∃ x : DataW H × List MemPlace, DataW.trod enc P w 0 sp held n p.2 ((cs.drop p.1).take (P.cellsOf p.2)) = some x) →
      ∃ avs, ShapeF T fs avs ∧ avs.length = size - off ∧ ∀ (j : Nat) (v : AV) (y : Value), avs[j]? = some v → cs[off + j]? = some y → RRel w (Old w) v y ∧ y.oneCell' = true
  | [], off, hc, hle, _ => by
    obtain rfl : off = size := hc
    exact ⟨[], .nil, by simp, fun j v y h => by simp at h⟩
  | (o, t) :: r, off, hc, hle, hf => by
    obtain ⟨rfl, hK, j, hj, hc⟩ := hc
    obtain ⟨x, hx⟩ := hf (o, t) (by simp)
    obtain ⟨a, ha, hal, har⟩ := ih t _ x hK hx
    have hle2 := contig_le hc
    rw [cellsOf_tab htab hj] at hal har
    have hal' : a.length = j.size := by rw [hal]; simp; omega
    obtain ⟨b, hb, hbl, hbr⟩ := reads_fields htab hlen ih r (o + j.size) hc hle2 fun p hp => hf p (List.mem_cons_of_mem _ hp)
    refine ⟨a ++ b, .cons o t r a b ha hb, by simp [hal', hbl]; omega, fun q v y hq hy => ?_⟩
    rcases Nat.lt_or_ge q a.length with h | h
    · rw [List.getElem?_append_left h] at hq
      refine har q v y hq ?_
      rw [List.getElem?_take_of_lt (by omega), List.getElem?_drop]
      exact hy
    · rw [List.getElem?_append_right h] at hq
      refine hbr (q - a.length) v y hq ?_
      rw [show o + j.size + (q - a.length) = o + q by omega]
      exact hy

theorem reads (htab : TabOk P T) {K : Nat → Prop} (hK : ClosedT T K) : ∀ (n : Nat) (t : Nat) (cs : List Value) (x : DataW H × List MemPlace), K t → DataW.trod enc P w 0 sp held n t cs = some x → ∃ avs, Shape T t avs ∧ ReadsTo w avs cs
  | 0, t, cs, x, _, h => by simp [DataW.trod] at h
  | n + 1, t, cs, x, ht, h => by
    obtain ⟨i, hi, hd⟩ := hK t ht
    obtain ⟨d, hu, htd⟩ := htab.und hi
    cases hdesc : i.desc with
    | int k =>
      rw [hdesc] at htd
      have : d = .int k := by cases d <;> simp [tdOf] at htd; subst htd; rfl
      subst this
      obtain ⟨m, rfl, _, hw⟩ := DataW.trod_int hu h
      refine ⟨[.int k m], .int t i k m hi hdesc, rfl, fun j v y hj hy => ?_⟩
      cases j with
      | zero => simp at hj hy; subst hj; subst hy; exact ⟨.int k m hw, rfl⟩
      | succ j => simp at hj
    | bool =>
      rw [hdesc] at htd
      have : d = .bool := by cases d <;> simp [tdOf] at htd; rfl
      subst this
      obtain ⟨b, rfl, _⟩ := DataW.trod_bool hu h
      refine ⟨[.bool b], .bool t i b hi hdesc, rfl, fun j v y hj hy => ?_⟩
      cases j with
      | zero => simp at hj hy; subst hj; subst hy; exact ⟨.bool b, rfl⟩
      | succ j => simp at hj
    | slice e =>
      rw [hdesc] at hd htd
      have hde := tdOf_slice htd
      subst hde
      obtain ⟨_, hKe, j, hj, hpos⟩ := hd
      rcases DataW.trod_slice hu h with ⟨rfl, _⟩ | ⟨a, len, cap, elems, rest, n', hn', rfl, rfl, _, hl, hm, hlen, hel, _, _⟩
      · refine ⟨[.ro []], .slice t e i [] hi hdesc (fun r hr => by cases hr), rfl, fun q v y hq hy => ?_⟩
        cases q with
        | zero => simp at hq hy; subst hq; subst hy; exact ⟨.ro0 none 0 (by simp [maxLen]) (fun _ => rfl), rfl⟩
        | succ q => simp at hq
      · obtain rfl : n' = n := by omega
        rw [cellsOf_tab htab hj] at hel
        obtain ⟨rows, hrl, hrows⟩ := choose_rows (Q := fun q r => ∃ cs', w.cells? 0 (a.add (q * j.size)) j.size = some cs' ∧ Shape T e r ∧ ReadsTo w r cs') len fun q hq => by
          have h1 := hel q hq
          rw [List.getElem?_eq_getElem (by omega)] at h1
          obtain ⟨cs', g1, g2⟩ := Option.bind_eq_some_iff.1 h1
          obtain ⟨r, g3, g4⟩ := reads htab hK n' e cs' _ hKe g2
          exact ⟨r, cs', g1, g3, g4⟩
        refine ⟨[.ro rows], .slice t e i rows hi hdesc (fun r hr => ?_), rfl, fun q v y hq hy => ?_⟩
        · obtain ⟨q, hq⟩ := List.getElem?_of_mem hr
          obtain ⟨cs', _, g, _⟩ := hrows q r hq
          exact g
        · cases q with
          | succ q => simp at hq
          | zero =>
            simp at hq hy
            subst hq; subst hy
            refine ⟨?_, rfl⟩
            by_cases hne : rows = []
            · subst hne
              simp at hrl
              subst hrl
              exact .ro0 (some a) cap hm (fun e => by cases e)
            · have h0 : 0 < rows.length := List.length_pos_iff.2 hne
              have ha : a.block < w.heap.size ∧ a = ⟨a.block, a.off, none⟩ := by
                obtain ⟨cs', g1, g2, g3⟩ := hrows 0 rows[0] (List.getElem?_eq_getElem h0)
                obtain ⟨_, k1, k2⟩ := World.cells?_some g1
                have := k2 0 hpos
                rw [List.getElem?_eq_getElem (by omega)] at this
                have hh : a.add (0 * j.size) = a := by simp [Addr.add]
                rw [hh] at this
                have h00 : a.add 0 = a := by simp [Addr.add]
                rw [h00] at this
                exact cell?_old this
              obtain ⟨hb, hae⟩ := ha
              rw [hae, ← hrl]
              refine .ro rows a.block a.off cap j.size (fun q c => (w.cell? ⟨a.block, a.off + q * j.size + c, none⟩).getD default) hne (by omega) hm hb (fun q r hq => ?_) (fun q c r v hq hc => ?_) (fun q c r v hq hc => ?_)
              · obtain ⟨cs', g1, g2, g3⟩ := hrows q r hq
                obtain ⟨_, k1, k2⟩ := World.cells?_some g1
                rw [g3.1, k1]
              · obtain ⟨cs', g1, g2, g3⟩ := hrows q r hq
                obtain ⟨_, k1, k2⟩ := World.cells?_some g1
                have hc' : c < j.size := by
                  have := (List.getElem?_eq_some_iff.1 hc).1
                  rw [g3.1, k1] at this; exact this
                have := k2 c hc'
                rw [hae, Addr.add_mid, Addr.add_mid, List.getElem?_eq_getElem (by omega)] at this
                rw [this]; rfl
              · obtain ⟨cs', g1, g2, g3⟩ := hrows q r hq
                obtain ⟨_, k1, k2⟩ := World.cells?_some g1
                have hc' : c < j.size := by
                  have := (List.getElem?_eq_some_iff.1 hc).1
                  rw [g3.1, k1] at this; exact this
                have := k2 c hc'
                rw [hae, Addr.add_mid, Addr.add_mid, List.getElem?_eq_getElem (by omega)] at this
                simp only [this, Option.getD_some]
                exact (g3.2 c v _ hc (List.getElem?_eq_getElem (by omega))).1
    | strct fs =>
      rw [hdesc] at hd htd
      have : ∃ fs', d = .struct fs' := by cases d <;> simp [tdOf] at htd; exact ⟨_, rfl⟩
      obtain ⟨fs', rfl⟩ := this
      obtain ⟨xs, n', hn', _, hcl, hxl, hx⟩ := DataW.trod_struct hu h
      obtain rfl : n' = n := by omega
      simp only [tdOf, TD.strct.injEq] at htd
      rw [cellsOf_tab htab hi] at hcl
      obtain ⟨avs, g1, g2, g3⟩ := reads_fields htab hcl (fun t cs x => reads htab hK n' t cs x) fs 0 hd (Nat.zero_le _) fun p hp => by
        rw [← htd] at hp
        obtain ⟨f, hf, rfl⟩ := List.mem_map.1 hp
        obtain ⟨q, hq⟩ := List.getElem?_of_mem hf
        have := hx q f (by simpa using hq)
        have hql : q < xs.length := by
          have := (List.getElem?_eq_some_iff.1 hq).1
          rw [hxl]; simpa using this
        rw [List.getElem?_eq_getElem hql] at this
        exact ⟨_, this⟩
      refine ⟨avs, .strct t i fs avs hi hdesc g1, by rw [g2, hcl]; simp, fun q v y hq hy => g3 q v y hq (by simpa using hy)⟩
    | func => rw [hdesc] at hd; exact hd.elim
    | other => rw [hdesc] at hd; exact hd.elim
end

end Go.Proofs.Ytmbckmfihcojoaa.AM
