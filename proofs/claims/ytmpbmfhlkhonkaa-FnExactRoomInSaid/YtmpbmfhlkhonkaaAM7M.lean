/- The abstract machine, part 7M: make, empty slice literals. -/
import Derived.Test.YtmpbmfhlkhonkaaAM7
import Derived.Laws.MakeOwn
namespace Go.Proofs.Ytmpbmfhlkhonkaa.AM
open Go Go.RowKit

set_option linter.unusedVariables false
set_option linter.unusedSimpArgs false

variable {P : Program} {T : Nat → Option TI} {E : Env} {st : St} {a : Act} {K : AV → St → Prop} {o : Oper}

theorem madeCells_get {z : Array Value} {n size i j : Nat} (hz : z.size = size) (hi : i < n) (hj : j < size) : (madeCells z (n * size))[i * size + j]? = z[j]? := by
  have h1 : i * size + j < n * size := by
    have : i * size + size ≤ n * size := by rw [← Nat.succ_mul]; exact Nat.mul_le_mul_right _ hi
    omega
  have h2 : (i * size + j) % z.size = j := by rw [hz, Nat.mul_comm, Nat.mul_add_mod, Nat.mod_eq_of_lt hj]
  have hjz : j < z.size := by omega
  simp only [madeCells, Array.getElem?_map, Array.getElem?_range, h1, if_true, Option.map_some]
  rw [h2]
  simp [hjz]

theorem ok_makeSlice {t e lab : Nat} {i j : TI} {x y : Operand} {k k' : IntKind} {n m : Int} {us : List AV} (h : TabOk P T) (hti : T t = some i) (hd : i.desc = .slice e) (hj : T e = some j) (hpos : 0 < j.size) (hby : 0 < j.bytes)
    (ho : o.op = .makeSlice t x y) (hu : st.used.elem lab = false) (hx : st.ev x = .int k n) (hy : st.ev y = .int k' m) (h0 : 0 ≤ n) (hnm : n ≤ m) (hb : m.toNat * j.bytes ≤ maxBytes) (hz : cellsOf j.flat j.zero = some us)
    (hk : K (.ref false lab 0 n.toNat) { st with sto := (lab, .arr j.size j.flat (List.replicate n.toNat us)) :: st.sto, used := lab :: st.used }) : OpOk P o st K := by
  obtain ⟨info, d, z, hi1, hi2, hi3, hi4, hi5, hi6, hi7, hi8, hi9⟩ := h.info hj
  obtain ⟨d', hu', htd'⟩ := h.und hti
  have hd1 := tdOf_slice (htd'.trans hd)
  subst hd1
  have hcm : m.toNat ≤ maxLen := append_maxLen hby hb
  have hbytes : (info.bytes : Int) * m ≤ 281474976710656 := by
    have h1 : ((m.toNat * j.bytes : Nat) : Int) ≤ 140737488355328 := by simp only [maxBytes] at hb; omega
    rw [hi5, Int.mul_comm]
    rw [Int.natCast_mul, Int.toNat_of_nonneg (by omega)] at h1
    omega
  have h63 : m ≤ 9223372036854775807 := by simp only [maxLen] at hcm; omega
  refine OpOk.upon (fun E a hs => ?_)
  have hxv := rel_int (by have := hs.ev x; rw [hx] at this; exact this)
  have hyv := rel_int (by have := hs.ev y; rw [hy] at this; exact this)
  have hrun := run_make (P := P) E.w t e info z hu' hi1 hi6 k k' n m h0 hnm hbytes h63
  obtain ⟨g1, g2⟩ := cellsOf_get hz
  have hzl : j.zero.length = j.size := by rw [← hi7]; simpa using hi8
  let cells := madeCells z.cells (m.toNat * j.size)
  have hs' := hs.new (id := lab) (c := cells) (ty := e) (siz := j.size) (cap := m.toNat) (ob := .arr j.size j.flat (List.replicate n.toNat us)) hu
    (.inr ⟨_, cells, e, Env.new_loc, rfl, hpos, by simp [Env.new], heap_new _ _, by simp [cells, size_madeCells], by simp; omega, hcm, fun q r hq => ?_, fun q c r v hq hc => ?_⟩)
  · refine ⟨.slice (some ⟨E.w.heap.size, 0, none⟩) n.toNat m.toNat, E.new lab cells e j.size m.toNat, _, _, ?_, Env.new_fr _ _ _ _ _, hs', ?_, hk⟩
    · simp only [execOp, ho, hxv.1, hyv.1, Sem.run_bind, hrun, Result.andThen_ok, hi4]
      rfl
    · have := Rel.ref (E := E.new lab cells e j.size m.toNat) false lab 0 n.toNat _ m.toNat Env.new_loc (by omega) (by simp)
      simp only [Nat.zero_mul, Nat.add_zero] at this
      exact this
  · have : r = us := by
      have := List.mem_of_getElem? hq
      exact (List.mem_replicate.1 this).2
    subst this
    show r.length = j.size
    omega
  · have hr : r = us := (List.mem_replicate.1 (List.mem_of_getElem? hq)).2
    subst hr
    have hqn : q < n.toNat := by
      have := (List.getElem?_eq_some_iff.1 hq).1
      simpa using this
    have hcl : c < j.size := by
      have := (List.getElem?_eq_some_iff.1 hc).1
      omega
    obtain ⟨v0, hv0, hcell⟩ := g2 c v hc
    have hzc : ∃ zc, z.cells[c]? = some zc ∧ v0 = ofConst zc := by
      rw [← hi7] at hv0
      simp only [List.getElem?_map, Option.map_eq_some_iff] at hv0
      obtain ⟨zc, h1, h2⟩ := hv0
      exact ⟨zc, by simpa using h1, h2.symm⟩
    obtain ⟨zc, hzc, rfl⟩ := hzc
    refine ⟨zc, ?_, ?_, ?_⟩
    · have := madeCells_get (n := m.toNat) (i := q) (j := c) hi8 (by omega) hcl
      simp only [Nat.zero_add]
      rw [this]; exact hzc
    · have : zc ∈ z.cells := Array.mem_of_getElem? hzc
      exact Array.all_eq_true'.1 hi9 _ this
    · exact cell_rel (E := E.new lab cells e j.size m.toNat) (rel_const _ zc) hcell

/-- A slice literal without elements. -/
theorem ok_buildNil {t e lab : Nat} {i j : TI} {parts : Array (Nat × Operand)} (h : TabOk P T) (hti : T t = some i) (hd : i.desc = .slice e) (hj : T e = some j) (hpos : 0 < j.size) (ho : o.op = .buildSlice t 0 parts) (hp : parts.toList = [])
    (hu : st.used.elem lab = false) (hk : K .emp { st with sto := (lab, .arr j.size j.flat []) :: st.sto, used := lab :: st.used }) : OpOk P o st K := by
  obtain ⟨info, d, z, hi1, hi2, hi3, hi4, hi5, hi6, hi7, hi8, hi9⟩ := h.info hj
  obtain ⟨d', hu', htd'⟩ := h.und hti
  have hd1 := tdOf_slice (htd'.trans hd)
  subst hd1
  refine OpOk.upon (fun E a hs => ?_)
  have hs' := hs.new (id := lab) (c := #[]) (ty := e) (siz := j.size) (cap := 0) (ob := .arr j.size j.flat []) hu
    (.inr ⟨_, #[], e, Env.new_loc, rfl, hpos, by simp [Env.new], heap_new _ _, by simp, by simp, by simp, fun q r hq => by simp at hq, fun q c r v hq hc => by simp at hq⟩)
  refine ⟨.slice (some ⟨E.w.heap.size, 0, none⟩) 0 0, E.new lab #[] e j.size 0, _, _, ?_, Env.new_fr _ _ _ _ _, hs', .base _ _ (.emp _), hk⟩
  have hpe : parts = #[] := by rw [← Array.toArray_toList (xs := parts), hp]
  subst hpe
  simp [execOp, ho, Instr.buildSlice, run_underlying hu', sizeOf, typeInfo, hi1, Instr.fill, newRow, Env.new, Array.range_zero']

end Go.Proofs.Ytmpbmfhlkhonkaa.AM
