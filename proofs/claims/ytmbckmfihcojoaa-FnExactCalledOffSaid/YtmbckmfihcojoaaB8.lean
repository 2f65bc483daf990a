/- The abstract machine, part 8: appends. -/
import Derived.Test.YtmbckmfihcojoaaB7
namespace Go.Proofs.Ytmbckmfihcojoaa.AM
open Go Go.RowKit

set_option linter.unusedVariables false
set_option linter.unusedSimpArgs false

variable {P : Program} {T : Nat → Option TI} {E : Env} {st : St} {a : Act} {K : AV → St → Prop} {o : Oper}

/-- What is known of cells that are read: plain; of still memory; any. -/
inductive SK where
  | flat
  | ro
  | raw

/-- What reads as a slice, by its content. -/
def St.rows (st : St) : AV → Option (SK × List (List AV))
  | .nilS => some (.flat, [])
  | .emp => some (.flat, [])
  | .ro rows => some (.ro, rows)
  | .ref _ id off len => match lk st.sto id with
    | some (.arr _ fl rows) => bif nble (off + len) rows.length then some (bif fl then .flat else .raw, (rows.drop off).take len) else none
    | _ => none
  | _ => none

def AV.isOwn : AV → Bool
  | .own _ _ _ => true
  | _ => false

/-- These cells may be laid into such an array. -/
def Lays (k : SK) (fl : Bool) (ys : List (List AV)) : Prop :=
  match k, fl with
  | .flat, _ => True
  | .ro, false => True
  | .raw, false => ∀ r ∈ ys, ∀ v ∈ r, v.isOwn = false
  | _, true => ∀ r ∈ ys, ∀ v ∈ r, v.scal = true

/-- What a cell that is read is. -/
def SrcCell (E : Env) (k : SK) (v : AV) (u : Value) : Prop :=
  match k with
  | .flat => SRel v u
  | .ro => RRel E.w E.S v u
  | .raw => v.isOwn = false → Rel E v u

theorem rel_scal {v : AV} {u : Value} (h : Rel E v u) (hs : v.scal = true) : SRel v u := by
  cases v with
  | int k n => rw [(rel_int h).1]; exact .int _ _ (rel_int h).2
  | bool b => rw [rel_bool h]; exact .bool _
  | _ => cases hs

/-- A cell without an array inside. -/
def NCell (E : Env) (fl : Bool) (v : AV) (x : Value) : Prop :=
  match fl with
  | true => SRel v x
  | false => Rel E v x

theorem NCell.cell {fl : Bool} {v : AV} {x : Value} {τ : Tag} (h : NCell E fl v x) : Cell E fl τ v x := by
  cases fl with
  | true => exact h
  | false => exact .inl h

theorem NCell.to {E' : Env} {fl : Bool} {v : AV} {x : Value} (h : NCell E fl v x) (hS : ∀ b, E.S b → E'.S b ∧ E'.w.heap[b]? = E.w.heap[b]?) (hl : ∀ id L, E.loc id = some L → E'.loc id = some L) : NCell E' fl v x := by
  cases fl with
  | true => exact h
  | false => exact Rel.to h hS fun id L _ => hl id L

theorem SrcCell.ncell {k : SK} {fl : Bool} {ys : List (List AV)} {r : List AV} {v : AV} {u : Value} (h : SrcCell E k v u) (hl : Lays k fl ys) (hr : r ∈ ys) (hv : v ∈ r) : NCell E fl v u := by
  cases k <;> cases fl
  · exact h.rel
  · exact h
  · exact .base _ _ h
  · exact RRel.srel h (hl r hr v hv)
  · exact h (hl r hr v hv)
  · have hsc := hl r hr v hv
    have : v.isOwn = false := by cases v <;> first | rfl | cases hsc
    exact rel_scal (h this) hsc

/-- A source of cells, read flat. -/
structure Src (E : Env) (size : Nat) (ys : List (List AV)) (x : Value) (news : List Value) : Prop where
  len : news.length = ys.length * size
  val : ∃ sb c, x = .slice sb ys.length c ∧ ys.length ≤ c ∧ (ys ≠ [] → ∃ b o, sb = some ⟨b, o, none⟩ ∧ b < E.w.heap.size ∧ ∀ k u, news[k]? = some u → E.w.cell? ⟨b, o + k, none⟩ = some u)
  one : ∀ u ∈ news, u.oneCell' = true

theorem range_get {α : Type} (n : Nat) (f : Nat → α) (k : Nat) : ((List.range n).map f)[k]? = if k < n then some (f k) else none := by
  rw [List.getElem?_map]
  by_cases h : k < n
  · rw [if_pos h, List.getElem?_range h]; rfl
  · rw [if_neg h, List.getElem?_eq_none (by simpa using h)]; rfl

theorem flat_div {n size k : Nat} (h : k < n * size) : k / size < n ∧ k % size < size ∧ k = k / size * size + k % size := by
  have hs : 0 < size := by
    rcases Nat.eq_zero_or_pos size with h0 | h0
    · subst h0; simp at h
    · exact h0
  exact ⟨(Nat.div_lt_iff_lt_mul hs).2 h, Nat.mod_lt _ hs, by rw [Nat.mul_comm]; exact (Nat.div_add_mod k size).symm⟩

theorem src_of (hs : Sim E st a) {y : AV} {x : Value} (hy : Rel E y x) {ys : List (List AV)} {size : Nat} {kd : SK} (hr : st.rows y = some (kd, ys)) (hsz : ∀ r ∈ ys, r.length = size) (hpos : 0 < size) :
    ∃ news, Src E size ys x news ∧ ∀ (i j : Nat) (r : List AV) (v : AV), ys[i]? = some r → r[j]? = some v → ∃ u, news[i * size + j]? = some u ∧ u.oneCell' = true ∧ SrcCell E kd v u := by
  have hlen : ∀ (i : Nat) (r : List AV), ys[i]? = some r → r.length = size := fun i r h => hsz r (List.mem_of_getElem? h)
  -- from a function of cells
  have key : ∀ (b oo c : Nat) (g : Nat → Nat → Value), x = .slice (some ⟨b, oo, none⟩) ys.length c → ys.length ≤ c → b < E.w.heap.size →
      (∀ (i j : Nat) (r : List AV) (v : AV), ys[i]? = some r → r[j]? = some v → E.w.cell? ⟨b, oo + i * size + j, none⟩ = some (g i j) ∧ (g i j).oneCell' = true ∧ SrcCell E kd v (g i j)) →
      ∃ news, Src E size ys x news ∧ ∀ (i j : Nat) (r : List AV) (v : AV), ys[i]? = some r → r[j]? = some v → ∃ u, news[i * size + j]? = some u ∧ u.oneCell' = true ∧ SrcCell E kd v u := by
    intro b oo c g hx hc hb hg
    have hat : ∀ k, k < ys.length * size → ∃ r v, ys[k / size]? = some r ∧ r[k % size]? = some v := fun k hk => by
      obtain ⟨h1, h2, h3⟩ := flat_div hk
      have hg1 := List.getElem?_eq_getElem h1
      have hl := hlen _ _ hg1
      exact ⟨_, _, hg1, List.getElem?_eq_getElem (by omega)⟩
    refine ⟨(List.range (ys.length * size)).map fun k => g (k / size) (k % size), ⟨by simp, ⟨some ⟨b, oo, none⟩, c, hx, hc, fun _ => ⟨b, oo, rfl, hb, fun k u hu => ?_⟩⟩, fun u hu => ?_⟩, fun i j r v hi hj => ?_⟩
    · rw [range_get] at hu
      split at hu
      · rename_i hk
        obtain rfl := Option.some.inj hu
        obtain ⟨r, v, h1, h2⟩ := hat k hk
        obtain ⟨q1, q2, q3⟩ := flat_div hk
        rw [← (hg _ _ r v h1 h2).1]
        congr 2
        omega
      · cases hu
    · simp only [List.mem_map, List.mem_range] at hu
      obtain ⟨k, hk, rfl⟩ := hu
      obtain ⟨r, v, h1, h2⟩ := hat k hk
      exact (hg _ _ r v h1 h2).2.1
    · have hil := (List.getElem?_eq_some_iff.1 hi).1
      have hjl : j < size := by rw [← hlen _ _ hi]; exact (List.getElem?_eq_some_iff.1 hj).1
      have hk : i * size + j < ys.length * size := by
        have : i * size + size ≤ ys.length * size := by rw [← Nat.succ_mul]; exact Nat.mul_le_mul_right _ hil
        omega
      have hd : (i * size + j) / size = i := by
        rw [Nat.add_comm, Nat.add_mul_div_right _ _ hpos, Nat.div_eq_of_lt hjl]; simp
      have hm : (i * size + j) % size = j := by
        rw [Nat.add_comm, Nat.add_mul_mod_self_right, Nat.mod_eq_of_lt hjl]
      refine ⟨g i j, by rw [range_get, if_pos hk, hd, hm], (hg i j r v hi hj).2.1, (hg i j r v hi hj).2.2⟩
  have nil : ∀ sb c, x = .slice sb 0 c → ys = [] → ∃ news, Src E size ys x news ∧ ∀ (i j : Nat) (r : List AV) (v : AV), ys[i]? = some r → r[j]? = some v → ∃ u, news[i * size + j]? = some u ∧ u.oneCell' = true ∧ SrcCell E kd v u := by
    intro sb c hx hn
    subst hn
    exact ⟨[], ⟨by simp, ⟨sb, c, hx, Nat.zero_le _, fun h => absurd rfl h⟩, fun u hu => by simp at hu⟩, fun i j r v hi => by simp at hi⟩
  cases y with
  | nilS => simp [St.rows] at hr; obtain ⟨rfl, rfl⟩ := hr; exact nil _ _ (rel_nilS hy) rfl
  | emp =>
    simp [St.rows] at hr; obtain ⟨rfl, rfl⟩ := hr
    cases hy with
    | base _ _ h => cases h; exact nil _ _ rfl rfl
  | ro rows =>
    simp [St.rows] at hr; obtain ⟨rfl, rfl⟩ := hr
    cases hy with
    | base _ _ h =>
      cases h with
      | ro0 a cap h1 h2 => exact nil _ _ rfl rfl
      | ro _ b oo cap s f g1 g2 g3 g4 g5 g6 g7 =>
        have hss : s = size := by
          cases hq : rows with
          | nil => exact absurd hq g1
          | cons r rs => rw [← g5 0 r (by rw [hq]; rfl)]; exact hlen 0 r (by rw [hq]; rfl)
        subst hss
        exact key b oo cap f rfl g2 (hs.wf.still b g4).2 fun i j r v hi hj => ⟨g6 i j r v hi hj, rrel_one (g7 i j r v hi hj), g7 i j r v hi hj⟩
  | ref p id off len =>
    simp only [St.rows] at hr
    split at hr
    · rename_i sz fl rows hq
      cases hle : nble (off + len) rows.length with
      | false => simp [hle] at hr
      | true =>
        have hle' := nble_le hle
        simp [hle] at hr
        obtain ⟨hkd, rfl⟩ := hr
        have hl : ((rows.drop off).take len).length = len := by simp; omega
        cases hy with
        | base _ _ h => cases h
        | ref0 _ _ cap ad hc => exact nil _ _ rfl (List.eq_nil_of_length_eq_zero (by omega))
        | ref _ _ _ _ L cap hL h1 h2 =>
          rcases hs.sto id _ hq with ⟨g1, g2⟩ | ⟨L', c, ty, g1, gsz, g2, g3, g4, g5, g6, g7, gwa, g8, g9⟩
          · rw [g1] at hL; cases hL
          rw [g1] at hL
          obtain rfl := Option.some.inj hL
          by_cases hz : len = 0
          · subst hz
            exact nil _ _ rfl (List.eq_nil_of_length_eq_zero (by omega))
          · have hget : ∀ (i : Nat) (r : List AV), ((rows.drop off).take len)[i]? = some r → rows[off + i]? = some r := fun i r h => by
              rw [List.getElem?_take] at h
              split at h
              · rw [List.getElem?_drop] at h; exact h
              · cases h
            have hsiz : L'.siz = size := by
              have h0 : 0 < ((rows.drop off).take len).length := by omega
              have hg := List.getElem?_eq_getElem h0
              rw [← g8 _ _ (hget _ _ hg)]
              exact hlen _ _ hg
            refine key L'.blk (L'.base + off * L'.siz) cap (fun i j => (c[L'.base + (off + i) * L'.siz + j]?).getD undef) (by rw [hl]) (by omega) (hs.wf.owned _ (by rw [g3]; simp)) fun i j r v hi hj => ?_
            obtain ⟨y, hy1, hy2, hy3⟩ := g9 _ j r v (hget i r hi) hj
            have he : (c[L'.base + (off + i) * L'.siz + j]?).getD undef = y := by rw [hy1]; rfl
            rw [he]
            refine ⟨?_, hy2, ?_⟩
            · rw [cell_of_row E.w L'.blk _ c ty (0, 0) g4, ← hy1]
              congr 1
              rw [← hsiz, Nat.add_mul]; omega
            · cases fl with
              | true => simp at hkd; subst hkd; exact hy3
              | false =>
                simp at hkd; subst hkd
                intro ho
                rcases hy3 with h | ⟨_, _, rfl, _⟩
                · exact h
                · cases ho
    · cases hr
  | _ => simp [St.rows] at hr

theorem Sim.drew (hs : Sim E st a) : Sim { E with w := E.w.drew } st a :=
  ⟨⟨hs.wf.still, hs.wf.owned, hs.wf.windows⟩, hs.defers, hs.size, fun t v hv => by
    obtain ⟨x, hx, hr⟩ := hs.tmps t v hv
    exact ⟨x, hx, hr.to (fun b hb => ⟨hb, rfl⟩) fun _ _ _ h => h⟩, fun i ob hi => (hs.sto i ob hi).to (fun b hb => ⟨hb, rfl⟩) rfl rfl (fun _ _ _ h => h) (fun b _ => ⟨rfl, rfl⟩), hs.used, hs.keys⟩

theorem Fr.drew : Fr E { E with w := E.w.drew } := ⟨rfl, rfl, rfl, Nat.le_refl _, fun _ _ _ => rfl, fun _ h => .inl h, fun _ h => h, fun _ h => .inl h, fun _ _ _ h => h, fun _ _ _ _ c _ h => ⟨c, h, rfl, fun _ _ => rfl⟩, rfl⟩

/-! ### The append -/

theorem run_append_none (w : World) (t ty e : TypeId) (i : TypeInfo) (ht : P.underlying t = some (.slice e)) (hi : P.info? e = some i) (base sb : Option Addr) (n cap c : Nat) (hn : n ≤ cap) :
    (Builtin.append_ #[t, t] ty #[.slice base n cap, .slice sb 0 c]).run P w = .ok (.slice base n cap) w := by
  cases base <;> cases sb <;> simp [Builtin.append_, run_underlying ht, sizeOf, typeInfo, hi, Builtin.lenOf, Builtin.firstCells, loadCells, loadCellsFrom, hn, storeCells]

theorem run_append_in (w : World) (t ty e : TypeId) (i : TypeInfo) (ht : P.underlying t = some (.slice e)) (hi : P.info? e = some i) (b oo n cap : Nat) (cur : Array Value) (et : TypeId) (hg : w.heap[b]? = some (.cells cur et (0, 0)))
    (sb : Addr) (m c : Nat) (news : List Value) (hl : news.length = m * i.size) (hnews : ∀ j u, news[j]? = some u → w.cell? (sb.add j) = some u) (h1 : ∀ u ∈ news, u.oneCell' = true)
    (hroom : n + m ≤ cap) (hfit : oo + n * i.size + news.length ≤ cur.size) :
    (Builtin.append_ #[t, t] ty #[.slice (some ⟨b, oo, none⟩) n cap, .slice (some sb) m c]).run P w = .ok (.slice (some ⟨b, oo, none⟩) (n + m) cap) (w.setCells b (oo + n * i.size) news) := by
  have hf := run_firstCells_some (P := P) w i.size m sb m c news hl hnews
  have hst := run_storeCells_cells (P := P) b (oo + n * i.size) news 0 w
    (fun j hj => by
      rw [cell_of_row w b _ cur et (0, 0) hg]
      have : oo + n * i.size + 0 + j < cur.size := by omega
      simpa using this)
    (fun j hj => by simp [World.frozen?, hg]) h1
  simp only [Nat.add_zero] at hst
  simp [Builtin.append_, run_underlying ht, sizeOf, typeInfo, hi, Builtin.lenOf, hroom, hf, Addr.add_mid, hst]

/-- A new array out of old cells and new ones. -/
theorem sim_grown (hs : Sim E st a) {id' size : Nat} {fl : Bool} (hu : st.used.elem id' = false) (e : TypeId) (cells : Array Value) (ncap : Nat) (zs : List (List AV)) (hpos : 0 < size)
    (hcs : cells.size = ncap * size) (hz : zs.length ≤ ncap) (hm : ncap ≤ maxLen) (hzl : ∀ (i : Nat) (r : List AV), zs[i]? = some r → r.length = size)
    (hcell : ∀ (i j : Nat) (r : List AV) (v : AV), zs[i]? = some r → r[j]? = some v → ∃ u, cells[i * size + j]? = some u ∧ u.oneCell' = true ∧ Cell E fl (.cell id' i j) v u) :
    ∃ E', E'.w = E.w.drew.alloc (.cells cells e) ∧ Fr E E' ∧ Sim E' { st with sto := (id', .arr size fl zs) :: st.sto, used := id' :: st.used } a ∧
      Rel E' (.ref false id' 0 zs.length) (.slice (some ⟨E.w.heap.size, 0, none⟩) zs.length ncap) := by
  let E1 : Env := { E with w := E.w.drew }
  have hs1 : Sim E1 st a := hs.drew
  refine ⟨E1.new id' cells e size ncap, rfl, Fr.trans Fr.drew (Env.new_fr (hs1.notUsed hu) hs1.wf cells e size ncap), hs1.new hu (.inr ⟨_, cells, e, Env.new_loc, rfl, hpos, by simp [Env.new], heap_new _ _, by simp [hcs], hz, hm, hs1.noWin, hzl, fun i j r v hi hj => ?_⟩), ?_⟩
  · obtain ⟨u, h1, h2, h3⟩ := hcell i j r v hi hj
    refine ⟨u, by simpa using h1, h2, h3.to (fun b hb => ⟨hb, Below.heap_alloc _ _ _ (hs.wf.still b hb).2⟩) (fun k L _ hL => ?_) fun b hb => ?_⟩
    · have : k ≠ id' := fun e => by rw [e, hs.notUsed hu] at hL; cases hL
      simp only [Env.new, if_neg this]; exact hL
    have hlt : b < E.w.heap.size := hs.wf.owned b (by rw [hb]; simp)
    exact ⟨by simp only [Env.new, if_neg (show b ≠ E1.w.heap.size from fun e => by rw [e] at hlt; exact absurd hlt (Nat.lt_irrefl _))]; exact hb, Below.heap_alloc _ _ _ hlt⟩
  · have := Rel.ref (E := E1.new id' cells e size ncap) false id' 0 zs.length _ ncap Env.new_loc hz (by simp)
    simp at this
    exact this

/-- The empty result: no memory. -/
theorem sim_none (hs : Sim E st a) {id' size : Nat} {fl : Bool} (hu : st.used.elem id' = false) : Sim E { st with sto := (id', .arr size fl []) :: st.sto, used := id' :: st.used } a := by
  refine ⟨hs.wf, hs.defers, hs.size, hs.tmps, fun i ob hi => ?_, fun i L hL => ?_, fun i ob hi => ?_⟩
  · simp only [lk_cons] at hi
    by_cases he : id' = i
    · subst he
      rw [if_pos rfl] at hi
      obtain rfl := Option.some.inj hi
      exact .inl ⟨hs.notUsed hu, rfl⟩
    · rw [if_neg he] at hi
      exact hs.sto i ob hi
  · have := hs.used i L hL
    simp only [List.elem_cons, this]
    split <;> rfl
  · simp only [lk_cons] at hi
    by_cases he : id' = i
    · subst he; simp
    · rw [if_neg he] at hi
      have := hs.keys i ob hi
      simp only [List.elem_cons, this]
      split <;> rfl

theorem OpOk.upon {K' : AV → St → Prop} (h : ∀ E a, Sim E st a → ∃ x E' v st', (execOp a.eval o).run P E.w = .ok (.value x) E'.w ∧ Fr E E' ∧ Sim E' st' a ∧ Rel E' v x ∧ K' v st') : OpOk P o st K' := by
  intro E a KW QW hs hK
  obtain ⟨x, E', v, st', hx, hf, hs', hr, hk⟩ := h E a hs
  unfold Oper.wp
  rw [hx]
  exact hK E' v x st' hf hs' hr hk

def maxBytes : Nat := 140737488355328

theorem append_maxLen {n bytes : Nat} (hb : 0 < bytes) (h : n * bytes ≤ maxBytes) : n ≤ maxLen := by
  have : n ≤ n * bytes := Nat.le_mul_of_pos_right _ hb
  simp only [maxLen, maxBytes] at *
  omega

/-- To nothing. -/
theorem ok_appendNew {t e id' : Nat} {i j : TI} {x y : Operand} {ys : List (List AV)} (h : TabOk P T) (hti : T t = some i) (hd : i.desc = .slice e) (hj : T e = some j) (hpos : 0 < j.size) (hby : 0 < j.bytes)
    (ho : o.op = .call { callee := .builtin .append, args := #[x, y], argTypes := #[t, t] }) (hu : st.used.elem id' = false) (hx : st.ev x = .nilS ∨ st.ev x = .emp) {kd : SK} (hy : st.rows (st.ev y) = some (kd, ys)) (hlay : Lays kd j.flat ys)
    (hys : ∀ r ∈ ys, r.length = j.size) (hb : ys.length * j.bytes ≤ maxBytes)
    (hk : K (.ref false id' 0 ys.length) { st with sto := (id', .arr j.size j.flat ys) :: st.sto, used := id' :: st.used }) : OpOk P o st K := by
  obtain ⟨info, d, z, hi1, hi2, hi3, hi4, hi5, hi6, hi7, hi8, _⟩ := h.info hj
  obtain ⟨d', hu', htd'⟩ := h.und hti
  have hd1 := tdOf_slice (htd'.trans hd)
  subst hd1
  refine OpOk.upon (fun E a hs => ?_)
  obtain ⟨news, hsrc, hcells⟩ := src_of hs (hs.ev y) hy hys hpos
  obtain ⟨sb, c, hyv, hyc, hmem⟩ := hsrc.val
  have hxv : ∃ base, a.eval x = .slice base 0 0 := by
    have hr := hs.ev x
    rcases hx with hx | hx
    · rw [hx] at hr; exact ⟨none, rel_nilS hr⟩
    · rw [hx] at hr
      generalize a.eval x = xv at hr
      cases hr with | base _ _ h => cases h; exact ⟨_, rfl⟩
  obtain ⟨base, hxv⟩ := hxv
  by_cases hm : ys = []
  · subst hm
    refine ⟨.slice base 0 0, E, _, _, ?_, Fr.refl E, sim_none hs hu, .ref0 _ _ _ _ rfl, hk⟩
    simp only [execOp, ho, resolve, invoke, builtin, Sem.run_bind, Sem.run_pure, Result.andThen_ok, List.map_toArray, List.map_cons, List.map_nil, hxv, hyv, List.length_nil, run_append_none E.w t _ e info hu' hi1 base sb 0 0 c (Nat.le_refl _)]
  · obtain ⟨b, oo, rfl, hbl, hcell⟩ := hmem hm
    have hml : 0 < ys.length := by cases ys with | nil => exact absurd rfl hm | cons => simp
    have hnews : ∀ k u, news[k]? = some u → E.w.cell? ((⟨b, oo, none⟩ : Addr).add k) = some u := fun k u hk => by rw [Addr.add_mid]; exact hcell k u hk
    have hml2 := append_maxLen hby hb
    have hl63 : ((0 + ys.length : Nat) : Int) ≤ 9223372036854775807 := by simp only [maxLen] at hml2; omega
    have hfit : Builtin.nextslicecap (0 + ys.length) 0 * info.bytes ≤ 281474976710656 := growslice_fits (by omega) (by rw [hi5, Nat.zero_add]; exact hb)
    have hlen : news.length = ys.length * info.size := by rw [hi4]; exact hsrc.len
    let ncap := grownCap E.w (0 + ys.length) 0 e
    have hge : 0 + ys.length ≤ ncap := grownCap_ge E.w _ 0 e
    have hcm : ncap ≤ maxLen := grownCap_le_maxLen E.w _ 0 e (by omega)
    let cells := (([] : List Value).toArray ++ news.toArray ++ Builtin.zeroCells z.cells (ncap - (0 + ys.length)))
    have hrun : (Builtin.append_ #[t, t] o.type #[.slice base 0 0, .slice (some ⟨b, oo, none⟩) ys.length c]).run P E.w = .ok (.slice (some ⟨E.w.heap.size, 0, none⟩) (0 + ys.length) ncap) (E.w.drew.alloc (.cells cells e)) := by
      cases base with
      | none =>
        have := run_append_nil (P := P) E.w t o.type e info z hu' hi1 hi6 ⟨b, oo, none⟩ ys.length c news hlen hnews hml (by omega) (by rw [hi5]; simp only [maxBytes] at hb; omega)
        simp only [cells, ncap, Nat.zero_add] at *
        rw [this]
        simp
      | some ba =>
        exact run_append_grow (P := P) E.w t o.type e info z hu' hi1 hi6 ba 0 0 [] (by simp) (fun k u hk => by simp at hk) ⟨b, oo, none⟩ ys.length c news hlen hnews (by omega) hl63 hfit
    have hcs : cells.size = ncap * j.size := by
      simp only [cells, Array.size_append, List.size_toArray, size_zeroCells, hi8, hsrc.len, List.length_nil, ← Nat.add_mul, Nat.zero_add]
      congr 1
      omega
    obtain ⟨E', hw, hf, hs', hr'⟩ := sim_grown hs hu e cells ncap ys hpos hcs (by omega) hcm (fun i r hir => hys r (List.mem_of_getElem? hir)) (fun i jj r v hir hjv => by
      obtain ⟨u, h1, h2, h3⟩ := hcells i jj r v hir hjv
      refine ⟨u, ?_, h2, (h3.ncell hlay (List.mem_of_getElem? hir) (List.mem_of_getElem? hjv)).cell⟩
      have hlt := (List.getElem?_eq_some_iff.1 h1).1
      simp only [cells, Array.getElem?_append, List.size_toArray, List.length_nil, Array.size_append, Nat.zero_add]
      rw [if_pos hlt]
      simpa using h1)
    refine ⟨_, E', _, _, ?_, hf, hs', hr', hk⟩
    simp only [execOp, ho, resolve, invoke, builtin, Sem.run_bind, Sem.run_pure, Result.andThen_ok, List.map_toArray, List.map_cons, List.map_nil, hxv, hyv, hrun, hw, Nat.zero_add, ncap]

/-! ### To an array of ours -/

def retag (id id' off : Nat) : Option Tag → Option Tag
  | some (.root k) => if k = id then some (.root id') else some (.root k)
  | some (.cell k i j) => if k = id then some (.cell id' (i - off) j) else some (.cell k i j)
  | none => none

theorem retag_none {id id' off : Nat} {t : Option Tag} : retag id id' off t = none ↔ t = none := by
  cases t with
  | none => simp [retag]
  | some t => cases t <;> simp only [retag] <;> split <;> simp

theorem sim_retag (hs : Sim E st a) (id id' off : Nat) (hnb : ∀ k L, k = id → E.loc k = some L → E.win L.blk = none) : Sim { E with tag := fun b => retag id id' off (E.tag b) } { st with sto := rm st.sto id } a ∧ Fr E { E with tag := fun b => retag id id' off (E.tag b) } := by
  refine ⟨⟨⟨fun b hb => ⟨retag_none.2 (hs.wf.still b hb).1, (hs.wf.still b hb).2⟩, fun b hb => hs.wf.owned b (fun e => hb (retag_none.2 e)), fun b hb => ?_⟩, hs.defers, hs.size, fun t v hv => ?_, fun k ob hk => ?_, hs.used, fun k ob hk => ?_⟩,
    Fr.ghost rfl rfl rfl rfl (fun b hb e => hb (retag_none.2 e)) rfl (fun _ _ _ h => h) rfl⟩
  · obtain ⟨h1, k, L, h2, h3, h4, h5⟩ := hs.wf.windows b hb
    refine ⟨h1, k, L, h2, h3, h4, ?_⟩
    have : k ≠ id := fun e => hb (by rw [← h4]; exact hnb k L e h3)
    show retag id id' off (E.tag b) = _
    rw [h5]; simp [retag, this]
  · obtain ⟨x, hx, hr⟩ := hs.tmps t v hv
    exact ⟨x, hx, hr.to (fun b hb => ⟨hb, rfl⟩) fun _ _ _ h => h⟩
  · rw [lk_rm] at hk
    by_cases he : id = k
    · rw [if_pos he] at hk; cases hk
    · rw [if_neg he] at hk
      refine (hs.sto k ob hk).to (fun b hb => ⟨hb, rfl⟩) rfl rfl (fun _ _ _ h => h) (fun b hb => ⟨?_, rfl⟩)
      show retag id id' off (E.tag b) = E.tag b
      rcases hb with hb | ⟨i, j, hb⟩ <;> rw [hb] <;> simp [retag, Ne.symm he]
  · rw [lk_rm] at hk
    by_cases he : id = k
    · rw [if_pos he] at hk; cases hk
    · rw [if_neg he] at hk
      exact hs.keys k ob hk

theorem sim_add (hs : Sim E st a) {id' : Nat} (hu : st.used.elem id' = false) {L' : Loc} {w' : World} {ob : Obj} (hos : w'.os = E.w.os) (htp : w'.tape = E.w.tape) (hout : w'.output = E.w.output) (hsz : w'.heap.size = E.w.heap.size)
    (ht : E.tag L'.blk ≠ none) (hkeep : ∀ k b, lk st.sto k ≠ none → (E.tag b = some (.root k) ∨ ∃ i j, E.tag b = some (.cell k i j)) → b ≠ L'.blk) (hb : ∀ b, b ≠ L'.blk → w'.heap[b]? = E.w.heap[b]?) (hwn : E.win L'.blk = none)
    (ho : ORel { E with w := w', loc := fun k => if k = id' then some L' else E.loc k } id' ob) :
    Sim { E with w := w', loc := fun k => if k = id' then some L' else E.loc k } { st with sto := (id', ob) :: st.sto, used := id' :: st.used } a ∧ Fr E { E with w := w', loc := fun k => if k = id' then some L' else E.loc k } := by
  have hS : ∀ b, E.S b → E.S b ∧ w'.heap[b]? = E.w.heap[b]? := fun b h => ⟨h, hb b (fun e => ht (e ▸ (hs.wf.still b h).1))⟩
  have hloc : ∀ k L, E.loc k = some L → (if k = id' then some L' else E.loc k) = some L := fun k L hL => by
    have : k ≠ id' := fun e => by rw [e, hs.notUsed hu] at hL; cases hL
    rw [if_neg this]; exact hL
  refine ⟨⟨⟨fun b h => ⟨(hs.wf.still b h).1, by simp only [hsz]; exact (hs.wf.still b h).2⟩, fun b h => by simp only [hsz]; exact hs.wf.owned b h, fun b h => by
    obtain ⟨h1, k, L, h2, h3, h4, h5⟩ := hs.wf.windows b h
    exact ⟨by simp only [hsz]; exact h1, k, L, h2, hloc k L h3, h4, h5⟩⟩, hs.defers, hs.size, fun t v hv => ?_, fun k ob' hk => ?_, fun k L hL => ?_, fun k ob' hk => ?_⟩,
    ⟨hos, htp, hout, by simp only [hsz]; exact Nat.le_refl _, fun b _ htb => hb b (fun e => ht (e ▸ htb)), fun b h => .inl h, fun _ h => h, fun _ h => .inl h, fun k L _ h => hloc k L h, fun b lo hi hw c T hc => ⟨c, by rw [hb b (fun e => by rw [e, hwn] at hw; cases hw)]; exact hc, rfl, fun _ _ => rfl⟩, rfl⟩⟩
  · obtain ⟨x, hx, hr⟩ := hs.tmps t v hv
    exact ⟨x, hx, hr.to hS fun k L _ hL => hloc k L hL⟩
  · simp only [lk_cons] at hk
    by_cases he : id' = k
    · subst he
      rw [if_pos rfl] at hk
      obtain rfl := Option.some.inj hk
      exact ho
    · rw [if_neg he] at hk
      refine (hs.sto k ob' hk).to hS (by simp only [if_neg (Ne.symm he)]) rfl (fun i L _ hL => hloc i L hL) (fun b hbt => ⟨rfl, hb b (hkeep k b (by rw [hk]; simp) hbt)⟩)
  · by_cases he : k = id'
    · subst he; simp
    · simp only [if_neg he] at hL
      have := hs.used k L hL
      simp only [List.elem_cons, this]
      split <;> rfl
  · simp only [lk_cons] at hk
    by_cases he : id' = k
    · subst he; simp
    · rw [if_neg he] at hk
      have := hs.keys k ob' hk
      simp only [List.elem_cons, this]
      split <;> rfl

theorem flat_get (rows : List (List AV)) (s : Nat) (c : Array Value) (b0 : Nat) (olds : List Value) (ho : olds = (List.range (rows.length * s)).map fun k => (c[b0 + k]?).getD undef)
    (hin : b0 + rows.length * s ≤ c.size) : olds.length = rows.length * s ∧ ∀ k u, olds[k]? = some u → c[b0 + k]? = some u := by
  subst ho
  refine ⟨by simp, fun k u hk => ?_⟩
  rw [range_get] at hk
  split at hk
  · obtain rfl := Option.some.inj hk
    have : b0 + k < c.size := by omega
    simp [this]
  · cases hk

theorem ok_appendRef {t e id id' off len : Nat} {p fl : Bool} {i j : TI} {x y : Operand} {rows ys : List (List AV)} (h : TabOk P T) (hti : T t = some i) (hd : i.desc = .slice e) (hj : T e = some j) (hpos : 0 < j.size) (hby : 0 < j.bytes)
    (ho : o.op = .call { callee := .builtin .append, args := #[x, y], argTypes := #[t, t] }) (hu : st.used.elem id' = false) (hx : st.ev x = .ref p id off len) (hq : lk st.sto id = some (.arr j.size fl rows)) (hle : off + len ≤ rows.length)
    {kd : SK} (hy : st.rows (st.ev y) = some (kd, ys)) (hlay : Lays kd fl ys) (hys : ∀ r ∈ ys, r.length = j.size) (hb : (len + ys.length) * j.bytes ≤ maxBytes)
    (hk : K (.ref false id' 0 (len + ys.length)) { st with sto := (id', .arr j.size fl ((rows.drop off).take len ++ ys)) :: rm st.sto id, used := id' :: st.used }) : OpOk P o st K := by
  obtain ⟨info, d, z, hi1, hi2, hi3, hi4, hi5, hi6, hi7, hi8, _⟩ := h.info hj
  obtain ⟨d', hu', htd'⟩ := h.und hti
  have hd1 := tdOf_slice (htd'.trans hd)
  subst hd1
  refine OpOk.upon (fun E a hs => ?_)
  obtain ⟨news, hsrc, hcells⟩ := src_of hs (hs.ev y) hy hys hpos
  obtain ⟨sb, c, hyv, hyc, hmem⟩ := hsrc.val
  have hml2 := append_maxLen hby hb
  have hl63 : ((len + ys.length : Nat) : Int) ≤ 9223372036854775807 := by simp only [maxLen] at hml2; omega
  have hlen : news.length = ys.length * info.size := by rw [hi4]; exact hsrc.len
  have hol : ((rows.drop off).take len).length = len := by simp; omega
  have hzl : ((rows.drop off).take len ++ ys).length = len + ys.length := by rw [List.length_append, hol]
  obtain ⟨hs0, hf0⟩ := sim_retag hs id id' off (fun k L e hL => by
    subst e
    rcases hs.sto k _ hq with ⟨g1, g2⟩ | ⟨L', c, ty, g1, gsz, g2, g3, g4, g5, g6, g7, gwa, g8, g9⟩
    · rw [g1] at hL; cases hL
    · rw [g1] at hL; obtain rfl := Option.some.inj hL; exact gwa)
  have hu0 : (st.used.elem id') = false := hu
  have hget : ∀ (i : Nat) (r : List AV), ((rows.drop off).take len)[i]? = some r → rows[off + i]? = some r := fun i r hh => by
    rw [List.getElem?_take] at hh
    split at hh
    · rw [List.getElem?_drop] at hh; exact hh
    · cases hh
  have hrx := hs.ev x
  rw [hx] at hrx
  -- the run, where memory must be had
  have grow : ∀ (base : Option Addr) (cap : Nat) (olds : List Value), a.eval x = .slice base len cap → cap < len + ys.length → (base = none → len = 0 ∧ cap = 0) → olds.length = len * j.size →
      (∀ b, base = some b → ∀ k u, olds[k]? = some u → E.w.cell? (b.add k) = some u) →
      (∀ (i jj : Nat) (r : List AV) (v : AV), ((rows.drop off).take len)[i]? = some r → r[jj]? = some v → ∃ u, olds[i * j.size + jj]? = some u ∧ u.oneCell' = true ∧ Cell { E with tag := fun b => retag id id' off (E.tag b) } fl (.cell id' i jj) v u) →
      (∀ (i : Nat) (r : List AV), ((rows.drop off).take len)[i]? = some r → r.length = j.size) →
      ∃ x E' v st', (execOp a.eval o).run P E.w = .ok (.value x) E'.w ∧ Fr E E' ∧ Sim E' st' a ∧ Rel E' v x ∧ K v st' := by
    intro base cap olds hxv hcap hbn hol2 hold hco hro
    have hm : ys ≠ [] := fun e => by
      subst e
      simp at hcap
      cases base with
      | none => have := hbn rfl; omega
      | some b =>
        have := rel_slice hrx (n := len) rfl
        generalize a.eval x = xv at hrx hxv
        subst hxv
        cases hrx with
        | base _ _ h => cases h
        | ref0 => omega
        | ref => omega
    obtain ⟨b, oo, rfl, hbl, hcell⟩ := hmem hm
    have hml : 0 < ys.length := by cases ys with | nil => exact absurd rfl hm | cons => simp
    have hnews : ∀ k u, news[k]? = some u → E.w.cell? ((⟨b, oo, none⟩ : Addr).add k) = some u := fun k u hk => by rw [Addr.add_mid]; exact hcell k u hk
    let ncap := grownCap E.w (len + ys.length) cap e
    have hge : len + ys.length ≤ ncap := grownCap_ge E.w _ cap e
    have hcm : ncap ≤ maxLen := grownCap_le_maxLen E.w _ cap e hml2
    let cells := (olds.toArray ++ news.toArray ++ Builtin.zeroCells z.cells (ncap - (len + ys.length)))
    have hfit : Builtin.nextslicecap (len + ys.length) cap * info.bytes ≤ 281474976710656 := growslice_fits hcap (by rw [hi5]; exact hb)
    have hrun : (Builtin.append_ #[t, t] o.type #[.slice base len cap, .slice (some ⟨b, oo, none⟩) ys.length c]).run P E.w = .ok (.slice (some ⟨E.w.heap.size, 0, none⟩) (len + ys.length) ncap) (E.w.drew.alloc (.cells cells e)) := by
      cases base with
      | none =>
        obtain ⟨h1, h2⟩ := hbn rfl
        subst h1 h2
        have hon : olds = [] := List.eq_nil_of_length_eq_zero (by simpa using hol2)
        have := run_append_nil (P := P) E.w t o.type e info z hu' hi1 hi6 ⟨b, oo, none⟩ ys.length c news hlen hnews hml (by omega) (by rw [hi5]; rw [Nat.zero_add] at hb; simp only [maxBytes] at hb; omega)
        simp only [cells, ncap, Nat.zero_add, hon] at *
        rw [this]
        simp
      | some ba =>
        exact run_append_grow (P := P) E.w t o.type e info z hu' hi1 hi6 ba len cap olds (by rw [hi4]; exact hol2) (hold ba rfl) ⟨b, oo, none⟩ ys.length c news hlen hnews hcap hl63 hfit
    have hcs : cells.size = ncap * j.size := by
      simp only [cells, Array.size_append, List.size_toArray, size_zeroCells, hi8, hsrc.len, hol2, ← Nat.add_mul]
      congr 1
      omega
    have hrl : ∀ (i : Nat) (r : List AV), ((rows.drop off).take len ++ ys)[i]? = some r → r.length = j.size := fun i r hir => by
      rw [List.getElem?_append] at hir
      split at hir
      · exact hro i r hir
      · exact hys r (List.mem_of_getElem? hir)
    obtain ⟨E', hw, hf, hs', hr'⟩ := sim_grown hs0 hu0 e cells ncap ((rows.drop off).take len ++ ys) hpos hcs (by omega) hcm hrl (fun i jj r v hir hjv => by
      rw [List.getElem?_append, hol] at hir
      have hcl : ∀ q, q < olds.length + news.length → cells[q]? = (olds ++ news)[q]? := fun q hq => by
        simp only [cells, Array.getElem?_append, List.size_toArray, Array.size_append]
        rw [if_pos hq, List.getElem?_append]
        split <;> simp
      by_cases hil : i < len
      · rw [if_pos hil] at hir
        obtain ⟨u, h1, h2, h3⟩ := hco i jj r v hir hjv
        have hlt := (List.getElem?_eq_some_iff.1 h1).1
        refine ⟨u, ?_, h2, h3⟩
        rw [hcl _ (by omega), List.getElem?_append, if_pos hlt]
        exact h1
      · rw [if_neg hil] at hir
        obtain ⟨u, h1, h2, h3⟩ := hcells (i - len) jj r v hir hjv
        have hlt := (List.getElem?_eq_some_iff.1 h1).1
        have he : i * j.size + jj = olds.length + ((i - len) * j.size + jj) := by
          rw [hol2]
          have : i * j.size = len * j.size + (i - len) * j.size := by rw [← Nat.add_mul]; congr 1; omega
          omega
        refine ⟨u, ?_, h2, ((h3.ncell hlay (List.mem_of_getElem? hir) (List.mem_of_getElem? hjv)).to (E' := { E with tag := fun b => retag id id' off (E.tag b) }) (fun b hb => ⟨hb, rfl⟩) (fun _ _ h => h)).cell⟩
        rw [he, hcl _ (by omega), List.getElem?_append, if_neg (by omega)]
        simpa using h1)
    refine ⟨_, E', _, _, ?_, hf0.trans hf, hs', hr', by rw [hzl]; exact hk⟩
    simp only [execOp, ho, resolve, invoke, builtin, Sem.run_bind, Sem.run_pure, Result.andThen_ok, List.map_toArray, List.map_cons, List.map_nil, hxv, hyv, hrun, hw, hzl, ncap]
  generalize hxv : a.eval x = xv at hrx grow
  cases hrx with
  | base _ _ h => cases h
  | ref0 _ _ cap base hc0 =>
    subst hc0
    have hold0 : (rows.drop off).take 0 = [] := by simp
    by_cases hm : ys = []
    · subst hm
      refine ⟨.slice base 0 0, { E with tag := fun b => retag id id' off (E.tag b) }, _, _, ?_, hf0, sim_none hs0 hu0, .ref0 _ _ _ _ rfl, by simpa using hk⟩
      simp only [execOp, ho, resolve, invoke, builtin, Sem.run_bind, Sem.run_pure, Result.andThen_ok, List.map_toArray, List.map_cons, List.map_nil, hxv, hyv, List.length_nil, run_append_none E.w t _ e info hu' hi1 base sb 0 0 c (Nat.le_refl _)]
    · have hml : 0 < ys.length := by cases ys with | nil => exact absurd rfl hm | cons => simp
      exact grow base 0 [] rfl (by omega) (fun _ => ⟨rfl, rfl⟩) (by simp) (fun b _ k u hk => by simp at hk) (fun i jj r v hir => by simp at hir) (fun i r hir => by simp at hir)
  | ref _ _ _ _ L cap hL hcap1 hcap2 =>
    rcases hs.sto id _ hq with ⟨g1, g2⟩ | ⟨L', c0, ty, g1, gsz, g2, g3, g4, g5, g6, g7, gwa, g8, g9⟩
    · rw [g1] at hL; cases hL
    rw [g1] at hL
    obtain rfl := Option.some.inj hL
    have hmulc : (off + cap) * j.size = L'.cap * j.size := by rw [hcap2]
    have hle2 : L'.base + off * j.size + cap * j.size ≤ c0.size := by rw [← gsz, Nat.add_assoc, ← Nat.add_mul, hcap2]; exact g5
    have hro : ∀ (i : Nat) (r : List AV), ((rows.drop off).take len)[i]? = some r → r.length = j.size := fun i r hir => by rw [← gsz]; exact g8 _ _ (hget i r hir)
    have hold : ∀ (i jj : Nat) (r : List AV) (v : AV), ((rows.drop off).take len)[i]? = some r → r[jj]? = some v →
        ∃ u, c0[L'.base + off * j.size + (i * j.size + jj)]? = some u ∧ u.oneCell' = true ∧ Cell { E with tag := fun b => retag id id' off (E.tag b) } fl (.cell id' i jj) v u := fun i jj r v hir hjv => by
      obtain ⟨u, h1, h2, h3⟩ := g9 _ jj r v (hget i r hir) hjv
      refine ⟨u, ?_, h2, h3.to (fun b hb => ⟨hb, rfl⟩) (fun _ _ _ h => h) fun b hb => ⟨?_, rfl⟩⟩
      · rw [← h1]; congr 1
        rw [gsz, Nat.add_mul]; omega
      · show retag id id' off (E.tag b) = _
        rw [hb]; simp [retag]
    by_cases hroom : len + ys.length ≤ cap
    · -- in place
      have hblk : E.tag L'.blk ≠ none := by rw [g3]; simp
      have hfit : L'.base + off * j.size + len * info.size + news.length ≤ c0.size := by
        have : (len + ys.length) * j.size ≤ cap * j.size := Nat.mul_le_mul_right _ hroom
        rw [hi4, hsrc.len]
        rw [Nat.add_mul] at this
        omega
      have hrun : (Builtin.append_ #[t, t] o.type #[.slice (some ⟨L'.blk, L'.base + off * L'.siz, none⟩) len cap, a.eval y]).run P E.w =
          .ok (.slice (some ⟨L'.blk, L'.base + off * L'.siz, none⟩) (len + ys.length) cap) (E.w.setCells L'.blk (L'.base + off * j.size + len * info.size) news) := by
        rw [hyv]
        by_cases hm : ys = []
        · subst hm
          have hn : news = [] := List.eq_nil_of_length_eq_zero (by simpa using hsrc.len)
          subst hn
          exact run_append_none E.w t _ e info hu' hi1 _ sb len cap c hcap1
        · obtain ⟨b, oo, rfl, hbl, hcell⟩ := hmem hm
          have := run_append_in (P := P) E.w t o.type e info hu' hi1 L'.blk (L'.base + off * j.size) len cap c0 ty g4 ⟨b, oo, none⟩ ys.length c news hlen (fun k u hk => by rw [Addr.add_mid]; exact hcell k u hk) hsrc.one hroom hfit
          rw [gsz]
          exact this
      obtain ⟨c', hc1, hc2, hc3⟩ := heap_setCells L'.blk ty news (L'.base + off * j.size + len * info.size) E.w c0 g4
      obtain ⟨r1, r2, r3, r4, r5⟩ := setCells_rest L'.blk news (L'.base + off * j.size + len * info.size) E.w
      have hsame : ∀ b, E.S b → E.S b ∧ (E.w.setCells L'.blk (L'.base + off * j.size + len * info.size) news).heap[b]? = E.w.heap[b]? := fun b hb => ⟨hb, r5 b (fun e => hblk (e ▸ (hs.wf.still b hb).1))⟩
      have hlocs : ∀ k L, E.loc k = some L → (if k = id' then some (⟨L'.blk, L'.base + off * j.size, j.size, cap⟩ : Loc) else E.loc k) = some L := fun k L hL => by
        have : k ≠ id' := fun e => by rw [e, hs.notUsed hu] at hL; cases hL
        rw [if_neg this]; exact hL
      have hor : ORel { E with w := E.w.setCells L'.blk (L'.base + off * j.size + len * info.size) news, tag := fun b => retag id id' off (E.tag b), loc := fun k => if k = id' then some ⟨L'.blk, L'.base + off * j.size, j.size, cap⟩ else E.loc k } id' (.arr j.size fl ((rows.drop off).take len ++ ys)) := by
        refine .inr ⟨⟨L'.blk, L'.base + off * j.size, j.size, cap⟩, c', ty, by simp, rfl, hpos, ?_, hc1, by rw [hc2]; exact hle2, by rw [hzl]; exact hroom, Nat.le_trans (show cap ≤ L'.cap by omega) g7, gwa, fun i r hir => ?_, fun i jj r v hir hjv => ?_⟩
        · show retag id id' off (E.tag L'.blk) = _
          rw [g3]; simp [retag]
        · rw [List.getElem?_append] at hir
          split at hir
          · exact hro i r hir
          · exact hys r (List.mem_of_getElem? hir)
        · rw [hc3]
          dsimp only
          rw [List.getElem?_append, hol] at hir
          by_cases hil : i < len
          · rw [if_pos hil] at hir
            obtain ⟨u, h1, h2, h3⟩ := hold i jj r v hir hjv
            have hjl : jj < j.size := by rw [← hro i r hir]; exact (List.getElem?_eq_some_iff.1 hjv).1
            have hlt : i * j.size + jj < len * j.size := by
              have : i * j.size + j.size ≤ len * j.size := by rw [← Nat.succ_mul]; exact Nat.mul_le_mul_right _ hil
              omega
            rw [if_neg (by rw [hi4]; omega)]
            refine ⟨u, by rw [← h1]; congr 1; omega, h2, h3.to hsame (fun k L _ h => hlocs k L h) fun b hb => ⟨hb, r5 b (fun e => ?_)⟩⟩
            rw [e] at hb
            simp only [g3, retag, if_true] at hb
            cases hb
          · rw [if_neg hil] at hir
            obtain ⟨u, h1, h2, h3⟩ := hcells (i - len) jj r v hir hjv
            have hlt := (List.getElem?_eq_some_iff.1 h1).1
            have he : L'.base + off * j.size + i * j.size + jj = L'.base + off * j.size + len * info.size + ((i - len) * j.size + jj) := by
              have : i * j.size = len * j.size + (i - len) * j.size := by rw [← Nat.add_mul]; congr 1; omega
              rw [hi4]; omega
            refine ⟨u, ?_, h2, ((h3.ncell hlay (List.mem_of_getElem? hir) (List.mem_of_getElem? hjv)).to hsame hlocs).cell⟩
            show (if _ then _ else _) = _
            rw [he, if_pos (by omega), ← h1]
            congr 1; omega
      obtain ⟨q1, q2⟩ := sim_add (E := { E with tag := fun b => retag id id' off (E.tag b) }) hs0 (id' := id') hu0 (L' := ⟨L'.blk, L'.base + off * j.size, j.size, cap⟩) (w' := E.w.setCells L'.blk (L'.base + off * j.size + len * info.size) news) r1 r2 r3 r4
        (by
          show retag id id' off (E.tag L'.blk) ≠ none
          exact fun e => hblk (retag_none.1 e))
        (fun k b hkk hbt e => by
          subst e
          have hne : k ≠ id := fun e => by subst e; simp [lk_rm] at hkk
          have hne' : k ≠ id' ∨ k = id' := by omega
          rcases hbt with hbt | ⟨i, jj, hbt⟩
          · simp only [g3, retag, if_true, Option.some.injEq, Tag.root.injEq] at hbt
            subst hbt
            obtain ⟨ob, hob⟩ := Option.ne_none_iff_exists'.1 hkk
            have hob' : lk st.sto id' = some ob := by
              simp only [lk_rm] at hob
              rwa [if_neg (Ne.symm hne)] at hob
            have := hs.keys id' ob hob'
            rw [hu] at this
            cases this
          · simp only [g3, retag, if_true] at hbt
            cases hbt) (fun b hb => r5 b hb) gwa hor
      refine ⟨.slice (some ⟨L'.blk, L'.base + off * L'.siz, none⟩) (len + ys.length) cap, _, .ref false id' 0 (len + ys.length), _, ?_, hf0.trans q2, q1, ?_, hk⟩
      · simp only [execOp, ho, resolve, invoke, builtin, Sem.run_bind, Sem.run_pure, Result.andThen_ok, List.map_toArray, List.map_cons, List.map_nil, hxv, hrun]
      · have := Rel.ref (E := { E with w := E.w.setCells L'.blk (L'.base + off * j.size + len * info.size) news, tag := fun b => retag id id' off (E.tag b), loc := fun k => if k = id' then some ⟨L'.blk, L'.base + off * j.size, j.size, cap⟩ else E.loc k }) false id' 0 (len + ys.length) ⟨L'.blk, L'.base + off * j.size, j.size, cap⟩ cap (by simp) hroom (by simp)
        rw [gsz]
        simpa using this
    · have hlem : len * j.size ≤ cap * j.size := Nat.mul_le_mul_right _ hcap1
      obtain ⟨o1, o2⟩ := flat_get ((rows.drop off).take len) j.size c0 (L'.base + off * j.size) _ rfl (by rw [hol]; omega)
      refine grow (some ⟨L'.blk, L'.base + off * L'.siz, none⟩) cap _ rfl (by omega) (fun e => by cases e) (by rw [o1, hol]) (fun b hb k u hk => ?_) (fun i jj r v hir hjv => ?_) hro
      · obtain rfl := Option.some.inj hb
        rw [Addr.add_mid, cell_of_row E.w L'.blk _ c0 ty (0, 0) g4, gsz]
        exact o2 k u hk
      · obtain ⟨u, h1, h2, h3⟩ := hold i jj r v hir hjv
        refine ⟨u, ?_, h2, h3⟩
        have hil := (List.getElem?_eq_some_iff.1 hir).1
        have hjl : jj < j.size := by rw [← hro i r hir]; exact (List.getElem?_eq_some_iff.1 hjv).1
        have hlt : i * j.size + jj < ((rows.drop off).take len).length * j.size := by
          have : i * j.size + j.size ≤ ((rows.drop off).take len).length * j.size := by rw [← Nat.succ_mul]; exact Nat.mul_le_mul_right _ hil
          omega
        rw [range_get, if_pos hlt, h1]
        rfl

/-- To an array of ours, where there is room that is known. -/
theorem ok_appendIn {t e id off len : Nat} {p fl : Bool} {i j : TI} {x y : Operand} {rows ys : List (List AV)} (h : TabOk P T) (hti : T t = some i) (hd : i.desc = .slice e) (hj : T e = some j) (hpos : 0 < j.size)
    (ho : o.op = .call { callee := .builtin .append, args := #[x, y], argTypes := #[t, t] }) (hx : st.ev x = .ref p id off len) (hp : p = true ∨ 0 < len) (hq : lk st.sto id = some (.arr j.size fl rows)) (hle : off + len + ys.length ≤ rows.length)
    {kd : SK} (hy : st.rows (st.ev y) = some (kd, ys)) (hlay : Lays kd fl ys) (hys : ∀ r ∈ ys, r.length = j.size)
    (hk : K (.ref p id off (len + ys.length)) { st with sto := (id, .arr j.size fl (setMany rows (off + len) ys)) :: st.sto }) : OpOk P o st K := by
  obtain ⟨info, d, z, hi1, hi2, hi3, hi4, hi5, hi6, hi7, hi8, _⟩ := h.info hj
  obtain ⟨d', hu', htd'⟩ := h.und hti
  have hd1 := tdOf_slice (htd'.trans hd)
  subst hd1
  refine OpOk.upon (fun E a hs => ?_)
  obtain ⟨news, hsrc, hcells⟩ := src_of hs (hs.ev y) hy hys hpos
  obtain ⟨sb, c, hyv, hyc, hmem⟩ := hsrc.val
  have hlen : news.length = ys.length * info.size := by rw [hi4]; exact hsrc.len
  have hrx := hs.ev x
  rw [hx] at hrx
  generalize hxv : a.eval x = xv at hrx
  cases hrx with
  | base _ _ h => cases h
  | ref0 => rcases hp with h | h; cases h; omega
  | ref _ _ _ _ L cap hL hcap1 hcap2 =>
    rcases hs.sto id _ hq with ⟨g1, g2⟩ | ⟨L', c0, ty, g1, gsz, g2, g3, g4, g5, g6, g7, gwa, g8, g9⟩
    · rw [g1] at hL; cases hL
    rw [g1] at hL
    obtain rfl := Option.some.inj hL
    have hroom : len + ys.length ≤ cap := by omega
    have hle2 : L'.base + off * j.size + cap * j.size ≤ c0.size := by rw [← gsz, Nat.add_assoc, ← Nat.add_mul, hcap2]; exact g5
    have hblk : E.tag L'.blk ≠ none := by rw [g3]; simp
    have hmul : (len + ys.length) * j.size ≤ cap * j.size := Nat.mul_le_mul_right _ hroom
    have hfit : L'.base + off * j.size + len * info.size + news.length ≤ c0.size := by
      rw [hi4, hsrc.len]
      rw [Nat.add_mul] at hmul
      omega
    have hrun : (Builtin.append_ #[t, t] o.type #[.slice (some ⟨L'.blk, L'.base + off * L'.siz, none⟩) len cap, a.eval y]).run P E.w =
        .ok (.slice (some ⟨L'.blk, L'.base + off * L'.siz, none⟩) (len + ys.length) cap) (E.w.setCells L'.blk (L'.base + off * j.size + len * info.size) news) := by
      rw [hyv]
      by_cases hm : ys = []
      · subst hm
        have hn : news = [] := List.eq_nil_of_length_eq_zero (by simpa using hsrc.len)
        subst hn
        exact run_append_none E.w t _ e info hu' hi1 _ sb len cap c hcap1
      · obtain ⟨b, oo, rfl, hbl, hcell⟩ := hmem hm
        have := run_append_in (P := P) E.w t o.type e info hu' hi1 L'.blk (L'.base + off * j.size) len cap c0 ty g4 ⟨b, oo, none⟩ ys.length c news hlen (fun k u hk => by rw [Addr.add_mid]; exact hcell k u hk) hsrc.one hroom hfit
        rw [gsz]
        exact this
    obtain ⟨c', hc1, hc2, hc3⟩ := heap_setCells L'.blk ty news (L'.base + off * j.size + len * info.size) E.w c0 g4
    obtain ⟨r1, r2, r3, r4, r5⟩ := setCells_rest L'.blk news (L'.base + off * j.size + len * info.size) E.w
    have hsame : ∀ b, E.S b → E.S b ∧ (E.w.setCells L'.blk (L'.base + off * j.size + len * info.size) news).heap[b]? = E.w.heap[b]? := still_write hs g3
    have hsl := setMany_length rows (off + len) ys hle
    have hor : ORel { E with w := E.w.setCells L'.blk (L'.base + off * j.size + len * info.size) news } id (.arr j.size fl (setMany rows (off + len) ys)) := by
      refine .inr ⟨L', c', ty, g1, gsz, g2, g3, hc1, by rw [hc2]; exact g5, by rw [hsl]; exact g6, g7, gwa, fun i r hir => ?_, fun i jj r v hir hjv => ?_⟩
      · rw [setMany_get _ _ _ hle] at hir
        split at hir
        · rw [gsz]; exact hys r (List.mem_of_getElem? hir)
        · exact g8 i r hir
      · rw [hc3]
        rw [setMany_get _ _ _ hle] at hir
        have e1 : (off + len) * j.size = off * j.size + len * j.size := Nat.add_mul ..
        by_cases hii : off + len ≤ i ∧ i < off + len + ys.length
        · rw [if_pos hii] at hir
          obtain ⟨u, h1, h2, h3⟩ := hcells _ jj r v hir hjv
          have hlt := (List.getElem?_eq_some_iff.1 h1).1
          have e2 : i * j.size = (off + len) * j.size + (i - (off + len)) * j.size := by rw [← Nat.add_mul]; congr 1; omega
          refine ⟨u, ?_, h2, ((h3.ncell hlay (List.mem_of_getElem? hir) (List.mem_of_getElem? hjv)).to (E' := { E with w := E.w.setCells L'.blk (L'.base + off * j.size + len * info.size) news }) hsame (fun _ _ h => h)).cell⟩
          rw [gsz, hi4] at *
          rw [if_pos (by omega), ← h1]
          congr 1; omega
        · rw [if_neg hii] at hir
          obtain ⟨u, h1, h2, h3⟩ := g9 i jj r v hir hjv
          have hjl : jj < j.size := by rw [← gsz, ← g8 i r hir]; exact (List.getElem?_eq_some_iff.1 hjv).1
          refine ⟨u, ?_, h2, h3.to hsame (fun _ _ _ h => h) fun b hb => ⟨hb, r5 b (fun e => by rw [e, g3] at hb; cases hb)⟩⟩
          rw [if_neg, h1]
          rw [gsz, hi4, hsrc.len]
          rcases Nat.lt_or_ge i (off + len) with hlt | hge
          · have : i * j.size + j.size ≤ (off + len) * j.size := by rw [← Nat.succ_mul]; exact Nat.mul_le_mul_right _ hlt
            omega
          · have : (off + len) * j.size + ys.length * j.size ≤ i * j.size := by rw [← Nat.add_mul]; exact Nat.mul_le_mul_right _ (by omega)
            omega
    obtain ⟨q1, q2⟩ := hs.write (id := id) (ob := .arr j.size fl (setMany rows (off + len) ys)) (w' := E.w.setCells L'.blk (L'.base + off * j.size + len * info.size) news) hq r1 r2 r3 r4 (fun k hk => r5 k (fun e => hk (e ▸ g3))) (fun k lo hi hw cc T hcc => ⟨cc, by rw [r5 k (fun e => by rw [e, gwa] at hw; cases hw)]; exact hcc, rfl, fun _ _ => rfl⟩) hor
    refine ⟨.slice (some ⟨L'.blk, L'.base + off * L'.siz, none⟩) (len + ys.length) cap, _, .ref p id off (len + ys.length), _, ?_, q2, q1, ?_, hk⟩
    · simp only [execOp, ho, resolve, invoke, builtin, Sem.run_bind, Sem.run_pure, Result.andThen_ok, List.map_toArray, List.map_cons, List.map_nil, hxv, hrun]
    · exact .ref _ _ _ _ L' _ g1 hroom hcap2

end Go.Proofs.Ytmbckmfihcojoaa.AM
