/- Contracts: equal slices, search. -/
import Derived.Test.YtmpbmfhlkhonkaaF1
namespace Go.Proofs.Ytmpbmfhlkhonkaa.AM
open Go Go.Proofs

set_option maxRecDepth 100000
set_option linter.unusedVariables false
set_option linter.unusedSimpArgs false

theorem eqInt64S_sound {P : Program} (hP : P = Try.prog) (l l' : List Int) : Sound P 69 false [.ro (ints l), .ro (ints l')] (· = .bool (decide (l = l'))) := by
  have htab : TabOk P tab := hP ▸ tab_ok
  have hm : P.follows .mixedOrders = true := hP ▸ mixed_ok
  generalize hres : AV.bool (decide (l = l')) = res
  refine sound_by hm htab (hP ▸ Try.func69) rfl rfl rfl rfl (fun hv sBin sTst sNeg sConv sBeq sLen sOff sSpan sOfNat sCut sGet sLt sNat sRep sPart sAdd sApp sSet S => ?_)
  have hl : (ints l).length ≤ maxLen := (hv (.ro (ints l)) (by simp)).len
  have hl' : (ints l').length ≤ maxLen := (hv (.ro (ints l')) (by simp)).len
  rw [ints_length] at hl hl'
  generalize hrows : ints l = rows
  generalize hrows' : ints l' = rows'
  have hlen : rows.length = l.length := by rw [← hrows]; simp [ints]
  have hlen' : rows'.length = l'.length := by rw [← hrows']; simp [ints]
  cbv
  refine ⟨⟨by rw [hlen]; exact hl⟩, ⟨by rw [hlen']; exact hl'⟩, ?_⟩
  split <;> rename_i h <;> rw [h] <;> cbv
  · refine Done.bool ?_
    have : l.length ≠ l'.length := by
      have := h
      simp [S.tst, syTst, S.ofNat, S.len, hlen, hlen'] at this
      omega
    rw [← hres]
    have : l ≠ l' := fun e => this (by rw [e])
    simp [this]
  · have hll : l.length = l'.length := by
      have := h
      simp [S.tst, syTst, S.ofNat, S.len, hlen, hlen'] at this
      omega
    refine ALoop.ind (fun i : Nat => ⟨26, [(5, .int .i64 i), (0, .ro rows), (1, .ro rows')], [], []⟩) (fun i => i ≤ l.length ∧ l.take i = l'.take i) (fun i => l.length - i + 0) 0 htab hm S.eq (Weak.all rfl ?_ trivial) (by simp) ?_
    · exact ⟨⟨rfl, rfl⟩, ⟨rfl, rfl⟩, ⟨rfl, rfl⟩, trivial⟩
    · rintro i ⟨hi, he⟩
      cbv
      refine ⟨⟨by rw [hlen]; exact hl⟩, ?_⟩
      split <;> rename_i h <;> rw [h] <;> cbv
      · have hlt : i < l.length := by simpa [S.tst, S.ofNat, S.len, syTst, hlen] using h
        obtain ⟨y, hy⟩ : ∃ y, l[i] = y := ⟨_, rfl⟩
        obtain ⟨y', hy'⟩ : ∃ y', l'[i]'(by omega) = y' := ⟨_, rfl⟩
        refine ⟨⟨by kernel_rfl⟩, ⟨by simp, [.int .i64 y], by rw [← hrows]; simp [ints, hlt, hy], rfl, ?_⟩⟩
        cbv
        refine ⟨⟨by simp, [.int .i64 y'], by rw [← hrows', ints_get]; show (l'[i]?).map _ = _; rw [List.getElem?_eq_getElem (by omega), hy']; rfl, rfl, ?_⟩⟩
        cbv
        split <;> rename_i h2 <;> rw [h2] <;> cbv
        · refine Done.bool ?_
          have : y ≠ y' := by simpa [S.tst, syTst] using h2
          rw [← hres]
          have : l ≠ l' := fun e => this (by subst e; rw [← hy, ← hy'])
          simp [this]
        · have : y = y' := by simpa [S.tst, syTst] using h2
          refine ⟨i + 1, ?_, ⟨hlt, ?_⟩, Weak.all rfl ?_ trivial⟩
          · show l.length - (i + 1) + 0 < l.length - i + 0
            omega
          · show l.take (i + 1) = l'.take (i + 1)
            rw [List.take_add_one, List.take_add_one, he, List.getElem?_eq_getElem hlt, List.getElem?_eq_getElem (by omega), hy, hy', this]
          · exact ⟨⟨congrArg (fun z => some (AV.int .i64 z)) (add_one S.bin hlt hl), rfl⟩, ⟨rfl, rfl⟩, ⟨rfl, rfl⟩, trivial⟩
      · have hge : l.length ≤ i := by simpa [S.tst, S.ofNat, S.len, syTst, hlen] using h
        cbv
        refine Done.bool ?_
        rw [List.take_of_length_le hge, List.take_of_length_le (by omega)] at he
        rw [← hres]
        simp [he]

theorem index_sound {P : Program} (hP : P = Try.prog) (l : List Int) (n : Int) : Sound P 87 false [.ro (ints l), .int .i64 n] (· = .int .i64 (if n ∈ l then l.idxOf n else -1)) := by
  have htab : TabOk P tab := hP ▸ tab_ok
  have hm : P.follows .mixedOrders = true := hP ▸ mixed_ok
  generalize hres : AV.int .i64 (if n ∈ l then l.idxOf n else -1) = res
  refine sound_by hm htab (hP ▸ Try.func87) rfl rfl rfl rfl (fun hv sBin sTst sNeg sConv sBeq sLen sOff sSpan sOfNat sCut sGet sLt sNat sRep sPart sAdd sApp sSet S => ?_)
  have hl : (ints l).length ≤ maxLen := (hv (.ro (ints l)) (by simp)).len
  rw [ints_length] at hl
  generalize hrows : ints l = rows
  have hlen : rows.length = l.length := by rw [← hrows]; simp [ints]
  obtain ⟨N, hN⟩ : ∃ N : Int, N = (l.length : Int) := ⟨_, rfl⟩
  cbv
  refine ⟨⟨by rw [hlen]; exact hl⟩, ?_⟩
  refine ALoop.ind (fun i : Nat => ⟨19, [(8, .int .i64 i), (7, .int .i64 N), (0, .ro rows), (1, .int .i64 n)], [], []⟩) (fun i => i ≤ l.length ∧ n ∉ l.take i) (fun i => l.length - i + 0) 0 htab hm S.eq (Weak.all rfl ?_ trivial) (by simp) ?_
  · exact ⟨⟨rfl, rfl⟩, ⟨congrArg (fun z => some (AV.int .i64 z)) (by simp [S.ofNat, S.len, hlen, hN]), rfl⟩, ⟨rfl, rfl⟩, ⟨rfl, rfl⟩, trivial⟩
  · rintro i ⟨hi, hn⟩
    cbv
    split <;> rename_i h <;> rw [h] <;> cbv
    · have hlt : i < l.length := by simpa [S.tst, syTst, hN] using h
      obtain ⟨y, hy⟩ : ∃ y, l[i] = y := ⟨_, rfl⟩
      refine ⟨⟨by simp, [.int .i64 y], by rw [← hrows]; simp [ints, hlt, hy], rfl, ?_⟩⟩
      cbv
      split <;> rename_i h2 <;> rw [h2] <;> cbv
      · refine Done.int ?_
        have hny : n = y := by simpa [S.tst, syTst] using h2
        rw [← hres]
        have hmem : n ∈ l := by rw [hny, ← hy]; exact List.getElem_mem hlt
        have hidx : l.idxOf n = i := by
          have h1 : l.idxOf n ≤ i := by
            rcases Nat.lt_or_ge i (l.idxOf n) with hc | hc
            · have := List.not_of_lt_findIdx (xs := l) (p := (· == n)) (i := i) hc
              simp [hy, hny] at this
            · exact hc
          rcases Nat.lt_or_ge (l.idxOf n) i with hc | hc
          · exact absurd (List.mem_take_iff_getElem.2 ⟨l.idxOf n, by omega, List.getElem_idxOf (by omega)⟩) hn
          · omega
        rw [if_pos hmem, hidx]
        rfl
      · have hne : n ≠ y := by simpa [S.tst, syTst] using h2
        refine ⟨i + 1, ?_, ⟨hlt, ?_⟩, Weak.all rfl ?_ trivial⟩
        · show l.length - (i + 1) + 0 < l.length - i + 0
          omega
        · show n ∉ l.take (i + 1)
          rw [List.take_add_one, List.getElem?_eq_getElem hlt, hy]; simp [hn, hne]
        · exact ⟨⟨congrArg (fun z => some (AV.int .i64 z)) (add_one S.bin hlt hl), rfl⟩, ⟨rfl, rfl⟩, ⟨rfl, rfl⟩, ⟨rfl, rfl⟩, trivial⟩
    · have hge : l.length ≤ i := by simpa [S.tst, syTst, hN] using h
      cbv
      refine Done.int ?_
      rw [List.take_of_length_le hge] at hn
      rw [← hres, if_neg hn]

theorem contains_sound {P : Program} (hP : P = Try.prog) (l : List Int) (n : Int) : Sound P 68 false [.ro (ints l), .int .i64 n] (· = .bool (decide (n ∈ l))) := by
  have htab : TabOk P tab := hP ▸ tab_ok
  have hm : P.follows .mixedOrders = true := hP ▸ mixed_ok
  have hcall := index_sound hP l n
  generalize hq : (if n ∈ l then (l.idxOf n : Int) else -1) = q at hcall
  generalize hres : AV.bool (decide (n ∈ l)) = res
  refine sound_by hm htab (hP ▸ Try.func68) rfl rfl rfl rfl (fun hv sBin sTst sNeg sConv sBeq sLen sOff sSpan sOfNat sCut sGet sLt sNat sRep sPart sAdd sApp sSet S => ?_)
  generalize hrows : ints l = rows
  rw [hrows] at hcall
  cbv
  refine ACall.of hcall ⟨rfl, rfl, trivial⟩ rfl ?_
  cbv
  refine Done.bool ?_
  rw [← hres]
  simp only [S.tst, syTst, ← hq]
  by_cases h : n ∈ l
  · simp [h]
  · simp [h]

theorem own_res {st : St} {p : Bool} {s id N : Nat} {fl : Bool} {rows : List (List AV)} (hk : lk st.sto id = some (.arr s fl rows)) (hN : rows.length = N) (hp : ∀ r ∈ rows, ∀ v ∈ r, v.plain) : resCell false st (.ref p id 0 N) (.own s fl rows) :=
  ⟨rows, hk, by rw [hN, Nat.zero_add]; exact Nat.le_refl _, by rw [← hN, List.drop_zero, List.take_length], .inr hp⟩

theorem ints_plain (l : List Int) : ∀ r ∈ ints l, ∀ v ∈ r, v.plain := by
  intro r hr v hv
  obtain ⟨x, _, rfl⟩ := List.mem_map.1 hr
  obtain rfl := List.mem_singleton.1 hv
  trivial

/-! ### Groups -/

structure Grp where
  node : Int
  limit : Int
  active : Int
  waits : List Int
  first : Int

def Grp.av (g : Grp) : AV := .agg [.int .i64 g.node, .int .i64 g.limit, .int .i64 g.active, .ro (ints g.waits), .int .i64 g.first]
def Grp.out (g : Grp) : AV := .agg [.int .i64 g.node, .int .i64 g.limit, .int .i64 g.active, .own 1 true (ints g.waits), .int .i64 g.first]

theorem ACall.as {P : Program} {f : FuncId} {avs bs : List AV} {lab : Nat} {st : St} {K : AV → Dl → Prop} {r v : AV} {os : List (Nat × Obj)} (h : Sound P f false bs (· = r)) (hl : lends st avs bs) (hs : r.small = true) (hv : adopt lab r = v) (ho : objsOf lab r = os)
    (hk : K v ⟨os.map fun p => (p.1, some p.2), os.map (·.1)⟩) : ACall P f avs lab st K := by
  subst hv
  subst ho
  exact .of h hl hs hk

theorem szGroup_sound {P : Program} (hP : P = Try.prog) (g : Grp) (left : Int) (h0 : 0 ≤ left) : Sound P 24 false [g.av, .int .i64 left] (· = .int .i64 (if left < g.waits.length then -1 else left - g.waits.length)) := by
  have htab : TabOk P tab := hP ▸ tab_ok
  have hm : P.follows .mixedOrders = true := hP ▸ mixed_ok
  obtain ⟨node, limit, active, waits, first⟩ := g
  have hcall := szInt64S_sound hP (ints waits) left h0
  rw [ints_length] at hcall
  generalize hq : (if left < waits.length then (-1 : Int) else left - waits.length) = q at hcall
  unfold Grp.av
  generalize hrows : ints waits = rows at hcall ⊢
  refine sound_by hm htab (hP ▸ Try.func24) rfl rfl rfl rfl (fun hv sBin sTst sNeg sConv sBeq sLen sOff sSpan sOfNat sCut sGet sLt sNat sRep sPart sAdd sApp sSet S => ?_)
  cbv
  refine ACall.of hcall ⟨rfl, rfl, trivial⟩ rfl ?_
  cbv
  split <;> rename_i h <;> rw [h] <;> cbv <;> refine Done.int ?_
  · have h1 : q < 0 := by simpa [S.tst, syTst] using h
    have : q = -1 := by
      rw [← hq] at h1 ⊢
      split at h1 <;> rename_i h2
      · rw [if_pos h2]
      · omega
    rw [this]
  · rfl

theorem toGroup_sound {P : Program} (hP : P = Try.prog) (g : Grp) (hb : g.waits.length ≤ 1048576) : Sound P 26 false [g.av] (· = g.out) := by
  have htab : TabOk P tab := hP ▸ tab_ok
  have hm : P.follows .mixedOrders = true := hP ▸ mixed_ok
  obtain ⟨node, limit, active, waits, first⟩ := g
  have hcall := toInt64S_sound hP waits hb
  generalize hres : Grp.out ⟨node, limit, active, waits, first⟩ = res
  unfold Grp.av
  unfold Grp.out at hres
  dsimp only at hres ⊢
  generalize hrows : ints waits = rows at hcall hres ⊢
  obtain ⟨N, hN⟩ : ∃ N, rows.length = N := ⟨_, rfl⟩
  refine sound_by hm htab (hP ▸ Try.func26) rfl rfl rfl rfl (fun hv sBin sTst sNeg sConv sBeq sLen sOff sSpan sOfNat sCut sGet sLt sNat sRep sPart sAdd sApp sSet S => ?_)
  cbv
  refine ACall.as (v := .ref false _ 0 N) (os := [(_, .arr 1 true rows)]) hcall ⟨rfl, trivial⟩ rfl (by rw [← hN]; rfl) rfl ?_
  cbv
  refine ⟨res, ?_, rfl⟩
  rw [← hres]
  exact ⟨rfl, rfl, rfl, own_res rfl hN (by rw [← hrows]; exact ints_plain waits), rfl, trivial⟩

end Go.Proofs.Ytmpbmfhlkhonkaa.AM
