/- Contracts of small functions over slices of int64. -/
import Derived.Test.YtmpbmfhlkhonkaaTab
import Derived.Test.YtmpbmfhlkhonkaaAM16
namespace Go.Proofs.Ytmpbmfhlkhonkaa.AM
open Go Go.Proofs

set_option maxRecDepth 100000
set_option linter.unusedVariables false
set_option linter.unusedSimpArgs false

def ints (l : List Int) : List (List AV) := l.map fun x => [.int .i64 x]

theorem ints_length (l : List Int) : (ints l).length = l.length := by simp [ints]
theorem ints_get (l : List Int) (i : Nat) : (ints l)[i]? = (l[i]?).map fun x => [AV.int .i64 x] := by simp [ints]

theorem wrap_eq {k : IntKind} {n : Int} (h : (Lit.int k n).wf = true) : k.wrap n = n := by
  rw [wf_iff] at h
  obtain ⟨h1, h2⟩ := h
  cases k <;> simp only [IntKind.wrap, IntKind.min, IntKind.max, IntKind.signed, IntKind.bits] at h1 h2 ⊢ <;> simp at h1 h2 ⊢ <;> (try split) <;> omega

theorem wrap64 {n : Int} (h1 : -9223372036854775808 ≤ n) (h2 : n ≤ 9223372036854775807) : IntKind.i64.wrap n = n := wrap_eq (by rw [wf_iff]; exact ⟨h1, h2⟩)

theorem add_one {sBin : BinOp → IntKind → Int → Int → Int} (hA : sBin = syBin) {i n : Nat} (h : i < n) (hn : n ≤ maxLen) : sBin .add .i64 (Int.ofNat i) 1 = ((i + 1 : Nat) : Int) := by
  simp only [hA, syBin]
  rw [wrap64] <;> simp [maxLen] at hn ⊢ <;> omega

theorem within_sound {P : Program} (hP : P = Try.prog) (n lo hi : Int) : Sound P 55 false [.int .i64 n, .int .i64 lo, .int .i64 hi] (· = .bool (decide (lo ≤ n ∧ n ≤ hi))) := by
  have htab : TabOk P tab := hP ▸ tab_ok
  have hm : P.follows .mixedOrders = true := hP ▸ mixed_ok
  refine sound_by hm htab (hP ▸ Try.func55) rfl rfl rfl rfl (fun hv sBin sTst sNeg sConv sBeq sLen sOff sSpan sOfNat sCut sGet sLt sNat sRep sPart sAdd sApp sSet S => ?_)
  cbv
  split <;> rename_i h <;> rw [h] <;> cbv <;> refine Done.bool ?_ <;> simp_all [S.tst, syTst] <;> omega

theorem l1In_sound {P : Program} (hP : P = Try.prog) (n lo hi : Int) : Sound P 65 false [.int .i64 n, .int .i64 lo, .int .i64 hi] (· = .bool (decide (lo ≤ n ∧ n ≤ hi))) := by
  have htab : TabOk P tab := hP ▸ tab_ok
  have hm : P.follows .mixedOrders = true := hP ▸ mixed_ok
  refine sound_by hm htab (hP ▸ Try.func65) rfl rfl rfl rfl (fun hv sBin sTst sNeg sConv sBeq sLen sOff sSpan sOfNat sCut sGet sLt sNat sRep sPart sAdd sApp sSet S => ?_)
  cbv
  split <;> rename_i h <;> rw [h] <;> cbv <;> refine Done.bool ?_ <;> simp_all [S.tst, syTst] <;> omega

theorem l6In_sound {P : Program} (hP : P = Try.prog) (l : List Int) (n : Int) : Sound P 66 false [.ro (ints l), .int .i64 n] (· = .bool (decide (n ∈ l))) := by
  have htab : TabOk P tab := hP ▸ tab_ok
  have hm : P.follows .mixedOrders = true := hP ▸ mixed_ok
  refine sound_by hm htab (hP ▸ Try.func66) rfl rfl rfl rfl (fun hv sBin sTst sNeg sConv sBeq sLen sOff sSpan sOfNat sCut sGet sLt sNat sRep sPart sAdd sApp sSet S => ?_)
  have hl : (ints l).length ≤ maxLen := (hv (.ro (ints l)) (by simp)).len
  generalize hrows : ints l = rows at hl
  have hlen : rows.length = l.length := by rw [← hrows]; simp [ints]
  rw [hlen] at hl
  cbv
  refine ALoop.ind (fun i : Nat => ⟨18, [(5, .int .i64 i), (0, .ro rows), (1, .int .i64 n)], [], []⟩) (fun i => i ≤ l.length ∧ n ∉ l.take i) (fun i => l.length - i + 0) 0 htab hm S.eq (Weak.all rfl ?_ trivial) (by simp) ?_
  · exact ⟨⟨rfl, rfl⟩, ⟨rfl, rfl⟩, ⟨rfl, rfl⟩, trivial⟩
  · rintro i ⟨hi, hn⟩
    cbv
    refine ⟨⟨by rw [hlen]; exact hl⟩, ?_⟩
    split <;> rename_i h <;> rw [h] <;> cbv
    · have hlt : i < l.length := by simpa [S.tst, S.ofNat, S.len, syTst, hlen] using h
      obtain ⟨y, hy⟩ : ∃ y, l[i] = y := ⟨_, rfl⟩
      refine ⟨⟨by simp, [.int .i64 y], by rw [← hrows]; simp [ints, hlt, hy], rfl, ?_⟩⟩
      cbv
      split <;> rename_i h2 <;> rw [h2] <;> cbv
      · refine Done.bool ?_
        have : n = y := by simpa [S.tst, S.ofNat, S.len, syTst, eq_comm] using h2
        rw [this, ← hy]; simp
      · have hne : n ≠ y := by simpa [S.tst, S.ofNat, S.len, syTst, eq_comm] using h2
        refine ⟨i + 1, ?_, ⟨hlt, ?_⟩, Weak.all rfl ?_ trivial⟩
        · show l.length - (i + 1) + 0 < l.length - i + 0
          omega
        · show n ∉ l.take (i + 1)
          rw [List.take_add_one, List.getElem?_eq_getElem hlt, hy]; simp [hn, hne]
        · exact ⟨⟨congrArg (fun z => some (AV.int .i64 z)) (add_one S.bin hlt hl), rfl⟩, ⟨rfl, rfl⟩, ⟨rfl, rfl⟩, trivial⟩
    · have hge : l.length ≤ i := by simpa [S.tst, S.ofNat, S.len, syTst, hlen] using h
      cbv
      refine Done.bool ?_
      rw [List.take_of_length_le hge] at hn
      simp [hn]

theorem szInt64S_sound {P : Program} (hP : P = Try.prog) (rows : List (List AV)) (left : Int) (h0 : 0 ≤ left) : Sound P 64 false [.ro rows, .int .i64 left] (· = .int .i64 (if left < rows.length then -1 else left - rows.length)) := by
  have htab : TabOk P tab := hP ▸ tab_ok
  have hm : P.follows .mixedOrders = true := hP ▸ mixed_ok
  generalize hres : AV.int .i64 (if left < rows.length then -1 else left - rows.length) = res
  refine sound_by hm htab (hP ▸ Try.func64) rfl rfl rfl rfl (fun hv sBin sTst sNeg sConv sBeq sLen sOff sSpan sOfNat sCut sGet sLt sNat sRep sPart sAdd sApp sSet S => ?_)
  have hl : rows.length ≤ maxLen := (hv (.ro rows) (by simp)).len
  have hleft := (hv (.int .i64 left) (by simp)).int
  rw [wf_iff] at hleft
  have e : sBin .sub .i64 left (sOfNat (sLen rows)) = left - rows.length := by
    simp only [S.bin, S.ofNat, S.len, syBin]
    simp [maxLen, IntKind.min, IntKind.max, IntKind.signed, IntKind.bits] at hl hleft
    rw [wrap64] <;> omega
  cbv
  refine ⟨⟨hl⟩, ?_⟩
  split <;> rename_i h <;> rw [h] <;> cbv <;> refine Done.int ?_ <;> rw [e] at h <;> rw [← hres]
  · have : left - rows.length < 0 := by simpa [S.tst, syTst] using h
    rw [if_pos (Int.lt_of_sub_neg this)]
  · have : ¬ left - rows.length < 0 := by simpa [S.tst, syTst] using h
    rw [if_neg (fun hlt => this (Int.sub_neg_of_lt hlt)), e]

theorem toInt64S_sound {P : Program} (hP : P = Try.prog) (l : List Int) (hb : l.length ≤ 1048576) : Sound P 67 false [.ro (ints l)] (· = .own 1 true (ints l)) := by
  have htab : TabOk P tab := hP ▸ tab_ok
  have hm : P.follows .mixedOrders = true := hP ▸ mixed_ok
  generalize hres : AV.own 1 true (ints l) = res
  refine sound_by hm htab (hP ▸ Try.func67) rfl rfl rfl rfl (fun hv sBin sTst sNeg sConv sBeq sLen sOff sSpan sOfNat sCut sGet sLt sNat sRep sPart sAdd sApp sSet S => ?_)
  have hl : (ints l).length ≤ maxLen := (hv (.ro (ints l)) (by simp)).len
  generalize hrows : ints l = rows at hl
  have hlen : rows.length = l.length := by rw [← hrows]; simp [ints]
  rw [hlen] at hl
  cbv
  refine ⟨⟨by rw [hlen]; exact hl⟩, ⟨?_⟩, ?_⟩
  · simp [S.ofNat, S.len, hlen, maxBytes]; omega
  obtain ⟨N, hN⟩ : ∃ N, N = l.length := ⟨_, rfl⟩
  obtain ⟨L, hL⟩ : ∃ L : Nat → List (List AV), ∀ i, L i = ints (l.take i) ++ List.replicate (l.length - i) [.int .i64 0] := ⟨_, fun _ => rfl⟩
  refine ALoop.ind (fun i : Nat => ⟨22, [(4, .int .i64 i), (3, .ref false 2020000 0 N), (0, .ro rows)], [(2020000, .arr 1 true (L i))], [2020000]⟩) (fun i => i ≤ l.length) (fun i => l.length - i + 0) 0 htab hm S.eq (Weak.all rfl ?_ ?_) (by simp) ?_
  · refine ⟨⟨rfl, rfl⟩, ⟨congrArg (fun n => some (AV.ref false 2020000 0 n)) ?_, rfl⟩, ⟨rfl, rfl⟩, trivial⟩
    simp [S.nat, S.ofNat, S.len, hlen, hN]
  · refine ⟨⟨congrArg (fun r => some (Obj.arr 1 true r)) ?_, rfl, rfl⟩, trivial⟩
    simp [hL, S.rep, S.ofNat, S.len, hlen, ints]
  · intro i hi
    cbv
    refine ⟨⟨by rw [hlen]; exact hl⟩, ?_⟩
    split <;> rename_i h <;> rw [h] <;> cbv
    · have hlt : i < l.length := by simpa [S.tst, S.ofNat, S.len, syTst, hlen] using h
      obtain ⟨y, hy⟩ : ∃ y, l[i] = y := ⟨_, rfl⟩
      refine ⟨⟨by simp, [.int .i64 y], by rw [← hrows]; simp [ints, hlt, hy], rfl, ?_⟩⟩
      cbv
      have hoff : sOff 0 (Int.ofNat i) = i := by simp [S.off]
      have hLlen : (L i).length = l.length := by simp [hL, ints]; omega
      refine ⟨⟨⟨by simp; omega, rfl, by simp; omega⟩⟩, ⟨[.int .i64 0], ?_, ⟨rfl, by simp⟩, ?_⟩⟩
      · rw [hoff, hL, List.getElem?_append_right (by simp [ints]; omega)]
        rw [ints_length, List.length_take, Nat.min_eq_left (Nat.le_of_lt hlt), Nat.sub_self, List.getElem?_replicate, if_pos (by omega)]
      · cbv
        refine ⟨i + 1, ?_, hlt, Weak.all rfl ?_ ?_⟩
        · show l.length - (i + 1) + 0 < l.length - i + 0
          omega
        · exact ⟨⟨congrArg (fun z => some (AV.int .i64 z)) (add_one S.bin hlt hl), rfl⟩, ⟨rfl, rfl⟩, ⟨rfl, rfl⟩, trivial⟩
        · refine ⟨⟨congrArg (fun r => some (Obj.arr 1 true r)) ?_, rfl, rfl⟩, trivial⟩
          have hset : (L i).set i [.int .i64 y] = L (i + 1) := by
            refine List.ext_getElem? fun k => ?_
            rw [List.getElem?_set, hLlen, hL, hL]
            by_cases hk : i = k
            · subst hk
              rw [if_pos rfl, if_pos hlt, List.getElem?_append_left (by simp [ints]; omega), ints_get, List.getElem?_take_of_lt (by omega), List.getElem?_eq_getElem hlt, hy]
              rfl
            · rw [if_neg hk]
              rcases Nat.lt_or_ge k i with hki | hki
              · rw [List.getElem?_append_left (by simp [ints]; omega), List.getElem?_append_left (by simp [ints]; omega), ints_get, ints_get, List.getElem?_take_of_lt hki, List.getElem?_take_of_lt (by omega)]
              · rw [List.getElem?_append_right (by simp [ints]; omega), List.getElem?_append_right (by simp [ints]; omega), List.getElem?_replicate, List.getElem?_replicate]
                simp only [ints_length, List.length_take, Nat.min_eq_left (Nat.le_of_lt hlt), Nat.min_eq_left (show i + 1 ≤ l.length from hlt)]
                by_cases hkl : k < l.length
                · rw [if_pos (by omega), if_pos (by omega)]
                · rw [if_neg (by omega), if_neg (by omega)]
          rw [hoff]
          simp only [S.set]
          exact hset
    · have hge : l.length ≤ i := by simpa [S.tst, S.ofNat, S.len, syTst, hlen] using h
      cbv
      refine ⟨res, ?_, rfl⟩
      rw [← hres]
      have hLe : L i = ints l := by rw [hL, List.take_of_length_le hge, Nat.sub_eq_zero_of_le hge]; simp
      refine ⟨L i, rfl, ?_, ?_, .inr ?_⟩
      · rw [hLe, ints_length, Nat.zero_add, hN]; exact Nat.le_refl _
      · rw [hLe, hN, List.drop_zero, ← ints_length l, List.take_length]
      · intro r hr v hv
        obtain ⟨x, _, rfl⟩ := List.mem_map.1 hr
        obtain rfl := List.mem_singleton.1 hv
        trivial

end Go.Proofs.Ytmpbmfhlkhonkaa.AM
