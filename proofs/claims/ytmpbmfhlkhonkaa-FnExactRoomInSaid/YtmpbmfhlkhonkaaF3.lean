/- Contracts: valid groups. -/
import Derived.Test.YtmpbmfhlkhonkaaF2
namespace Go.Proofs.Ytmpbmfhlkhonkaa.AM
open Go Go.Proofs

set_option maxRecDepth 100000
set_option linter.unusedVariables false
set_option linter.unusedSimpArgs false

theorem within_yes {P : Program} (hP : P = Try.prog) {n lo hi : Int} (h : lo ≤ n ∧ n ≤ hi) : Sound P 55 false [.int .i64 n, .int .i64 lo, .int .i64 hi] (· = .bool true) := by
  have := within_sound hP n lo hi
  rwa [decide_eq_true h] at this
theorem within_no {P : Program} (hP : P = Try.prog) {n lo hi : Int} (h : ¬ (lo ≤ n ∧ n ≤ hi)) : Sound P 55 false [.int .i64 n, .int .i64 lo, .int .i64 hi] (· = .bool false) := by
  have := within_sound hP n lo hi
  rwa [decide_eq_false h] at this
theorem l1In_yes {P : Program} (hP : P = Try.prog) {n lo hi : Int} (h : lo ≤ n ∧ n ≤ hi) : Sound P 65 false [.int .i64 n, .int .i64 lo, .int .i64 hi] (· = .bool true) := by
  have := l1In_sound hP n lo hi
  rwa [decide_eq_true h] at this
theorem l1In_no {P : Program} (hP : P = Try.prog) {n lo hi : Int} (h : ¬ (lo ≤ n ∧ n ≤ hi)) : Sound P 65 false [.int .i64 n, .int .i64 lo, .int .i64 hi] (· = .bool false) := by
  have := l1In_sound hP n lo hi
  rwa [decide_eq_false h] at this
theorem l6In_yes {P : Program} (hP : P = Try.prog) {l : List Int} {n : Int} (h : n ∈ l) : Sound P 66 false [.ro (ints l), .int .i64 n] (· = .bool true) := by
  have := l6In_sound hP l n
  rwa [decide_eq_true h] at this
theorem l6In_no {P : Program} (hP : P = Try.prog) {l : List Int} {n : Int} (h : ¬ n ∈ l) : Sound P 66 false [.ro (ints l), .int .i64 n] (· = .bool false) := by
  have := l6In_sound hP l n
  rwa [decide_eq_false h] at this
theorem contains_yes {P : Program} (hP : P = Try.prog) {l : List Int} {n : Int} (h : n ∈ l) : Sound P 68 false [.ro (ints l), .int .i64 n] (· = .bool true) := by
  have := contains_sound hP l n
  rwa [decide_eq_true h] at this
theorem contains_no {P : Program} (hP : P = Try.prog) {l : List Int} {n : Int} (h : ¬ n ∈ l) : Sound P 68 false [.ro (ints l), .int .i64 n] (· = .bool false) := by
  have := contains_sound hP l n
  rwa [decide_eq_false h] at this

/-- What a valid group is. -/
def Grp.ok (g : Grp) : Prop :=
  (0 ≤ g.node ∧ g.node ≤ 59) ∧ (0 ≤ g.limit ∧ g.limit ≤ 20) ∧ (0 ≤ g.active ∧ g.active ≤ 60) ∧ ¬ (0 < g.limit ∧ g.limit < g.active) ∧ (0 ≤ g.first ∧ g.first ≤ 99) ∧
    (∀ t ∈ g.waits, 0 ≤ t ∧ t ≤ 59) ∧ g.waits.Nodup ∧ (g.waits = [] ∨ 0 < g.limit ∧ g.active = g.limit)

theorem nodup_take_succ {l : List Int} {i : Nat} (hi : i < l.length) (h : (l.take i).Nodup) (hn : l[i] ∉ l.take i) : (l.take (i + 1)).Nodup := by
  rw [List.take_add_one, List.getElem?_eq_getElem hi]
  exact List.nodup_append.2 ⟨h, by simp, fun a ha b hb e => by simp at hb; subst hb; subst e; exact hn ha⟩

theorem not_nodup_take {l : List Int} {i : Nat} (hi : i < l.length) (hn : l[i] ∈ l.take i) : ¬ l.Nodup := by
  intro h
  have := (List.take_append_drop i l) ▸ h
  rw [← List.take_append_drop i l] at h
  obtain ⟨_, _, h3⟩ := List.nodup_append.1 h
  exact h3 _ hn _ (by rw [List.drop_eq_getElem_cons hi]; exact List.mem_cons_self ..) rfl

theorem specGroupOk_sound {P : Program} (hP : P = Try.prog) (g : Grp) : ∃ b : Bool, (b = true ↔ g.ok) ∧ Sound P 25 false [.agg [.int .i64 g.node, .int .i64 g.limit, .int .i64 g.active, .ro (ints g.waits), .int .i64 g.first]] (· = .bool b) := by
  obtain ⟨b, hb⟩ : ∃ b : Bool, b = true ↔ g.ok := ⟨@decide g.ok (Classical.propDecidable _), by simp⟩
  refine ⟨b, hb, ?_⟩
  have htab : TabOk P tab := hP ▸ tab_ok
  have hm : P.follows .mixedOrders = true := hP ▸ mixed_ok
  obtain ⟨node, limit, active, waits, first⟩ := g
  dsimp only
  refine sound_by hm htab (hP ▸ Try.func25) rfl rfl rfl rfl (fun hv sBin sTst sNeg sConv sBeq sLen sOff sSpan sOfNat sCut sGet sLt sNat sRep sPart sAdd sApp sSet S => ?_)
  have hl : (ints waits).length ≤ maxLen := ((hv _ (List.mem_singleton.2 rfl)).agg (v := .ro (ints waits)) (by simp)).len
  rw [ints_length] at hl
  generalize hrows : ints waits = rows
  have hlen : rows.length = waits.length := by rw [← hrows]; simp [ints]
  have no : ¬ Grp.ok ⟨node, limit, active, waits, first⟩ → b = false := fun h => by cases b with | false => rfl | true => exact absurd (hb.1 rfl) h
  cbv
  by_cases h1 : 0 ≤ node ∧ node ≤ 59
  rotate_left
  · refine ACall.of (l1In_no hP h1) ⟨rfl, rfl, rfl, trivial⟩ rfl ?_
    cbv
    refine Done.bool ?_
    rw [no (fun h => h1 h.1)]
  refine ACall.of (l1In_yes hP h1) ⟨rfl, rfl, rfl, trivial⟩ rfl ?_
  cbv
  by_cases h2 : 0 ≤ limit ∧ limit ≤ 20
  rotate_left
  · refine ACall.of (l1In_no hP h2) ⟨rfl, rfl, rfl, trivial⟩ rfl ?_
    cbv
    refine Done.bool ?_
    rw [no (fun h => h2 h.2.1)]
  refine ACall.of (l1In_yes hP h2) ⟨rfl, rfl, rfl, trivial⟩ rfl ?_
  cbv
  by_cases h3 : 0 ≤ active ∧ active ≤ 60
  rotate_left
  · refine ACall.of (l1In_no hP h3) ⟨rfl, rfl, rfl, trivial⟩ rfl ?_
    cbv
    refine Done.bool ?_
    rw [no (fun h => h3 h.2.2.1)]
  refine ACall.of (l1In_yes hP h3) ⟨rfl, rfl, rfl, trivial⟩ rfl ?_
  cbv
  split <;> rename_i h4 <;> rw [h4] <;> cbv
  · simp [S.tst, syTst] at h4
    split <;> rename_i h4' <;> rw [h4'] <;> cbv <;> simp [S.tst, syTst] at h4'
    · refine Done.bool ?_
      rw [no (fun h => h.2.2.2.1 ⟨h4, h4'⟩)]
    · have hlim : ¬ (0 < limit ∧ limit < active) := fun h => by omega
      by_cases h5 : 0 ≤ first ∧ first ≤ 99
      rotate_left
      · refine ACall.of (l1In_no hP h5) ⟨rfl, rfl, rfl, trivial⟩ rfl ?_
        cbv
        refine Done.bool ?_
        rw [no (fun h => h5 h.2.2.2.2.1)]
      refine ACall.of (l1In_yes hP h5) ⟨rfl, rfl, rfl, trivial⟩ rfl ?_
      cbv
      have okI : Grp.ok ⟨node, limit, active, waits, first⟩ ↔ (∀ t ∈ waits, 0 ≤ t ∧ t ≤ 59) ∧ waits.Nodup ∧ (waits = [] ∨ 0 < limit ∧ active = limit) := ⟨fun h => ⟨h.2.2.2.2.2.1, h.2.2.2.2.2.2.1, h.2.2.2.2.2.2.2⟩, fun h => ⟨h1, h2, h3, hlim, h5, h.1, h.2.1, h.2.2⟩⟩
      refine ALoop.ind (fun i : Nat => ⟨80, [(3, .int .i64 i), (1, .ptr 1000000 0 0)], [(1000000, .box [.int .i64 node, .int .i64 limit, .int .i64 active, .ro rows, .int .i64 first])], [1000000]⟩) (fun i => i ≤ waits.length ∧ (∀ t ∈ waits.take i, 0 ≤ t ∧ t ≤ 59) ∧ (waits.take i).Nodup) (fun i => waits.length - i + 0) 0 htab hm S.eq (Weak.all rfl ?_ ?_) (by simp) ?_
      · exact ⟨⟨rfl, rfl⟩, ⟨rfl, rfl⟩, trivial⟩
      · exact ⟨⟨rfl, rfl, rfl⟩, trivial⟩
      · rintro i ⟨hi, hr, hnd⟩
        cbv
        refine ⟨⟨by rw [hlen]; exact hl⟩, ?_⟩
        split <;> rename_i h <;> rw [h] <;> cbv
        · have hlt : i < waits.length := by simpa [S.tst, S.ofNat, S.len, syTst, hlen] using h
          obtain ⟨y, hy⟩ : ∃ y, waits[i] = y := ⟨_, rfl⟩
          refine ⟨⟨by kernel_rfl⟩, ⟨by simp, [.int .i64 y], by rw [← hrows]; simp [ints, hlt, hy], rfl, ?_⟩⟩
          cbv
          by_cases h6 : 0 ≤ y ∧ y ≤ 59
          rotate_left
          · refine ACall.of (l1In_no hP h6) ⟨rfl, rfl, rfl, trivial⟩ rfl ?_
            cbv
            refine Done.bool ?_
            rw [no (fun h => h6 (hy ▸ h.2.2.2.2.2.1 _ (List.getElem_mem hlt)))]
          refine ACall.of (l1In_yes hP h6) ⟨rfl, rfl, rfl, trivial⟩ rfl ?_
          cbv
          have hcut : sCut rows 0 (Int.ofNat i) = ints (waits.take i) := by simp [S.cut, ← hrows, ints, List.map_take]
          refine ⟨⟨⟨by simp, by simp, by simp [hlen]; omega⟩, by rw [← hrows]; intro r hr; obtain ⟨x, _, rfl⟩ := List.mem_map.1 hr; rfl⟩, ⟨by simp, [.int .i64 y], by rw [← hrows]; simp [ints, hlt, hy], rfl, ?_⟩⟩
          cbv
          by_cases h7 : y ∈ waits.take i
          · refine ACall.of (l6In_yes hP h7) ⟨congrArg AV.ro hcut.symm, rfl, trivial⟩ rfl ?_
            cbv
            refine Done.bool ?_
            rw [no (fun h => not_nodup_take hlt (hy ▸ h7) h.2.2.2.2.2.2.1)]
          · refine ACall.of (l6In_no hP h7) ⟨congrArg AV.ro hcut.symm, rfl, trivial⟩ rfl ?_
            cbv
            refine ⟨i + 1, ?_, ⟨hlt, ?_, nodup_take_succ hlt hnd (hy ▸ h7)⟩, Weak.all rfl ?_ ?_⟩
            · show waits.length - (i + 1) + 0 < waits.length - i + 0
              omega
            · show ∀ t ∈ waits.take (i + 1), 0 ≤ t ∧ t ≤ 59
              intro t ht
              rw [List.take_add_one, List.getElem?_eq_getElem hlt, hy] at ht
              rcases List.mem_append.1 ht with ht | ht
              · exact hr t ht
              · simp at ht; subst ht; exact h6
            · exact ⟨⟨congrArg (fun z => some (AV.int .i64 z)) (add_one S.bin hlt hl), rfl⟩, ⟨rfl, rfl⟩, trivial⟩
            · exact ⟨⟨rfl, rfl, rfl⟩, trivial⟩
        · have hge : waits.length ≤ i := by simpa [S.tst, S.ofNat, S.len, syTst, hlen] using h
          rw [List.take_of_length_le hge] at hr hnd
          refine ⟨⟨by rw [hlen]; exact hl⟩, ?_⟩
          have fin : ∀ c : Bool, (c = true ↔ (waits = [] ∨ 0 < limit ∧ active = limit)) → c = b := fun c hc => by
            rw [Bool.eq_iff_iff, hc, hb, okI]
            exact ⟨fun h => ⟨hr, hnd, h⟩, fun h => h.2.2⟩
          have hnil : waits = [] ↔ waits.length = 0 := List.length_eq_zero_iff.symm
          split <;> rename_i h8 <;> rw [h8] <;> cbv
          · refine Done.bool ?_
            rw [fin true ?_]
            simp [S.tst, S.ofNat, S.len, syTst, hlen] at h8
            simp [h8]
          · simp [S.tst, S.ofNat, S.len, syTst, hlen] at h8
            split <;> rename_i h9 <;> rw [h9] <;> cbv <;> refine Done.bool ?_
            · rw [fin (sTst BinOp.eql active limit) ?_]
              simp [S.tst, syTst] at h9 ⊢
              simp [h8, h9]
            · rw [fin false ?_]
              simp [S.tst, syTst] at h9
              simp [h8]
              omega
  · simp [S.tst, syTst] at h4
    have hlim : ¬ (0 < limit ∧ limit < active) := fun h => by omega
    by_cases h5 : 0 ≤ first ∧ first ≤ 99
    rotate_left
    · refine ACall.of (l1In_no hP h5) ⟨rfl, rfl, rfl, trivial⟩ rfl ?_
      cbv
      refine Done.bool ?_
      rw [no (fun h => h5 h.2.2.2.2.1)]
    refine ACall.of (l1In_yes hP h5) ⟨rfl, rfl, rfl, trivial⟩ rfl ?_
    cbv
    have okI : Grp.ok ⟨node, limit, active, waits, first⟩ ↔ (∀ t ∈ waits, 0 ≤ t ∧ t ≤ 59) ∧ waits.Nodup ∧ (waits = [] ∨ 0 < limit ∧ active = limit) := ⟨fun h => ⟨h.2.2.2.2.2.1, h.2.2.2.2.2.2.1, h.2.2.2.2.2.2.2⟩, fun h => ⟨h1, h2, h3, hlim, h5, h.1, h.2.1, h.2.2⟩⟩
    refine ALoop.ind (fun i : Nat => ⟨80, [(3, .int .i64 i), (1, .ptr 1000000 0 0)], [(1000000, .box [.int .i64 node, .int .i64 limit, .int .i64 active, .ro rows, .int .i64 first])], [1000000]⟩) (fun i => i ≤ waits.length ∧ (∀ t ∈ waits.take i, 0 ≤ t ∧ t ≤ 59) ∧ (waits.take i).Nodup) (fun i => waits.length - i + 0) 0 htab hm S.eq (Weak.all rfl ?_ ?_) (by simp) ?_
    · exact ⟨⟨rfl, rfl⟩, ⟨rfl, rfl⟩, trivial⟩
    · exact ⟨⟨rfl, rfl, rfl⟩, trivial⟩
    · rintro i ⟨hi, hr, hnd⟩
      cbv
      refine ⟨⟨by rw [hlen]; exact hl⟩, ?_⟩
      split <;> rename_i h <;> rw [h] <;> cbv
      · have hlt : i < waits.length := by simpa [S.tst, S.ofNat, S.len, syTst, hlen] using h
        obtain ⟨y, hy⟩ : ∃ y, waits[i] = y := ⟨_, rfl⟩
        refine ⟨⟨by kernel_rfl⟩, ⟨by simp, [.int .i64 y], by rw [← hrows]; simp [ints, hlt, hy], rfl, ?_⟩⟩
        cbv
        by_cases h6 : 0 ≤ y ∧ y ≤ 59
        rotate_left
        · refine ACall.of (l1In_no hP h6) ⟨rfl, rfl, rfl, trivial⟩ rfl ?_
          cbv
          refine Done.bool ?_
          rw [no (fun h => h6 (hy ▸ h.2.2.2.2.2.1 _ (List.getElem_mem hlt)))]
        refine ACall.of (l1In_yes hP h6) ⟨rfl, rfl, rfl, trivial⟩ rfl ?_
        cbv
        have hcut : sCut rows 0 (Int.ofNat i) = ints (waits.take i) := by simp [S.cut, ← hrows, ints, List.map_take]
        refine ⟨⟨⟨by simp, by simp, by simp [hlen]; omega⟩, by rw [← hrows]; intro r hr; obtain ⟨x, _, rfl⟩ := List.mem_map.1 hr; rfl⟩, ⟨by simp, [.int .i64 y], by rw [← hrows]; simp [ints, hlt, hy], rfl, ?_⟩⟩
        cbv
        by_cases h7 : y ∈ waits.take i
        · refine ACall.of (l6In_yes hP h7) ⟨congrArg AV.ro hcut.symm, rfl, trivial⟩ rfl ?_
          cbv
          refine Done.bool ?_
          rw [no (fun h => not_nodup_take hlt (hy ▸ h7) h.2.2.2.2.2.2.1)]
        · refine ACall.of (l6In_no hP h7) ⟨congrArg AV.ro hcut.symm, rfl, trivial⟩ rfl ?_
          cbv
          refine ⟨i + 1, ?_, ⟨hlt, ?_, nodup_take_succ hlt hnd (hy ▸ h7)⟩, Weak.all rfl ?_ ?_⟩
          · show waits.length - (i + 1) + 0 < waits.length - i + 0
            omega
          · show ∀ t ∈ waits.take (i + 1), 0 ≤ t ∧ t ≤ 59
            intro t ht
            rw [List.take_add_one, List.getElem?_eq_getElem hlt, hy] at ht
            rcases List.mem_append.1 ht with ht | ht
            · exact hr t ht
            · simp at ht; subst ht; exact h6
          · exact ⟨⟨congrArg (fun z => some (AV.int .i64 z)) (add_one S.bin hlt hl), rfl⟩, ⟨rfl, rfl⟩, trivial⟩
          · exact ⟨⟨rfl, rfl, rfl⟩, trivial⟩
      · have hge : waits.length ≤ i := by simpa [S.tst, S.ofNat, S.len, syTst, hlen] using h
        rw [List.take_of_length_le hge] at hr hnd
        refine ⟨⟨by rw [hlen]; exact hl⟩, ?_⟩
        have fin : ∀ c : Bool, (c = true ↔ (waits = [] ∨ 0 < limit ∧ active = limit)) → c = b := fun c hc => by
          rw [Bool.eq_iff_iff, hc, hb, okI]
          exact ⟨fun h => ⟨hr, hnd, h⟩, fun h => h.2.2⟩
        have hnil : waits = [] ↔ waits.length = 0 := List.length_eq_zero_iff.symm
        split <;> rename_i h8 <;> rw [h8] <;> cbv
        · refine Done.bool ?_
          rw [fin true ?_]
          simp [S.tst, S.ofNat, S.len, syTst, hlen] at h8
          simp [h8]
        · simp [S.tst, S.ofNat, S.len, syTst, hlen] at h8
          split <;> rename_i h9 <;> rw [h9] <;> cbv <;> refine Done.bool ?_
          · rw [fin (sTst BinOp.eql active limit) ?_]
            simp [S.tst, syTst] at h9 ⊢
            simp [h8, h9]
          · rw [fin false ?_]
            simp [S.tst, syTst] at h9
            simp [h8]
            omega

end Go.Proofs.Ytmpbmfhlkhonkaa.AM
