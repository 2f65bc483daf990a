/- Contracts: valid groups, the program's own; equal groups; the law. -/
import Derived.Test.YtmpbmfhlkhonkaaF3
namespace Go.Proofs.Ytmpbmfhlkhonkaa.AM
open Go Go.Proofs

set_option maxRecDepth 100000
set_option linter.unusedVariables false
set_option linter.unusedSimpArgs false

theorem implGroupOk_sound {P : Program} (hP : P = Try.prog) (g : Grp) : ∃ b : Bool, (b = true ↔ g.ok) ∧ Sound P 27 false [.agg [.int .i64 g.node, .int .i64 g.limit, .int .i64 g.active, .ro (ints g.waits), .int .i64 g.first]] (· = .bool b) := by
  obtain ⟨b, hb⟩ : ∃ b : Bool, b = true ↔ g.ok := ⟨@decide g.ok (Classical.propDecidable _), by simp⟩
  refine ⟨b, hb, ?_⟩
  obtain ⟨node, limit, active, waits, first⟩ := g
  dsimp only
  have htab : TabOk P tab := hP ▸ tab_ok
  have hm : P.follows .mixedOrders = true := hP ▸ mixed_ok
  refine sound_by hm htab (hP ▸ Try.func27) rfl rfl rfl rfl (fun hv sBin sTst sNeg sConv sBeq sLen sOff sSpan sOfNat sCut sGet sLt sNat sRep sPart sAdd sApp sSet S => ?_)
  have hl : (ints waits).length ≤ maxLen := ((hv _ (List.mem_singleton.2 rfl)).agg (v := .ro (ints waits)) (by simp)).len
  rw [ints_length] at hl
  generalize hrows : ints waits = rows
  have hlen : rows.length = waits.length := by rw [← hrows]; simp [ints]
  have no : ¬ Grp.ok ⟨node, limit, active, waits, first⟩ → b = false := fun h => by cases b with | false => rfl | true => exact absurd (hb.1 rfl) h
  cbv
  by_cases h1 : 0 ≤ node ∧ node ≤ 59
  rotate_left
  · refine ACall.of (within_no hP h1) ⟨rfl, rfl, rfl, trivial⟩ rfl ?_
    cbv
    refine Done.bool ?_
    rw [no (fun h => h1 h.1)]
  refine ACall.of (within_yes hP h1) ⟨rfl, rfl, rfl, trivial⟩ rfl ?_
  cbv
  by_cases h2 : 0 ≤ limit ∧ limit ≤ 20
  rotate_left
  · refine ACall.of (within_no hP h2) ⟨rfl, rfl, rfl, trivial⟩ rfl ?_
    cbv
    refine Done.bool ?_
    rw [no (fun h => h2 h.2.1)]
  refine ACall.of (within_yes hP h2) ⟨rfl, rfl, rfl, trivial⟩ rfl ?_
  cbv
  by_cases h3 : 0 ≤ active ∧ active ≤ 60
  rotate_left
  · refine ACall.of (within_no hP h3) ⟨rfl, rfl, rfl, trivial⟩ rfl ?_
    cbv
    refine Done.bool ?_
    rw [no (fun h => h3 h.2.2.1)]
  refine ACall.of (within_yes hP h3) ⟨rfl, rfl, rfl, trivial⟩ rfl ?_
  cbv
  by_cases h5 : 0 ≤ first ∧ first ≤ 99
  rotate_left
  · refine ACall.of (within_no hP h5) ⟨rfl, rfl, rfl, trivial⟩ rfl ?_
    cbv
    refine Done.bool ?_
    rw [no (fun h => h5 h.2.2.2.2.1)]
  refine ACall.of (within_yes hP h5) ⟨rfl, rfl, rfl, trivial⟩ rfl ?_
  cbv
  split <;> rename_i h4 <;> rw [h4] <;> cbv
  · simp [S.tst, syTst] at h4
    split <;> rename_i h4' <;> rw [h4'] <;> cbv <;> simp [S.tst, syTst] at h4'
    · refine Done.bool ?_
      rw [no (fun h => h.2.2.2.1 ⟨h4, h4'⟩)]
    · have hlim : ¬ (0 < limit ∧ limit < active) := fun h => by omega
      refine ⟨⟨by rw [hlen]; exact hl⟩, ?_⟩
      split <;> rename_i h8 <;> rw [h8] <;> cbv <;> simp [S.tst, S.ofNat, S.len, syTst, hlen] at h8
      · have hne : waits ≠ [] := List.ne_nil_of_length_pos h8
        split <;> rename_i h9 <;> rw [h9] <;> cbv <;> simp [S.tst, syTst] at h9
        · refine Done.bool ?_
          rw [no (fun h => by
            obtain ⟨_, _, _, _, _, _, _, hw⟩ := h
            rcases hw with hw | ⟨hw, hw'⟩
            · exact hne hw
            · dsimp only at hw hw'; omega)]
        · split <;> rename_i h10 <;> rw [h10] <;> cbv <;> simp [S.tst, syTst] at h10
          · refine Done.bool ?_
            rw [no (fun h => by
              obtain ⟨_, _, _, _, _, _, _, hw⟩ := h
              rcases hw with hw | ⟨hw, hw'⟩
              · exact hne hw
              · dsimp only at hw hw'; omega)]
          · have hw : waits = [] ∨ 0 < limit ∧ active = limit := .inr (by omega)
            have okI : Grp.ok ⟨node, limit, active, waits, first⟩ ↔ (∀ t ∈ waits, 0 ≤ t ∧ t ≤ 59) ∧ waits.Nodup := ⟨fun h => ⟨h.2.2.2.2.2.1, h.2.2.2.2.2.2.1⟩, fun h => ⟨h1, h2, h3, hlim, h5, h.1, h.2, hw⟩⟩
            obtain ⟨N, hN⟩ : ∃ N : Int, N = (waits.length : Int) := ⟨_, rfl⟩
            refine ⟨⟨by rw [hlen]; exact hl⟩, ?_⟩
            refine ALoop.ind (fun i : Nat => ⟨75, [(58, .int .i64 i), (57, .int .i64 N), (56, .ro rows), (1, .ptr 1000000 0 0)], [(1000000, .box [.int .i64 node, .int .i64 limit, .int .i64 active, .ro rows, .int .i64 first])], [1000000]⟩) (fun i => i ≤ waits.length ∧ (∀ t ∈ waits.take i, 0 ≤ t ∧ t ≤ 59) ∧ (waits.take i).Nodup) (fun i => waits.length - i + 0) 0 htab hm S.eq (Weak.all rfl ?_ ?_) (by simp) ?_
            · exact ⟨⟨rfl, rfl⟩, ⟨congrArg (fun z => some (AV.int .i64 z)) (by simp [S.ofNat, S.len, hlen, hN]), rfl⟩, ⟨rfl, rfl⟩, ⟨rfl, rfl⟩, trivial⟩
            · exact ⟨⟨rfl, rfl, rfl⟩, trivial⟩
            · rintro i ⟨hi, hr, hnd⟩
              cbv
              split <;> rename_i h <;> rw [h] <;> cbv
              · have hlt : i < waits.length := by simpa [S.tst, syTst, hN] using h
                obtain ⟨y, hy⟩ : ∃ y, waits[i] = y := ⟨_, rfl⟩
                refine ⟨⟨by simp, [.int .i64 y], by rw [← hrows]; simp [ints, hlt, hy], rfl, ?_⟩⟩
                cbv
                by_cases h6 : 0 ≤ y ∧ y ≤ 59
                rotate_left
                · refine ACall.of (within_no hP h6) ⟨rfl, rfl, rfl, trivial⟩ rfl ?_
                  cbv
                  refine Done.bool ?_
                  rw [no (fun h => h6 (hy ▸ h.2.2.2.2.2.1 _ (List.getElem_mem hlt)))]
                refine ACall.of (within_yes hP h6) ⟨rfl, rfl, rfl, trivial⟩ rfl ?_
                cbv
                have hcut : sCut rows 0 (Int.ofNat i) = ints (waits.take i) := by simp [S.cut, ← hrows, ints, List.map_take]
                refine ⟨⟨⟨by simp, by simp, by simp [hlen]; omega⟩, by rw [← hrows]; intro r hr; obtain ⟨x, _, rfl⟩ := List.mem_map.1 hr; rfl⟩, ?_⟩
                by_cases h7 : y ∈ waits.take i
                · refine ACall.of (contains_yes hP h7) ⟨congrArg AV.ro hcut.symm, rfl, trivial⟩ rfl ?_
                  cbv
                  refine Done.bool ?_
                  rw [no (fun h => not_nodup_take hlt (hy ▸ h7) h.2.2.2.2.2.2.1)]
                · refine ACall.of (contains_no hP h7) ⟨congrArg AV.ro hcut.symm, rfl, trivial⟩ rfl ?_
                  cbv
                  refine ⟨i + 1, ?_, ⟨hlt, ?_, nodup_take_succ hlt hnd (hy ▸ h7)⟩, Weak.all rfl ?_ ?_⟩
                  · show waits.length - (i + 1) + 0 < waits.length - i + 0
                    omega
                  · show ∀ t ∈ waits.take (i + 1), 0 ≤ t ∧ t ≤ 59
                    intro t ht
                    rw [List.take_add_one, List.getElem?_eq_getElem hlt, hy] at ht
                    rcases List.mem_append.1 ht with ht | ht
                    · exact hr t ht
                    · simp at ht; subst ht; exact h6
                  · exact ⟨⟨congrArg (fun z => some (AV.int .i64 z)) (add_one S.bin hlt hl), rfl⟩, ⟨rfl, rfl⟩, ⟨rfl, rfl⟩, ⟨rfl, rfl⟩, trivial⟩
                  · exact ⟨⟨rfl, rfl, rfl⟩, trivial⟩
              · have hge : waits.length ≤ i := by simpa [S.tst, syTst, hN] using h
                rw [List.take_of_length_le hge] at hr hnd
                refine Done.bool ?_
                rw [hb.2 (okI.2 ⟨hr, hnd⟩)]
      · have hw : waits = [] ∨ 0 < limit ∧ active = limit := .inl h8
        have okI : Grp.ok ⟨node, limit, active, waits, first⟩ ↔ (∀ t ∈ waits, 0 ≤ t ∧ t ≤ 59) ∧ waits.Nodup := ⟨fun h => ⟨h.2.2.2.2.2.1, h.2.2.2.2.2.2.1⟩, fun h => ⟨h1, h2, h3, hlim, h5, h.1, h.2, hw⟩⟩
        obtain ⟨N, hN⟩ : ∃ N : Int, N = (waits.length : Int) := ⟨_, rfl⟩
        refine ⟨⟨by rw [hlen]; exact hl⟩, ?_⟩
        refine ALoop.ind (fun i : Nat => ⟨75, [(58, .int .i64 i), (57, .int .i64 N), (56, .ro rows), (1, .ptr 1000000 0 0)], [(1000000, .box [.int .i64 node, .int .i64 limit, .int .i64 active, .ro rows, .int .i64 first])], [1000000]⟩) (fun i => i ≤ waits.length ∧ (∀ t ∈ waits.take i, 0 ≤ t ∧ t ≤ 59) ∧ (waits.take i).Nodup) (fun i => waits.length - i + 0) 0 htab hm S.eq (Weak.all rfl ?_ ?_) (by simp) ?_
        · exact ⟨⟨rfl, rfl⟩, ⟨congrArg (fun z => some (AV.int .i64 z)) (by simp [S.ofNat, S.len, hlen, hN]), rfl⟩, ⟨rfl, rfl⟩, ⟨rfl, rfl⟩, trivial⟩
        · exact ⟨⟨rfl, rfl, rfl⟩, trivial⟩
        · rintro i ⟨hi, hr, hnd⟩
          cbv
          split <;> rename_i h <;> rw [h] <;> cbv
          · have hlt : i < waits.length := by simpa [S.tst, syTst, hN] using h
            obtain ⟨y, hy⟩ : ∃ y, waits[i] = y := ⟨_, rfl⟩
            refine ⟨⟨by simp, [.int .i64 y], by rw [← hrows]; simp [ints, hlt, hy], rfl, ?_⟩⟩
            cbv
            by_cases h6 : 0 ≤ y ∧ y ≤ 59
            rotate_left
            · refine ACall.of (within_no hP h6) ⟨rfl, rfl, rfl, trivial⟩ rfl ?_
              cbv
              refine Done.bool ?_
              rw [no (fun h => h6 (hy ▸ h.2.2.2.2.2.1 _ (List.getElem_mem hlt)))]
            refine ACall.of (within_yes hP h6) ⟨rfl, rfl, rfl, trivial⟩ rfl ?_
            cbv
            have hcut : sCut rows 0 (Int.ofNat i) = ints (waits.take i) := by simp [S.cut, ← hrows, ints, List.map_take]
            refine ⟨⟨⟨by simp, by simp, by simp [hlen]; omega⟩, by rw [← hrows]; intro r hr; obtain ⟨x, _, rfl⟩ := List.mem_map.1 hr; rfl⟩, ?_⟩
            by_cases h7 : y ∈ waits.take i
            · refine ACall.of (contains_yes hP h7) ⟨congrArg AV.ro hcut.symm, rfl, trivial⟩ rfl ?_
              cbv
              refine Done.bool ?_
              rw [no (fun h => not_nodup_take hlt (hy ▸ h7) h.2.2.2.2.2.2.1)]
            · refine ACall.of (contains_no hP h7) ⟨congrArg AV.ro hcut.symm, rfl, trivial⟩ rfl ?_
              cbv
              refine ⟨i + 1, ?_, ⟨hlt, ?_, nodup_take_succ hlt hnd (hy ▸ h7)⟩, Weak.all rfl ?_ ?_⟩
              · show waits.length - (i + 1) + 0 < waits.length - i + 0
                omega
              · show ∀ t ∈ waits.take (i + 1), 0 ≤ t ∧ t ≤ 59
                intro t ht
                rw [List.take_add_one, List.getElem?_eq_getElem hlt, hy] at ht
                rcases List.mem_append.1 ht with ht | ht
                · exact hr t ht
                · simp at ht; subst ht; exact h6
              · exact ⟨⟨congrArg (fun z => some (AV.int .i64 z)) (add_one S.bin hlt hl), rfl⟩, ⟨rfl, rfl⟩, ⟨rfl, rfl⟩, ⟨rfl, rfl⟩, trivial⟩
              · exact ⟨⟨rfl, rfl, rfl⟩, trivial⟩
          · have hge : waits.length ≤ i := by simpa [S.tst, syTst, hN] using h
            rw [List.take_of_length_le hge] at hr hnd
            refine Done.bool ?_
            rw [hb.2 (okI.2 ⟨hr, hnd⟩)]
  · simp [S.tst, syTst] at h4
    have hlim : ¬ (0 < limit ∧ limit < active) := fun h => by omega
    refine ⟨⟨by rw [hlen]; exact hl⟩, ?_⟩
    split <;> rename_i h8 <;> rw [h8] <;> cbv <;> simp [S.tst, S.ofNat, S.len, syTst, hlen] at h8
    · have hne : waits ≠ [] := List.ne_nil_of_length_pos h8
      split <;> rename_i h9 <;> rw [h9] <;> cbv <;> simp [S.tst, syTst] at h9
      · refine Done.bool ?_
        rw [no (fun h => by
          obtain ⟨_, _, _, _, _, _, _, hw⟩ := h
          rcases hw with hw | ⟨hw, hw'⟩
          · exact hne hw
          · dsimp only at hw hw'; omega)]
      · split <;> rename_i h10 <;> rw [h10] <;> cbv <;> simp [S.tst, syTst] at h10
        · refine Done.bool ?_
          rw [no (fun h => by
            obtain ⟨_, _, _, _, _, _, _, hw⟩ := h
            rcases hw with hw | ⟨hw, hw'⟩
            · exact hne hw
            · dsimp only at hw hw'; omega)]
        · have hw : waits = [] ∨ 0 < limit ∧ active = limit := .inr (by omega)
          have okI : Grp.ok ⟨node, limit, active, waits, first⟩ ↔ (∀ t ∈ waits, 0 ≤ t ∧ t ≤ 59) ∧ waits.Nodup := ⟨fun h => ⟨h.2.2.2.2.2.1, h.2.2.2.2.2.2.1⟩, fun h => ⟨h1, h2, h3, hlim, h5, h.1, h.2, hw⟩⟩
          obtain ⟨N, hN⟩ : ∃ N : Int, N = (waits.length : Int) := ⟨_, rfl⟩
          refine ⟨⟨by rw [hlen]; exact hl⟩, ?_⟩
          refine ALoop.ind (fun i : Nat => ⟨75, [(58, .int .i64 i), (57, .int .i64 N), (56, .ro rows), (1, .ptr 1000000 0 0)], [(1000000, .box [.int .i64 node, .int .i64 limit, .int .i64 active, .ro rows, .int .i64 first])], [1000000]⟩) (fun i => i ≤ waits.length ∧ (∀ t ∈ waits.take i, 0 ≤ t ∧ t ≤ 59) ∧ (waits.take i).Nodup) (fun i => waits.length - i + 0) 0 htab hm S.eq (Weak.all rfl ?_ ?_) (by simp) ?_
          · exact ⟨⟨rfl, rfl⟩, ⟨congrArg (fun z => some (AV.int .i64 z)) (by simp [S.ofNat, S.len, hlen, hN]), rfl⟩, ⟨rfl, rfl⟩, ⟨rfl, rfl⟩, trivial⟩
          · exact ⟨⟨rfl, rfl, rfl⟩, trivial⟩
          · rintro i ⟨hi, hr, hnd⟩
            cbv
            split <;> rename_i h <;> rw [h] <;> cbv
            · have hlt : i < waits.length := by simpa [S.tst, syTst, hN] using h
              obtain ⟨y, hy⟩ : ∃ y, waits[i] = y := ⟨_, rfl⟩
              refine ⟨⟨by simp, [.int .i64 y], by rw [← hrows]; simp [ints, hlt, hy], rfl, ?_⟩⟩
              cbv
              by_cases h6 : 0 ≤ y ∧ y ≤ 59
              rotate_left
              · refine ACall.of (within_no hP h6) ⟨rfl, rfl, rfl, trivial⟩ rfl ?_
                cbv
                refine Done.bool ?_
                rw [no (fun h => h6 (hy ▸ h.2.2.2.2.2.1 _ (List.getElem_mem hlt)))]
              refine ACall.of (within_yes hP h6) ⟨rfl, rfl, rfl, trivial⟩ rfl ?_
              cbv
              have hcut : sCut rows 0 (Int.ofNat i) = ints (waits.take i) := by simp [S.cut, ← hrows, ints, List.map_take]
              refine ⟨⟨⟨by simp, by simp, by simp [hlen]; omega⟩, by rw [← hrows]; intro r hr; obtain ⟨x, _, rfl⟩ := List.mem_map.1 hr; rfl⟩, ?_⟩
              by_cases h7 : y ∈ waits.take i
              · refine ACall.of (contains_yes hP h7) ⟨congrArg AV.ro hcut.symm, rfl, trivial⟩ rfl ?_
                cbv
                refine Done.bool ?_
                rw [no (fun h => not_nodup_take hlt (hy ▸ h7) h.2.2.2.2.2.2.1)]
              · refine ACall.of (contains_no hP h7) ⟨congrArg AV.ro hcut.symm, rfl, trivial⟩ rfl ?_
                cbv
                refine ⟨i + 1, ?_, ⟨hlt, ?_, nodup_take_succ hlt hnd (hy ▸ h7)⟩, Weak.all rfl ?_ ?_⟩
                · show waits.length - (i + 1) + 0 < waits.length - i + 0
                  omega
                · show ∀ t ∈ waits.take (i + 1), 0 ≤ t ∧ t ≤ 59
                  intro t ht
                  rw [List.take_add_one, List.getElem?_eq_getElem hlt, hy] at ht
                  rcases List.mem_append.1 ht with ht | ht
                  · exact hr t ht
                  · simp at ht; subst ht; exact h6
                · exact ⟨⟨congrArg (fun z => some (AV.int .i64 z)) (add_one S.bin hlt hl), rfl⟩, ⟨rfl, rfl⟩, ⟨rfl, rfl⟩, ⟨rfl, rfl⟩, trivial⟩
                · exact ⟨⟨rfl, rfl, rfl⟩, trivial⟩
            · have hge : waits.length ≤ i := by simpa [S.tst, syTst, hN] using h
              rw [List.take_of_length_le hge] at hr hnd
              refine Done.bool ?_
              rw [hb.2 (okI.2 ⟨hr, hnd⟩)]
    · have hw : waits = [] ∨ 0 < limit ∧ active = limit := .inl h8
      have okI : Grp.ok ⟨node, limit, active, waits, first⟩ ↔ (∀ t ∈ waits, 0 ≤ t ∧ t ≤ 59) ∧ waits.Nodup := ⟨fun h => ⟨h.2.2.2.2.2.1, h.2.2.2.2.2.2.1⟩, fun h => ⟨h1, h2, h3, hlim, h5, h.1, h.2, hw⟩⟩
      obtain ⟨N, hN⟩ : ∃ N : Int, N = (waits.length : Int) := ⟨_, rfl⟩
      refine ⟨⟨by rw [hlen]; exact hl⟩, ?_⟩
      refine ALoop.ind (fun i : Nat => ⟨75, [(58, .int .i64 i), (57, .int .i64 N), (56, .ro rows), (1, .ptr 1000000 0 0)], [(1000000, .box [.int .i64 node, .int .i64 limit, .int .i64 active, .ro rows, .int .i64 first])], [1000000]⟩) (fun i => i ≤ waits.length ∧ (∀ t ∈ waits.take i, 0 ≤ t ∧ t ≤ 59) ∧ (waits.take i).Nodup) (fun i => waits.length - i + 0) 0 htab hm S.eq (Weak.all rfl ?_ ?_) (by simp) ?_
      · exact ⟨⟨rfl, rfl⟩, ⟨congrArg (fun z => some (AV.int .i64 z)) (by simp [S.ofNat, S.len, hlen, hN]), rfl⟩, ⟨rfl, rfl⟩, ⟨rfl, rfl⟩, trivial⟩
      · exact ⟨⟨rfl, rfl, rfl⟩, trivial⟩
      · rintro i ⟨hi, hr, hnd⟩
        cbv
        split <;> rename_i h <;> rw [h] <;> cbv
        · have hlt : i < waits.length := by simpa [S.tst, syTst, hN] using h
          obtain ⟨y, hy⟩ : ∃ y, waits[i] = y := ⟨_, rfl⟩
          refine ⟨⟨by simp, [.int .i64 y], by rw [← hrows]; simp [ints, hlt, hy], rfl, ?_⟩⟩
          cbv
          by_cases h6 : 0 ≤ y ∧ y ≤ 59
          rotate_left
          · refine ACall.of (within_no hP h6) ⟨rfl, rfl, rfl, trivial⟩ rfl ?_
            cbv
            refine Done.bool ?_
            rw [no (fun h => h6 (hy ▸ h.2.2.2.2.2.1 _ (List.getElem_mem hlt)))]
          refine ACall.of (within_yes hP h6) ⟨rfl, rfl, rfl, trivial⟩ rfl ?_
          cbv
          have hcut : sCut rows 0 (Int.ofNat i) = ints (waits.take i) := by simp [S.cut, ← hrows, ints, List.map_take]
          refine ⟨⟨⟨by simp, by simp, by simp [hlen]; omega⟩, by rw [← hrows]; intro r hr; obtain ⟨x, _, rfl⟩ := List.mem_map.1 hr; rfl⟩, ?_⟩
          by_cases h7 : y ∈ waits.take i
          · refine ACall.of (contains_yes hP h7) ⟨congrArg AV.ro hcut.symm, rfl, trivial⟩ rfl ?_
            cbv
            refine Done.bool ?_
            rw [no (fun h => not_nodup_take hlt (hy ▸ h7) h.2.2.2.2.2.2.1)]
          · refine ACall.of (contains_no hP h7) ⟨congrArg AV.ro hcut.symm, rfl, trivial⟩ rfl ?_
            cbv
            refine ⟨i + 1, ?_, ⟨hlt, ?_, nodup_take_succ hlt hnd (hy ▸ h7)⟩, Weak.all rfl ?_ ?_⟩
            · show waits.length - (i + 1) + 0 < waits.length - i + 0
              omega
            · show ∀ t ∈ waits.take (i + 1), 0 ≤ t ∧ t ≤ 59
              intro t ht
              rw [List.take_add_one, List.getElem?_eq_getElem hlt, hy] at ht
              rcases List.mem_append.1 ht with ht | ht
              · exact hr t ht
              · simp at ht; subst ht; exact h6
            · exact ⟨⟨congrArg (fun z => some (AV.int .i64 z)) (add_one S.bin hlt hl), rfl⟩, ⟨rfl, rfl⟩, ⟨rfl, rfl⟩, ⟨rfl, rfl⟩, trivial⟩
            · exact ⟨⟨rfl, rfl, rfl⟩, trivial⟩
        · have hge : waits.length ≤ i := by simpa [S.tst, syTst, hN] using h
          rw [List.take_of_length_le hge] at hr hnd
          refine Done.bool ?_
          rw [hb.2 (okI.2 ⟨hr, hnd⟩)]

end Go.Proofs.Ytmpbmfhlkhonkaa.AM
