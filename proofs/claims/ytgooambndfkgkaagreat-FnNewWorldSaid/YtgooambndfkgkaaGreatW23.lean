/- Programs for new worlds drawn; the law FnNewWorld. (printed by gw22.py) -/
import Derived.Test.YtgooambndfkgkaaGreatW22
namespace Go.Proofs.YtgooambndfkgkaaGreat.AM
open Go Go.Proofs

set_option maxRecDepth 100000
set_option maxHeartbeats 4000000
set_option linter.unusedVariables false
set_option linter.unusedSimpArgs false

variable {P : Program} {A : Sy}

theorem Row.atE {T : Nat → Option TI} (C : Cx P T A) {α : Type} {f : α → List AV} {l : List α} {row : Nat} {K : List AV → Prop} {x : α} (hx : l[row]? = some x) (h : K (f x)) : Row (A.enc f l) row K := by
  refine ⟨f x, ?_, h⟩
  rw [C.enc]; simp [hx]

/-- What a program's cell holds. -/
def PC.prog : PC → List Ins
  | .own l => l
  | _ => []
theorem still_PC (S : Se P A) {c : PC} (h : c.fre) : (cPC A c).map AV.still = roProg A c.prog := by
  cases c with
  | none => show [AV.ro []] = [AV.ro (A.enc cIns [])]; rw [S.cx.enc]; rfl
  | own l => rfl
  | ref => exact h.elim
theorem lendPC (S : Se P A) {st : St} {no : Nat → Bool} {m : List PC} {n : Nat} (hn : n = m.length) (h : ∀ c ∈ m, c.fre) : lendRows st no false (((A.enc (cPC A) m).drop 0).take n) (A.enc (roProg A) (m.map PC.prog)) := by
  have e : ((A.enc (cPC A) m).drop 0).take n = A.enc (cPC A) m := (S.cx.lendEq hn).symm
  rw [e]
  refine .inl ⟨fun r hr v hv => ?_, ?_⟩
  · rw [S.cx.enc] at hr
    obtain ⟨x, hx, rfl⟩ := List.mem_map.1 hr
    have := h x hx
    cases x <;> first | exact this.elim | (simp only [cPC, List.mem_cons, List.not_mem_nil, or_false] at hv; subst hv; trivial)
  · show A.enc (roProg A) (m.map PC.prog) = (A.enc (cPC A) m).map fun r => r.map AV.still
    rw [S.cx.enc, S.cx.enc, List.map_map, List.map_map]
    exact List.map_congr_left fun x hx => (still_PC S (h x hx)).symm

theorem freePC (S : Se P A) {al : Bool} {m : List PC} (h : ∀ c ∈ m, c.fre) : FreeRows al (A.enc (cPC A) m) := fun r hr v hv => by
  rw [S.cx.enc] at hr
  obtain ⟨x, hx, rfl⟩ := List.mem_map.1 hr
  have := h x hx
  cases x <;> first | exact this.elim | (simp only [cPC, List.mem_cons, List.not_mem_nil, or_false] at hv; subst hv; trivial)


theorem l13DrawProgs_c (S : Se P A) (code : List Int) (hb : code.length ≤ 4096) (hc : ∀ b ∈ code, 0 ≤ b ∧ b ≤ 255) (i h : Int) (hi : 0 ≤ i) : SoundM P 24 true [.ptr 1000 0 0] [.box [.ro (A.enc cByte code), .int .i64 i, .int .i64 h]]
    (fun v os => ∃ (m : List PC) (i' h' : Int), (m.length ≤ 4 ∧ (∀ c ∈ m, c.fre) ∧ ∀ c ∈ m, c.prog.length ≤ 12) ∧ 0 ≤ i' ∧ v = .own 1 false (A.enc (cPC A) m) ∧ os = [some (.box [.ro (A.enc cByte code), .int .i64 i', .int .i64 h'])]) := by
  obtain ⟨i0, rfl⟩ : ∃ x, x = i := ⟨_, rfl⟩
  obtain ⟨h0, rfl⟩ : ∃ x, x = h := ⟨_, rfl⟩
  have hi0 := hi
  refine S.cx.byS [99999] (S.prog ▸ Tryz.func24) rfl rfl rfl rfl (fun ln hln hv ho => ?_)
  (cbv; repeat (refine Later.mk ?_; cbv))
  clear hv ho
  refine ACall.valN (r := rCur) (os := oCur A code) (dp := false) S.cx (l1Below_c S code hb hc i0 h0 hi0 (4)) (.of rfl (by repeat' (first | exact trivial | exact rfl | exact Nat.le_refl _ | exact S.ga | exact S.gb ‹_› | exact S.gc ‹_› | exact S.gd | exact S.ge | exact S.gf ‹_› | exact S.gg ‹_› | exact S.gh | exact .inl rfl | exact S.gi ‹_› | exact S.gj ‹_› | exact S.gk | exact S.gl | refine ⟨?_, ?_⟩))) rfl (fun ln hln x hx => ⟨rfl, ?_⟩)
  obtain ⟨n, i1, h1⟩ := x
  (cbv; repeat (refine Later.mk ?_; cbv))
  have hk1 := belowF_ok code hb hc i0 h0 hi0 (4)
  rw [← hx] at hk1
  clear hx
  dsimp only at hk1
  have hi1 := hk1.2
  replace hk1 := hk1.1
  have hn0 := hk1.2.1 (by decide)
  refine Arith.go (by omega) (fun n1 hn1 => ?_); (cbv; repeat (refine Later.mk ?_; cbv))
  replace hn1 : n1 = 1 + n := hn1
  refine ALoop.pre (Less.initE S.cx (cPC A) 999000000 1 false (t := 3) rfl (by first | exact .inr rfl | exact .inl rfl) rfl) ?_
  (cbv; repeat (refine Later.mk ?_; cbv))
  refine ALoop.goT (ι := List PC × Nat × Int × Int × Int) (fun i => [(4, .int .i64 i.2.2.1), (3, .ref false 999000000 0 i.2.1)]) [5, 6] [999000000, 1000] (fun i => [(999000000, .arr 1 false (A.enc (cPC A) i.1)), (1000, .box [.ro (A.enc cByte code), .int .i64 i.2.2.2.1, .int .i64 i.2.2.2.2])]) (fun i => i.2.1 = i.1.length ∧ (i.2.2.1 ≤ 4 ∧ 0 ≤ i.2.2.1) ∧ (i.1.length : Int) + i.2.2.1 ≤ 4 ∧ 0 ≤ i.2.2.2.1 ∧ (∀ c ∈ i.1, c.fre) ∧ ∀ c ∈ i.1, c.prog.length ≤ 12) (fun i => i.2.2.1.toNat) (([], 0, n1, i1, h1)) [99999] S.cx.tab S.cx.mix S.eq ?_ ?_ ?_
  · exact ⟨rfl, ⟨by dsimp only; omega, by dsimp only; omega⟩, by dsimp only; simp <;> omega, hi1, fun c hc => (by cases hc), fun c hc => (by cases hc)⟩
  · ((cbv; repeat (refine Later.mk ?_; cbv)); refine Less.to [] rfl rfl ?_ ?_ <;> repeat' (first | exact trivial | exact ⟨rfl, rfl⟩ | exact ⟨_, rfl, Nat.zero_le _, rfl⟩ | apply And.intro | exact rfl))
    · exact noRefsPC S.cx (fun c hc => by cases hc)
    · exact noRefsNil
  rintro ⟨m, k, q, i3, h3⟩ hk
  dsimp only at hk
  obtain ⟨hkl, hq, hlm, hi3, hfre, hsh⟩ := hk
  have hlm : m.length + q.toNat ≤ 4 := by lia
  refine Rnd.mk ?_; (cbv; repeat (refine Later.mk ?_; cbv))
  refine Test.gtr (fun g => ?_) (fun g => ?_) <;> (cbv; repeat (refine Later.mk ?_; cbv))
  rotate_left
  · exact Done.to (.own 1 false (A.enc (cPC A) m)) [some (.box [.ro (A.enc cByte code), .int .i64 i3, .int .i64 h3])] rfl ⟨⟨rfl, rfl⟩, ⟨S.cx.lendLe hkl, S.cx.lendEq hkl⟩, freePC S hfre⟩ ⟨⟨⟨rfl, .inl rfl⟩, rfl, rfl, trivial⟩, trivial⟩ ⟨m, i3, h3, ⟨by omega, hfre, hsh⟩, hi3, rfl, rfl⟩
  refine ACall.ofN (dp := false) S.cx (l9Draw_c S code hb hc i3 h3 hi3) (.of rfl (by repeat' (first | exact trivial | exact rfl | exact Nat.le_refl _ | exact S.ga | exact S.gb ‹_› | exact S.gc ‹_› | exact S.gd | exact S.ge | exact S.gf ‹_› | exact S.gg ‹_› | exact S.gh | exact .inl rfl | exact S.gi ‹_› | exact S.gj ‹_› | exact S.gk | exact S.gl | refine ⟨?_, ?_⟩))) (fun ln hln v os hv => ?_)
  obtain ⟨l0, i4, h4, hl12, hi4, rfl, rfl⟩ := hv
  refine ⟨rfl, ?_⟩; (cbv; repeat (refine Later.mk ?_; cbv))
  have hN := hln cIns l0
  generalize ln (A.enc cIns l0) = N at hN ⊢
  repeat (refine Later.mk ?_; (cbv; repeat (refine Later.mk ?_; cbv)))
  refine ALoop.goT (ι := Int × List Ins × Int × Int) (fun i => [(6, .int .i64 i.1)]) [] [6010000, 1000] (fun i => [(6010000, .arr 3 true (A.enc cIns i.2.1)), (1000, .box [.ro (A.enc cByte code), .int .i64 i.2.2.1, .int .i64 i.2.2.2])]) (fun i => 0 ≤ i.1 ∧ i.1.toNat ≤ N ∧ i.2.1.length = N ∧ 0 ≤ i.2.2.1) (fun i => N - i.1.toNat) ((0, l0, i4, h4)) [99999] S.cx.tab S.cx.mix S.eq ?_ ?_ ?_
  · exact ⟨Int.le_refl _, Nat.zero_le _, hN.symm, hi4⟩
  · ((cbv; repeat (refine Later.mk ?_; cbv)); refine Less.to [] rfl rfl ?_ ?_ <;> repeat' (first | exact trivial | exact ⟨rfl, rfl⟩ | exact ⟨_, rfl, Nat.zero_le _, rfl⟩ | apply And.intro | exact rfl))
    · exact noRefsPC S.cx hfre
    · exact noRefsNil
  rintro ⟨j, l, i0, h0⟩ hk
  dsimp only at hk
  obtain ⟨hj0, hjN, hlN, hi0⟩ := hk
  refine Rnd.mk ?_; (cbv; repeat (refine Later.mk ?_; cbv))
  refine Len.nat (fun M hM hm => ?_); (cbv; repeat (refine Later.mk ?_; cbv)); repeat (refine Later.mk ?_; (cbv; repeat (refine Later.mk ?_; cbv)))
  refine Test.lss (fun g2 => ?_) (fun g2 => ?_) <;> (cbv; repeat (refine Later.mk ?_; cbv))
  rotate_left
  · refine Part.one ?_; (cbv; repeat (refine Later.mk ?_; cbv))
    refine AppRef.pushF S.cx (PC.ref 6010000 N) hkl rfl rfl rfl (fun v hv => by rw [List.mem_singleton.1 hv]; rfl) (by simp only [maxBytes]; omega) (fun n' m' hm' hn' => ?_); (cbv; repeat (refine Later.mk ?_; cbv))
    refine Arith.go (by omega) (fun q' hq' => ?_); (cbv; repeat (refine Later.mk ?_; cbv))
    replace hq' : q' = q - 1 := hq'
    obtain ⟨m2, hm2⟩ : ∃ m2, m2 = m'.set m.length (PC.own l) := ⟨_, rfl⟩
    have hmx : m'[m.length]? = some (PC.ref 6010000 N) := by rw [hm']; simp
    have hm3 : m2 = m ++ [PC.own l] := by rw [hm2, hm']; simp
    have hml : m2.length = m.length + 1 := by rw [hm3]; simp
    have hfre2 : ∀ c ∈ m2, c.fre := fun c hc => by
      rw [hm3] at hc
      rcases List.mem_append.1 hc with hc | hc
      · exact hfre c hc
      · rw [List.mem_singleton.1 hc]; trivial
    refine Again.on (m2, n', q', i0, h0) (by dsimp only; omega) ⟨by dsimp only; rw [hn', set_len hm2], ⟨by dsimp only; omega, by dsimp only; omega⟩, by dsimp only; lia, hi0, hfre2, fun c hc => ?_⟩ ?_
    · dsimp only at hc
      rw [hm3] at hc
      rcases List.mem_append.1 hc with hc | hc
      · exact hsh c hc
      · rw [List.mem_singleton.1 hc]; show l.length ≤ 12; omega
    refine Less.trans (Less.fold S.cx (id := 14030000) (L := 6010000) (i := m.length) (j := 0) (m := m') (PC.ref 6010000 N) (PC.own l) rfl hmx rfl rfl hlN.symm rfl rfl hm2) ?_
    ((cbv; repeat (refine Later.mk ?_; cbv)); refine Less.to [(999000000, (14030000, 0))] rfl rfl ?_ ?_ <;> repeat' (first | exact trivial | exact ⟨rfl, rfl⟩ | exact ⟨_, rfl, Nat.zero_le _, rfl⟩ | apply And.intro | exact rfl))
    · exact noRefsPC S.cx hfre2
    · exact noRefsNil
  obtain ⟨x, hx⟩ := get_of_lt (l := l) (i := j.toNat) (by omega)
  have hjl : j.toNat < l.length := by omega
  obtain ⟨op, a, b⟩ := x
  refine ElemRef.go rfl hj0 (by omega) (by rw [S.cx.lenE']; omega) (fun row hrow => ?_); (cbv; repeat (refine Later.mk ?_; cbv))
  obtain rfl : row = j.toNat := by omega
  refine Row.atE S.cx hx ?_; (cbv; repeat (refine Later.mk ?_; cbv)); repeat (refine Later.mk ?_; (cbv; repeat (refine Later.mk ?_; cbv)))
  refine Test.eql (fun e6 => ?_) (fun e6 => ?_) <;> (cbv; repeat (refine Later.mk ?_; cbv))
  · skip
    refine ACall.valN (r := rCur) (os := oCur A code) (dp := false) S.cx (l1Below_c S code hb hc i0 h0 hi0 (3)) (.of rfl (by repeat' (first | exact trivial | exact rfl | exact Nat.le_refl _ | exact S.ga | exact S.gb ‹_› | exact S.gc ‹_› | exact S.gd | exact S.ge | exact S.gf ‹_› | exact S.gg ‹_› | exact S.gh | exact .inl rfl | exact S.gi ‹_› | exact S.gj ‹_› | exact S.gk | exact S.gl | refine ⟨?_, ?_⟩))) rfl (fun ln hln x hx => ⟨rfl, ?_⟩)
    obtain ⟨c, i1, h1⟩ := x
    (cbv; repeat (refine Later.mk ?_; cbv))
    have hk1 := belowF_ok code hb hc i0 h0 hi0 (3)
    rw [← hx] at hk1
    clear hx
    dsimp only at hk1
    have hi1 := hk1.2
    clear hk1
    refine ElemRef.go rfl hj0 (by omega) (by rw [S.cx.lenE']; omega) (fun row hrow => ?_); (cbv; repeat (refine Later.mk ?_; cbv))
    obtain rfl : row = j.toNat := by omega
    refine RowSet.enc S.cx _ (⟨op, a, c⟩ : Ins) hx rfl (Nat.le_of_ble_eq_true rfl) rfl (fun l2 hl2 => ?_); (cbv; repeat (refine Later.mk ?_; cbv)); repeat (refine Later.mk ?_; (cbv; repeat (refine Later.mk ?_; cbv)))
    have hx2 : l2[j.toNat]? = some (⟨op, a, c⟩ : Ins) := set_at hl2 hjl
    have hjl2 : l2.length = N := by rw [set_len hl2]; exact hlN
    refine ElemRef.go rfl hj0 (by omega) (by rw [S.cx.lenE']; omega) (fun row hrow => ?_); (cbv; repeat (refine Later.mk ?_; cbv))
    obtain rfl : row = j.toNat := by omega
    refine Row.atE S.cx hx2 ?_; (cbv; repeat (refine Later.mk ?_; cbv)); repeat (refine Later.mk ?_; (cbv; repeat (refine Later.mk ?_; cbv)))
    refine Test.eql (fun z1 => ?_) (fun z1 => ?_) <;> (cbv; repeat (refine Later.mk ?_; cbv))
    rotate_left
    · skip
      refine Arith.go (by omega) (fun j' hj' => ?_); (cbv; repeat (refine Later.mk ?_; cbv))
      replace hj' : j' = j + 1 := hj'
      refine Again.on (j', l2, i1, h1) (by dsimp only; omega) ⟨by dsimp only; omega, by dsimp only; omega, hjl2, hi1⟩ ?_
      ((cbv; repeat (refine Later.mk ?_; cbv)); refine Less.to [] rfl rfl ?_ ?_ <;> repeat' (first | exact trivial | exact ⟨rfl, rfl⟩ | exact ⟨_, rfl, Nat.zero_le _, rfl⟩ | apply And.intro | exact rfl))
      · exact noRefsPC S.cx hfre
      · exact noRefsNil
    refine ACall.valN (r := rCurB) (os := oCur A code) (dp := false) S.cx (l1Once_c S code hb hc i1 h1 hi1 (3)) (.of rfl (by repeat' (first | exact trivial | exact rfl | exact Nat.le_refl _ | exact S.ga | exact S.gb ‹_› | exact S.gc ‹_› | exact S.gd | exact S.ge | exact S.gf ‹_› | exact S.gg ‹_› | exact S.gh | exact .inl rfl | exact S.gi ‹_› | exact S.gj ‹_› | exact S.gk | exact S.gl | refine ⟨?_, ?_⟩))) rfl (fun ln hln x hx => ⟨rfl, ?_⟩)
    obtain ⟨bb, i2, h2⟩ := x
    (cbv; repeat (refine Later.mk ?_; cbv))
    have hk2 := onceF_ok code hb hc i1 h1 hi1 (3)
    rw [← hx] at hk2
    clear hx
    dsimp only at hk2
    have hi2 := hk2.2
    clear hk2
    cases bb <;> ((cbv; repeat (refine Later.mk ?_; cbv)); repeat (refine Later.mk ?_; (cbv; repeat (refine Later.mk ?_; cbv))))
    rotate_left
    · skip
      refine Arith.go (by omega) (fun j' hj' => ?_); (cbv; repeat (refine Later.mk ?_; cbv))
      replace hj' : j' = j + 1 := hj'
      refine Again.on (j', l2, i2, h2) (by dsimp only; omega) ⟨by dsimp only; omega, by dsimp only; omega, hjl2, hi2⟩ ?_
      ((cbv; repeat (refine Later.mk ?_; cbv)); refine Less.to [] rfl rfl ?_ ?_ <;> repeat' (first | exact trivial | exact ⟨rfl, rfl⟩ | exact ⟨_, rfl, Nat.zero_le _, rfl⟩ | apply And.intro | exact rfl))
      · exact noRefsPC S.cx hfre
      · exact noRefsNil
    refine ACall.valN (r := rCur) (os := oCur A code) (dp := false) S.cx (l1Below_c S code hb hc i2 h2 hi2 (5)) (.of rfl (by repeat' (first | exact trivial | exact rfl | exact Nat.le_refl _ | exact S.ga | exact S.gb ‹_› | exact S.gc ‹_› | exact S.gd | exact S.ge | exact S.gf ‹_› | exact S.gg ‹_› | exact S.gh | exact .inl rfl | exact S.gi ‹_› | exact S.gj ‹_› | exact S.gk | exact S.gl | refine ⟨?_, ?_⟩))) rfl (fun ln hln x hx => ⟨rfl, ?_⟩)
    obtain ⟨d, i3, h3⟩ := x
    (cbv; repeat (refine Later.mk ?_; cbv))
    have hk3 := belowF_ok code hb hc i2 h2 hi2 (5)
    rw [← hx] at hk3
    clear hx
    dsimp only at hk3
    have hi3 := hk3.2
    clear hk3
    refine ElemRef.go rfl hj0 (by omega) (by rw [S.cx.lenE']; omega) (fun row hrow => ?_); (cbv; repeat (refine Later.mk ?_; cbv))
    obtain rfl : row = j.toNat := by omega
    refine RowSet.enc S.cx _ (⟨3, 0, d⟩ : Ins) hx2 rfl (Nat.le_of_ble_eq_true rfl) rfl (fun w hw => ?_); (cbv; repeat (refine Later.mk ?_; cbv)); repeat (refine Later.mk ?_; (cbv; repeat (refine Later.mk ?_; cbv)))
    refine Arith.go (by omega) (fun j' hj' => ?_); (cbv; repeat (refine Later.mk ?_; cbv))
    replace hj' : j' = j + 1 := hj'
    refine Again.on (j', w, i3, h3) (by dsimp only; omega) ⟨by dsimp only; omega, by dsimp only; omega, by dsimp only; rw [set_len hw]; rw [set_len hl2]; exact hlN, hi3⟩ ?_
    ((cbv; repeat (refine Later.mk ?_; cbv)); refine Less.to [] rfl rfl ?_ ?_ <;> repeat' (first | exact trivial | exact ⟨rfl, rfl⟩ | exact ⟨_, rfl, Nat.zero_le _, rfl⟩ | apply And.intro | exact rfl))
    · exact noRefsPC S.cx hfre
    · exact noRefsNil
  refine ElemRef.go rfl hj0 (by omega) (by rw [S.cx.lenE']; omega) (fun row hrow => ?_); (cbv; repeat (refine Later.mk ?_; cbv))
  obtain rfl : row = j.toNat := by omega
  refine Row.atE S.cx hx ?_; (cbv; repeat (refine Later.mk ?_; cbv)); repeat (refine Later.mk ?_; (cbv; repeat (refine Later.mk ?_; cbv)))
  refine Test.eql (fun e7 => ?_) (fun e7 => ?_) <;> (cbv; repeat (refine Later.mk ?_; cbv))
  · skip
    refine ACall.valN (r := rCur) (os := oCur A code) (dp := false) S.cx (l1Below_c S code hb hc i0 h0 hi0 (3)) (.of rfl (by repeat' (first | exact trivial | exact rfl | exact Nat.le_refl _ | exact S.ga | exact S.gb ‹_› | exact S.gc ‹_› | exact S.gd | exact S.ge | exact S.gf ‹_› | exact S.gg ‹_› | exact S.gh | exact .inl rfl | exact S.gi ‹_› | exact S.gj ‹_› | exact S.gk | exact S.gl | refine ⟨?_, ?_⟩))) rfl (fun ln hln x hx => ⟨rfl, ?_⟩)
    obtain ⟨c, i1, h1⟩ := x
    (cbv; repeat (refine Later.mk ?_; cbv))
    have hk1 := belowF_ok code hb hc i0 h0 hi0 (3)
    rw [← hx] at hk1
    clear hx
    dsimp only at hk1
    have hi1 := hk1.2
    clear hk1
    refine ElemRef.go rfl hj0 (by omega) (by rw [S.cx.lenE']; omega) (fun row hrow => ?_); (cbv; repeat (refine Later.mk ?_; cbv))
    obtain rfl : row = j.toNat := by omega
    refine RowSet.enc S.cx _ (⟨op, a, c⟩ : Ins) hx rfl (Nat.le_of_ble_eq_true rfl) rfl (fun l2 hl2 => ?_); (cbv; repeat (refine Later.mk ?_; cbv)); repeat (refine Later.mk ?_; (cbv; repeat (refine Later.mk ?_; cbv)))
    have hx2 : l2[j.toNat]? = some (⟨op, a, c⟩ : Ins) := set_at hl2 hjl
    have hjl2 : l2.length = N := by rw [set_len hl2]; exact hlN
    refine ElemRef.go rfl hj0 (by omega) (by rw [S.cx.lenE']; omega) (fun row hrow => ?_); (cbv; repeat (refine Later.mk ?_; cbv))
    obtain rfl : row = j.toNat := by omega
    refine Row.atE S.cx hx2 ?_; (cbv; repeat (refine Later.mk ?_; cbv)); repeat (refine Later.mk ?_; (cbv; repeat (refine Later.mk ?_; cbv)))
    refine Test.eql (fun z1 => ?_) (fun z1 => ?_) <;> (cbv; repeat (refine Later.mk ?_; cbv))
    rotate_left
    · skip
      refine Arith.go (by omega) (fun j' hj' => ?_); (cbv; repeat (refine Later.mk ?_; cbv))
      replace hj' : j' = j + 1 := hj'
      refine Again.on (j', l2, i1, h1) (by dsimp only; omega) ⟨by dsimp only; omega, by dsimp only; omega, hjl2, hi1⟩ ?_
      ((cbv; repeat (refine Later.mk ?_; cbv)); refine Less.to [] rfl rfl ?_ ?_ <;> repeat' (first | exact trivial | exact ⟨rfl, rfl⟩ | exact ⟨_, rfl, Nat.zero_le _, rfl⟩ | apply And.intro | exact rfl))
      · exact noRefsPC S.cx hfre
      · exact noRefsNil
    refine ACall.valN (r := rCurB) (os := oCur A code) (dp := false) S.cx (l1Once_c S code hb hc i1 h1 hi1 (3)) (.of rfl (by repeat' (first | exact trivial | exact rfl | exact Nat.le_refl _ | exact S.ga | exact S.gb ‹_› | exact S.gc ‹_› | exact S.gd | exact S.ge | exact S.gf ‹_› | exact S.gg ‹_› | exact S.gh | exact .inl rfl | exact S.gi ‹_› | exact S.gj ‹_› | exact S.gk | exact S.gl | refine ⟨?_, ?_⟩))) rfl (fun ln hln x hx => ⟨rfl, ?_⟩)
    obtain ⟨bb, i2, h2⟩ := x
    (cbv; repeat (refine Later.mk ?_; cbv))
    have hk2 := onceF_ok code hb hc i1 h1 hi1 (3)
    rw [← hx] at hk2
    clear hx
    dsimp only at hk2
    have hi2 := hk2.2
    clear hk2
    cases bb <;> ((cbv; repeat (refine Later.mk ?_; cbv)); repeat (refine Later.mk ?_; (cbv; repeat (refine Later.mk ?_; cbv))))
    rotate_left
    · skip
      refine Arith.go (by omega) (fun j' hj' => ?_); (cbv; repeat (refine Later.mk ?_; cbv))
      replace hj' : j' = j + 1 := hj'
      refine Again.on (j', l2, i2, h2) (by dsimp only; omega) ⟨by dsimp only; omega, by dsimp only; omega, hjl2, hi2⟩ ?_
      ((cbv; repeat (refine Later.mk ?_; cbv)); refine Less.to [] rfl rfl ?_ ?_ <;> repeat' (first | exact trivial | exact ⟨rfl, rfl⟩ | exact ⟨_, rfl, Nat.zero_le _, rfl⟩ | apply And.intro | exact rfl))
      · exact noRefsPC S.cx hfre
      · exact noRefsNil
    refine ACall.valN (r := rCur) (os := oCur A code) (dp := false) S.cx (l1Below_c S code hb hc i2 h2 hi2 (5)) (.of rfl (by repeat' (first | exact trivial | exact rfl | exact Nat.le_refl _ | exact S.ga | exact S.gb ‹_› | exact S.gc ‹_› | exact S.gd | exact S.ge | exact S.gf ‹_› | exact S.gg ‹_› | exact S.gh | exact .inl rfl | exact S.gi ‹_› | exact S.gj ‹_› | exact S.gk | exact S.gl | refine ⟨?_, ?_⟩))) rfl (fun ln hln x hx => ⟨rfl, ?_⟩)
    obtain ⟨d, i3, h3⟩ := x
    (cbv; repeat (refine Later.mk ?_; cbv))
    have hk3 := belowF_ok code hb hc i2 h2 hi2 (5)
    rw [← hx] at hk3
    clear hx
    dsimp only at hk3
    have hi3 := hk3.2
    clear hk3
    refine ElemRef.go rfl hj0 (by omega) (by rw [S.cx.lenE']; omega) (fun row hrow => ?_); (cbv; repeat (refine Later.mk ?_; cbv))
    obtain rfl : row = j.toNat := by omega
    refine RowSet.enc S.cx _ (⟨3, 0, d⟩ : Ins) hx2 rfl (Nat.le_of_ble_eq_true rfl) rfl (fun w hw => ?_); (cbv; repeat (refine Later.mk ?_; cbv)); repeat (refine Later.mk ?_; (cbv; repeat (refine Later.mk ?_; cbv)))
    refine Arith.go (by omega) (fun j' hj' => ?_); (cbv; repeat (refine Later.mk ?_; cbv))
    replace hj' : j' = j + 1 := hj'
    refine Again.on (j', w, i3, h3) (by dsimp only; omega) ⟨by dsimp only; omega, by dsimp only; omega, by dsimp only; rw [set_len hw]; rw [set_len hl2]; exact hlN, hi3⟩ ?_
    ((cbv; repeat (refine Later.mk ?_; cbv)); refine Less.to [] rfl rfl ?_ ?_ <;> repeat' (first | exact trivial | exact ⟨rfl, rfl⟩ | exact ⟨_, rfl, Nat.zero_le _, rfl⟩ | apply And.intro | exact rfl))
    · exact noRefsPC S.cx hfre
    · exact noRefsNil
  refine ElemRef.go rfl hj0 (by omega) (by rw [S.cx.lenE']; omega) (fun row hrow => ?_); (cbv; repeat (refine Later.mk ?_; cbv))
  obtain rfl : row = j.toNat := by omega
  refine Row.atE S.cx hx ?_; (cbv; repeat (refine Later.mk ?_; cbv)); repeat (refine Later.mk ?_; (cbv; repeat (refine Later.mk ?_; cbv)))
  refine Test.eql (fun z0 => ?_) (fun z0 => ?_) <;> (cbv; repeat (refine Later.mk ?_; cbv))
  rotate_left
  · skip
    refine Arith.go (by omega) (fun j' hj' => ?_); (cbv; repeat (refine Later.mk ?_; cbv))
    replace hj' : j' = j + 1 := hj'
    refine Again.on (j', l, i0, h0) (by dsimp only; omega) ⟨by dsimp only; omega, by dsimp only; omega, hlN, hi0⟩ ?_
    ((cbv; repeat (refine Later.mk ?_; cbv)); refine Less.to [] rfl rfl ?_ ?_ <;> repeat' (first | exact trivial | exact ⟨rfl, rfl⟩ | exact ⟨_, rfl, Nat.zero_le _, rfl⟩ | apply And.intro | exact rfl))
    · exact noRefsPC S.cx hfre
    · exact noRefsNil
  refine ACall.valN (r := rCurB) (os := oCur A code) (dp := false) S.cx (l1Once_c S code hb hc i0 h0 hi0 (3)) (.of rfl (by repeat' (first | exact trivial | exact rfl | exact Nat.le_refl _ | exact S.ga | exact S.gb ‹_› | exact S.gc ‹_› | exact S.gd | exact S.ge | exact S.gf ‹_› | exact S.gg ‹_› | exact S.gh | exact .inl rfl | exact S.gi ‹_› | exact S.gj ‹_› | exact S.gk | exact S.gl | refine ⟨?_, ?_⟩))) rfl (fun ln hln x hx => ⟨rfl, ?_⟩)
  obtain ⟨bb, i1, h1⟩ := x
  (cbv; repeat (refine Later.mk ?_; cbv))
  have hk1 := onceF_ok code hb hc i0 h0 hi0 (3)
  rw [← hx] at hk1
  clear hx
  dsimp only at hk1
  have hi1 := hk1.2
  clear hk1
  cases bb <;> ((cbv; repeat (refine Later.mk ?_; cbv)); repeat (refine Later.mk ?_; (cbv; repeat (refine Later.mk ?_; cbv))))
  rotate_left
  · skip
    refine Arith.go (by omega) (fun j' hj' => ?_); (cbv; repeat (refine Later.mk ?_; cbv))
    replace hj' : j' = j + 1 := hj'
    refine Again.on (j', l, i1, h1) (by dsimp only; omega) ⟨by dsimp only; omega, by dsimp only; omega, hlN, hi1⟩ ?_
    ((cbv; repeat (refine Later.mk ?_; cbv)); refine Less.to [] rfl rfl ?_ ?_ <;> repeat' (first | exact trivial | exact ⟨rfl, rfl⟩ | exact ⟨_, rfl, Nat.zero_le _, rfl⟩ | apply And.intro | exact rfl))
    · exact noRefsPC S.cx hfre
    · exact noRefsNil
  refine ACall.valN (r := rCur) (os := oCur A code) (dp := false) S.cx (l1Below_c S code hb hc i1 h1 hi1 (5)) (.of rfl (by repeat' (first | exact trivial | exact rfl | exact Nat.le_refl _ | exact S.ga | exact S.gb ‹_› | exact S.gc ‹_› | exact S.gd | exact S.ge | exact S.gf ‹_› | exact S.gg ‹_› | exact S.gh | exact .inl rfl | exact S.gi ‹_› | exact S.gj ‹_› | exact S.gk | exact S.gl | refine ⟨?_, ?_⟩))) rfl (fun ln hln x hx => ⟨rfl, ?_⟩)
  obtain ⟨d, i2, h2⟩ := x
  (cbv; repeat (refine Later.mk ?_; cbv))
  have hk2 := belowF_ok code hb hc i1 h1 hi1 (5)
  rw [← hx] at hk2
  clear hx
  dsimp only at hk2
  have hi2 := hk2.2
  clear hk2
  refine ElemRef.go rfl hj0 (by omega) (by rw [S.cx.lenE']; omega) (fun row hrow => ?_); (cbv; repeat (refine Later.mk ?_; cbv))
  obtain rfl : row = j.toNat := by omega
  refine RowSet.enc S.cx _ (⟨3, 0, d⟩ : Ins) hx rfl (Nat.le_of_ble_eq_true rfl) rfl (fun w hw => ?_); (cbv; repeat (refine Later.mk ?_; cbv)); repeat (refine Later.mk ?_; (cbv; repeat (refine Later.mk ?_; cbv)))
  refine Arith.go (by omega) (fun j' hj' => ?_); (cbv; repeat (refine Later.mk ?_; cbv))
  replace hj' : j' = j + 1 := hj'
  refine Again.on (j', w, i2, h2) (by dsimp only; omega) ⟨by dsimp only; omega, by dsimp only; omega, by dsimp only; rw [set_len hw]; exact hlN, hi2⟩ ?_
  ((cbv; repeat (refine Later.mk ?_; cbv)); refine Less.to [] rfl rfl ?_ ?_ <;> repeat' (first | exact trivial | exact ⟨rfl, rfl⟩ | exact ⟨_, rfl, Nat.zero_le _, rfl⟩ | apply And.intro | exact rfl))
  · exact noRefsPC S.cx hfre
  · exact noRefsNil

theorem drawNewWorld_c (S : Se P A) (code : List Int) (hb : code.length ≤ 4096) (hc : ∀ b ∈ code, 0 ≤ b ∧ b ≤ 255) : SoundM P 7 true [.ro (A.enc cByte code)] []
    (fun v os => (∃ (m : List PC) (n : Int), (m.length ≤ 20 ∧ (∀ c ∈ m, c.fre) ∧ ∀ c ∈ m, c.prog.length ≤ 13) ∧ v = .tup [.own 1 false (A.enc (cPC A) m), .int .i64 n]) ∧ os = []) := by
  refine S.cx.byS [99999, 6] (S.prog ▸ Tryz.func7) rfl rfl rfl rfl (fun ln hln hv ho => ?_)
  (cbv; repeat (refine Later.mk ?_; cbv))
  clear hv ho
  refine ACall.ofN (dp := false) S.cx (l1New_c S code hb hc) (.of rfl (by repeat' (first | exact trivial | exact rfl | exact Nat.le_refl _ | exact S.ga | exact S.gb ‹_› | exact S.gc ‹_› | exact S.gd | exact S.ge | exact S.gf ‹_› | exact S.gg ‹_› | exact S.gh | exact .inl rfl | exact S.gi ‹_› | exact S.gj ‹_› | exact S.gk | exact S.gl | refine ⟨?_, ?_⟩))) (fun ln hln v os hv => ?_)
  obtain ⟨⟨hh, rfl⟩, rfl⟩ := hv
  refine ⟨rfl, ?_⟩; (cbv; repeat (refine Later.mk ?_; cbv)); repeat (refine Later.mk ?_; (cbv; repeat (refine Later.mk ?_; cbv)))
  refine ACall.ofN (dp := false) S.cx (l13DrawProgs_c S code hb hc 0 hh (Int.le_refl 0)) (.of rfl (by repeat' (first | exact trivial | exact rfl | exact Nat.le_refl _ | exact S.ga | exact S.gb ‹_› | exact S.gc ‹_› | exact S.gd | exact S.ge | exact S.gf ‹_› | exact S.gg ‹_› | exact S.gh | exact .inl rfl | exact S.gi ‹_› | exact S.gj ‹_› | exact S.gk | exact S.gl | refine ⟨?_, ?_⟩))) (fun ln hln v os hv => ?_)
  obtain ⟨m, i0, h0, ⟨hm4, hfre, hsh⟩, hi0, rfl, rfl⟩ := hv
  refine ⟨rfl, ?_⟩; (cbv; repeat (refine Later.mk ?_; cbv))
  have hN := hln (cPC A) m
  generalize ln (A.enc (cPC A) m) = N at hN ⊢
  repeat (refine Later.mk ?_; (cbv; repeat (refine Later.mk ?_; cbv)))
  refine ASeq.goT (ι := List PC × Nat × Int × Int) (fun i => [(4, .ptr 2010000 0 0), (5, .ref false 3010000 0 i.2.1)]) [9] [2010000, 3010000] (fun i => [(2010000, .box [.ro (A.enc cByte code), .int .i64 i.2.2.1, .int .i64 i.2.2.2]), (3010000, .arr 1 false (A.enc (cPC A) i.1))]) (fun i => i.2.1 = i.1.length ∧ i.1.length ≤ 20 ∧ (∀ c ∈ i.1, c.fre) ∧ (∀ c ∈ i.1, c.prog.length ≤ 13) ∧ 0 ≤ i.2.2.1) [99999] S.cx.tab S.cx.mix S.eq ?_ ?_
  · refine Rnd.mk ?_
    (cbv; repeat (refine Later.mk ?_; cbv))
    refine ACall.valN (r := rCurB) (os := oCur A code) (dp := false) S.cx (l1Once_c S code hb hc i0 h0 hi0 (8)) (.of rfl (by repeat' (first | exact trivial | exact rfl | exact Nat.le_refl _ | exact S.ga | exact S.gb ‹_› | exact S.gc ‹_› | exact S.gd | exact S.ge | exact S.gf ‹_› | exact S.gg ‹_› | exact S.gh | exact .inl rfl | exact S.gi ‹_› | exact S.gj ‹_› | exact S.gk | exact S.gl | refine ⟨?_, ?_⟩))) rfl (fun ln hln x hx => ⟨rfl, ?_⟩)
    obtain ⟨b, i1, h1⟩ := x
    (cbv; repeat (refine Later.mk ?_; cbv))
    have hk1 := onceF_ok code hb hc i0 h0 hi0 (8)
    rw [← hx] at hk1
    clear hx
    dsimp only at hk1
    have hi1 := hk1.2
    clear hk1
    cases b <;> ((cbv; repeat (refine Later.mk ?_; cbv)); repeat (refine Later.mk ?_; (cbv; repeat (refine Later.mk ?_; cbv))))
    · refine Reach.on (m, N, i1, h1) ⟨hN, by dsimp only; omega, hfre, fun c hc => Nat.le_trans (hsh c hc) (by decide), hi1⟩ ?_
      ((cbv; repeat (refine Later.mk ?_; cbv)); refine Less.to [] rfl rfl ?_ ?_ <;> repeat' (first | exact trivial | exact ⟨rfl, rfl⟩ | exact ⟨_, rfl, Nat.zero_le _, rfl⟩ | apply And.intro | exact rfl))
      exact noRefsPC S.cx hfre
    refine ACall.ofN (dp := false) S.cx (l9DrawAny_c S code hb hc i1 h1 hi1) (.of rfl (by repeat' (first | exact trivial | exact rfl | exact Nat.le_refl _ | exact S.ga | exact S.gb ‹_› | exact S.gc ‹_› | exact S.gd | exact S.ge | exact S.gf ‹_› | exact S.gg ‹_› | exact S.gh | exact .inl rfl | exact S.gi ‹_› | exact S.gj ‹_› | exact S.gk | exact S.gl | refine ⟨?_, ?_⟩))) (fun ln hln v os hv => ?_)
    obtain ⟨l, i2, h2, hl13, hi2, rfl, rfl⟩ := hv
    refine ⟨rfl, ?_⟩; (cbv; repeat (refine Later.mk ?_; cbv))
    have hL := hln cIns l
    generalize ln (A.enc cIns l) = L at hL ⊢
    repeat (refine Later.mk ?_; (cbv; repeat (refine Later.mk ?_; cbv)))
    refine Part.one ?_; (cbv; repeat (refine Later.mk ?_; cbv))
    refine AppRef.pushF S.cx (PC.ref 5020000 L) hN rfl rfl rfl (fun v hv => by rw [List.mem_singleton.1 hv]; rfl) (by simp only [maxBytes]; omega) (fun n' m' hm' hn' => ?_); (cbv; repeat (refine Later.mk ?_; cbv))
    obtain ⟨m2, hm2⟩ : ∃ m2, m2 = m'.set m.length (PC.own l) := ⟨_, rfl⟩
    have hmx : m'[m.length]? = some (PC.ref 5020000 L) := by rw [hm']; simp
    have hm3 : m2 = m ++ [PC.own l] := by rw [hm2, hm']; simp
    have hml : m2.length = m.length + 1 := by rw [hm3]; simp
    have hfre2 : ∀ c ∈ m2, c.fre := fun c hc => by
      rw [hm3] at hc
      rcases List.mem_append.1 hc with hc | hc
      · exact hfre c hc
      · rw [List.mem_singleton.1 hc]; trivial
    refine Reach.on (m2, n', i2, h2) ⟨by dsimp only; rw [hn', set_len hm2], by dsimp only; omega, hfre2, fun c hc => ?_, hi2⟩ ?_
    · dsimp only at hc
      rw [hm3] at hc
      rcases List.mem_append.1 hc with hc | hc
      · exact Nat.le_trans (hsh c hc) (by decide)
      · rw [List.mem_singleton.1 hc]; exact hl13
    refine Less.trans (Less.fold S.cx (id := 5040000) (L := 5020000) (i := m.length) (j := 0) (m := m') (PC.ref 5020000 L) (PC.own l) rfl hmx rfl rfl hL rfl rfl hm2) ?_
    ((cbv; repeat (refine Later.mk ?_; cbv)); refine Less.to [(3010000, (5040000, 0))] rfl rfl ?_ ?_ <;> repeat' (first | exact trivial | exact ⟨rfl, rfl⟩ | exact ⟨_, rfl, Nat.zero_le _, rfl⟩ | apply And.intro | exact rfl))
    exact noRefsPC S.cx hfre2
  rintro ⟨m, N, i0, h0⟩ ⟨hN, hm4, hfre, hsh, hi0⟩
  dsimp only at hN hm4 hfre hsh hi0
  refine Rnd.mk ?_
  (cbv; repeat (refine Later.mk ?_; cbv))
  refine ACall.valN (r := rCurB) (os := oCur A code) (dp := false) S.cx (l1Once_c S code hb hc i0 h0 hi0 (20)) (.of rfl (by repeat' (first | exact trivial | exact rfl | exact Nat.le_refl _ | exact S.ga | exact S.gb ‹_› | exact S.gc ‹_› | exact S.gd | exact S.ge | exact S.gf ‹_› | exact S.gg ‹_› | exact S.gh | exact .inl rfl | exact S.gi ‹_› | exact S.gj ‹_› | exact S.gk | exact S.gl | refine ⟨?_, ?_⟩))) rfl (fun ln hln x hx => ⟨rfl, ?_⟩)
  obtain ⟨b2, i1, h1⟩ := x
  (cbv; repeat (refine Later.mk ?_; cbv))
  have hk1 := onceF_ok code hb hc i0 h0 hi0 (20)
  rw [← hx] at hk1
  clear hx
  dsimp only at hk1
  have hi1 := hk1.2
  clear hk1
  cases b2 <;> ((cbv; repeat (refine Later.mk ?_; cbv)); repeat (refine Later.mk ?_; (cbv; repeat (refine Later.mk ?_; cbv))))
  · skip
    refine ACall.valN (r := rCur) (os := oCur A code) (dp := false) S.cx (l1Num_c S code hb hc i1 h1 hi1 (64) (by decide)) (.of rfl (by repeat' (first | exact trivial | exact rfl | exact Nat.le_refl _ | exact S.ga | exact S.gb ‹_› | exact S.gc ‹_› | exact S.gd | exact S.ge | exact S.gf ‹_› | exact S.gg ‹_› | exact S.gh | exact .inl rfl | exact S.gi ‹_› | exact S.gj ‹_› | exact S.gk | exact S.gl | refine ⟨?_, ?_⟩))) rfl (fun ln hln x hx => ⟨rfl, ?_⟩)
    obtain ⟨nn, i2, h2⟩ := x
    (cbv; repeat (refine Later.mk ?_; cbv))
    have hk2 := numF_ok code hb hc i1 h1 hi1 (64)
    rw [← hx] at hk2
    clear hx
    dsimp only at hk2
    have hi2 := hk2.2
    clear hk2
    exact Done.to (.tup [.own 1 false (A.enc (cPC A) m), .int .i64 nn]) [] rfl ⟨⟨⟨rfl, rfl⟩, ⟨S.cx.lendLe hN, S.cx.lendEq hN⟩, freePC S hfre⟩, rfl, trivial⟩ trivial ⟨⟨m, nn, ⟨by omega, hfre, hsh⟩, rfl⟩, rfl⟩
  refine ACall.valN (r := rCur) (os := oCur A code) (dp := false) S.cx (l1Below_c S code hb hc i1 h1 hi1 (2)) (.of rfl (by repeat' (first | exact trivial | exact rfl | exact Nat.le_refl _ | exact S.ga | exact S.gb ‹_› | exact S.gc ‹_› | exact S.gd | exact S.ge | exact S.gf ‹_› | exact S.gg ‹_› | exact S.gh | exact .inl rfl | exact S.gi ‹_› | exact S.gj ‹_› | exact S.gk | exact S.gl | refine ⟨?_, ?_⟩))) rfl (fun ln hln x hx => ⟨rfl, ?_⟩)
  obtain ⟨e, i2, h2⟩ := x
  (cbv; repeat (refine Later.mk ?_; cbv))
  have hk2 := belowF_ok code hb hc i1 h1 hi1 (2)
  rw [← hx] at hk2
  clear hx
  dsimp only at hk2
  have hi2 := hk2.2
  replace hk2 := hk2.1
  have he2 := hk2.2.1 (by decide)
  refine Arith.go (by omega) (fun e8 he8 => ?_); (cbv; repeat (refine Later.mk ?_; cbv)); repeat (refine Later.mk ?_; (cbv; repeat (refine Later.mk ?_; cbv)))
  replace he8 : e8 = 8 + e := he8
  refine MakeS.enc S.cx (f := cPC A) PC.none rfl (by omega) (by simp only [maxBytes]; omega) (fun M z hM hz => ?_); (cbv; repeat (refine Later.mk ?_; cbv)); repeat (refine Later.mk ?_; (cbv; repeat (refine Later.mk ?_; cbv)))
  have hzl : M = z.length := by rw [hz]; simp
  have hz20 : z.length ≤ 20 := by first | omega | lia | (rw [← hzl]; omega) | (rw [← hzl]; lia)
  have hzf : ∀ c ∈ z, c.fre := fun c hc => by rw [hz] at hc; rw [List.eq_of_mem_replicate hc]; trivial
  have hzs : ∀ c ∈ z, c.prog.length ≤ 13 := fun c hc => by rw [hz] at hc; rw [List.eq_of_mem_replicate hc]; exact Nat.zero_le _
  refine ACall.valN (r := rCur) (os := oCur A code) (dp := false) S.cx (l1Num_c S code hb hc i2 h2 hi2 (64) (by decide)) (.of rfl (by repeat' (first | exact trivial | exact rfl | exact Nat.le_refl _ | exact S.ga | exact S.gb ‹_› | exact S.gc ‹_› | exact S.gd | exact S.ge | exact S.gf ‹_› | exact S.gg ‹_› | exact S.gh | exact .inl rfl | exact S.gi ‹_› | exact S.gj ‹_› | exact S.gk | exact S.gl | refine ⟨?_, ?_⟩))) rfl (fun ln hln x hx => ⟨rfl, ?_⟩)
  obtain ⟨nn, i3, h3⟩ := x
  (cbv; repeat (refine Later.mk ?_; cbv))
  have hk3 := numF_ok code hb hc i2 h2 hi2 (64)
  rw [← hx] at hk3
  clear hx
  dsimp only at hk3
  have hi3 := hk3.2
  clear hk3
  exact Done.to (.tup [.own 1 false (A.enc (cPC A) z), .int .i64 nn]) [] rfl ⟨⟨⟨rfl, rfl⟩, ⟨S.cx.lendLe hzl, S.cx.lendEq hzl⟩, freePC S hzf⟩, rfl, trivial⟩ trivial ⟨⟨z, nn, ⟨hz20, hzf, hzs⟩, rfl⟩, rfl⟩

theorem implUsedIn_c (S : Se P A) (ages : List Int) (used : List Bool) (hok : SlotsOk ⟨ages, used⟩) : Nums P 12 [.agg (roSlots A ⟨ages, used⟩)] (fun n => 0 ≤ n ∧ n.toNat = usedN used) := by
  refine S.cx.by (S.prog ▸ Tryz.func12) rfl rfl rfl rfl (fun hv ho => ?_)
  (cbv; repeat (refine Later.mk ?_; cbv))
  clear hv ho
  refine ACall.testD (dp := false) (implSlotsOk_c S ages used) (.of rfl (by repeat' (first | exact trivial | exact rfl | exact Nat.le_refl _ | exact S.ga | exact S.gb ‹_› | exact S.gc ‹_› | exact S.gd | exact S.ge | exact S.gf ‹_› | exact S.gg ‹_› | exact S.gh | exact .inl rfl | exact S.gi ‹_› | exact S.gj ‹_› | exact S.gk | exact S.gl | refine ⟨?_, ?_⟩))) rfl (fun h => ?_) (fun h => ?_) <;> (cbv; repeat (refine Later.mk ?_; cbv))
  rotate_left
  · exact absurd hok h
  refine ACall.num (dp := false) (used_c S ages used) (.of rfl (by repeat' (first | exact trivial | exact rfl | exact Nat.le_refl _ | exact S.ga | exact S.gb ‹_› | exact S.gc ‹_› | exact S.gd | exact S.ge | exact S.gf ‹_› | exact S.gg ‹_› | exact S.gh | exact .inl rfl | exact S.gi ‹_› | exact S.gj ‹_› | exact S.gk | exact S.gl | refine ⟨?_, ?_⟩))) (fun n hn => ?_); (cbv; repeat (refine Later.mk ?_; cbv))
  exact Done.num hn

theorem isSpreadNew_c (S : Se P A) (progs : List (List Ins)) (ages : List Int) (used : List Bool) : Tests P 172 [.agg (roWorld A ⟨0, progs, [⟨0, -1, 9223372036854775807, 0, 0⟩], [], ⟨[false], []⟩, ⟨[], [], 0⟩, ⟨⟨ages, used⟩, []⟩, [], [], [], [], []⟩)] True := by
  refine S.cx.byS [99999] (S.prog ▸ Tryz.func172) rfl rfl rfl rfl (fun ln hln hv ho => ?_)
  (cbv; repeat (refine Later.mk ?_; cbv))
  clear hv ho
  refine ACall.num (dp := false) (sizeNode_c S [⟨0, -1, 9223372036854775807, 0, 0⟩]) (.of rfl (by repeat' (first | exact trivial | exact rfl | exact Nat.le_refl _ | exact S.ga | exact S.gb ‹_› | exact S.gc ‹_› | exact S.gd | exact S.ge | exact S.gf ‹_› | exact S.gg ‹_› | exact S.gh | exact .inl rfl | exact S.gi ‹_› | exact S.gj ‹_› | exact S.gk | exact S.gl | refine ⟨?_, ?_⟩))) (fun N hN => ?_); (cbv; repeat (refine Later.mk ?_; cbv))
  have hN1 : N = 1 := by have := hN.2; simp only [List.length_cons, List.length_nil] at this; omega
  subst hN1
  refine ALoop.goT (ι := Int) (fun i => [(9, .int .i64 i)]) [] [] (fun i => []) (fun i => 0 ≤ i ∧ i ≤ 1) (fun i => (1 - i).toNat) (0) [99999] S.cx.tab S.cx.mix S.eq ?_ ?_ ?_
  · exact ⟨Int.le_refl _, by decide⟩
  · ((cbv; repeat (refine Later.mk ?_; cbv)); refine Less.to [] rfl rfl ?_ ?_ <;> repeat' (first | exact trivial | exact ⟨rfl, rfl⟩ | exact ⟨_, rfl, Nat.zero_le _, rfl⟩ | apply And.intro | exact rfl))
  rintro i ⟨h0, h1⟩
  refine Rnd.mk ?_; (cbv; repeat (refine Later.mk ?_; cbv))
  refine Test.lss (fun h => ?_) (fun h => ?_) <;> (cbv; repeat (refine Later.mk ?_; cbv))
  · refine ElemRo.at S.cx (x := false) rfl h0 (by rw [show i.toNat = 0 by omega]; rfl) ?_; (cbv; repeat (refine Later.mk ?_; cbv))
    refine Arith.go (by omega) (fun i' hi' => ?_); (cbv; repeat (refine Later.mk ?_; cbv))
    replace hi' : i' = i + 1 := hi'
    refine Again.on i' (by omega) ⟨by omega, by omega⟩ ?_
    ((cbv; repeat (refine Later.mk ?_; cbv)); refine Less.to [] rfl rfl ?_ ?_ <;> repeat' (first | exact trivial | exact ⟨rfl, rfl⟩ | exact ⟨_, rfl, Nat.zero_le _, rfl⟩ | apply And.intro | exact rfl))
  · refine ACall.testX (dp := false) (allEventC_c S _ (roWorld A ⟨0, progs, [⟨0, -1, 9223372036854775807, 0, 0⟩], [], ⟨[false], []⟩, ⟨[], [], 0⟩, ⟨⟨ages, used⟩, []⟩, [], [], [], [], []⟩) (fun _ => True) [] (fun x hx => by cases hx)) (.of rfl (by repeat' (first | exact trivial | exact rfl | exact Nat.le_refl _ | exact S.ga | exact S.gb ‹_› | exact S.gc ‹_› | exact S.gd | exact S.ge | exact S.gf ‹_› | exact S.gg ‹_› | exact S.gh | exact .inl rfl | exact S.gi ‹_› | exact S.gj ‹_› | exact S.gk | exact S.gl | refine ⟨?_, ?_⟩))) rfl (fun h2 => ?_) (fun h2 => ?_) <;> (cbv; repeat (refine Later.mk ?_; cbv))
    · exact Done.yes trivial
    · exact absurd (fun _ _ => trivial) h2

theorem isTidyNew_c (S : Se P A) (progs : List (List Ins)) (ages : List Int) (used : List Bool) : Tests P 58 [.agg (roWorld A ⟨0, progs, [⟨0, -1, 9223372036854775807, 0, 0⟩], [], ⟨[false], []⟩, ⟨[], [], 0⟩, ⟨⟨ages, used⟩, []⟩, [], [], [], [], []⟩)] True := by
  refine S.cx.byS [99999] (S.prog ▸ Tryz.func58) rfl rfl rfl rfl (fun ln hln hv ho => ?_)
  (cbv; repeat (refine Later.mk ?_; cbv))
  clear hv ho
  refine LenR.nat S.cx (fun N hN hm => ?_); (cbv; repeat (refine Later.mk ?_; cbv))
  have hN0 : N ≤ 0 := by have := hN.2; simp only [List.length_nil] at this; omega
  refine ALoop.goT (ι := Unit) (fun i => [(9, .int .i64 0)]) [] [] (fun i => []) (fun i => True) (fun i => 0) (()) [99999] S.cx.tab S.cx.mix S.eq ?_ ?_ ?_
  · trivial
  · ((cbv; repeat (refine Later.mk ?_; cbv)); refine Less.to [] rfl rfl ?_ ?_ <;> repeat' (first | exact trivial | exact ⟨rfl, rfl⟩ | exact ⟨_, rfl, Nat.zero_le _, rfl⟩ | apply And.intro | exact rfl))
  rintro _ _
  refine Rnd.mk ?_; (cbv; repeat (refine Later.mk ?_; cbv))
  refine Test.lss (fun h => ?_) (fun h => ?_) <;> (cbv; repeat (refine Later.mk ?_; cbv))
  · exfalso; omega
  refine LenR.nat S.cx (fun M hM hm2 => ?_); (cbv; repeat (refine Later.mk ?_; cbv))
  have hM0 : M ≤ 0 := by have := hM.2; simp only [List.length_nil] at this; omega
  refine ALoop.goT (ι := Unit) (fun i => [(46, .int .i64 0)]) [] [] (fun i => []) (fun i => True) (fun i => 0) (()) [99999] S.cx.tab S.cx.mix S.eq ?_ ?_ ?_
  · trivial
  · ((cbv; repeat (refine Later.mk ?_; cbv)); refine Less.to [] rfl rfl ?_ ?_ <;> repeat' (first | exact trivial | exact ⟨rfl, rfl⟩ | exact ⟨_, rfl, Nat.zero_le _, rfl⟩ | apply And.intro | exact rfl))
  rintro _ _
  refine Rnd.mk ?_; (cbv; repeat (refine Later.mk ?_; cbv))
  refine Test.lss (fun h2 => ?_) (fun h2 => ?_) <;> (cbv; repeat (refine Later.mk ?_; cbv))
  · exfalso; omega
  refine ACall.testD (dp := false) (isSpreadNew_c S progs ages used) (.of rfl (by repeat' (first | exact trivial | exact rfl | exact Nat.le_refl _ | exact S.ga | exact S.gb ‹_› | exact S.gc ‹_› | exact S.gd | exact S.ge | exact S.gf ‹_› | exact S.gg ‹_› | exact S.gh | exact .inl rfl | exact S.gi ‹_› | exact S.gj ‹_› | exact S.gk | exact S.gl | refine ⟨?_, ?_⟩))) rfl (fun h3 => ?_) (fun h3 => ?_) <;> (cbv; repeat (refine Later.mk ?_; cbv))
  rotate_left
  · exact absurd trivial h3
  refine ACall.testX (dp := false) (allAfterC_c S _ (roWorld A ⟨0, progs, [⟨0, -1, 9223372036854775807, 0, 0⟩], [], ⟨[false], []⟩, ⟨[], [], 0⟩, ⟨⟨ages, used⟩, []⟩, [], [], [], [], []⟩) (fun _ => True) [] (fun x hx => by cases hx)) (.of rfl (by repeat' (first | exact trivial | exact rfl | exact Nat.le_refl _ | exact S.ga | exact S.gb ‹_› | exact S.gc ‹_› | exact S.gd | exact S.ge | exact S.gf ‹_› | exact S.gg ‹_› | exact S.gh | exact .inl rfl | exact S.gi ‹_› | exact S.gj ‹_› | exact S.gk | exact S.gl | refine ⟨?_, ?_⟩))) rfl (fun h4 => ?_) (fun h4 => ?_) <;> (cbv; repeat (refine Later.mk ?_; cbv))
  · exact Done.yes trivial
  · exact absurd (fun _ _ => trivial) h4

theorem tidyInNew_c (S : Se P A) (progs : List (List Ins)) (ages : List Int) (used : List Bool) (hok : WorldOk ⟨0, progs, [⟨0, -1, 9223372036854775807, 0, 0⟩], [], ⟨[false], []⟩, ⟨[], [], 0⟩, ⟨⟨ages, used⟩, []⟩, [], [], [], [], []⟩) : Tests P 11 [.agg (roWorld A ⟨0, progs, [⟨0, -1, 9223372036854775807, 0, 0⟩], [], ⟨[false], []⟩, ⟨[], [], 0⟩, ⟨⟨ages, used⟩, []⟩, [], [], [], [], []⟩)] True := by
  refine S.cx.byS [99999] (S.prog ▸ Tryz.func11) rfl rfl rfl rfl (fun ln hln hv ho => ?_)
  (cbv; repeat (refine Later.mk ?_; cbv))
  clear hv ho
  refine ACall.testD (dp := false) (implWorldOk_c S 0 progs [⟨0, -1, 9223372036854775807, 0, 0⟩] [] [false] [] [] [] 0 ages used [] [] [] [] [] []) (.of rfl (by repeat' (first | exact trivial | exact rfl | exact Nat.le_refl _ | exact S.ga | exact S.gb ‹_› | exact S.gc ‹_› | exact S.gd | exact S.ge | exact S.gf ‹_› | exact S.gg ‹_› | exact S.gh | exact .inl rfl | exact S.gi ‹_› | exact S.gj ‹_› | exact S.gk | exact S.gl | refine ⟨?_, ?_⟩))) rfl (fun h1 => ?_) (fun h1 => ?_) <;> (cbv; repeat (refine Later.mk ?_; cbv))
  rotate_left
  · exact absurd hok h1
  refine ACall.testD (dp := false) (isTidyNew_c S progs ages used) (.of rfl (by repeat' (first | exact trivial | exact rfl | exact Nat.le_refl _ | exact S.ga | exact S.gb ‹_› | exact S.gc ‹_› | exact S.gd | exact S.ge | exact S.gf ‹_› | exact S.gg ‹_› | exact S.gh | exact .inl rfl | exact S.gi ‹_› | exact S.gj ‹_› | exact S.gk | exact S.gl | refine ⟨?_, ?_⟩))) rfl (fun h2 => ?_) (fun h2 => ?_) <;> (cbv; repeat (refine Later.mk ?_; cbv))
  · exact Done.yes trivial
  · exact absurd trivial h2

theorem newWorldLaw_c (S : Se P A) (code : List Int) : Is1 P 3 [.ro (A.enc cByte code)] (.bool true) := by
  refine S.cx.byS [99999] (S.prog ▸ Tryz.func3) rfl rfl rfl rfl (fun ln hln hv ho => ?_)
  (cbv; repeat (refine Later.mk ?_; cbv))
  have hc := code_bytes S.cx (hv (.ro (A.enc cByte code)) (by simp))
  clear hv ho
  refine ACall.testD (dp := false) (big_c S code) (.of rfl (by repeat' (first | exact trivial | exact rfl | exact Nat.le_refl _ | exact S.ga | exact S.gb ‹_› | exact S.gc ‹_› | exact S.gd | exact S.ge | exact S.gf ‹_› | exact S.gg ‹_› | exact S.gh | exact .inl rfl | exact S.gi ‹_› | exact S.gj ‹_› | exact S.gk | exact S.gl | refine ⟨?_, ?_⟩))) rfl (fun hb => ?_) (fun hb => ?_) <;> (cbv; repeat (refine Later.mk ?_; cbv))
  · exact Done.to (.bool true) [] rfl rfl trivial ⟨rfl, rfl⟩
  have hb : code.length ≤ 4096 := by omega
  refine ACall.ofN (dp := false) S.cx (drawNewWorld_c S code hb hc) (.of rfl (by repeat' (first | exact trivial | exact rfl | exact Nat.le_refl _ | exact S.ga | exact S.gb ‹_› | exact S.gc ‹_› | exact S.gd | exact S.ge | exact S.gf ‹_› | exact S.gg ‹_› | exact S.gh | exact .inl rfl | exact S.gi ‹_› | exact S.gj ‹_› | exact S.gk | exact S.gl | refine ⟨?_, ?_⟩))) (fun ln hln v os hv => ?_)
  obtain ⟨⟨m, n, ⟨hm20, hfre, hsh⟩, rfl⟩, rfl⟩ := hv
  refine ⟨rfl, ?_⟩; (cbv; repeat (refine Later.mk ?_; cbv))
  have hN := hln (cPC A) m
  generalize ln (A.enc (cPC A) m) = N at hN ⊢
  repeat (refine Later.mk ?_; (cbv; repeat (refine Later.mk ?_; cbv)))
  have hb2 : ∀ p ∈ m.map PC.prog, p.length ≤ 1048576 := fun p hp => by
    obtain ⟨c, hc, rfl⟩ := List.mem_map.1 hp
    exact Nat.le_trans (hsh c hc) (by decide)
  have hle : ∀ {no : Nat → Bool} {st : St}, lendRows st no false (((A.enc (cPC A) m).drop 0).take N) (A.enc (roProg A) (m.map PC.prog)) := lendPC S hN hfre
  obtain ⟨progs, hpr⟩ : ∃ p, p = m.map PC.prog := ⟨_, rfl⟩
  rw [← hpr] at hle hb2
  refine ACall.valN (r := rWB A) (os := fun _ => []) (dp := false) S.cx (implNewWorld_c S progs n hb2) ⟨rfl, ⟨⟨rfl, S.cx.lendLe hN, hle⟩, rfl, trivial⟩, trivial⟩ rfl (fun ln hln x hx => ⟨rfl, ?_⟩)
  obtain ⟨⟨noww, progsw, treew, eventsw, ⟨toldw, workw⟩, ⟨heapw, listw, nextw⟩, ⟨⟨agesw, usedw⟩, alistw⟩, tasksw, groupsw, sightsw, beganw, rangw⟩, b⟩ := x
  (cbv; repeat (refine Later.mk ?_; cbv))
  have hN_progs := hln (ownProg A) progsw
  generalize ln (A.enc (ownProg A) progsw) = N_progs at hN_progs ⊢
  have hN_tree := hln cNode treew
  generalize ln (A.enc cNode treew) = N_tree at hN_tree ⊢
  have hN_events := hln cEvent eventsw
  generalize ln (A.enc cEvent eventsw) = N_events at hN_events ⊢
  have hN_told := hln cBool toldw
  generalize ln (A.enc cBool toldw) = N_told at hN_told ⊢
  have hN_work := hln cInt64 workw
  generalize ln (A.enc cInt64 workw) = N_work at hN_work ⊢
  have hN_heap := hln cTwig heapw
  generalize ln (A.enc cTwig heapw) = N_heap at hN_heap ⊢
  have hN_list := hln cTimer listw
  generalize ln (A.enc cTimer listw) = N_list at hN_list ⊢
  have hN_ages := hln cInt64 agesw
  generalize ln (A.enc cInt64 agesw) = N_ages at hN_ages ⊢
  have hN_used := hln cBool usedw
  generalize ln (A.enc cBool usedw) = N_used at hN_used ⊢
  have hN_alist := hln cAfter alistw
  generalize ln (A.enc cAfter alistw) = N_alist at hN_alist ⊢
  have hN_tasks := hln cTask tasksw
  generalize ln (A.enc cTask tasksw) = N_tasks at hN_tasks ⊢
  have hN_groups := hln (ownGroup A) groupsw
  generalize ln (A.enc (ownGroup A) groupsw) = N_groups at hN_groups ⊢
  have hN_sights := hln cSight sightsw
  generalize ln (A.enc cSight sightsw) = N_sights at hN_sights ⊢
  have hN_began := hln cInt64 beganw
  generalize ln (A.enc cInt64 beganw) = N_began at hN_began ⊢
  have hN_rang := hln cInt64 rangw
  generalize ln (A.enc cInt64 rangw) = N_rang at hN_rang ⊢
  have hw := hx
  clear hx
  repeat (refine Later.mk ?_; (cbv; repeat (refine Later.mk ?_; cbv)))
  refine ACall.valN (r := rWB A) (os := fun _ => []) (dp := false) S.cx (specNewWorld_c S progs n hb2) ⟨rfl, ⟨⟨rfl, S.cx.lendLe hN, hle⟩, rfl, trivial⟩, trivial⟩ rfl (fun ln hln x hx => ⟨rfl, ?_⟩)
  obtain ⟨⟨nowx, progsx, treex, eventsx, ⟨toldx, workx⟩, ⟨heapx, listx, nextx⟩, ⟨⟨agesx, usedx⟩, alistx⟩, tasksx, groupsx, sightsx, beganx, rangx⟩, b'⟩ := x
  (cbv; repeat (refine Later.mk ?_; cbv))
  have hX_progs := hln (ownProg A) progsx
  generalize ln (A.enc (ownProg A) progsx) = X_progs at hX_progs ⊢
  have hX_tree := hln cNode treex
  generalize ln (A.enc cNode treex) = X_tree at hX_tree ⊢
  have hX_events := hln cEvent eventsx
  generalize ln (A.enc cEvent eventsx) = X_events at hX_events ⊢
  have hX_told := hln cBool toldx
  generalize ln (A.enc cBool toldx) = X_told at hX_told ⊢
  have hX_work := hln cInt64 workx
  generalize ln (A.enc cInt64 workx) = X_work at hX_work ⊢
  have hX_heap := hln cTwig heapx
  generalize ln (A.enc cTwig heapx) = X_heap at hX_heap ⊢
  have hX_list := hln cTimer listx
  generalize ln (A.enc cTimer listx) = X_list at hX_list ⊢
  have hX_ages := hln cInt64 agesx
  generalize ln (A.enc cInt64 agesx) = X_ages at hX_ages ⊢
  have hX_used := hln cBool usedx
  generalize ln (A.enc cBool usedx) = X_used at hX_used ⊢
  have hX_alist := hln cAfter alistx
  generalize ln (A.enc cAfter alistx) = X_alist at hX_alist ⊢
  have hX_tasks := hln cTask tasksx
  generalize ln (A.enc cTask tasksx) = X_tasks at hX_tasks ⊢
  have hX_groups := hln (ownGroup A) groupsx
  generalize ln (A.enc (ownGroup A) groupsx) = X_groups at hX_groups ⊢
  have hX_sights := hln cSight sightsx
  generalize ln (A.enc cSight sightsx) = X_sights at hX_sights ⊢
  have hX_began := hln cInt64 beganx
  generalize ln (A.enc cInt64 beganx) = X_began at hX_began ⊢
  have hX_rang := hln cInt64 rangx
  generalize ln (A.enc cInt64 rangx) = X_rang at hX_rang ⊢
  cases hx.trans hw.symm
  clear hx
  repeat (refine Later.mk ?_; (cbv; repeat (refine Later.mk ?_; cbv)))
  unfold NewWorld at hw
  split at hw
  · rename_i hfit
    have hok := worldOk_new hfit
    have hn64 := hfit.1
    obtain ⟨ages, hages⟩ : ∃ x, x = List.replicate n.toNat (0 : Int) := ⟨_, rfl⟩
    obtain ⟨used, hused⟩ : ∃ x, x = List.replicate n.toNat false := ⟨_, rfl⟩
    simp only [newWorld, newSlots] at hok hw
    rw [← hages, ← hused] at hok hw
    cases hw
    (cbv; repeat (refine Later.mk ?_; cbv)); repeat (refine Later.mk ?_; (cbv; repeat (refine Later.mk ?_; cbv)))
    refine ACall.testD (dp := false) (implWorldOk_c S 0 progs [⟨0, -1, 9223372036854775807, 0, 0⟩] [] [false] [] [] [] 0 agesw usedw [] [] [] [] [] []) (.of rfl (by repeat' (first | exact trivial | exact rfl | exact Nat.le_refl _ | exact S.ga | exact S.gb ‹_› | exact S.gc ‹_› | exact S.gd | exact S.ge | exact S.gf ‹_› | exact S.gg ‹_› | exact S.gh | exact .inl rfl | exact S.gi ‹_› | exact S.gj ‹_› | exact S.gk | exact S.gl | refine ⟨?_, ?_⟩))) rfl (fun h1 => ?_) (fun h1 => ?_) <;> (cbv; repeat (refine Later.mk ?_; cbv))
    rotate_left
    · exact absurd hok h1
    refine ACall.testD (dp := false) (tidyInNew_c S progs agesw usedw hok) (.of rfl (by repeat' (first | exact trivial | exact rfl | exact Nat.le_refl _ | exact S.ga | exact S.gb ‹_› | exact S.gc ‹_› | exact S.gd | exact S.ge | exact S.gf ‹_› | exact S.gg ‹_› | exact S.gh | exact .inl rfl | exact S.gi ‹_› | exact S.gj ‹_› | exact S.gk | exact S.gl | refine ⟨?_, ?_⟩))) rfl (fun h2 => ?_) (fun h2 => ?_) <;> (cbv; repeat (refine Later.mk ?_; cbv))
    rotate_left
    · exact absurd trivial h2
    refine Len.nat (fun k1 hk1 hm1 => ?_); (cbv; repeat (refine Later.mk ?_; cbv))
    refine Test.eql (fun g1 => ?_) (fun g1 => ?_) <;> (cbv; repeat (refine Later.mk ?_; cbv))
    rotate_left
    · exfalso; simp only [List.length_cons, List.length_nil] at *; omega
    refine Len.nat (fun k2 hk2 hm2 => ?_); (cbv; repeat (refine Later.mk ?_; cbv))
    refine Test.eql (fun g2 => ?_) (fun g2 => ?_) <;> (cbv; repeat (refine Later.mk ?_; cbv))
    rotate_left
    · exfalso; simp only [List.length_cons, List.length_nil] at *; omega
    refine ElemRef.go rfl (by decide) (by simp only [List.length_cons, List.length_nil] at *; omega) (by rw [S.cx.lenE']; simp only [List.length_cons, List.length_nil] at *; omega) (fun row hrow => ?_); (cbv; repeat (refine Later.mk ?_; cbv))
    obtain rfl : row = 0 := by omega
    refine Row.atE S.cx (x := false) rfl ?_; (cbv; repeat (refine Later.mk ?_; cbv))
    have hsl : SlotsOk ⟨agesw, usedw⟩ := hok.2.2.2.2.2.2.1.1.1
    refine ACall.num (dp := false) (implUsedIn_c S agesw usedw hsl) (.of rfl (by repeat' (first | exact trivial | exact rfl | exact Nat.le_refl _ | exact S.ga | exact S.gb ‹_› | exact S.gc ‹_› | exact S.gd | exact S.ge | exact S.gf ‹_› | exact S.gg ‹_› | exact S.gh | exact .inl rfl | exact S.gi ‹_› | exact S.gj ‹_› | exact S.gk | exact S.gl | refine ⟨?_, ?_⟩))) (fun u hu => ?_); (cbv; repeat (refine Later.mk ?_; cbv))
    have hu0 : usedN usedw = 0 := by rw [hused]; exact usedN_replicate _
    refine Test.eql (fun g3 => ?_) (fun g3 => ?_) <;> (cbv; repeat (refine Later.mk ?_; cbv))
    rotate_left
    · exfalso; omega
    refine Len.nat (fun k3 hk3 hm3 => ?_); (cbv; repeat (refine Later.mk ?_; cbv))
    have hal : agesw.length = n.toNat := by rw [hages]; simp
    refine Test.eql (fun g4 => ?_) (fun g4 => ?_) <;> (cbv; repeat (refine Later.mk ?_; cbv))
    rotate_left
    · exfalso; omega
    exact Done.to (.bool true) [] rfl rfl trivial ⟨rfl, rfl⟩
  · cases hw
    (cbv; repeat (refine Later.mk ?_; cbv)); repeat (refine Later.mk ?_; (cbv; repeat (refine Later.mk ?_; cbv)))
    refine Len.nat (fun k1 hk1 hm1 => ?_); (cbv; repeat (refine Later.mk ?_; cbv))
    refine Test.eql (fun g1 => ?_) (fun g1 => ?_) <;> (cbv; repeat (refine Later.mk ?_; cbv))
    rotate_left
    · exfalso; simp only [List.length_nil] at *; omega
    exact Done.to (.bool true) [] rfl rfl trivial ⟨rfl, rfl⟩

end Go.Proofs.YtgooambndfkgkaaGreat.AM
