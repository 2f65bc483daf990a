/- Contracts: programs drawn. (printed by gw22.py) -/
import Derived.Test.YtgooambndfkgkaaGreatW20
import Derived.Test.YtgooambndfkgkaaGreatDX1
import Derived.Test.YtgooambndfkgkaaGreatBD
namespace Go.Proofs.YtgooambndfkgkaaGreat.AM
open Go Go.Proofs

set_option maxRecDepth 100000
set_option maxHeartbeats 4000000
set_option linter.unusedVariables false
set_option linter.unusedSimpArgs false

variable {P : Program} {A : Sy}

theorem l9Two_c (S : Se P A) (op : Int) : Tests P 225 [.int .i64 op] (op = 3 ∨ op = 4 ∨ op = 6 ∨ op = 7 ∨ op = 10) := by
  refine S.cx.by (S.prog ▸ Tryz.func225) rfl rfl rfl rfl (fun hv ho => ?_)
  cbv
  repeat' (first
    | (refine Test.eql (fun _ => ?_) (fun _ => ?_) <;> cbv)
    | (refine Test.neq (fun _ => ?_) (fun _ => ?_) <;> cbv)
    | (refine Test.lss (fun _ => ?_) (fun _ => ?_) <;> cbv)
    | (refine Test.leq (fun _ => ?_) (fun _ => ?_) <;> cbv)
    | (refine Test.gtr (fun _ => ?_) (fun _ => ?_) <;> cbv)
    | (refine Test.geq (fun _ => ?_) (fun _ => ?_) <;> cbv)
    | (refine ⟨⟨by kernel_rfl, fun _ => ?_⟩⟩)
    | (refine LenR.nat S.cx (fun N hN hm => ?_); cbv)
    | exact Done.yes (by omega)
    | exact Done.no (by omega))


theorem l9DrawIns_c (S : Se P A) (code : List Int) (hb : code.length ≤ 4096) (hc : ∀ b ∈ code, 0 ≤ b ∧ b ≤ 255) (i h : Int) (hi : 0 ≤ i) : SoundM P 120 true [.ptr 1000 0 0] [.box [.ro (A.enc cByte code), .int .i64 i, .int .i64 h]]
    (fun v os => ∃ (x : Ins) (i' h' : Int), 0 ≤ i' ∧ v = .agg (cIns x) ∧ os = [some (.box [.ro (A.enc cByte code), .int .i64 i', .int .i64 h'])]) := by
  obtain ⟨i0, rfl⟩ : ∃ x, x = i := ⟨_, rfl⟩
  obtain ⟨h0, rfl⟩ : ∃ x, x = h := ⟨_, rfl⟩
  have hi0 := hi
  have fin : ∀ (op a b i' h' : Int), 0 ≤ i' → (∃ (x : Ins) (i2 h2 : Int), 0 ≤ i2 ∧ AV.agg (cIns ⟨op, a, b⟩) = .agg (cIns x) ∧ [some (Obj.box [.ro (A.enc cByte code), .int .i64 i', .int .i64 h'])] = [some (.box [.ro (A.enc cByte code), .int .i64 i2, .int .i64 h2])]) := fun op a b i' h' hi' => ⟨⟨op, a, b⟩, i', h', hi', rfl, rfl⟩
  refine S.cx.byS [99999] (S.prog ▸ Tryz.func120) rfl rfl rfl rfl (fun ln hln hv ho => ?_)
  (cbv; repeat (refine Later.mk ?_; cbv))
  clear hv ho
  refine ACall.valN (r := rCur) (os := oCur A code) (dp := false) S.cx (l1Below_c S code hb hc i0 h0 hi0 (11)) (.of rfl (by repeat' (first | exact trivial | exact rfl | exact Nat.le_refl _ | exact S.ga | exact S.gb ‹_› | exact S.gc ‹_› | exact S.gd | exact S.ge | exact S.gf ‹_› | exact S.gg ‹_› | exact S.gh | exact .inl rfl | exact S.gi ‹_› | exact S.gj ‹_› | exact S.gk | exact S.gl | refine ⟨?_, ?_⟩))) rfl (fun ln hln x hx => ⟨rfl, ?_⟩)
  obtain ⟨op, i1, h1⟩ := x
  (cbv; repeat (refine Later.mk ?_; cbv))
  have hk1 := belowF_ok code hb hc i0 h0 hi0 (11)
  rw [← hx] at hk1
  clear hx
  dsimp only at hk1
  have hi1 := hk1.2
  replace hk1 := hk1.1
  refine ACall.valN (r := rCur) (os := oCur A code) (dp := false) S.cx (l1From_c S code hb hc i1 h1 hi1 (-1) 5 (by decide)) (.of rfl (by repeat' (first | exact trivial | exact rfl | exact Nat.le_refl _ | exact S.ga | exact S.gb ‹_› | exact S.gc ‹_› | exact S.gd | exact S.ge | exact S.gf ‹_› | exact S.gg ‹_› | exact S.gh | exact .inl rfl | exact S.gi ‹_› | exact S.gj ‹_› | exact S.gk | exact S.gl | refine ⟨?_, ?_⟩))) rfl (fun ln hln x hx => ⟨rfl, ?_⟩)
  obtain ⟨a, i2, h2⟩ := x
  (cbv; repeat (refine Later.mk ?_; cbv))
  have hk2 := fromF_ok code hb hc i1 h1 hi1 (-1) 5
  rw [← hx] at hk2
  clear hx
  dsimp only at hk2
  have hi2 := hk2.2
  clear hk2
  refine Test.eql (fun e0 => ?_) (fun e0 => ?_) <;> (cbv; repeat (refine Later.mk ?_; cbv))
  · skip
    refine ACall.valN (r := rCur) (os := oCur A code) (dp := false) S.cx (l1Below_c S code hb hc i2 h2 hi2 (4)) (.of rfl (by repeat' (first | exact trivial | exact rfl | exact Nat.le_refl _ | exact S.ga | exact S.gb ‹_› | exact S.gc ‹_› | exact S.gd | exact S.ge | exact S.gf ‹_› | exact S.gg ‹_› | exact S.gh | exact .inl rfl | exact S.gi ‹_› | exact S.gj ‹_› | exact S.gk | exact S.gl | refine ⟨?_, ?_⟩))) rfl (fun ln hln x hx => ⟨rfl, ?_⟩)
    obtain ⟨a2, i3, h3⟩ := x
    (cbv; repeat (refine Later.mk ?_; cbv))
    have hk3 := belowF_ok code hb hc i2 h2 hi2 (4)
    rw [← hx] at hk3
    clear hx
    dsimp only at hk3
    have hi3 := hk3.2
    clear hk3
    refine ACall.testD (dp := false) (l9Two_c S op) (.of rfl (by repeat' (first | exact trivial | exact rfl | exact Nat.le_refl _ | exact S.ga | exact S.gb ‹_› | exact S.gc ‹_› | exact S.gd | exact S.ge | exact S.gf ‹_› | exact S.gg ‹_› | exact S.gh | exact .inl rfl | exact S.gi ‹_› | exact S.gj ‹_› | exact S.gk | exact S.gl | refine ⟨?_, ?_⟩))) rfl (fun g => ?_) (fun g => ?_) <;> (cbv; repeat (refine Later.mk ?_; cbv))
    rotate_left
    · exact Done.to (.agg (cIns ⟨op, a2, 0⟩)) [some (.box [.ro (A.enc cByte code), .int .i64 i3, .int .i64 h3])] rfl ⟨rfl, rfl, rfl, trivial⟩ ⟨⟨⟨rfl, .inl rfl⟩, rfl, rfl, trivial⟩, trivial⟩ (fin _ _ _ _ _ hi3)
    refine ACall.valN (r := rCur) (os := oCur A code) (dp := false) S.cx (l1Below_c S code hb hc i3 h3 hi3 (4)) (.of rfl (by repeat' (first | exact trivial | exact rfl | exact Nat.le_refl _ | exact S.ga | exact S.gb ‹_› | exact S.gc ‹_› | exact S.gd | exact S.ge | exact S.gf ‹_› | exact S.gg ‹_› | exact S.gh | exact .inl rfl | exact S.gi ‹_› | exact S.gj ‹_› | exact S.gk | exact S.gl | refine ⟨?_, ?_⟩))) rfl (fun ln hln x hx => ⟨rfl, ?_⟩)
    obtain ⟨b, i4, h4⟩ := x
    (cbv; repeat (refine Later.mk ?_; cbv))
    have hk4 := belowF_ok code hb hc i3 h3 hi3 (4)
    rw [← hx] at hk4
    clear hx
    dsimp only at hk4
    have hi4 := hk4.2
    clear hk4
    refine Test.eql (fun g10 => ?_) (fun g10 => ?_) <;> (cbv; repeat (refine Later.mk ?_; cbv))
    rotate_left
    · exact Done.to (.agg (cIns ⟨op, a2, b⟩)) [some (.box [.ro (A.enc cByte code), .int .i64 i4, .int .i64 h4])] rfl ⟨rfl, rfl, rfl, trivial⟩ ⟨⟨⟨rfl, .inl rfl⟩, rfl, rfl, trivial⟩, trivial⟩ (fin _ _ _ _ _ hi4)
    refine ACall.valN (r := rCur) (os := oCur A code) (dp := false) S.cx (l1Below_c S code hb hc i4 h4 hi4 (3)) (.of rfl (by repeat' (first | exact trivial | exact rfl | exact Nat.le_refl _ | exact S.ga | exact S.gb ‹_› | exact S.gc ‹_› | exact S.gd | exact S.ge | exact S.gf ‹_› | exact S.gg ‹_› | exact S.gh | exact .inl rfl | exact S.gi ‹_› | exact S.gj ‹_› | exact S.gk | exact S.gl | refine ⟨?_, ?_⟩))) rfl (fun ln hln x hx => ⟨rfl, ?_⟩)
    obtain ⟨c, i5, h5⟩ := x
    (cbv; repeat (refine Later.mk ?_; cbv))
    have hk5 := belowF_ok code hb hc i4 h4 hi4 (3)
    rw [← hx] at hk5
    clear hx
    dsimp only at hk5
    have hi5 := hk5.2
    replace hk5 := hk5.1
    refine Arith.go (by have := hk5.2.1 (by decide); omega) (fun b2 _ => ?_); (cbv; repeat (refine Later.mk ?_; cbv))
    exact Done.to (.agg (cIns ⟨op, a2, b2⟩)) [some (.box [.ro (A.enc cByte code), .int .i64 i5, .int .i64 h5])] rfl ⟨rfl, rfl, rfl, trivial⟩ ⟨⟨⟨rfl, .inl rfl⟩, rfl, rfl, trivial⟩, trivial⟩ (fin _ _ _ _ _ hi5)
  refine Test.eql (fun e5 => ?_) (fun e5 => ?_) <;> (cbv; repeat (refine Later.mk ?_; cbv))
  · skip
    refine ACall.valN (r := rCur) (os := oCur A code) (dp := false) S.cx (l1Below_c S code hb hc i2 h2 hi2 (3)) (.of rfl (by repeat' (first | exact trivial | exact rfl | exact Nat.le_refl _ | exact S.ga | exact S.gb ‹_› | exact S.gc ‹_› | exact S.gd | exact S.ge | exact S.gf ‹_› | exact S.gg ‹_› | exact S.gh | exact .inl rfl | exact S.gi ‹_› | exact S.gj ‹_› | exact S.gk | exact S.gl | refine ⟨?_, ?_⟩))) rfl (fun ln hln x hx => ⟨rfl, ?_⟩)
    obtain ⟨a2, i3, h3⟩ := x
    (cbv; repeat (refine Later.mk ?_; cbv))
    have hk3 := belowF_ok code hb hc i2 h2 hi2 (3)
    rw [← hx] at hk3
    clear hx
    dsimp only at hk3
    have hi3 := hk3.2
    clear hk3
    refine ACall.testD (dp := false) (l9Two_c S op) (.of rfl (by repeat' (first | exact trivial | exact rfl | exact Nat.le_refl _ | exact S.ga | exact S.gb ‹_› | exact S.gc ‹_› | exact S.gd | exact S.ge | exact S.gf ‹_› | exact S.gg ‹_› | exact S.gh | exact .inl rfl | exact S.gi ‹_› | exact S.gj ‹_› | exact S.gk | exact S.gl | refine ⟨?_, ?_⟩))) rfl (fun g => ?_) (fun g => ?_) <;> (cbv; repeat (refine Later.mk ?_; cbv))
    rotate_left
    · exact Done.to (.agg (cIns ⟨op, a2, 0⟩)) [some (.box [.ro (A.enc cByte code), .int .i64 i3, .int .i64 h3])] rfl ⟨rfl, rfl, rfl, trivial⟩ ⟨⟨⟨rfl, .inl rfl⟩, rfl, rfl, trivial⟩, trivial⟩ (fin _ _ _ _ _ hi3)
    refine ACall.valN (r := rCur) (os := oCur A code) (dp := false) S.cx (l1Below_c S code hb hc i3 h3 hi3 (4)) (.of rfl (by repeat' (first | exact trivial | exact rfl | exact Nat.le_refl _ | exact S.ga | exact S.gb ‹_› | exact S.gc ‹_› | exact S.gd | exact S.ge | exact S.gf ‹_› | exact S.gg ‹_› | exact S.gh | exact .inl rfl | exact S.gi ‹_› | exact S.gj ‹_› | exact S.gk | exact S.gl | refine ⟨?_, ?_⟩))) rfl (fun ln hln x hx => ⟨rfl, ?_⟩)
    obtain ⟨b, i4, h4⟩ := x
    (cbv; repeat (refine Later.mk ?_; cbv))
    have hk4 := belowF_ok code hb hc i3 h3 hi3 (4)
    rw [← hx] at hk4
    clear hx
    dsimp only at hk4
    have hi4 := hk4.2
    clear hk4
    refine Test.eql (fun g10 => ?_) (fun g10 => ?_) <;> (cbv; repeat (refine Later.mk ?_; cbv))
    rotate_left
    · exact Done.to (.agg (cIns ⟨op, a2, b⟩)) [some (.box [.ro (A.enc cByte code), .int .i64 i4, .int .i64 h4])] rfl ⟨rfl, rfl, rfl, trivial⟩ ⟨⟨⟨rfl, .inl rfl⟩, rfl, rfl, trivial⟩, trivial⟩ (fin _ _ _ _ _ hi4)
    refine ACall.valN (r := rCur) (os := oCur A code) (dp := false) S.cx (l1Below_c S code hb hc i4 h4 hi4 (3)) (.of rfl (by repeat' (first | exact trivial | exact rfl | exact Nat.le_refl _ | exact S.ga | exact S.gb ‹_› | exact S.gc ‹_› | exact S.gd | exact S.ge | exact S.gf ‹_› | exact S.gg ‹_› | exact S.gh | exact .inl rfl | exact S.gi ‹_› | exact S.gj ‹_› | exact S.gk | exact S.gl | refine ⟨?_, ?_⟩))) rfl (fun ln hln x hx => ⟨rfl, ?_⟩)
    obtain ⟨c, i5, h5⟩ := x
    (cbv; repeat (refine Later.mk ?_; cbv))
    have hk5 := belowF_ok code hb hc i4 h4 hi4 (3)
    rw [← hx] at hk5
    clear hx
    dsimp only at hk5
    have hi5 := hk5.2
    replace hk5 := hk5.1
    refine Arith.go (by have := hk5.2.1 (by decide); omega) (fun b2 _ => ?_); (cbv; repeat (refine Later.mk ?_; cbv))
    exact Done.to (.agg (cIns ⟨op, a2, b2⟩)) [some (.box [.ro (A.enc cByte code), .int .i64 i5, .int .i64 h5])] rfl ⟨rfl, rfl, rfl, trivial⟩ ⟨⟨⟨rfl, .inl rfl⟩, rfl, rfl, trivial⟩, trivial⟩ (fin _ _ _ _ _ hi5)
  refine Test.eql (fun e6 => ?_) (fun e6 => ?_) <;> (cbv; repeat (refine Later.mk ?_; cbv))
  · skip
    refine ACall.valN (r := rCur) (os := oCur A code) (dp := false) S.cx (l1Below_c S code hb hc i2 h2 hi2 (2)) (.of rfl (by repeat' (first | exact trivial | exact rfl | exact Nat.le_refl _ | exact S.ga | exact S.gb ‹_› | exact S.gc ‹_› | exact S.gd | exact S.ge | exact S.gf ‹_› | exact S.gg ‹_› | exact S.gh | exact .inl rfl | exact S.gi ‹_› | exact S.gj ‹_› | exact S.gk | exact S.gl | refine ⟨?_, ?_⟩))) rfl (fun ln hln x hx => ⟨rfl, ?_⟩)
    obtain ⟨a2, i3, h3⟩ := x
    (cbv; repeat (refine Later.mk ?_; cbv))
    have hk3 := belowF_ok code hb hc i2 h2 hi2 (2)
    rw [← hx] at hk3
    clear hx
    dsimp only at hk3
    have hi3 := hk3.2
    clear hk3
    refine ACall.testD (dp := false) (l9Two_c S op) (.of rfl (by repeat' (first | exact trivial | exact rfl | exact Nat.le_refl _ | exact S.ga | exact S.gb ‹_› | exact S.gc ‹_› | exact S.gd | exact S.ge | exact S.gf ‹_› | exact S.gg ‹_› | exact S.gh | exact .inl rfl | exact S.gi ‹_› | exact S.gj ‹_› | exact S.gk | exact S.gl | refine ⟨?_, ?_⟩))) rfl (fun g => ?_) (fun g => ?_) <;> (cbv; repeat (refine Later.mk ?_; cbv))
    rotate_left
    · exact Done.to (.agg (cIns ⟨op, a2, 0⟩)) [some (.box [.ro (A.enc cByte code), .int .i64 i3, .int .i64 h3])] rfl ⟨rfl, rfl, rfl, trivial⟩ ⟨⟨⟨rfl, .inl rfl⟩, rfl, rfl, trivial⟩, trivial⟩ (fin _ _ _ _ _ hi3)
    refine ACall.valN (r := rCur) (os := oCur A code) (dp := false) S.cx (l1Below_c S code hb hc i3 h3 hi3 (4)) (.of rfl (by repeat' (first | exact trivial | exact rfl | exact Nat.le_refl _ | exact S.ga | exact S.gb ‹_› | exact S.gc ‹_› | exact S.gd | exact S.ge | exact S.gf ‹_› | exact S.gg ‹_› | exact S.gh | exact .inl rfl | exact S.gi ‹_› | exact S.gj ‹_› | exact S.gk | exact S.gl | refine ⟨?_, ?_⟩))) rfl (fun ln hln x hx => ⟨rfl, ?_⟩)
    obtain ⟨b, i4, h4⟩ := x
    (cbv; repeat (refine Later.mk ?_; cbv))
    have hk4 := belowF_ok code hb hc i3 h3 hi3 (4)
    rw [← hx] at hk4
    clear hx
    dsimp only at hk4
    have hi4 := hk4.2
    clear hk4
    refine Test.eql (fun g10 => ?_) (fun g10 => ?_) <;> (cbv; repeat (refine Later.mk ?_; cbv))
    rotate_left
    · exact Done.to (.agg (cIns ⟨op, a2, b⟩)) [some (.box [.ro (A.enc cByte code), .int .i64 i4, .int .i64 h4])] rfl ⟨rfl, rfl, rfl, trivial⟩ ⟨⟨⟨rfl, .inl rfl⟩, rfl, rfl, trivial⟩, trivial⟩ (fin _ _ _ _ _ hi4)
    refine ACall.valN (r := rCur) (os := oCur A code) (dp := false) S.cx (l1Below_c S code hb hc i4 h4 hi4 (3)) (.of rfl (by repeat' (first | exact trivial | exact rfl | exact Nat.le_refl _ | exact S.ga | exact S.gb ‹_› | exact S.gc ‹_› | exact S.gd | exact S.ge | exact S.gf ‹_› | exact S.gg ‹_› | exact S.gh | exact .inl rfl | exact S.gi ‹_› | exact S.gj ‹_› | exact S.gk | exact S.gl | refine ⟨?_, ?_⟩))) rfl (fun ln hln x hx => ⟨rfl, ?_⟩)
    obtain ⟨c, i5, h5⟩ := x
    (cbv; repeat (refine Later.mk ?_; cbv))
    have hk5 := belowF_ok code hb hc i4 h4 hi4 (3)
    rw [← hx] at hk5
    clear hx
    dsimp only at hk5
    have hi5 := hk5.2
    replace hk5 := hk5.1
    refine Arith.go (by have := hk5.2.1 (by decide); omega) (fun b2 _ => ?_); (cbv; repeat (refine Later.mk ?_; cbv))
    exact Done.to (.agg (cIns ⟨op, a2, b2⟩)) [some (.box [.ro (A.enc cByte code), .int .i64 i5, .int .i64 h5])] rfl ⟨rfl, rfl, rfl, trivial⟩ ⟨⟨⟨rfl, .inl rfl⟩, rfl, rfl, trivial⟩, trivial⟩ (fin _ _ _ _ _ hi5)
  refine Test.eql (fun e7 => ?_) (fun e7 => ?_) <;> (cbv; repeat (refine Later.mk ?_; cbv))
  · skip
    refine ACall.valN (r := rCur) (os := oCur A code) (dp := false) S.cx (l1Below_c S code hb hc i2 h2 hi2 (2)) (.of rfl (by repeat' (first | exact trivial | exact rfl | exact Nat.le_refl _ | exact S.ga | exact S.gb ‹_› | exact S.gc ‹_› | exact S.gd | exact S.ge | exact S.gf ‹_› | exact S.gg ‹_› | exact S.gh | exact .inl rfl | exact S.gi ‹_› | exact S.gj ‹_› | exact S.gk | exact S.gl | refine ⟨?_, ?_⟩))) rfl (fun ln hln x hx => ⟨rfl, ?_⟩)
    obtain ⟨a2, i3, h3⟩ := x
    (cbv; repeat (refine Later.mk ?_; cbv))
    have hk3 := belowF_ok code hb hc i2 h2 hi2 (2)
    rw [← hx] at hk3
    clear hx
    dsimp only at hk3
    have hi3 := hk3.2
    clear hk3
    refine ACall.testD (dp := false) (l9Two_c S op) (.of rfl (by repeat' (first | exact trivial | exact rfl | exact Nat.le_refl _ | exact S.ga | exact S.gb ‹_› | exact S.gc ‹_› | exact S.gd | exact S.ge | exact S.gf ‹_› | exact S.gg ‹_› | exact S.gh | exact .inl rfl | exact S.gi ‹_› | exact S.gj ‹_› | exact S.gk | exact S.gl | refine ⟨?_, ?_⟩))) rfl (fun g => ?_) (fun g => ?_) <;> (cbv; repeat (refine Later.mk ?_; cbv))
    rotate_left
    · exact Done.to (.agg (cIns ⟨op, a2, 0⟩)) [some (.box [.ro (A.enc cByte code), .int .i64 i3, .int .i64 h3])] rfl ⟨rfl, rfl, rfl, trivial⟩ ⟨⟨⟨rfl, .inl rfl⟩, rfl, rfl, trivial⟩, trivial⟩ (fin _ _ _ _ _ hi3)
    refine ACall.valN (r := rCur) (os := oCur A code) (dp := false) S.cx (l1Below_c S code hb hc i3 h3 hi3 (4)) (.of rfl (by repeat' (first | exact trivial | exact rfl | exact Nat.le_refl _ | exact S.ga | exact S.gb ‹_› | exact S.gc ‹_› | exact S.gd | exact S.ge | exact S.gf ‹_› | exact S.gg ‹_› | exact S.gh | exact .inl rfl | exact S.gi ‹_› | exact S.gj ‹_› | exact S.gk | exact S.gl | refine ⟨?_, ?_⟩))) rfl (fun ln hln x hx => ⟨rfl, ?_⟩)
    obtain ⟨b, i4, h4⟩ := x
    (cbv; repeat (refine Later.mk ?_; cbv))
    have hk4 := belowF_ok code hb hc i3 h3 hi3 (4)
    rw [← hx] at hk4
    clear hx
    dsimp only at hk4
    have hi4 := hk4.2
    clear hk4
    refine Test.eql (fun g10 => ?_) (fun g10 => ?_) <;> (cbv; repeat (refine Later.mk ?_; cbv))
    rotate_left
    · exact Done.to (.agg (cIns ⟨op, a2, b⟩)) [some (.box [.ro (A.enc cByte code), .int .i64 i4, .int .i64 h4])] rfl ⟨rfl, rfl, rfl, trivial⟩ ⟨⟨⟨rfl, .inl rfl⟩, rfl, rfl, trivial⟩, trivial⟩ (fin _ _ _ _ _ hi4)
    refine ACall.valN (r := rCur) (os := oCur A code) (dp := false) S.cx (l1Below_c S code hb hc i4 h4 hi4 (3)) (.of rfl (by repeat' (first | exact trivial | exact rfl | exact Nat.le_refl _ | exact S.ga | exact S.gb ‹_› | exact S.gc ‹_› | exact S.gd | exact S.ge | exact S.gf ‹_› | exact S.gg ‹_› | exact S.gh | exact .inl rfl | exact S.gi ‹_› | exact S.gj ‹_› | exact S.gk | exact S.gl | refine ⟨?_, ?_⟩))) rfl (fun ln hln x hx => ⟨rfl, ?_⟩)
    obtain ⟨c, i5, h5⟩ := x
    (cbv; repeat (refine Later.mk ?_; cbv))
    have hk5 := belowF_ok code hb hc i4 h4 hi4 (3)
    rw [← hx] at hk5
    clear hx
    dsimp only at hk5
    have hi5 := hk5.2
    replace hk5 := hk5.1
    refine Arith.go (by have := hk5.2.1 (by decide); omega) (fun b2 _ => ?_); (cbv; repeat (refine Later.mk ?_; cbv))
    exact Done.to (.agg (cIns ⟨op, a2, b2⟩)) [some (.box [.ro (A.enc cByte code), .int .i64 i5, .int .i64 h5])] rfl ⟨rfl, rfl, rfl, trivial⟩ ⟨⟨⟨rfl, .inl rfl⟩, rfl, rfl, trivial⟩, trivial⟩ (fin _ _ _ _ _ hi5)
  refine Test.eql (fun e8 => ?_) (fun e8 => ?_) <;> (cbv; repeat (refine Later.mk ?_; cbv))
  · skip
    refine ACall.valN (r := rCur) (os := oCur A code) (dp := false) S.cx (l1Below_c S code hb hc i2 h2 hi2 (2)) (.of rfl (by repeat' (first | exact trivial | exact rfl | exact Nat.le_refl _ | exact S.ga | exact S.gb ‹_› | exact S.gc ‹_› | exact S.gd | exact S.ge | exact S.gf ‹_› | exact S.gg ‹_› | exact S.gh | exact .inl rfl | exact S.gi ‹_› | exact S.gj ‹_› | exact S.gk | exact S.gl | refine ⟨?_, ?_⟩))) rfl (fun ln hln x hx => ⟨rfl, ?_⟩)
    obtain ⟨a2, i3, h3⟩ := x
    (cbv; repeat (refine Later.mk ?_; cbv))
    have hk3 := belowF_ok code hb hc i2 h2 hi2 (2)
    rw [← hx] at hk3
    clear hx
    dsimp only at hk3
    have hi3 := hk3.2
    clear hk3
    refine ACall.testD (dp := false) (l9Two_c S op) (.of rfl (by repeat' (first | exact trivial | exact rfl | exact Nat.le_refl _ | exact S.ga | exact S.gb ‹_› | exact S.gc ‹_› | exact S.gd | exact S.ge | exact S.gf ‹_› | exact S.gg ‹_› | exact S.gh | exact .inl rfl | exact S.gi ‹_› | exact S.gj ‹_› | exact S.gk | exact S.gl | refine ⟨?_, ?_⟩))) rfl (fun g => ?_) (fun g => ?_) <;> (cbv; repeat (refine Later.mk ?_; cbv))
    rotate_left
    · exact Done.to (.agg (cIns ⟨op, a2, 0⟩)) [some (.box [.ro (A.enc cByte code), .int .i64 i3, .int .i64 h3])] rfl ⟨rfl, rfl, rfl, trivial⟩ ⟨⟨⟨rfl, .inl rfl⟩, rfl, rfl, trivial⟩, trivial⟩ (fin _ _ _ _ _ hi3)
    refine ACall.valN (r := rCur) (os := oCur A code) (dp := false) S.cx (l1Below_c S code hb hc i3 h3 hi3 (4)) (.of rfl (by repeat' (first | exact trivial | exact rfl | exact Nat.le_refl _ | exact S.ga | exact S.gb ‹_› | exact S.gc ‹_› | exact S.gd | exact S.ge | exact S.gf ‹_› | exact S.gg ‹_› | exact S.gh | exact .inl rfl | exact S.gi ‹_› | exact S.gj ‹_› | exact S.gk | exact S.gl | refine ⟨?_, ?_⟩))) rfl (fun ln hln x hx => ⟨rfl, ?_⟩)
    obtain ⟨b, i4, h4⟩ := x
    (cbv; repeat (refine Later.mk ?_; cbv))
    have hk4 := belowF_ok code hb hc i3 h3 hi3 (4)
    rw [← hx] at hk4
    clear hx
    dsimp only at hk4
    have hi4 := hk4.2
    clear hk4
    refine Test.eql (fun g10 => ?_) (fun g10 => ?_) <;> (cbv; repeat (refine Later.mk ?_; cbv))
    rotate_left
    · exact Done.to (.agg (cIns ⟨op, a2, b⟩)) [some (.box [.ro (A.enc cByte code), .int .i64 i4, .int .i64 h4])] rfl ⟨rfl, rfl, rfl, trivial⟩ ⟨⟨⟨rfl, .inl rfl⟩, rfl, rfl, trivial⟩, trivial⟩ (fin _ _ _ _ _ hi4)
    refine ACall.valN (r := rCur) (os := oCur A code) (dp := false) S.cx (l1Below_c S code hb hc i4 h4 hi4 (3)) (.of rfl (by repeat' (first | exact trivial | exact rfl | exact Nat.le_refl _ | exact S.ga | exact S.gb ‹_› | exact S.gc ‹_› | exact S.gd | exact S.ge | exact S.gf ‹_› | exact S.gg ‹_› | exact S.gh | exact .inl rfl | exact S.gi ‹_› | exact S.gj ‹_› | exact S.gk | exact S.gl | refine ⟨?_, ?_⟩))) rfl (fun ln hln x hx => ⟨rfl, ?_⟩)
    obtain ⟨c, i5, h5⟩ := x
    (cbv; repeat (refine Later.mk ?_; cbv))
    have hk5 := belowF_ok code hb hc i4 h4 hi4 (3)
    rw [← hx] at hk5
    clear hx
    dsimp only at hk5
    have hi5 := hk5.2
    replace hk5 := hk5.1
    refine Arith.go (by have := hk5.2.1 (by decide); omega) (fun b2 _ => ?_); (cbv; repeat (refine Later.mk ?_; cbv))
    exact Done.to (.agg (cIns ⟨op, a2, b2⟩)) [some (.box [.ro (A.enc cByte code), .int .i64 i5, .int .i64 h5])] rfl ⟨rfl, rfl, rfl, trivial⟩ ⟨⟨⟨rfl, .inl rfl⟩, rfl, rfl, trivial⟩, trivial⟩ (fin _ _ _ _ _ hi5)
  refine ACall.testD (dp := false) (l9Two_c S op) (.of rfl (by repeat' (first | exact trivial | exact rfl | exact Nat.le_refl _ | exact S.ga | exact S.gb ‹_› | exact S.gc ‹_› | exact S.gd | exact S.ge | exact S.gf ‹_› | exact S.gg ‹_› | exact S.gh | exact .inl rfl | exact S.gi ‹_› | exact S.gj ‹_› | exact S.gk | exact S.gl | refine ⟨?_, ?_⟩))) rfl (fun g => ?_) (fun g => ?_) <;> (cbv; repeat (refine Later.mk ?_; cbv))
  rotate_left
  · exact Done.to (.agg (cIns ⟨op, a, 0⟩)) [some (.box [.ro (A.enc cByte code), .int .i64 i2, .int .i64 h2])] rfl ⟨rfl, rfl, rfl, trivial⟩ ⟨⟨⟨rfl, .inl rfl⟩, rfl, rfl, trivial⟩, trivial⟩ (fin _ _ _ _ _ hi2)
  refine ACall.valN (r := rCur) (os := oCur A code) (dp := false) S.cx (l1Below_c S code hb hc i2 h2 hi2 (4)) (.of rfl (by repeat' (first | exact trivial | exact rfl | exact Nat.le_refl _ | exact S.ga | exact S.gb ‹_› | exact S.gc ‹_› | exact S.gd | exact S.ge | exact S.gf ‹_› | exact S.gg ‹_› | exact S.gh | exact .inl rfl | exact S.gi ‹_› | exact S.gj ‹_› | exact S.gk | exact S.gl | refine ⟨?_, ?_⟩))) rfl (fun ln hln x hx => ⟨rfl, ?_⟩)
  obtain ⟨b, i3, h3⟩ := x
  (cbv; repeat (refine Later.mk ?_; cbv))
  have hk3 := belowF_ok code hb hc i2 h2 hi2 (4)
  rw [← hx] at hk3
  clear hx
  dsimp only at hk3
  have hi3 := hk3.2
  clear hk3
  refine Test.eql (fun g10 => ?_) (fun g10 => ?_) <;> (cbv; repeat (refine Later.mk ?_; cbv))
  rotate_left
  · exact Done.to (.agg (cIns ⟨op, a, b⟩)) [some (.box [.ro (A.enc cByte code), .int .i64 i3, .int .i64 h3])] rfl ⟨rfl, rfl, rfl, trivial⟩ ⟨⟨⟨rfl, .inl rfl⟩, rfl, rfl, trivial⟩, trivial⟩ (fin _ _ _ _ _ hi3)
  refine ACall.valN (r := rCur) (os := oCur A code) (dp := false) S.cx (l1Below_c S code hb hc i3 h3 hi3 (3)) (.of rfl (by repeat' (first | exact trivial | exact rfl | exact Nat.le_refl _ | exact S.ga | exact S.gb ‹_› | exact S.gc ‹_› | exact S.gd | exact S.ge | exact S.gf ‹_› | exact S.gg ‹_› | exact S.gh | exact .inl rfl | exact S.gi ‹_› | exact S.gj ‹_› | exact S.gk | exact S.gl | refine ⟨?_, ?_⟩))) rfl (fun ln hln x hx => ⟨rfl, ?_⟩)
  obtain ⟨c, i4, h4⟩ := x
  (cbv; repeat (refine Later.mk ?_; cbv))
  have hk4 := belowF_ok code hb hc i3 h3 hi3 (3)
  rw [← hx] at hk4
  clear hx
  dsimp only at hk4
  have hi4 := hk4.2
  replace hk4 := hk4.1
  refine Arith.go (by have := hk4.2.1 (by decide); omega) (fun b2 _ => ?_); (cbv; repeat (refine Later.mk ?_; cbv))
  exact Done.to (.agg (cIns ⟨op, a, b2⟩)) [some (.box [.ro (A.enc cByte code), .int .i64 i4, .int .i64 h4])] rfl ⟨rfl, rfl, rfl, trivial⟩ ⟨⟨⟨rfl, .inl rfl⟩, rfl, rfl, trivial⟩, trivial⟩ (fin _ _ _ _ _ hi4)

theorem l9Draw_c (S : Se P A) (code : List Int) (hb : code.length ≤ 4096) (hc : ∀ b ∈ code, 0 ≤ b ∧ b ≤ 255) (i h : Int) (hi : 0 ≤ i) : SoundM P 119 true [.ptr 1000 0 0] [.box [.ro (A.enc cByte code), .int .i64 i, .int .i64 h]]
    (fun v os => ∃ (l : List Ins) (i' h' : Int), l.length ≤ 12 ∧ 0 ≤ i' ∧ v = .own 3 true (A.enc cIns l) ∧ os = [some (.box [.ro (A.enc cByte code), .int .i64 i', .int .i64 h'])]) := by
  obtain ⟨i0, rfl⟩ : ∃ x, x = i := ⟨_, rfl⟩
  obtain ⟨h0, rfl⟩ : ∃ x, x = h := ⟨_, rfl⟩
  have hi0 := hi
  refine S.cx.byS [99999] (S.prog ▸ Tryz.func119) rfl rfl rfl rfl (fun ln hln hv ho => ?_)
  (cbv; repeat (refine Later.mk ?_; cbv))
  clear hv ho
  refine ACall.valN (r := rCur) (os := oCur A code) (dp := false) S.cx (l1Below_c S code hb hc i0 h0 hi0 (8)) (.of rfl (by repeat' (first | exact trivial | exact rfl | exact Nat.le_refl _ | exact S.ga | exact S.gb ‹_› | exact S.gc ‹_› | exact S.gd | exact S.ge | exact S.gf ‹_› | exact S.gg ‹_› | exact S.gh | exact .inl rfl | exact S.gi ‹_› | exact S.gj ‹_› | exact S.gk | exact S.gl | refine ⟨?_, ?_⟩))) rfl (fun ln hln x hx => ⟨rfl, ?_⟩)
  obtain ⟨n, i1, h1⟩ := x
  (cbv; repeat (refine Later.mk ?_; cbv))
  have hk1 := belowF_ok code hb hc i0 h0 hi0 (8)
  rw [← hx] at hk1
  clear hx
  dsimp only at hk1
  have hi1 := hk1.2
  replace hk1 := hk1.1
  have hn0 := hk1.2.1 (by decide)
  refine ACall.valN (r := rCurB) (os := oCur A code) (dp := false) S.cx (l1Once_c S code hb hc i1 h1 hi1 (20)) (.of rfl (by repeat' (first | exact trivial | exact rfl | exact Nat.le_refl _ | exact S.ga | exact S.gb ‹_› | exact S.gc ‹_› | exact S.gd | exact S.ge | exact S.gf ‹_› | exact S.gg ‹_› | exact S.gh | exact .inl rfl | exact S.gi ‹_› | exact S.gj ‹_› | exact S.gk | exact S.gl | refine ⟨?_, ?_⟩))) rfl (fun ln hln x hx => ⟨rfl, ?_⟩)
  obtain ⟨b, i2, h2⟩ := x
  (cbv; repeat (refine Later.mk ?_; cbv))
  have hk2 := onceF_ok code hb hc i1 h1 hi1 (20)
  rw [← hx] at hk2
  clear hx
  dsimp only at hk2
  have hi2 := hk2.2
  clear hk2
  cases b <;> ((cbv; repeat (refine Later.mk ?_; cbv)); repeat (refine Later.mk ?_; (cbv; repeat (refine Later.mk ?_; cbv))))
  refine ALoop.pre (Less.initE S.cx cIns 999000000 3 true (t := 3) rfl (by first | exact .inr rfl | exact .inl rfl) rfl) ?_
  (cbv; repeat (refine Later.mk ?_; cbv))
  refine ALoop.goT (ι := List Ins × Nat × Int × Int × Int) (fun i => [(4, .int .i64 i.2.2.1), (3, .ref false 999000000 0 i.2.1)]) [] [999000000, 1000] (fun i => [(999000000, .arr 3 true (A.enc cIns i.1)), (1000, .box [.ro (A.enc cByte code), .int .i64 i.2.2.2.1, .int .i64 i.2.2.2.2])]) (fun i => i.2.1 = i.1.length ∧ (i.2.2.1 ≤ 12 ∧ 0 ≤ i.2.2.1) ∧ (i.1.length : Int) + i.2.2.1 ≤ 12 ∧ 0 ≤ i.2.2.2.1) (fun i => i.2.2.1.toNat) (([], 0, n, i2, h2)) [99999] S.cx.tab S.cx.mix S.eq ?_ ?_ ?_
  · exact ⟨rfl, ⟨by dsimp only; omega, by dsimp only; omega⟩, by dsimp only; simp <;> omega, hi2⟩
  · ((cbv; repeat (refine Later.mk ?_; cbv)); refine Less.to [] rfl rfl ?_ ?_ <;> repeat' (first | exact trivial | exact ⟨rfl, rfl⟩ | exact ⟨_, rfl, Nat.zero_le _, rfl⟩ | apply And.intro | exact rfl))
  rintro ⟨l, k, m, i3, h3⟩ hk
  dsimp only at hk
  obtain ⟨hkl, hm, hlm, hi3⟩ := hk
  have hlm : l.length + m.toNat ≤ 12 := by lia
  refine Rnd.mk ?_; (cbv; repeat (refine Later.mk ?_; cbv))
  refine Test.gtr (fun g => ?_) (fun g => ?_) <;> (cbv; repeat (refine Later.mk ?_; cbv))
  · refine ACall.ofN (dp := false) S.cx (l9DrawIns_c S code hb hc i3 h3 hi3) (.of rfl (by repeat' (first | exact trivial | exact rfl | exact Nat.le_refl _ | exact S.ga | exact S.gb ‹_› | exact S.gc ‹_› | exact S.gd | exact S.ge | exact S.gf ‹_› | exact S.gg ‹_› | exact S.gh | exact .inl rfl | exact S.gi ‹_› | exact S.gj ‹_› | exact S.gk | exact S.gl | refine ⟨?_, ?_⟩))) (fun ln hln v os hv => ?_)
    obtain ⟨⟨op, a, b⟩, i4, h4, hi4, rfl, rfl⟩ := hv
    refine ⟨rfl, ?_⟩; (cbv; repeat (refine Later.mk ?_; cbv))
    refine Part.one ?_; (cbv; repeat (refine Later.mk ?_; cbv))
    refine AppRef.push S.cx (⟨op, a, b⟩ : Ins) (by assumption) rfl rfl plainIns (fun _ => rfl) (by simp only [maxBytes]; omega) (fun n9 w hw hnw => ?_); (cbv; repeat (refine Later.mk ?_; cbv))
    refine Arith.go (by omega) (fun m' hm' => ?_); (cbv; repeat (refine Later.mk ?_; cbv))
    replace hm' : m' = m - 1 := hm'
    have hwl : w.length = l.length + 1 := by rw [hw]; simp
    refine Again.on (w, n9, m', i4, h4) (by dsimp only; omega) ⟨hnw, ⟨by dsimp only; omega, by dsimp only; omega⟩, by dsimp only; lia, hi4⟩ ?_
    ((cbv; repeat (refine Later.mk ?_; cbv)); refine Less.to [(999000000, (8040000, 0))] rfl rfl ?_ ?_ <;> repeat' (first | exact trivial | exact ⟨rfl, rfl⟩ | exact ⟨_, rfl, Nat.zero_le _, rfl⟩ | apply And.intro | exact rfl))
  · exact Done.to (.own 3 true (A.enc cIns l)) [some (.box [.ro (A.enc cByte code), .int .i64 i3, .int .i64 h3])] rfl (resOwn1 S.cx rfl hkl) ⟨⟨⟨rfl, .inl rfl⟩, rfl, rfl, trivial⟩, trivial⟩ ⟨l, i3, h3, by omega, hi3, rfl, rfl⟩
  refine ALoop.pre (Less.initE S.cx cIns 999000000 3 true (t := 3) rfl (by first | exact .inr rfl | exact .inl rfl) rfl) ?_
  (cbv; repeat (refine Later.mk ?_; cbv))
  refine ALoop.goT (ι := List Ins × Nat × Int × Int × Int) (fun i => [(4, .int .i64 i.2.2.1), (3, .ref false 999000000 0 i.2.1)]) [] [999000000, 1000] (fun i => [(999000000, .arr 3 true (A.enc cIns i.1)), (1000, .box [.ro (A.enc cByte code), .int .i64 i.2.2.2.1, .int .i64 i.2.2.2.2])]) (fun i => i.2.1 = i.1.length ∧ (i.2.2.1 ≤ 12 ∧ 0 ≤ i.2.2.1) ∧ (i.1.length : Int) + i.2.2.1 ≤ 12 ∧ 0 ≤ i.2.2.2.1) (fun i => i.2.2.1.toNat) (([], 0, 12, i2, h2)) [99999] S.cx.tab S.cx.mix S.eq ?_ ?_ ?_
  · exact ⟨rfl, ⟨by dsimp only; omega, by dsimp only; omega⟩, by dsimp only; simp <;> omega, hi2⟩
  · ((cbv; repeat (refine Later.mk ?_; cbv)); refine Less.to [] rfl rfl ?_ ?_ <;> repeat' (first | exact trivial | exact ⟨rfl, rfl⟩ | exact ⟨_, rfl, Nat.zero_le _, rfl⟩ | apply And.intro | exact rfl))
  rintro ⟨l, k, m, i3, h3⟩ hk
  dsimp only at hk
  obtain ⟨hkl, hm, hlm, hi3⟩ := hk
  have hlm : l.length + m.toNat ≤ 12 := by lia
  refine Rnd.mk ?_; (cbv; repeat (refine Later.mk ?_; cbv))
  refine Test.gtr (fun g => ?_) (fun g => ?_) <;> (cbv; repeat (refine Later.mk ?_; cbv))
  · refine ACall.ofN (dp := false) S.cx (l9DrawIns_c S code hb hc i3 h3 hi3) (.of rfl (by repeat' (first | exact trivial | exact rfl | exact Nat.le_refl _ | exact S.ga | exact S.gb ‹_› | exact S.gc ‹_› | exact S.gd | exact S.ge | exact S.gf ‹_› | exact S.gg ‹_› | exact S.gh | exact .inl rfl | exact S.gi ‹_› | exact S.gj ‹_› | exact S.gk | exact S.gl | refine ⟨?_, ?_⟩))) (fun ln hln v os hv => ?_)
    obtain ⟨⟨op, a, b⟩, i4, h4, hi4, rfl, rfl⟩ := hv
    refine ⟨rfl, ?_⟩; (cbv; repeat (refine Later.mk ?_; cbv))
    refine Part.one ?_; (cbv; repeat (refine Later.mk ?_; cbv))
    refine AppRef.push S.cx (⟨op, a, b⟩ : Ins) (by assumption) rfl rfl plainIns (fun _ => rfl) (by simp only [maxBytes]; omega) (fun n9 w hw hnw => ?_); (cbv; repeat (refine Later.mk ?_; cbv))
    refine Arith.go (by omega) (fun m' hm' => ?_); (cbv; repeat (refine Later.mk ?_; cbv))
    replace hm' : m' = m - 1 := hm'
    have hwl : w.length = l.length + 1 := by rw [hw]; simp
    refine Again.on (w, n9, m', i4, h4) (by dsimp only; omega) ⟨hnw, ⟨by dsimp only; omega, by dsimp only; omega⟩, by dsimp only; lia, hi4⟩ ?_
    ((cbv; repeat (refine Later.mk ?_; cbv)); refine Less.to [(999000000, (8040000, 0))] rfl rfl ?_ ?_ <;> repeat' (first | exact trivial | exact ⟨rfl, rfl⟩ | exact ⟨_, rfl, Nat.zero_le _, rfl⟩ | apply And.intro | exact rfl))
  · exact Done.to (.own 3 true (A.enc cIns l)) [some (.box [.ro (A.enc cByte code), .int .i64 i3, .int .i64 h3])] rfl (resOwn1 S.cx rfl hkl) ⟨⟨⟨rfl, .inl rfl⟩, rfl, rfl, trivial⟩, trivial⟩ ⟨l, i3, h3, by omega, hi3, rfl, rfl⟩

theorem l9DrawAny_c (S : Se P A) (code : List Int) (hb : code.length ≤ 4096) (hc : ∀ b ∈ code, 0 ≤ b ∧ b ≤ 255) (i h : Int) (hi : 0 ≤ i) : SoundM P 26 true [.ptr 1000 0 0] [.box [.ro (A.enc cByte code), .int .i64 i, .int .i64 h]]
    (fun v os => ∃ (l : List Ins) (i' h' : Int), l.length ≤ 13 ∧ 0 ≤ i' ∧ v = .own 3 true (A.enc cIns l) ∧ os = [some (.box [.ro (A.enc cByte code), .int .i64 i', .int .i64 h'])]) := by
  refine S.cx.byS [99999] (S.prog ▸ Tryz.func26) rfl rfl rfl rfl (fun ln hln hv ho => ?_)
  (cbv; repeat (refine Later.mk ?_; cbv))
  clear hv ho
  refine ACall.ofN (dp := false) S.cx (l9Draw_c S code hb hc i h hi) (.of rfl (by repeat' (first | exact trivial | exact rfl | exact Nat.le_refl _ | exact S.ga | exact S.gb ‹_› | exact S.gc ‹_› | exact S.gd | exact S.ge | exact S.gf ‹_› | exact S.gg ‹_› | exact S.gh | exact .inl rfl | exact S.gi ‹_› | exact S.gj ‹_› | exact S.gk | exact S.gl | refine ⟨?_, ?_⟩))) (fun ln hln v os hv => ?_)
  obtain ⟨l, i0, h0, hl12, hi0, rfl, rfl⟩ := hv
  refine ⟨rfl, ?_⟩; (cbv; repeat (refine Later.mk ?_; cbv))
  have hN := hln cIns l
  generalize ln (A.enc cIns l) = N at hN ⊢
  refine ACall.valN (r := rCurB) (os := oCur A code) (dp := false) S.cx (l1Once_c S code hb hc i0 h0 hi0 (6)) (.of rfl (by repeat' (first | exact trivial | exact rfl | exact Nat.le_refl _ | exact S.ga | exact S.gb ‹_› | exact S.gc ‹_› | exact S.gd | exact S.ge | exact S.gf ‹_› | exact S.gg ‹_› | exact S.gh | exact .inl rfl | exact S.gi ‹_› | exact S.gj ‹_› | exact S.gk | exact S.gl | refine ⟨?_, ?_⟩))) rfl (fun ln hln x hx => ⟨rfl, ?_⟩)
  obtain ⟨b, i1, h1⟩ := x
  (cbv; repeat (refine Later.mk ?_; cbv))
  have hk1 := onceF_ok code hb hc i0 h0 hi0 (6)
  rw [← hx] at hk1
  clear hx
  dsimp only at hk1
  have hi1 := hk1.2
  clear hk1
  cases b <;> ((cbv; repeat (refine Later.mk ?_; cbv)); repeat (refine Later.mk ?_; (cbv; repeat (refine Later.mk ?_; cbv))))
  · exact Done.to (.own 3 true (A.enc cIns l)) [some (.box [.ro (A.enc cByte code), .int .i64 i1, .int .i64 h1])] rfl (resOwn1 S.cx rfl hN) ⟨⟨⟨rfl, .inl rfl⟩, rfl, rfl, trivial⟩, trivial⟩ ⟨l, i1, h1, by omega, hi1, rfl, rfl⟩
  refine ACall.ofN (dp := false) S.cx (l9DrawIns_c S code hb hc i1 h1 hi1) (.of rfl (by repeat' (first | exact trivial | exact rfl | exact Nat.le_refl _ | exact S.ga | exact S.gb ‹_› | exact S.gc ‹_› | exact S.gd | exact S.ge | exact S.gf ‹_› | exact S.gg ‹_› | exact S.gh | exact .inl rfl | exact S.gi ‹_› | exact S.gj ‹_› | exact S.gk | exact S.gl | refine ⟨?_, ?_⟩))) (fun ln hln v os hv => ?_)
  obtain ⟨⟨op, a, b⟩, i2, h2, hi2, rfl, rfl⟩ := hv
  refine ⟨rfl, ?_⟩; (cbv; repeat (refine Later.mk ?_; cbv))
  refine ACall.valN (r := rCur) (os := oCur A code) (dp := false) S.cx (l1Below_c S code hb hc i2 h2 hi2 (3)) (.of rfl (by repeat' (first | exact trivial | exact rfl | exact Nat.le_refl _ | exact S.ga | exact S.gb ‹_› | exact S.gc ‹_› | exact S.gd | exact S.ge | exact S.gf ‹_› | exact S.gg ‹_› | exact S.gh | exact .inl rfl | exact S.gi ‹_› | exact S.gj ‹_› | exact S.gk | exact S.gl | refine ⟨?_, ?_⟩))) rfl (fun ln hln x hx => ⟨rfl, ?_⟩)
  obtain ⟨d, i3, h3⟩ := x
  (cbv; repeat (refine Later.mk ?_; cbv))
  have hk3 := belowF_ok code hb hc i2 h2 hi2 (3)
  rw [← hx] at hk3
  clear hx
  dsimp only at hk3
  have hi3 := hk3.2
  clear hk3
  refine Test.eql (fun e0 => ?_) (fun e0 => ?_) <;> (cbv; repeat (refine Later.mk ?_; cbv))
  · skip
    refine ACall.valN (r := rCur) (os := oCur A code) (dp := false) S.cx (l1From_c S code hb hc i3 h3 hi3 (-1) 11 (by decide)) (.of rfl (by repeat' (first | exact trivial | exact rfl | exact Nat.le_refl _ | exact S.ga | exact S.gb ‹_› | exact S.gc ‹_› | exact S.gd | exact S.ge | exact S.gf ‹_› | exact S.gg ‹_› | exact S.gh | exact .inl rfl | exact S.gi ‹_› | exact S.gj ‹_› | exact S.gk | exact S.gl | refine ⟨?_, ?_⟩))) rfl (fun ln hln x hx => ⟨rfl, ?_⟩)
    obtain ⟨op2, i4, h4⟩ := x
    (cbv; repeat (refine Later.mk ?_; cbv))
    have hk4 := fromF_ok code hb hc i3 h3 hi3 (-1) 11
    rw [← hx] at hk4
    clear hx
    dsimp only at hk4
    have hi4 := hk4.2
    clear hk4
    refine Part.one ?_; (cbv; repeat (refine Later.mk ?_; cbv))
    refine AppRef.push S.cx (⟨op2, a, b⟩ : Ins) (by assumption) rfl rfl plainIns (fun _ => rfl) (by simp only [maxBytes]; omega) (fun n9 w hw hnw => ?_); (cbv; repeat (refine Later.mk ?_; cbv))
    have hwl : w.length = l.length + 1 := by rw [hw]; simp
    exact Done.to (.own 3 true (A.enc cIns w)) [some (.box [.ro (A.enc cByte code), .int .i64 i4, .int .i64 h4])] rfl (resOwn1 S.cx rfl hnw) ⟨⟨⟨rfl, .inl rfl⟩, rfl, rfl, trivial⟩, trivial⟩ ⟨w, i4, h4, by omega, hi4, rfl, rfl⟩
  refine Test.eql (fun e1 => ?_) (fun e1 => ?_) <;> (cbv; repeat (refine Later.mk ?_; cbv))
  · skip
    refine ACall.valN (r := rCur) (os := oCur A code) (dp := false) S.cx (l1Num_c S code hb hc i3 h3 hi3 (1000) (by decide)) (.of rfl (by repeat' (first | exact trivial | exact rfl | exact Nat.le_refl _ | exact S.ga | exact S.gb ‹_› | exact S.gc ‹_› | exact S.gd | exact S.ge | exact S.gf ‹_› | exact S.gg ‹_› | exact S.gh | exact .inl rfl | exact S.gi ‹_› | exact S.gj ‹_› | exact S.gk | exact S.gl | refine ⟨?_, ?_⟩))) rfl (fun ln hln x hx => ⟨rfl, ?_⟩)
    obtain ⟨a2, i4, h4⟩ := x
    (cbv; repeat (refine Later.mk ?_; cbv))
    have hk4 := numF_ok code hb hc i3 h3 hi3 (1000)
    rw [← hx] at hk4
    clear hx
    dsimp only at hk4
    have hi4 := hk4.2
    clear hk4
    refine Part.one ?_; (cbv; repeat (refine Later.mk ?_; cbv))
    refine AppRef.push S.cx (⟨op, a2, b⟩ : Ins) (by assumption) rfl rfl plainIns (fun _ => rfl) (by simp only [maxBytes]; omega) (fun n9 w hw hnw => ?_); (cbv; repeat (refine Later.mk ?_; cbv))
    have hwl : w.length = l.length + 1 := by rw [hw]; simp
    exact Done.to (.own 3 true (A.enc cIns w)) [some (.box [.ro (A.enc cByte code), .int .i64 i4, .int .i64 h4])] rfl (resOwn1 S.cx rfl hnw) ⟨⟨⟨rfl, .inl rfl⟩, rfl, rfl, trivial⟩, trivial⟩ ⟨w, i4, h4, by omega, hi4, rfl, rfl⟩
  refine Test.eql (fun e2 => ?_) (fun e2 => ?_) <;> (cbv; repeat (refine Later.mk ?_; cbv))
  · skip
    refine ACall.valN (r := rCur) (os := oCur A code) (dp := false) S.cx (l1Num_c S code hb hc i3 h3 hi3 (1000) (by decide)) (.of rfl (by repeat' (first | exact trivial | exact rfl | exact Nat.le_refl _ | exact S.ga | exact S.gb ‹_› | exact S.gc ‹_› | exact S.gd | exact S.ge | exact S.gf ‹_› | exact S.gg ‹_› | exact S.gh | exact .inl rfl | exact S.gi ‹_› | exact S.gj ‹_› | exact S.gk | exact S.gl | refine ⟨?_, ?_⟩))) rfl (fun ln hln x hx => ⟨rfl, ?_⟩)
    obtain ⟨b2, i4, h4⟩ := x
    (cbv; repeat (refine Later.mk ?_; cbv))
    have hk4 := numF_ok code hb hc i3 h3 hi3 (1000)
    rw [← hx] at hk4
    clear hx
    dsimp only at hk4
    have hi4 := hk4.2
    clear hk4
    refine Part.one ?_; (cbv; repeat (refine Later.mk ?_; cbv))
    refine AppRef.push S.cx (⟨op, a, b2⟩ : Ins) (by assumption) rfl rfl plainIns (fun _ => rfl) (by simp only [maxBytes]; omega) (fun n9 w hw hnw => ?_); (cbv; repeat (refine Later.mk ?_; cbv))
    have hwl : w.length = l.length + 1 := by rw [hw]; simp
    exact Done.to (.own 3 true (A.enc cIns w)) [some (.box [.ro (A.enc cByte code), .int .i64 i4, .int .i64 h4])] rfl (resOwn1 S.cx rfl hnw) ⟨⟨⟨rfl, .inl rfl⟩, rfl, rfl, trivial⟩, trivial⟩ ⟨w, i4, h4, by omega, hi4, rfl, rfl⟩
  refine Part.one ?_; (cbv; repeat (refine Later.mk ?_; cbv))
  refine AppRef.push S.cx (⟨op, a, b⟩ : Ins) (by assumption) rfl rfl plainIns (fun _ => rfl) (by simp only [maxBytes]; omega) (fun n9 w hw hnw => ?_); (cbv; repeat (refine Later.mk ?_; cbv))
  have hwl : w.length = l.length + 1 := by rw [hw]; simp
  exact Done.to (.own 3 true (A.enc cIns w)) [some (.box [.ro (A.enc cByte code), .int .i64 i3, .int .i64 h3])] rfl (resOwn1 S.cx rfl hnw) ⟨⟨⟨rfl, .inl rfl⟩, rfl, rfl, trivial⟩, trivial⟩ ⟨w, i3, h3, by omega, hi3, rfl, rfl⟩

end Go.Proofs.YtgooambndfkgkaaGreat.AM
