/- Contracts: the law of firing. (printed by ge23.py) -/
import Derived.Test.YtmbckmfihcojoaaE19
import Derived.Test.YtmbckmfihcojoaaE22
import Derived.Test.YtmbckmfihcojoaaDC
import Derived.Test.YtmbckmfihcojoaaB38
namespace Go.Proofs.Ytmbckmfihcojoaa.AM
open Go Go.Proofs

set_option maxRecDepth 100000
set_option maxHeartbeats 4000000
set_option linter.unusedVariables false
set_option linter.unusedSimpArgs false

variable {P : Program} {A : Sy}

def nextDueT (t : Timers) : Int := match t.heap with
  | [] => 9223372036854775807
  | w :: _ => w.due

theorem nextDue_c (S : Se P A) (heap : List Twig) (list : List Timer) (next : Int) : Is1 P 107 [.agg (roTimers A ⟨heap, list, next⟩)] (.int .i64 (nextDueT ⟨heap, list, next⟩)) := by
  refine SoundM.knownH (p := fun n => n = nextDueT ⟨heap, list, next⟩) ?_ (fun n h => h)
  refine S.cx.by (S.prog ▸ Try.func107) rfl rfl rfl rfl (fun hv ho => ?_)
  cbv
  refine LenR.nat S.cx (fun N hN hm => ?_); cbv
  refine Test.eql (fun h => ?_) (fun h => ?_) <;> cbv
  · have e : heap = [] := List.length_eq_zero_iff.1 (by lia)
    exact Done.num (by rw [e]; rfl)
  obtain ⟨w, r, hwr⟩ : ∃ w r, heap = w :: r := by
    cases heap with
    | nil => simp at hN; omega
    | cons w r => exact ⟨w, r, rfl⟩
  have hw0 : heap[(0 : Int).toNat]? = some w := by rw [hwr]; rfl
  obtain ⟨wd, ws, wk⟩ := w
  try (refine Drawn.mk ⟨by kernel_rfl, fun _ => ?_⟩)
  refine ElemRo.at S.cx (x := (⟨wd, ws, wk⟩ : Twig)) rfl (by decide) hw0 ?_; cbv
  exact Done.num (by rw [hwr]; rfl)

theorem implNextDue_c (S : Se P A) (heap : List Twig) (list : List Timer) (next : Int) : Is1 P 45 [.agg (roTimers A ⟨heap, list, next⟩)] (.int .i64 (if TimersOk ⟨heap, list, next⟩ then nextDueT ⟨heap, list, next⟩ else 9223372036854775807)) := by
  refine SoundM.knownH (p := fun n => n = if TimersOk ⟨heap, list, next⟩ then nextDueT ⟨heap, list, next⟩ else 9223372036854775807) ?_ (fun n h => h)
  refine S.cx.by (S.prog ▸ Try.func45) rfl rfl rfl rfl (fun hv ho => ?_)
  cbv
  refine ACall.testD (dp := false) (implTimersOk_c S heap list next) ⟨rfl, (by repeat' (first | exact trivial | exact rfl | exact Nat.le_refl _ | exact S.cx.giveEq | exact S.cx.lendLe (by assumption) | exact S.cx.lendEq (by assumption) | exact S.cx.lendLe0 | exact S.cx.lendEq0 | exact S.cx.partLe (by assumption) | exact S.cx.partEq (by assumption) | exact .inl rfl | refine ⟨?_, ?_⟩)), (by repeat' (first | exact trivial | exact rfl | exact Nat.le_refl _ | exact S.cx.giveEq | exact S.cx.lendLe (by assumption) | exact S.cx.lendEq (by assumption) | exact S.cx.lendLe0 | exact S.cx.lendEq0 | exact S.cx.partLe (by assumption) | exact S.cx.partEq (by assumption) | exact .inl rfl | refine ⟨?_, ?_⟩))⟩ rfl (fun h => ?_) (fun h => ?_) <;> cbv
  · refine ACall.int (dp := false) (nextDue_c S heap list next) ⟨rfl, (by repeat' (first | exact trivial | exact rfl | exact Nat.le_refl _ | exact S.cx.giveEq | exact S.cx.lendLe (by assumption) | exact S.cx.lendEq (by assumption) | exact S.cx.lendLe0 | exact S.cx.lendEq0 | exact S.cx.partLe (by assumption) | exact S.cx.partEq (by assumption) | exact .inl rfl | refine ⟨?_, ?_⟩)), (by repeat' (first | exact trivial | exact rfl | exact Nat.le_refl _ | exact S.cx.giveEq | exact S.cx.lendLe (by assumption) | exact S.cx.lendEq (by assumption) | exact S.cx.lendLe0 | exact S.cx.lendEq0 | exact S.cx.partLe (by assumption) | exact S.cx.partEq (by assumption) | exact .inl rfl | refine ⟨?_, ?_⟩))⟩ rfl (fun n hn => ?_); cbv
    exact Done.num (by rw [hn, if_pos h])
  · exact Done.num (by rw [if_neg h])

theorem plainI9 : Plain cInt64 := fun _ => rfl
theorem plainB9 : Plain cBool := fun _ => rfl

structure FSt where
  heap : List Twig
  list : List Timer
  next : Int
  due : List Int
  live : List Bool
  i : Int
  di : Int
  dh : Int
  hn : Nat
  ln : Nat
  dn : Nat
  vn : Nat

def FSt.ok (s : FSt) : Prop := FI ⟨s.heap, s.list, s.next⟩ s.due s.live ∧ (s.due.length : Int) + s.i ≤ 11 ∧ -1 ≤ s.i ∧ 0 ≤ s.di ∧ s.hn = s.heap.length ∧ s.ln = s.list.length ∧ s.dn = s.due.length ∧ s.vn = s.live.length

structure LSt where
  heap : List Twig
  list : List Timer
  next : Int
  live : List Bool
  now : Int
  ls : Int
  ld : Int
  lw : Int
  lh : Int
  la : Bool
  hn : Nat
  ln : Nat

def LSt.ok (due : List Int) (s : LSt) : Prop := FI ⟨s.heap, s.list, s.next⟩ due s.live ∧ AfterAll s.ld s.ls s.heap ∧ (∀ (k : Nat) (d : Int), s.live[k]? = some true → due[k]? = some d → s.now ≤ d) ∧ (0 ≤ s.now ∧ s.now ≤ 10) ∧ s.hn = s.heap.length ∧ s.ln = s.list.length

theorem fi_zero : FI timers0 [] [] := by
  refine ⟨⟨by decide, by decide, ⟨by decide, by simp [timers0], ⟨.nil, trivial, rfl⟩⟩, by simp [timers0], by simp [timers0], by decide, by simp [timers0]⟩, rfl, rfl, rfl, by simp, by simp [timers0]⟩

theorem firingLaw_c (S : Se P A) (code : List Int) : Is1 P 7 [.ro (A.enc cByte code)] (.bool true) := by
  refine S.cx.byC [] (S.prog ▸ Try.func7) rfl rfl rfl rfl (fun ln hln hv ho => ?_)
  cbv
  have hc := code_bytes (code := code) S.cx (hv _ (List.mem_singleton.2 rfl))
  refine ACall.testD (dp := false) (big_c S code) ⟨rfl, (by repeat' (first | exact trivial | exact rfl | exact Nat.le_refl _ | exact S.cx.giveEq | exact S.cx.lendLe (by assumption) | exact S.cx.lendEq (by assumption) | exact S.cx.lendLe0 | exact S.cx.lendEq0 | exact S.cx.partLe (by assumption) | exact S.cx.partEq (by assumption) | exact .inl rfl | refine ⟨?_, ?_⟩)), (by repeat' (first | exact trivial | exact rfl | exact Nat.le_refl _ | exact S.cx.giveEq | exact S.cx.lendLe (by assumption) | exact S.cx.lendEq (by assumption) | exact S.cx.lendLe0 | exact S.cx.lendEq0 | exact S.cx.partLe (by assumption) | exact S.cx.partEq (by assumption) | exact .inl rfl | refine ⟨?_, ?_⟩))⟩ rfl (fun hbig => ?_) (fun hbig => ?_) <;> cbv
  · exact Done.to (.bool true) [] rfl rfl trivial ⟨rfl, rfl⟩
  replace hbig : code.length ≤ 4096 := Nat.not_lt.1 hbig
  refine ACall.of (dp := false) (roll_c S code 4) ⟨rfl, (by repeat' (first | exact trivial | exact rfl | exact Nat.le_refl _ | exact S.cx.giveEq | exact S.cx.lendLe (by assumption) | exact S.cx.lendEq (by assumption) | exact S.cx.lendLe0 | exact S.cx.lendEq0 | exact S.cx.partLe (by assumption) | exact S.cx.partEq (by assumption) | exact .inl rfl | refine ⟨?_, ?_⟩)), (by repeat' (first | exact trivial | exact rfl | exact Nat.le_refl _ | exact S.cx.giveEq | exact S.cx.lendLe (by assumption) | exact S.cx.lendEq (by assumption) | exact S.cx.lendLe0 | exact S.cx.lendEq0 | exact S.cx.partLe (by assumption) | exact S.cx.partEq (by assumption) | exact .inl rfl | refine ⟨?_, ?_⟩))⟩ (fun v os hv => ?_)
  obtain ⟨⟨dh, rfl⟩, rfl⟩ := hv
  refine ⟨rfl, ?_⟩; cbv
  refine ACall.of (dp := false) (below_c S code hbig hc 0 dh (by decide) 12 (by decide)) ⟨rfl, (by repeat' (first | exact trivial | exact rfl | exact Nat.le_refl _ | exact S.cx.giveEq | exact S.cx.lendLe (by assumption) | exact S.cx.lendEq (by assumption) | exact S.cx.lendLe0 | exact S.cx.lendEq0 | exact S.cx.partLe (by assumption) | exact S.cx.partEq (by assumption) | exact .inl rfl | refine ⟨?_, ?_⟩)), (by repeat' (first | exact trivial | exact rfl | exact Nat.le_refl _ | exact S.cx.giveEq | exact S.cx.lendLe (by assumption) | exact S.cx.lendEq (by assumption) | exact S.cx.lendLe0 | exact S.cx.lendEq0 | exact S.cx.partLe (by assumption) | exact S.cx.partEq (by assumption) | exact .inl rfl | refine ⟨?_, ?_⟩))⟩ (fun v os hv => ?_)
  obtain ⟨n0, di, dh', hn0, hdi, rfl, rfl⟩ := hv
  refine ⟨rfl, ?_⟩; cbv
  refine ALoop.pre (Less.initE S.cx cInt64 999000003 1 true (t := 5) rfl (by first | exact .inr rfl | exact .inl rfl) rfl) ?_
  cbv
  refine ALoop.pre (Less.initE S.cx cBool 999000004 1 true (t := 6) rfl (by first | exact .inr rfl | exact .inl rfl) rfl) ?_
  cbv
  refine ALoop.pre (Less.initCell S.cx cTwig 999000001 3 true 5010000 0 rfl rfl rfl) ?_
  cbv
  refine ALoop.pre (Less.initCell S.cx cTimer 999000002 5 true 5010000 1 rfl rfl rfl) ?_
  cbv
  refine ALoop.goC (ι := FSt) (fun i => [(5, .ref false 999000003 0 i.dn), (6, .ref false 999000004 0 i.vn), (7, .int .i64 i.i)]) [] [4010000, 5010000, 999000001, 999000002, 999000003, 999000004] (fun i => [(4010000, .box [.ro (A.enc cByte code), .int .i64 i.di, .int .u64 i.dh]), (5010000, .box [.ref false 999000001 0 i.hn, .ref false 999000002 0 i.ln, .int .i64 i.next]), (999000001, .arr 3 true (A.enc cTwig i.heap)), (999000002, .arr 5 true (A.enc cTimer i.list)), (999000003, .arr 1 true (A.enc cInt64 i.due)), (999000004, .arr 1 true (A.enc cBool i.live))]) (fun i => i.ok) (fun i => (i.i + 1).toNat) (⟨[], [], 0, [], [], n0, di, dh', 0, 0, 0, 0⟩) [] S.cx.tab S.cx.mix S.eq ?_ ?_ ?_
  · exact ⟨fi_zero, by simp; omega, by dsimp only; omega, hdi, rfl, rfl, rfl, rfl⟩
  · (cbv; refine Less.to [] rfl rfl ?_ ?_ <;> repeat' (first | exact trivial | exact ⟨rfl, rfl⟩ | exact ⟨_, rfl, Nat.zero_le _, rfl⟩ | apply And.intro | exact rfl))
  rintro ⟨heap, list, next, due, live, i, ei, eh, hn, ln, dn, vn⟩ hk
  unfold FSt.ok at hk
  dsimp only at hk
  obtain ⟨hfi, hdi, hi1, hei, hhn, hln, hdn, hvn⟩ := hk
  have hok := hfi.1
  have hb1 := hok.2.2.1.1
  have hb2 := hok.2.1
  dsimp only at hb1 hb2
  refine Rnd.mk ?_; cbv
  refine Test.geq (fun h => ?_) (fun h => ?_) <;> cbv
  rotate_left
  · clear hdi hi1 hei
    refine ALoop.goC (ι := LSt) (fun i => [(15, .int .i64 i.now)]) [] [5010000, 25010000, 999000001, 999000002, 999000004] (fun i => [(5010000, .box [.ref false 999000001 0 i.hn, .ref false 999000002 0 i.ln, .int .i64 i.next]), (25010000, .box [.int .i64 i.ls, .int .i64 i.ld, .int .i64 i.lw, .int .i64 i.lh, .bool i.la]), (999000001, .arr 3 true (A.enc cTwig i.heap)), (999000002, .arr 5 true (A.enc cTimer i.list)), (999000004, .arr 1 true (A.enc cBool i.live))]) (fun i => i.ok due) (fun i => (10 - i.now).toNat) (⟨heap, list, next, live, 0, -1, -1, 0, 0, false, hn, ln⟩) [] S.cx.tab S.cx.mix S.eq ?_ ?_ ?_
    · refine ⟨hfi, fun w hw => ?_, fun k d _ hd => ?_, ⟨by dsimp only; omega, by dsimp only; omega⟩, hhn, hln⟩
      · obtain ⟨z, hz, g1, g2, g3⟩ := hok.2.2.2.2.2.2 w hw
        obtain ⟨j, hj⟩ := List.getElem?_of_mem hz
        have := hfi.2.2.2.2.1 _ (List.mem_of_getElem? (hfi.2.2.2.2.2 j z hj).2.1)
        exact .inl (by dsimp only; omega)
      · exact (hfi.2.2.2.2.1 d (List.mem_of_getElem? hd)).1
    · (cbv; refine Less.to [] rfl rfl ?_ ?_ <;> repeat' (first | exact trivial | exact ⟨rfl, rfl⟩ | exact ⟨_, rfl, Nat.zero_le _, rfl⟩ | apply And.intro | exact rfl))
    have hvd : vn = due.length := by have := hfi.2.2.2.1; omega
    clear hfi hok hb1 hb2 hhn hln hvn
    rintro ⟨heap, list, next, live, now, ls, ld, lw, lh, la, hn, lnn⟩ hk
    unfold LSt.ok at hk
    dsimp only at hk
    obtain ⟨hfi, hal, hdl, hnw, hhn, hlnn⟩ := hk
    have hok := hfi.1
    have hb1 := hok.2.2.1.1
    have hb2 := hok.2.1
    have hlive : live.length = due.length := hfi.2.2.2.1
    dsimp only at hb1 hb2
    refine Rnd.mk ?_; cbv
    refine Test.lss (fun h10 => ?_) (fun h10 => ?_) <;> cbv
    rotate_left
    · refine ACall.testD (dp := false) (implTimersOk_c S heap list next) ⟨rfl, (by repeat' (first | exact trivial | exact rfl | exact Nat.le_refl _ | exact S.cx.giveEq | exact S.cx.lendLe (by assumption) | exact S.cx.lendEq (by assumption) | exact S.cx.lendLe0 | exact S.cx.lendEq0 | exact S.cx.partLe (by assumption) | exact S.cx.partEq (by assumption) | exact .inl rfl | refine ⟨?_, ?_⟩)), (by repeat' (first | exact trivial | exact rfl | exact Nat.le_refl _ | exact S.cx.giveEq | exact S.cx.lendLe (by assumption) | exact S.cx.lendEq (by assumption) | exact S.cx.lendLe0 | exact S.cx.lendEq0 | exact S.cx.partLe (by assumption) | exact S.cx.partEq (by assumption) | exact .inl rfl | refine ⟨?_, ?_⟩))⟩ rfl (fun ho1 => ?_) (fun ho1 => ?_) <;> cbv
      rotate_left
      · exact absurd hok ho1
      refine ACall.int (dp := false) (implNextDue_c S heap list next) ⟨rfl, (by repeat' (first | exact trivial | exact rfl | exact Nat.le_refl _ | exact S.cx.giveEq | exact S.cx.lendLe (by assumption) | exact S.cx.lendEq (by assumption) | exact S.cx.lendLe0 | exact S.cx.lendEq0 | exact S.cx.partLe (by assumption) | exact S.cx.partEq (by assumption) | exact .inl rfl | refine ⟨?_, ?_⟩)), (by repeat' (first | exact trivial | exact rfl | exact Nat.le_refl _ | exact S.cx.giveEq | exact S.cx.lendLe (by assumption) | exact S.cx.lendEq (by assumption) | exact S.cx.lendLe0 | exact S.cx.lendEq0 | exact S.cx.partLe (by assumption) | exact S.cx.partEq (by assumption) | exact .inl rfl | refine ⟨?_, ?_⟩))⟩ rfl (fun nd hnd => ?_); cbv
      have hno : heap = [] := hfi.none fun k hk => by
        obtain ⟨d, hd⟩ : ∃ d, due[k]? = some d := ⟨_, List.getElem?_eq_getElem (by rw [← hlive]; exact (List.getElem?_eq_some_iff.1 hk).1)⟩
        have g1 := hdl k d hk hd
        have g2 := hfi.2.2.2.2.1 d (List.mem_of_getElem? hd)
        omega
      rw [if_pos hok, hno] at hnd
      refine Test.eql (fun k1 => ?_) (fun k1 => ?_) <;> cbv
      rotate_left
      · exact absurd hnd k1
      refine Len.nat (fun m hm hml => ?_); cbv
      refine Test.eql (fun k2 => ?_) (fun k2 => ?_) <;> cbv
      · exact Done.to (.bool true) [] rfl rfl trivial ⟨rfl, rfl⟩
      · exact absurd (by have := hfi.2.1; dsimp only at this; lia) k2
    refine ALoop.goC (ι := LSt) (fun i => []) [] [5010000, 25010000, 999000001, 999000002, 999000004] (fun i => [(5010000, .box [.ref false 999000001 0 i.hn, .ref false 999000002 0 i.ln, .int .i64 i.next]), (25010000, .box [.int .i64 i.ls, .int .i64 i.ld, .int .i64 i.lw, .int .i64 i.lh, .bool i.la]), (999000001, .arr 3 true (A.enc cTwig i.heap)), (999000002, .arr 5 true (A.enc cTimer i.list)), (999000004, .arr 1 true (A.enc cBool i.live))]) (fun i => i.ok due ∧ i.now = now) (fun i => i.heap.length) (⟨heap, list, next, live, now, ls, ld, lw, lh, la, hn, lnn⟩) [] S.cx.tab S.cx.mix S.eq ?_ ?_ ?_
    · exact ⟨⟨hfi, hal, hdl, hnw, hhn, hlnn⟩, rfl⟩
    · (cbv; refine Less.to [] rfl rfl ?_ ?_ <;> repeat' (first | exact trivial | exact ⟨rfl, rfl⟩ | exact ⟨_, rfl, Nat.zero_le _, rfl⟩ | apply And.intro | exact rfl))
    clear hfi hal hdl hnw hhn hlnn hok hb1 hb2 hlive
    rintro ⟨heap, list, next, live, now1, ls, ld, lw, lh, la, hn, lnn⟩ hk
    unfold LSt.ok at hk
    dsimp only at hk
    obtain ⟨⟨hfi, hal, hdl, hnw, hhn, hlnn⟩, rfl⟩ := hk
    have hok := hfi.1
    have hb1 := hok.2.2.1.1
    have hb2 := hok.2.1
    have hlive : live.length = due.length := hfi.2.2.2.1
    dsimp only at hb1 hb2
    refine Rnd.mk ?_; cbv
    have hfl := hfi.late (now := now1)
    have hff := hfi.fire (now := now1)
    refine ACall.valN (r := rTTimB A) (os := fun _ => []) (dp := false) S.cx (implFired_c S heap list next now1 (Nat.le_trans hb1 (by decide)) (Nat.le_trans hb2 (by decide))) ⟨rfl, (by repeat' (first | exact trivial | exact rfl | exact Nat.le_refl _ | exact S.cx.giveEq | exact S.cx.lendLe (by assumption) | exact S.cx.lendEq (by assumption) | exact S.cx.lendLe0 | exact S.cx.lendEq0 | exact S.cx.partLe (by assumption) | exact S.cx.partEq (by assumption) | exact .inl rfl | refine ⟨?_, ?_⟩)), (by repeat' (first | exact trivial | exact rfl | exact Nat.le_refl _ | exact S.cx.giveEq | exact S.cx.lendLe (by assumption) | exact S.cx.lendEq (by assumption) | exact S.cx.lendLe0 | exact S.cx.lendEq0 | exact S.cx.partLe (by assumption) | exact S.cx.partEq (by assumption) | exact .inl rfl | refine ⟨?_, ?_⟩))⟩ rfl (fun ln hln x hx => ⟨rfl, ?_⟩)
    obtain ⟨⟨heap1, list1, next1⟩, ⟨fs, fd, fw, fh, fa⟩, b⟩ := x
    cbv
    have hN1 := hln cTwig heap1
    generalize ln (A.enc cTwig heap1) = N1 at hN1 ⊢
    have hK1 := hln cTimer list1
    generalize ln (A.enc cTimer list1) = K1 at hK1 ⊢
    rw [show Fired ⟨heap, list, next⟩ now1 = fireT ⟨heap, list, next⟩ now1 from if_pos hok] at hx
    rw [← hx] at hfl hff
    dsimp only at hfl hff
    cases b <;> cbv
    · have hfl := hfl rfl
      clear hff
      refine ALoop.goC (ι := Int) (fun i => [(19, .int .i64 i)]) [] [] (fun i => []) (fun i => 0 ≤ i) (fun i => (due.length - i).toNat) (0) [] S.cx.tab S.cx.mix S.eq ?_ ?_ ?_
      · exact Int.le_refl _
      · (cbv; refine Less.to [] rfl rfl ?_ ?_ <;> repeat' (first | exact trivial | exact ⟨rfl, rfl⟩ | exact ⟨_, rfl, Nat.zero_le _, rfl⟩ | apply And.intro | exact rfl))
      intro k hk0
      replace hk0 : 0 ≤ k := hk0
      refine Rnd.mk ?_; cbv
      refine Len.nat (fun m hm hml => ?_); cbv
      refine Test.lss (fun h1 => ?_) (fun h1 => ?_) <;> cbv
      · refine ElemRef.go rfl (by lia) (by lia) (by rw [S.cx.lenE']; lia) (fun row hrow => ?_); cbv
        refine Row.enc S.cx (by lia) (fun x hxx => ?_)
        cases x <;> cbv
        · refine Arith.go (by lia) (fun k' hk' => ?_); cbv
          replace hk' : k' = k + 1 := hk'
          refine Again.on k' (by lia) (by show (0 : Int) ≤ k'; omega) ?_
          (cbv; refine Less.to [] rfl rfl ?_ ?_ <;> repeat' (first | exact trivial | exact ⟨rfl, rfl⟩ | exact ⟨_, rfl, Nat.zero_le _, rfl⟩ | apply And.intro | exact rfl))
        · refine ElemRef.go rfl (by lia) (by lia) (by rw [S.cx.lenE']; lia) (fun row2 hrow2 => ?_); cbv
          refine Row.enc S.cx (by lia) (fun d hdd => ?_); cbv
          obtain ⟨d2, hd2, hlt⟩ := hfl row hxx
          obtain rfl : d = d2 := by rw [show row2 = row by omega, hd2] at hdd; exact (Option.some.inj hdd).symm
          refine Test.leq (fun h2 => ?_) (fun h2 => ?_) <;> cbv
          · exact absurd hlt (by omega)
          refine Arith.go (by lia) (fun k' hk' => ?_); cbv
          replace hk' : k' = k + 1 := hk'
          refine Again.on k' (by lia) (by show (0 : Int) ≤ k'; omega) ?_
          (cbv; refine Less.to [] rfl rfl ?_ ?_ <;> repeat' (first | exact trivial | exact ⟨rfl, rfl⟩ | exact ⟨_, rfl, Nat.zero_le _, rfl⟩ | apply And.intro | exact rfl))
      · refine Arith.go (by lia) (fun n' hn' => ?_); cbv
        replace hn' : n' = now1 + 1 := hn'
        refine Again.on (⟨heap, list, next, live, n', ls, ld, lw, lh, la, hn, lnn⟩ : LSt) (by dsimp only; lia) ⟨hfi, hal, fun k d hk hd => ?_, ⟨by dsimp only; lia, by dsimp only; lia⟩, hhn, hlnn⟩ ?_
        · obtain ⟨d2, hd2, hlt⟩ := hfl k hk
          rw [hd] at hd2
          obtain rfl := Option.some.inj hd2
          dsimp only; omega
        · (cbv; refine Less.to [] rfl rfl ?_ ?_ <;> repeat' (first | exact trivial | exact ⟨rfl, rfl⟩ | exact ⟨_, rfl, Nat.zero_le _, rfl⟩ | apply And.intro | exact rfl))
    obtain ⟨kn, f1, f2, f3, f4, f5, f6, f7, f8, f9⟩ := hff rfl
    have f8 := f8 ld ls hal
    clear hfl
    have f1 : fs = (kn : Int) := f1
    try (refine Drawn.mk ⟨by kernel_rfl, fun _ => ?_⟩)
    refine Test.lss (fun h1 => ?_) (fun h1 => ?_) <;> cbv
    · exact absurd h1 (by lia)
    refine Len.dr (by have := hfi.2.2.1; dsimp only at this; simp only [maxLen]; omega) (fun m hm => ?_); cbv
    refine Test.geq (fun h2 => ?_) (fun h2 => ?_) <;> cbv
    · exact absurd h2 (by lia)
    refine ElemRef.go rfl (by lia) (by lia) (by rw [S.cx.lenE']; lia) (fun row hrow => ?_); cbv
    refine Row.enc S.cx (by lia) (fun x hxx => ?_)
    obtain rfl : x = true := by rw [show row = kn by lia, f3] at hxx; exact (Option.some.inj hxx).symm
    cbv
    refine ElemRef.go rfl (by lia) (by lia) (by rw [S.cx.lenE']; lia) (fun row2 hrow2 => ?_); cbv
    refine Row.enc S.cx (by lia) (fun d hdd => ?_)
    obtain rfl : d = fd := by rw [show row2 = kn by lia, f4] at hdd; exact (Option.some.inj hdd).symm
    cbv
    refine Test.neq (fun h3 => ?_) (fun h3 => ?_) <;> cbv
    · exact absurd rfl h3
    refine Test.gtr (fun h4 => ?_) (fun h4 => ?_) <;> cbv
    · exact absurd h4 (by lia)
    refine Test.lss (fun h5 => ?_) (fun h5 => ?_) <;> cbv
    · exfalso
      rcases f8 with g | ⟨g, g2⟩
      · dsimp only at g; omega
      · dsimp only at g; omega
    refine Test.eql (fun h6 => ?_) (fun h6 => ?_) <;> cbv
    · refine Test.leq (fun h7 => ?_) (fun h7 => ?_) <;> cbv
      · exfalso
        rcases f8 with g | ⟨g, g2⟩
        · dsimp only at g; omega
        · dsimp only at g2; omega
      refine ElemRef.go rfl (by lia) (by lia) (by rw [S.cx.lenE']; lia) (fun row3 hrow3 => ?_); cbv
      refine RowSet.enc S.cx true false (by rw [show row3 = kn by lia]; exact f3) rfl (Nat.le_refl _) rfl (fun live3 hlive3 => ?_); cbv
      rw [show live.set kn false = live3 from by rw [hlive3, show row3 = kn by lia]] at f6
      refine Again.on (⟨heap1, list1, next1, live3, now1, fs, d, fw, fh, fa, N1, K1⟩ : LSt) f9 ⟨⟨f6, f7, fun k2 d2 hk2 hd2 => ?_, hnw, hN1, hK1⟩, rfl⟩ ?_
      · dsimp only at hk2
        rw [hlive3, List.getElem?_set] at hk2
        split at hk2
        · split at hk2 <;> simp at hk2
        · exact hdl k2 d2 hk2 hd2
      · (cbv; refine Less.to [(999000001, (29020000, 0)), (999000002, (29020001, 0))] rfl rfl ?_ ?_ <;> repeat' (first | exact trivial | exact ⟨rfl, rfl⟩ | exact ⟨_, rfl, Nat.zero_le _, rfl⟩ | apply And.intro | exact rfl))
    refine ElemRef.go rfl (by lia) (by lia) (by rw [S.cx.lenE']; lia) (fun row3 hrow3 => ?_); cbv
    refine RowSet.enc S.cx true false (by rw [show row3 = kn by lia]; exact f3) rfl (Nat.le_refl _) rfl (fun live3 hlive3 => ?_); cbv
    rw [show live.set kn false = live3 from by rw [hlive3, show row3 = kn by lia]] at f6
    refine Again.on (⟨heap1, list1, next1, live3, now1, fs, d, fw, fh, fa, N1, K1⟩ : LSt) f9 ⟨⟨f6, f7, fun k2 d2 hk2 hd2 => ?_, hnw, hN1, hK1⟩, rfl⟩ ?_
    · dsimp only at hk2
      rw [hlive3, List.getElem?_set] at hk2
      split at hk2
      · split at hk2 <;> simp at hk2
      · exact hdl k2 d2 hk2 hd2
    · (cbv; refine Less.to [(999000001, (29020000, 0)), (999000002, (29020001, 0))] rfl rfl ?_ ?_ <;> repeat' (first | exact trivial | exact ⟨rfl, rfl⟩ | exact ⟨_, rfl, Nat.zero_le _, rfl⟩ | apply And.intro | exact rfl))
  refine ACall.of (dp := false) (below_c S code hbig hc ei eh hei 9 (by decide)) ⟨rfl, (by repeat' (first | exact trivial | exact rfl | exact Nat.le_refl _ | exact S.cx.giveEq | exact S.cx.lendLe (by assumption) | exact S.cx.lendEq (by assumption) | exact S.cx.lendLe0 | exact S.cx.lendEq0 | exact S.cx.partLe (by assumption) | exact S.cx.partEq (by assumption) | exact .inl rfl | refine ⟨?_, ?_⟩)), (by repeat' (first | exact trivial | exact rfl | exact Nat.le_refl _ | exact S.cx.giveEq | exact S.cx.lendLe (by assumption) | exact S.cx.lendEq (by assumption) | exact S.cx.lendLe0 | exact S.cx.lendEq0 | exact S.cx.partLe (by assumption) | exact S.cx.partEq (by assumption) | exact .inl rfl | refine ⟨?_, ?_⟩))⟩ (fun v os hv => ?_)
  clear hei
  obtain ⟨v, ei, eh, hv9, hei, rfl, rfl⟩ := hv
  refine ⟨rfl, ?_⟩; cbv
  refine ACall.valN (r := rTI A) (os := fun _ => []) (dp := false) S.cx (implArmed_c S heap list next v 2 3 (Nat.le_trans hb1 (by decide)) (Nat.le_trans hb2 (by decide))) ⟨rfl, (by repeat' (first | exact trivial | exact rfl | exact Nat.le_refl _ | exact S.cx.giveEq | exact S.cx.lendLe (by assumption) | exact S.cx.lendEq (by assumption) | exact S.cx.lendLe0 | exact S.cx.lendEq0 | exact S.cx.partLe (by assumption) | exact S.cx.partEq (by assumption) | exact .inl rfl | refine ⟨?_, ?_⟩)), (by repeat' (first | exact trivial | exact rfl | exact Nat.le_refl _ | exact S.cx.giveEq | exact S.cx.lendLe (by assumption) | exact S.cx.lendEq (by assumption) | exact S.cx.lendLe0 | exact S.cx.lendEq0 | exact S.cx.partLe (by assumption) | exact S.cx.partEq (by assumption) | exact .inl rfl | refine ⟨?_, ?_⟩))⟩ rfl (fun ln hln x hx => ⟨rfl, ?_⟩)
  obtain ⟨⟨heap1, list1, next1⟩, s1⟩ := x
  cbv
  have hN1 := hln cTwig heap1
  generalize ln (A.enc cTwig heap1) = N1 at hN1 ⊢
  have hK1 := hln cTimer list1
  generalize ln (A.enc cTimer list1) = K1 at hK1 ⊢
  have hA : Armed ⟨heap, list, next⟩ v 2 3 = armT ⟨heap, list, next⟩ v 2 3 := if_pos hok
  have hlive : live.length = due.length := hfi.2.2.2.1
  obtain ⟨a1, a2, a3⟩ := hfi.arm (by lia) (v := v) ⟨by omega, by omega⟩
  rw [← hA, ← hx] at a1 a2 a3
  dsimp only at a1 a2
  refine Len.nat (fun m hm hml => ?_); cbv
  refine Test.neq (fun h1 => ?_) (fun h1 => ?_) <;> cbv
  · exact absurd (by lia) h1
  refine Len.nat (fun m2 hm2 hml2 => ?_); cbv
  refine Len.nat (fun m3 hm3 hml3 => ?_); cbv
  refine Arith.go (by lia) (fun m4 hm4 => ?_); replace hm4 : m4 = m3 + 1 := hm4; cbv
  refine Test.neq (fun h2 => ?_) (fun h2 => ?_) <;> cbv
  · exact absurd (by lia) h2
  refine Part.one ?_; cbv
  refine AppRef.push S.cx v (by assumption) rfl rfl plainI9 (fun _ => rfl) (by simp only [maxBytes]; omega) (fun m5 w5 hw5 hm5 => ?_); cbv
  refine Part.one ?_; cbv
  refine AppRef.push S.cx true (by assumption) rfl rfl plainB9 (fun _ => rfl) (by simp only [maxBytes]; omega) (fun m6 w6 hw6 hm6 => ?_); cbv
  rw [← hw5, ← hw6] at a3
  have hl5 : w5.length = due.length + 1 := by rw [hw5, List.length_append]; rfl
  have hl6 : w6.length = w5.length := a3.2.2.2.1
  refine ACall.of (dp := false) (below_c S code hbig hc ei eh hei 3 (by decide)) ⟨rfl, (by repeat' (first | exact trivial | exact rfl | exact Nat.le_refl _ | exact S.cx.giveEq | exact S.cx.lendLe (by assumption) | exact S.cx.lendEq (by assumption) | exact S.cx.lendLe0 | exact S.cx.lendEq0 | exact S.cx.partLe (by assumption) | exact S.cx.partEq (by assumption) | exact .inl rfl | refine ⟨?_, ?_⟩)), (by repeat' (first | exact trivial | exact rfl | exact Nat.le_refl _ | exact S.cx.giveEq | exact S.cx.lendLe (by assumption) | exact S.cx.lendEq (by assumption) | exact S.cx.lendLe0 | exact S.cx.lendEq0 | exact S.cx.partLe (by assumption) | exact S.cx.partEq (by assumption) | exact .inl rfl | refine ⟨?_, ?_⟩))⟩ (fun v os hv => ?_)
  clear hei
  obtain ⟨z, ei, eh, hz, hei, rfl, rfl⟩ := hv
  refine ⟨rfl, ?_⟩; cbv
  refine Test.eql (fun hz0 => ?_) (fun hz0 => ?_) <;> cbv
  rotate_left
  · refine Arith.go (by lia) (fun i' hi' => ?_); cbv
    replace hi' : i' = i - 1 := hi'
    refine Again.on (⟨heap1, list1, next1, w5, w6, i', ei, eh, N1, K1, m5, m6⟩ : FSt) (by dsimp only; lia) ⟨a3, by dsimp only; lia, by dsimp only; lia, hei, hN1, hK1, hm5, hm6⟩ ?_
    (cbv; refine Less.to [(999000001, (12020000, 0)), (999000002, (12020001, 0)), (999000003, (15030000, 0)), (999000004, (16020000, 0))] rfl rfl ?_ ?_ <;> repeat' (first | exact trivial | exact ⟨rfl, rfl⟩ | exact ⟨_, rfl, Nat.zero_le _, rfl⟩ | apply And.intro | exact rfl))
  refine Len.nat (fun m7 hm7 hml7 => ?_); cbv
  refine ACall.of (dp := false) (below_c S code hbig hc ei eh hei m7 (by lia)) ⟨rfl, (by repeat' (first | exact trivial | exact rfl | exact Nat.le_refl _ | exact S.cx.giveEq | exact S.cx.lendLe (by assumption) | exact S.cx.lendEq (by assumption) | exact S.cx.lendLe0 | exact S.cx.lendEq0 | exact S.cx.partLe (by assumption) | exact S.cx.partEq (by assumption) | exact .inl rfl | refine ⟨?_, ?_⟩)), (by repeat' (first | exact trivial | exact rfl | exact Nat.le_refl _ | exact S.cx.giveEq | exact S.cx.lendLe (by assumption) | exact S.cx.lendEq (by assumption) | exact S.cx.lendLe0 | exact S.cx.lendEq0 | exact S.cx.partLe (by assumption) | exact S.cx.partEq (by assumption) | exact .inl rfl | refine ⟨?_, ?_⟩))⟩ (fun v os hv => ?_)
  clear hei
  obtain ⟨k, ei, eh, hk, hei, rfl, rfl⟩ := hv
  refine ⟨rfl, ?_⟩; cbv
  have hok1 := a3.1
  have hb3 := hok1.2.2.1.1
  have hb4 := hok1.2.1
  dsimp only at hb3 hb4
  obtain ⟨kn, hkn⟩ : ∃ n : Nat, n = k.toNat := ⟨_, rfl⟩
  have hkc : ((kn : Nat) : Int) = k := by omega
  obtain ⟨c1, c2⟩ := a3.stop (k := kn) (by lia)
  rw [hkc] at c1 c2
  refine ACall.valN (r := rTB A) (os := fun _ => []) (dp := false) S.cx (implStopped_c S heap1 list1 next1 k (Nat.le_trans hb3 (by decide)) (Nat.le_trans hb4 (by decide))) ⟨rfl, (by repeat' (first | exact trivial | exact rfl | exact Nat.le_refl _ | exact S.cx.giveEq | exact S.cx.lendLe (by assumption) | exact S.cx.lendEq (by assumption) | exact S.cx.lendLe0 | exact S.cx.lendEq0 | exact S.cx.partLe (by assumption) | exact S.cx.partEq (by assumption) | exact .inl rfl | refine ⟨?_, ?_⟩)), (by repeat' (first | exact trivial | exact rfl | exact Nat.le_refl _ | exact S.cx.giveEq | exact S.cx.lendLe (by assumption) | exact S.cx.lendEq (by assumption) | exact S.cx.lendLe0 | exact S.cx.lendEq0 | exact S.cx.partLe (by assumption) | exact S.cx.partEq (by assumption) | exact .inl rfl | refine ⟨?_, ?_⟩))⟩ rfl (fun ln hln x hx => ⟨rfl, ?_⟩)
  obtain ⟨⟨heap2, list2, next2⟩, b2⟩ := x
  cbv
  have hN2 := hln cTwig heap2
  generalize ln (A.enc cTwig heap2) = N2 at hN2 ⊢
  have hK2 := hln cTimer list2
  generalize ln (A.enc cTimer list2) = K2 at hK2 ⊢
  rw [show Stopped ⟨heap1, list1, next1⟩ k = stopT ⟨heap1, list1, next1⟩ k from if_pos hok1] at hx
  rw [← hx] at c1 c2
  dsimp only at c1
  refine ElemRef.go rfl (by lia) (by lia) (by rw [S.cx.lenE']; lia) (fun row hrow => ?_); cbv
  refine Row.enc S.cx (by lia) (fun x hxx => ?_)
  obtain rfl : x = b2 := by rw [show row = kn by lia, c1] at hxx; exact (Option.some.inj hxx).symm
  cases x <;> cbv
  all_goals
    refine ElemRef.go rfl (by lia) (by lia) (by rw [S.cx.lenE']; lia) (fun row2 hrow2 => ?_); cbv
    refine RowSet.enc S.cx _ false (by rw [show row2 = kn by lia]; exact c1) rfl (Nat.le_refl _) rfl (fun live3 hlive3 => ?_); cbv
    have hl7 : live3.length = w6.length := by rw [hlive3, List.length_set]
    rw [show w6.set kn false = live3 from by rw [hlive3, show row2 = kn by lia]] at c2
    refine Arith.go (by lia) (fun i' hi' => ?_); cbv
    replace hi' : i' = i - 1 := hi'
    refine Again.on (⟨heap2, list2, next2, w5, live3, i', ei, eh, N2, K2, m5, m6⟩ : FSt) (by dsimp only; lia) ⟨c2, by dsimp only; lia, by dsimp only; lia, hei, hN2, hK2, hm5, by dsimp only; lia⟩ ?_
    (cbv; refine Less.to [(999000001, (20020000, 0)), (999000002, (20020001, 0)), (999000003, (15030000, 0)), (999000004, (16020000, 0))] rfl rfl ?_ ?_ <;> repeat' (first | exact trivial | exact ⟨rfl, rfl⟩ | exact ⟨_, rfl, Nat.zero_le _, rfl⟩ | apply And.intro | exact rfl))

end Go.Proofs.Ytmbckmfihcojoaa.AM
