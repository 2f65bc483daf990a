/- Contracts: the law of groups. (printed by gdg2.py) -/
import Derived.Test.YtmpbmfhlkhonkaaDC
import Derived.Test.YtmpbmfhlkhonkaaJ5
import Derived.Test.YtmpbmfhlkhonkaaB39
namespace Go.Proofs.Ytmpbmfhlkhonkaa.AM
open Go Go.Proofs

set_option maxRecDepth 100000
set_option maxHeartbeats 4000000
set_option linter.unusedVariables false
set_option linter.unusedSimpArgs false

variable {P : Program} {A : Sy}

theorem likeInts_c (S : Se P A) (l l' : List Int) : Tests P 43 [.ro (A.enc cInt64 l), .ro (A.enc cInt64 l')] (l = l') := by
  refine S.cx.by (S.prog ▸ Try.func43) rfl rfl rfl rfl (fun hv ho => ?_)
  cbv
  refine LenR.enc S.cx (fun n hn hm => ?_); cbv
  refine LenR.enc S.cx (fun n' hn' hm' => ?_); cbv
  refine Test.neq (fun h => ?_) (fun h => ?_) <;> cbv
  · exact Done.no fun e => h (by subst e; lia)
  refine ALoop.goS (ι := Int) (fun i => [(5, .int .i64 i)]) [] (fun i => []) (fun i => 0 ≤ i ∧ i ≤ n ∧ ∀ j : Nat, (j : Int) < i → l[j]? = l'[j]?) (fun i => (n - i).toNat) (0) S.cx.tab S.cx.mix S.eq ?_ ?_ ?_
  · exact ⟨by simp, by lia, fun j hj => by lia⟩
  · (cbv; refine Less.to [] rfl rfl ?_ ?_ <;> repeat' (first | exact trivial | exact ⟨rfl, rfl⟩ | exact ⟨_, rfl, Nat.zero_le _, rfl⟩ | apply And.intro | exact rfl))
  rintro i ⟨h1, h2, h3⟩
  refine Rnd.mk ?_; cbv
  refine LenR.enc S.cx (fun q hq hmq => ?_); cbv
  refine Test.lss (fun h => ?_) (fun h => ?_) <;> cbv
  rotate_left
  · exact Done.yes (ext_lt (by lia) fun j hj => h3 j (by lia))
  try (refine Drawn.mk ⟨by kernel_rfl, fun _ => ?_⟩)
  refine ElemRo.enc S.cx len_cInt64 (by lia) (by lia) (fun x hx => ?_); cbv
  refine ElemRo.enc S.cx len_cInt64 (by lia) (by lia) (fun y hy => ?_); cbv
  refine Test.neq (fun h => ?_) (fun h => ?_) <;> cbv
  · exact Done.no fun e => h (by subst e; rw [hx] at hy; exact Option.some.inj hy)
  have hxy : l[i.toNat]? = l'[i.toNat]? := by rw [hx, hy, h]
  refine Arith.go (by simp only [maxLen] at hmq; lia) (fun i' hi' => ?_); cbv
  refine Again.on i' (by lia) ⟨by lia, by lia, fun j hj => ?_⟩ ?_
  · by_cases hji : (j : Int) = i
    · have : j = i.toNat := by lia
      rw [this]; exact hxy
    · exact h3 j (by lia)
  · (cbv; refine Less.to [] rfl rfl ?_ ?_ <;> repeat' (first | exact trivial | exact ⟨rfl, rfl⟩ | exact ⟨_, rfl, Nat.zero_le _, rfl⟩ | apply And.intro | exact rfl))

theorem implRoomIn_c (S : Se P A) (node limit active : Int) (waits : List Int) (first : Int) : Tests P 30 [.agg (roGroup A ⟨node, limit, active, waits, first⟩)] (GroupOk ⟨node, limit, active, waits, first⟩ ∧ Room ⟨node, limit, active, waits, first⟩) := by
  refine S.cx.by (S.prog ▸ Try.func30) rfl rfl rfl rfl (fun hv ho => ?_)
  cbv
  refine ACall.testD (dp := false) (implGroupOk_c S _ _ _ _ _) ⟨rfl, (by repeat' (first | exact trivial | exact rfl | exact Nat.le_refl _ | exact S.cx.giveEq | exact S.cx.lendLe (by assumption) | exact S.cx.lendEq (by assumption) | exact S.cx.lendLe0 | exact S.cx.lendEq0 | exact S.cx.partLe (by assumption) | exact S.cx.partEq (by assumption) | exact .inl rfl | refine ⟨?_, ?_⟩)), (by repeat' (first | exact trivial | exact rfl | exact Nat.le_refl _ | exact S.cx.giveEq | exact S.cx.lendLe (by assumption) | exact S.cx.lendEq (by assumption) | exact S.cx.lendLe0 | exact S.cx.lendEq0 | exact S.cx.partLe (by assumption) | exact S.cx.partEq (by assumption) | exact .inl rfl | refine ⟨?_, ?_⟩))⟩ rfl (fun h => ?_) (fun h => ?_) <;> cbv
  rotate_left
  · exact Done.no (fun e => h e.1)
  refine ACall.testD (dp := false) (hasRoom_c S _ _ _ _ _) ⟨rfl, (by repeat' (first | exact trivial | exact rfl | exact Nat.le_refl _ | exact S.cx.giveEq | exact S.cx.lendLe (by assumption) | exact S.cx.lendEq (by assumption) | exact S.cx.lendLe0 | exact S.cx.lendEq0 | exact S.cx.partLe (by assumption) | exact S.cx.partEq (by assumption) | exact .inl rfl | refine ⟨?_, ?_⟩)), (by repeat' (first | exact trivial | exact rfl | exact Nat.le_refl _ | exact S.cx.giveEq | exact S.cx.lendLe (by assumption) | exact S.cx.lendEq (by assumption) | exact S.cx.lendLe0 | exact S.cx.lendEq0 | exact S.cx.partLe (by assumption) | exact S.cx.partEq (by assumption) | exact .inl rfl | refine ⟨?_, ?_⟩))⟩ rfl (fun h2 => ?_) (fun h2 => ?_) <;> cbv
  · exact Done.yes ⟨h, h2⟩
  · exact Done.no fun e => h2 e.2

structure GSt where
  limit : Int
  active : Int
  waits : List Int
  first : Int
  next : Int
  i : Int
  di : Int
  dh : Int
  rows : List Int
  p : Bool
  off : Nat
  len : Nat
  wn : Nat

def GSt.rest (s : GSt) (j : Int) : Prop :=
  GroupOk ⟨0, s.limit, s.active, s.waits, s.first⟩ ∧ s.active ≤ j ∧ (0 ≤ s.next ∧ s.next ≤ j) ∧ 0 ≤ s.di ∧ (∀ w ∈ s.waits, w < s.next) ∧ s.off + s.len ≤ s.rows.length ∧ s.waits = (s.rows.drop s.off).take s.len ∧ s.wn = s.waits.length
def GSt.ok (s : GSt) : Prop := (0 ≤ s.i ∧ s.i ≤ 24) ∧ s.rest s.i
def GSt.mid (j : Int) (s : GSt) : Prop := (s.i = j ∧ 0 ≤ j ∧ j < 24) ∧ s.rest (j + 1)

theorem okEntered {limit active first : Int} {waits : List Int} (h : GroupOk ⟨0, limit, active, waits, first⟩) (r : Room ⟨0, limit, active, waits, first⟩) : GroupOk ⟨0, limit, active + 1, waits, first⟩ := by
  obtain ⟨h1, h2, h3, h4, h5, h6, h7, h8⟩ := h
  obtain ⟨r1, r2⟩ := r
  dsimp only at *
  refine ⟨h1, h2, by dsimp only; omega, by dsimp only; omega, h5, h6, h7, ?_⟩
  rcases h8 with h8 | h8
  · exact .inl h8
  · exfalso; omega

theorem okLined {limit active first next : Int} {waits : List Int} (h : GroupOk ⟨0, limit, active, waits, first⟩) (r : ¬ Room ⟨0, limit, active, waits, first⟩) (h60 : active < 60) (hn : 0 ≤ next ∧ next ≤ 59) (hw : ∀ w ∈ waits, w < next) : GroupOk ⟨0, limit, active, waits ++ [next], first⟩ := by
  obtain ⟨h1, h2, h3, h4, h5, h6, h7, h8⟩ := h
  dsimp only at *
  have r1 : ¬ (limit = 0 ∨ active < limit) := fun e => r ⟨e, h60⟩
  refine ⟨h1, h2, h3, h4, h5, ?_, ?_, .inr ?_⟩
  · intro t ht
    rcases List.mem_append.1 ht with ht | ht
    · exact h6 t ht
    · rw [List.mem_singleton.1 ht]; exact hn
  · refine List.nodup_append.2 ⟨h7, by simp, fun a ha b hb => ?_⟩
    rw [List.mem_singleton.1 hb]
    have := hw a ha
    omega
  · dsimp only; omega

theorem okLeft {limit active first err : Int} {waits : List Int} (h : GroupOk ⟨0, limit, active, waits, first⟩) (ha : 0 < active) (hw : waits = []) (he : 0 ≤ err ∧ err ≤ 99) : GroupOk ⟨0, limit, active - 1, waits, errFirst first err⟩ := by
  obtain ⟨h1, h2, h3, h4, h5, h6, h7, h8⟩ := h
  dsimp only at *
  refine ⟨h1, h2, by dsimp only; omega, by dsimp only; omega, ?_, h6, h7, .inl hw⟩
  unfold errFirst; dsimp only; split <;> assumption

theorem okPassed {limit active first err : Int} {waits : List Int} (h : GroupOk ⟨0, limit, active, waits, first⟩) (he : 0 ≤ err ∧ err ≤ 99) : GroupOk ⟨0, limit, active, waits.tail, errFirst first err⟩ := by
  obtain ⟨h1, h2, h3, h4, h5, h6, h7, h8⟩ := h
  dsimp only at *
  refine ⟨h1, h2, h3, h4, ?_, fun t ht => h6 t (List.mem_of_mem_tail ht), h7.sublist (List.tail_sublist _), ?_⟩
  · unfold errFirst; dsimp only; split <;> assumption
  · rcases h8 with h8 | h8
    · left; dsimp only; rw [h8]; rfl
    · exact .inr h8

theorem tailCut {rows waits : List Int} {off len : Nat} (h : waits = (rows.drop off).take len) : waits.tail = (rows.drop (off + 1)).take (len - 1) := by
  rw [h, ← List.drop_one, List.drop_take, List.drop_drop]

theorem headCut {rows waits : List Int} {off len : Nat} {w : Int} (h : waits = (rows.drop off).take len) (hl : 0 < len) (hw : rows[off]? = some w) : waits.headD 0 = w := by
  rw [h]
  simp [List.headD_eq_head?_getD, List.head?_take, List.head?_drop, Nat.pos_iff_ne_zero.1 hl, hw]

theorem lenCut {rows waits : List Int} {off len : Nat} (h : waits = (rows.drop off).take len) (ho : off + len ≤ rows.length) : waits.length = len := by
  rw [h, List.length_take, List.length_drop]; omega

theorem nodup_len {α : Type} [DecidableEq α] : ∀ {b a : List α}, b.Nodup → (∀ x ∈ b, x ∈ a) → b.length ≤ a.length
  | [], _, _, _ => Nat.zero_le _
  | x :: b, a, h, hs => by
    obtain ⟨h1, h2⟩ := List.nodup_cons.1 h
    have hx : x ∈ a := hs x List.mem_cons_self
    have := nodup_len (a := a.erase x) h2 fun y hy => (List.mem_erase_of_ne (fun (e : y = x) => h1 (by rw [← e]; exact hy))).2 (hs y (List.mem_cons_of_mem _ hy))
    rw [List.length_erase_of_mem hx] at this
    have := List.length_pos_of_mem hx
    simp only [List.length_cons]
    omega

theorem lenOk {g : Group} (h : GroupOk g) : g.waits.length ≤ 60 := by
  have h1 := h.2.2.2.2.2.1
  have h2 := h.2.2.2.2.2.2.1
  have := nodup_len (a := (List.range 60).map (fun n : Nat => (n : Int))) h2 fun x hx => by
    have := h1 x hx
    exact List.mem_map.2 ⟨x.toNat, List.mem_range.2 (by omega), by omega⟩
  simpa using this


theorem groupsLaw_c (S : Se P A) (code : List Int) : Is1 P 9 [.ro (A.enc cByte code)] (.bool true) := by
  refine S.cx.byS [99999] (S.prog ▸ Try.func9) rfl rfl rfl rfl (fun ln hln hv ho => ?_)
  (cbv; repeat (refine Later.mk ?_; cbv))
  have hc := code_bytes (code := code) S.cx (hv _ (List.mem_singleton.2 rfl))
  refine ACall.testD (dp := false) (big_c S code) ⟨rfl, (by repeat' (first | exact trivial | exact rfl | exact Nat.le_refl _ | exact S.cx.giveEq | exact S.cx.lendLe (by assumption) | exact S.cx.lendEq (by assumption) | exact S.cx.lendLe0 | exact S.cx.lendEq0 | exact S.cx.partLe (by assumption) | exact S.cx.partEq (by assumption) | exact .inl rfl | refine ⟨?_, ?_⟩)), (by repeat' (first | exact trivial | exact rfl | exact Nat.le_refl _ | exact S.cx.giveEq | exact S.cx.lendLe (by assumption) | exact S.cx.lendEq (by assumption) | exact S.cx.lendLe0 | exact S.cx.lendEq0 | exact S.cx.partLe (by assumption) | exact S.cx.partEq (by assumption) | exact .inl rfl | refine ⟨?_, ?_⟩))⟩ rfl (fun hbig => ?_) (fun hbig => ?_) <;> (cbv; repeat (refine Later.mk ?_; cbv))
  · exact Done.to (.bool true) [] rfl rfl trivial ⟨rfl, rfl⟩
  replace hbig : code.length ≤ 4096 := Nat.not_lt.1 hbig
  refine ACall.of (dp := false) (roll_c S code 6) ⟨rfl, (by repeat' (first | exact trivial | exact rfl | exact Nat.le_refl _ | exact S.cx.giveEq | exact S.cx.lendLe (by assumption) | exact S.cx.lendEq (by assumption) | exact S.cx.lendLe0 | exact S.cx.lendEq0 | exact S.cx.partLe (by assumption) | exact S.cx.partEq (by assumption) | exact .inl rfl | refine ⟨?_, ?_⟩)), (by repeat' (first | exact trivial | exact rfl | exact Nat.le_refl _ | exact S.cx.giveEq | exact S.cx.lendLe (by assumption) | exact S.cx.lendEq (by assumption) | exact S.cx.lendLe0 | exact S.cx.lendEq0 | exact S.cx.partLe (by assumption) | exact S.cx.partEq (by assumption) | exact .inl rfl | refine ⟨?_, ?_⟩))⟩ (fun v os hv => ?_)
  obtain ⟨⟨dh, rfl⟩, rfl⟩ := hv
  refine ⟨rfl, ?_⟩; (cbv; repeat (refine Later.mk ?_; cbv))
  refine ACall.of (dp := false) (below_c S code hbig hc 0 dh (by decide) 4 (by decide)) ⟨rfl, (by repeat' (first | exact trivial | exact rfl | exact Nat.le_refl _ | exact S.cx.giveEq | exact S.cx.lendLe (by assumption) | exact S.cx.lendEq (by assumption) | exact S.cx.lendLe0 | exact S.cx.lendEq0 | exact S.cx.partLe (by assumption) | exact S.cx.partEq (by assumption) | exact .inl rfl | refine ⟨?_, ?_⟩)), (by repeat' (first | exact trivial | exact rfl | exact Nat.le_refl _ | exact S.cx.giveEq | exact S.cx.lendLe (by assumption) | exact S.cx.lendEq (by assumption) | exact S.cx.lendLe0 | exact S.cx.lendEq0 | exact S.cx.partLe (by assumption) | exact S.cx.partEq (by assumption) | exact .inl rfl | refine ⟨?_, ?_⟩))⟩ (fun v os hv => ?_)
  obtain ⟨lim, di, dh', hlim, hdi, rfl, rfl⟩ := hv
  refine ⟨rfl, ?_⟩; (cbv; repeat (refine Later.mk ?_; cbv))
  refine ALoop.pre (Less.initE S.cx cInt64 999000000 1 true (t := 6) rfl (by first | exact .inr rfl | exact .inl rfl) rfl) ?_
  (cbv; repeat (refine Later.mk ?_; cbv))
  refine ALoop.pre (Less.initCell S.cx cInt64 999000001 1 true 5030000 3 rfl rfl rfl) ?_
  (cbv; repeat (refine Later.mk ?_; cbv))
  refine ALoop.goT (ι := GSt) (fun i => [(5, .int .i64 i.active), (6, .ref i.p 999000000 i.off i.len), (7, .int .i64 i.first), (8, .int .i64 i.next), (9, .int .i64 i.i)]) [] [4010000, 5030000, 999000000, 999000001] (fun i => [(4010000, .box [.ro (A.enc cByte code), .int .i64 i.di, .int .u64 i.dh]), (5030000, .box [.int .i64 0, .int .i64 i.limit, .int .i64 i.active, .ref false 999000001 0 i.wn, .int .i64 i.first]), (999000000, .arr 1 true (A.enc cInt64 i.rows)), (999000001, .arr 1 true (A.enc cInt64 i.waits))]) (fun i => i.ok) (fun i => (24 - i.i).toNat) (⟨lim, 0, [], 0, 0, 0, di, dh', [], false, 0, 0, 0⟩) [15, 44, 99999] S.cx.tab S.cx.mix S.eq ?_ ?_ ?_
  · exact ⟨⟨by dsimp only; decide, by dsimp only; decide⟩, ⟨by dsimp only; decide, by dsimp only; lia, by dsimp only; decide, by dsimp only; lia, by dsimp only; decide, by simp, by simp, .inl rfl⟩, by dsimp only; decide, ⟨by dsimp only; decide, by dsimp only; decide⟩, hdi, by simp, by simp, by simp, rfl⟩
  · ((cbv; repeat (refine Later.mk ?_; cbv)); refine Less.to [] rfl rfl ?_ ?_ <;> repeat' (first | exact trivial | exact ⟨rfl, rfl⟩ | exact ⟨_, rfl, Nat.zero_le _, rfl⟩ | apply And.intro | exact rfl))
  rintro ⟨limit, active, waits, first, next, j0, ei, eh, rows, p, off, len, wn⟩ hk
  unfold GSt.ok GSt.rest at hk
  dsimp only at hk
  obtain ⟨hi, hok, hai, hnx, hei, hlt, hol, hwl, hwn⟩ := hk
  have ha0 : 0 ≤ active := hok.2.2.1.1
  have hwb : waits.length ≤ 60 := lenOk hok
  refine Rnd.mk ?_; (cbv; repeat (refine Later.mk ?_; cbv))
  refine Test.lss (fun h24 => ?_) (fun h24 => ?_) <;> (cbv; repeat (refine Later.mk ?_; cbv))
  rotate_left
  · exact Done.to (.bool true) [] rfl rfl trivial ⟨rfl, rfl⟩
  refine ASeq.goT (ι := Unit) (fun i => []) [] [] (fun i => []) (fun i => True) [15, 44, 99999] S.cx.tab S.cx.mix S.eq ?_ ?_
  · refine Rnd.mk ?_
    (cbv; repeat (refine Later.mk ?_; cbv))
    try (refine Drawn.mk ⟨by kernel_rfl, fun _ => ?_⟩)
    refine ACall.testD (dp := false) (implRoomIn_c S 0 limit active waits first) ⟨rfl, (by repeat' (first | exact trivial | exact rfl | exact Nat.le_refl _ | exact S.cx.giveEq | exact S.cx.lendLe (by assumption) | exact S.cx.lendEq (by assumption) | exact S.cx.lendLe0 | exact S.cx.lendEq0 | exact S.cx.partLe (by assumption) | exact S.cx.partEq (by assumption) | exact .inl rfl | refine ⟨?_, ?_⟩)), (by repeat' (first | exact trivial | exact rfl | exact Nat.le_refl _ | exact S.cx.giveEq | exact S.cx.lendLe (by assumption) | exact S.cx.lendEq (by assumption) | exact S.cx.lendLe0 | exact S.cx.lendEq0 | exact S.cx.partLe (by assumption) | exact S.cx.partEq (by assumption) | exact .inl rfl | refine ⟨?_, ?_⟩))⟩ rfl (fun hroom => ?_) (fun hroom => ?_) <;> (cbv; repeat (refine Later.mk ?_; cbv))
    · refine Test.eql (fun hl0 => ?_) (fun hl0 => ?_) <;> (cbv; repeat (refine Later.mk ?_; cbv))
      · refine Reach.on () trivial ?_
        ((cbv; repeat (refine Later.mk ?_; cbv)); refine Less.to [] rfl rfl ?_ ?_ <;> repeat' (first | exact trivial | exact ⟨rfl, rfl⟩ | exact ⟨_, rfl, Nat.zero_le _, rfl⟩ | apply And.intro | exact rfl))
      · refine Test.lss (fun hl1 => ?_) (fun hl1 => ?_) <;> (cbv; repeat (refine Later.mk ?_; cbv))
        rotate_left
        · exfalso
          have := hroom.2.1
          dsimp only at this
          omega
        refine Reach.on () trivial ?_
        ((cbv; repeat (refine Later.mk ?_; cbv)); refine Less.to [] rfl rfl ?_ ?_ <;> repeat' (first | exact trivial | exact ⟨rfl, rfl⟩ | exact ⟨_, rfl, Nat.zero_le _, rfl⟩ | apply And.intro | exact rfl))
    · have hnr : ¬ Room ⟨0, limit, active, waits, first⟩ := fun e => hroom ⟨hok, e⟩
      refine Test.eql (fun hl0 => ?_) (fun hl0 => ?_) <;> (cbv; repeat (refine Later.mk ?_; cbv))
      · exact absurd ⟨.inl hl0, by dsimp only; lia⟩ hnr
      refine Test.lss (fun hl1 => ?_) (fun hl1 => ?_) <;> (cbv; repeat (refine Later.mk ?_; cbv))
      · exact absurd ⟨.inr hl1, by dsimp only; lia⟩ hnr
      refine Reach.on () trivial ?_
      ((cbv; repeat (refine Later.mk ?_; cbv)); refine Less.to [] rfl rfl ?_ ?_ <;> repeat' (first | exact trivial | exact ⟨rfl, rfl⟩ | exact ⟨_, rfl, Nat.zero_le _, rfl⟩ | apply And.intro | exact rfl))
  rintro _ _
  refine Rnd.mk ?_
  (cbv; repeat (refine Later.mk ?_; cbv))
  refine ASeq.goT (ι := GSt) (fun i => [(5, .int .i64 i.active), (6, .ref i.p 999000000 i.off i.len), (7, .int .i64 i.first), (8, .int .i64 i.next)]) [] [4010000, 5030000, 999000000, 999000001] (fun i => [(4010000, .box [.ro (A.enc cByte code), .int .i64 i.di, .int .u64 i.dh]), (5030000, .box [.int .i64 0, .int .i64 i.limit, .int .i64 i.active, .ref false 999000001 0 i.wn, .int .i64 i.first]), (999000000, .arr 1 true (A.enc cInt64 i.rows)), (999000001, .arr 1 true (A.enc cInt64 i.waits))]) (fun i => i.mid j0) [15, 44, 99999] S.cx.tab S.cx.mix S.eq ?_ ?_
  · refine Rnd.mk ?_
    (cbv; repeat (refine Later.mk ?_; cbv))
    refine ACall.of (dp := false) (below_c S code hbig hc ei eh hei 2 (by decide)) ⟨rfl, (by repeat' (first | exact trivial | exact rfl | exact Nat.le_refl _ | exact S.cx.giveEq | exact S.cx.lendLe (by assumption) | exact S.cx.lendEq (by assumption) | exact S.cx.lendLe0 | exact S.cx.lendEq0 | exact S.cx.partLe (by assumption) | exact S.cx.partEq (by assumption) | exact .inl rfl | refine ⟨?_, ?_⟩)), (by repeat' (first | exact trivial | exact rfl | exact Nat.le_refl _ | exact S.cx.giveEq | exact S.cx.lendLe (by assumption) | exact S.cx.lendEq (by assumption) | exact S.cx.lendLe0 | exact S.cx.lendEq0 | exact S.cx.partLe (by assumption) | exact S.cx.partEq (by assumption) | exact .inl rfl | refine ⟨?_, ?_⟩))⟩ (fun v os hv => ?_)
    clear hei
    obtain ⟨x, ei, eh, hx, hei, rfl, rfl⟩ := hv
    refine ⟨rfl, ?_⟩; (cbv; repeat (refine Later.mk ?_; cbv))
    refine Test.eql (fun hx0 => ?_) (fun hx0 => ?_) <;> (cbv; repeat (refine Later.mk ?_; cbv))
    · by_cases hroom : GroupOk ⟨0, limit, active, waits, first⟩ ∧ Room ⟨0, limit, active, waits, first⟩
      · refine ACall.valN (r := rGB A) (os := fun _ => []) (dp := false) S.cx (implEntered_c S 0 limit active waits first (Nat.le_trans hwb (by decide))) ⟨rfl, (by repeat' (first | exact trivial | exact rfl | exact Nat.le_refl _ | exact S.cx.giveEq | exact S.cx.lendLe (by assumption) | exact S.cx.lendEq (by assumption) | exact S.cx.lendLe0 | exact S.cx.lendEq0 | exact S.cx.partLe (by assumption) | exact S.cx.partEq (by assumption) | exact .inl rfl | refine ⟨?_, ?_⟩)), (by repeat' (first | exact trivial | exact rfl | exact Nat.le_refl _ | exact S.cx.giveEq | exact S.cx.lendLe (by assumption) | exact S.cx.lendEq (by assumption) | exact S.cx.lendLe0 | exact S.cx.lendEq0 | exact S.cx.partLe (by assumption) | exact S.cx.partEq (by assumption) | exact .inl rfl | refine ⟨?_, ?_⟩))⟩ rfl (fun ln hln x hx => ⟨rfl, ?_⟩)
        obtain ⟨⟨node1, limit1, active1, waits1, first1⟩, in1⟩ := x
        (cbv; repeat (refine Later.mk ?_; cbv))
        have hN1 := hln cInt64 waits1
        generalize ln (A.enc cInt64 waits1) = N1 at hN1 ⊢
        have e := hx.trans ((if_pos hok).trans (if_pos hroom.2))
        have hok1 := okEntered hok hroom.2
        simp only [Prod.mk.injEq, Group.mk.injEq] at e
        obtain ⟨⟨rfl, rfl, ha1, rfl, rfl⟩, rfl⟩ := e
        clear hx
        refine ACall.testD (dp := false) (implRoomIn_c S 0 limit1 active waits1 first1) ⟨rfl, (by repeat' (first | exact trivial | exact rfl | exact Nat.le_refl _ | exact S.cx.giveEq | exact S.cx.lendLe (by assumption) | exact S.cx.lendEq (by assumption) | exact S.cx.lendLe0 | exact S.cx.lendEq0 | exact S.cx.partLe (by assumption) | exact S.cx.partEq (by assumption) | exact .inl rfl | refine ⟨?_, ?_⟩)), (by repeat' (first | exact trivial | exact rfl | exact Nat.le_refl _ | exact S.cx.giveEq | exact S.cx.lendLe (by assumption) | exact S.cx.lendEq (by assumption) | exact S.cx.lendLe0 | exact S.cx.lendEq0 | exact S.cx.partLe (by assumption) | exact S.cx.partEq (by assumption) | exact .inl rfl | refine ⟨?_, ?_⟩))⟩ rfl (fun h5 => ?_) (fun h5 => ?_) <;> (cbv; repeat (refine Later.mk ?_; cbv))
        rotate_left
        · exact absurd hroom h5
        refine Arith.go (by lia) (fun a' ha' => ?_); (cbv; repeat (refine Later.mk ?_; cbv))
        obtain rfl : a' = active1 := ha'.trans ha1.symm
        rw [← ha1] at hok1
        refine Reach.on (⟨limit1, a', waits1, first1, next, j0, ei, eh, rows, p, off, len, N1⟩ : GSt) ⟨⟨rfl, hi.1, h24⟩, hok1, by dsimp only; lia, ⟨by dsimp only; lia, by dsimp only; lia⟩, hei, hlt, hol, hwl, hN1⟩ ?_
        ((cbv; repeat (refine Later.mk ?_; cbv)); refine Less.to [(999000001, (16010003, 0))] rfl rfl ?_ ?_ <;> repeat' (first | exact trivial | exact ⟨rfl, rfl⟩ | exact ⟨_, rfl, Nat.zero_le _, rfl⟩ | apply And.intro | exact rfl))
      · have hnr : ¬ Room ⟨0, limit, active, waits, first⟩ := fun e => hroom ⟨hok, e⟩
        refine ACall.valN (r := rGB A) (os := fun _ => []) (dp := false) S.cx (implEntered_c S 0 limit active waits first (Nat.le_trans hwb (by decide))) ⟨rfl, (by repeat' (first | exact trivial | exact rfl | exact Nat.le_refl _ | exact S.cx.giveEq | exact S.cx.lendLe (by assumption) | exact S.cx.lendEq (by assumption) | exact S.cx.lendLe0 | exact S.cx.lendEq0 | exact S.cx.partLe (by assumption) | exact S.cx.partEq (by assumption) | exact .inl rfl | refine ⟨?_, ?_⟩)), (by repeat' (first | exact trivial | exact rfl | exact Nat.le_refl _ | exact S.cx.giveEq | exact S.cx.lendLe (by assumption) | exact S.cx.lendEq (by assumption) | exact S.cx.lendLe0 | exact S.cx.lendEq0 | exact S.cx.partLe (by assumption) | exact S.cx.partEq (by assumption) | exact .inl rfl | refine ⟨?_, ?_⟩))⟩ rfl (fun ln hln x hx => ⟨rfl, ?_⟩)
        obtain ⟨⟨node1, limit1, active1, waits1, first1⟩, in1⟩ := x
        (cbv; repeat (refine Later.mk ?_; cbv))
        have hN1 := hln cInt64 waits1
        generalize ln (A.enc cInt64 waits1) = N1 at hN1 ⊢
        have e := hx.trans ((if_pos hok).trans (if_neg hnr))
        simp only [Prod.mk.injEq, Group.mk.injEq] at e
        obtain ⟨⟨rfl, rfl, rfl, rfl, rfl⟩, rfl⟩ := e
        clear hx
        refine ACall.testD (dp := false) (implRoomIn_c S 0 limit1 active1 waits1 first1) ⟨rfl, (by repeat' (first | exact trivial | exact rfl | exact Nat.le_refl _ | exact S.cx.giveEq | exact S.cx.lendLe (by assumption) | exact S.cx.lendEq (by assumption) | exact S.cx.lendLe0 | exact S.cx.lendEq0 | exact S.cx.partLe (by assumption) | exact S.cx.partEq (by assumption) | exact .inl rfl | refine ⟨?_, ?_⟩)), (by repeat' (first | exact trivial | exact rfl | exact Nat.le_refl _ | exact S.cx.giveEq | exact S.cx.lendLe (by assumption) | exact S.cx.lendEq (by assumption) | exact S.cx.lendLe0 | exact S.cx.lendEq0 | exact S.cx.partLe (by assumption) | exact S.cx.partEq (by assumption) | exact .inl rfl | refine ⟨?_, ?_⟩))⟩ rfl (fun h5 => ?_) (fun h5 => ?_) <;> (cbv; repeat (refine Later.mk ?_; cbv))
        · exact absurd h5 hroom
        refine ACall.valN (r := rGB A) (os := fun _ => []) (dp := false) S.cx (implLined_c S 0 limit1 active1 waits1 first1 next (Nat.le_trans hwb (by decide))) ⟨rfl, (by repeat' (first | exact trivial | exact rfl | exact Nat.le_refl _ | exact S.cx.giveEq | exact S.cx.lendLe (by assumption) | exact S.cx.lendEq (by assumption) | exact S.cx.lendLe0 | exact S.cx.lendEq0 | exact S.cx.partLe (by assumption) | exact S.cx.partEq (by assumption) | exact .inl rfl | refine ⟨?_, ?_⟩)), (by repeat' (first | exact trivial | exact rfl | exact Nat.le_refl _ | exact S.cx.giveEq | exact S.cx.lendLe (by assumption) | exact S.cx.lendEq (by assumption) | exact S.cx.lendLe0 | exact S.cx.lendEq0 | exact S.cx.partLe (by assumption) | exact S.cx.partEq (by assumption) | exact .inl rfl | refine ⟨?_, ?_⟩))⟩ rfl (fun ln hln x hx => ⟨rfl, ?_⟩)
        obtain ⟨⟨node2, limit2, active2, waits2, first2⟩, is2⟩ := x
        (cbv; repeat (refine Later.mk ?_; cbv))
        have hN2 := hln cInt64 waits2
        generalize ln (A.enc cInt64 waits2) = N2 at hN2 ⊢
        have hok2 := okLined hok hnr (by lia) (next := next) ⟨by lia, by lia⟩ hlt
        have e := hx.trans ((if_pos hok).trans (if_pos ⟨hnr, hok2⟩))
        simp only [Prod.mk.injEq, Group.mk.injEq] at e
        obtain ⟨⟨rfl, rfl, rfl, hw2, rfl⟩, rfl⟩ := e
        rw [← hw2] at hok2
        clear hx
        have hlc := lenCut hwl hol
        (cbv; repeat (refine Later.mk ?_; cbv))
        refine Part.one ?_; (cbv; repeat (refine Later.mk ?_; cbv))
        have hlb : len ≤ 60 := by rw [← hlc]; exact hwb
        refine AppRef.one S.cx next rfl rfl plainInt64 (fun _ => rfl) hol ?_ (fun n' rows' hn' hrows' => ?_)
        · simp only [maxBytes]; omega
        (cbv; repeat (refine Later.mk ?_; cbv))
        refine Arith.go (by lia) (fun nx' hnx' => ?_); (cbv; repeat (refine Later.mk ?_; cbv))
        replace hnx' : nx' = next + 1 := hnx'
        have hw3 : rows' = waits2 := by rw [hrows', hw2, hwl]
        have hlt2 : ∀ w ∈ waits2, w < nx' := fun w hw => by
          rw [hw2] at hw
          rcases List.mem_append.1 hw with hw | hw
          · have := hlt w hw; lia
          · rw [List.mem_singleton.1 hw]; lia
        have hl2 : waits2.length = n' := by rw [hw2, hn', List.length_append, hlc]; rfl
        have hwl2 : waits2 = (rows'.drop 0).take n' := by rw [hw3, List.drop_zero, ← hl2, List.take_length]
        have hol2 : 0 + n' ≤ rows'.length := by rw [hw3, hl2]; omega
        refine Reach.on (⟨limit2, active2, waits2, first2, nx', j0, ei, eh, rows', false, 0, n', N2⟩ : GSt) ⟨⟨rfl, hi.1, h24⟩, hok2, by dsimp only; lia, ⟨by dsimp only; lia, by dsimp only; lia⟩, hei, hlt2, hol2, hwl2, hN2⟩ ?_
        ((cbv; repeat (refine Later.mk ?_; cbv)); refine Less.to [(999000001, (22020003, 0)), (999000000, (26030000, 0))] rfl rfl ?_ ?_ <;> repeat' (first | exact trivial | exact ⟨rfl, rfl⟩ | exact ⟨_, rfl, Nat.zero_le _, rfl⟩ | apply And.intro | exact rfl))
    refine Test.gtr (fun hap => ?_) (fun hap => ?_) <;> (cbv; repeat (refine Later.mk ?_; cbv))
    rotate_left
    · skip
      refine Reach.on (⟨limit, active, waits, first, next, j0, ei, eh, rows, p, off, len, wn⟩ : GSt) ⟨⟨rfl, hi.1, h24⟩, hok, by dsimp only; lia, ⟨by dsimp only; lia, by dsimp only; lia⟩, hei, hlt, hol, hwl, hwn⟩ ?_
      ((cbv; repeat (refine Later.mk ?_; cbv)); refine Less.to [] rfl rfl ?_ ?_ <;> repeat' (first | exact trivial | exact ⟨rfl, rfl⟩ | exact ⟨_, rfl, Nat.zero_le _, rfl⟩ | apply And.intro | exact rfl))
    refine ACall.of (dp := false) (below_c S code hbig hc ei eh hei 3 (by decide)) ⟨rfl, (by repeat' (first | exact trivial | exact rfl | exact Nat.le_refl _ | exact S.cx.giveEq | exact S.cx.lendLe (by assumption) | exact S.cx.lendEq (by assumption) | exact S.cx.lendLe0 | exact S.cx.lendEq0 | exact S.cx.partLe (by assumption) | exact S.cx.partEq (by assumption) | exact .inl rfl | refine ⟨?_, ?_⟩)), (by repeat' (first | exact trivial | exact rfl | exact Nat.le_refl _ | exact S.cx.giveEq | exact S.cx.lendLe (by assumption) | exact S.cx.lendEq (by assumption) | exact S.cx.lendLe0 | exact S.cx.lendEq0 | exact S.cx.partLe (by assumption) | exact S.cx.partEq (by assumption) | exact .inl rfl | refine ⟨?_, ?_⟩))⟩ (fun v os hv => ?_)
    clear hei
    obtain ⟨err, ei, eh, herr, hei, rfl, rfl⟩ := hv
    refine ⟨rfl, ?_⟩; (cbv; repeat (refine Later.mk ?_; cbv))
    refine Len.nat (fun ln1 hln1 hlm => ?_); (cbv; repeat (refine Later.mk ?_; cbv))
    have hlc := lenCut hwl hol
    refine Test.eql (fun hl => ?_) (fun hl => ?_) <;> (cbv; repeat (refine Later.mk ?_; cbv))
    · skip
      have hw0 : waits = [] := List.length_eq_zero_iff.1 (by lia)
      refine ACall.valN (r := rGBB A) (os := fun _ => []) (dp := false) S.cx (implLeftBy_c S 0 limit active waits first err (Nat.le_trans hwb (by decide))) ⟨rfl, (by repeat' (first | exact trivial | exact rfl | exact Nat.le_refl _ | exact S.cx.giveEq | exact S.cx.lendLe (by assumption) | exact S.cx.lendEq (by assumption) | exact S.cx.lendLe0 | exact S.cx.lendEq0 | exact S.cx.partLe (by assumption) | exact S.cx.partEq (by assumption) | exact .inl rfl | refine ⟨?_, ?_⟩)), (by repeat' (first | exact trivial | exact rfl | exact Nat.le_refl _ | exact S.cx.giveEq | exact S.cx.lendLe (by assumption) | exact S.cx.lendEq (by assumption) | exact S.cx.lendLe0 | exact S.cx.lendEq0 | exact S.cx.partLe (by assumption) | exact S.cx.partEq (by assumption) | exact .inl rfl | refine ⟨?_, ?_⟩))⟩ rfl (fun ln hln x hx => ⟨rfl, ?_⟩)
      obtain ⟨⟨node1, limit1, active1, waits1, first1⟩, is1, fr1⟩ := x
      (cbv; repeat (refine Later.mk ?_; cbv))
      have hN1 := hln cInt64 waits1
      generalize ln (A.enc cInt64 waits1) = N1 at hN1 ⊢
      have e := hx.trans ((if_pos hok).trans (if_pos ⟨(by dsimp only; lia), hw0, (by lia), (by lia)⟩))
      have hok1 := okLeft hok hap hw0 (err := err) ⟨by lia, by lia⟩
      simp only [Prod.mk.injEq, Group.mk.injEq] at e
      obtain ⟨⟨rfl, rfl, ha1, rfl, hf1⟩, rfl, hfr1⟩ := e
      rw [← ha1, ← hf1] at hok1
      clear hx
      refine Arith.go (by lia) (fun a' ha' => ?_); (cbv; repeat (refine Later.mk ?_; cbv))
      obtain rfl : a' = active1 := ha'.trans ha1.symm
      by_cases hfr : first = 0 ∧ err ≠ 0
      · have hb : fr1 = true := hfr1.trans (decide_eq_true hfr)
        have hf2 : first1 = err := hf1.trans (if_pos hfr)
        clear hf1 hfr1
        subst hb hf2
        (cbv; repeat (refine Later.mk ?_; cbv))
        refine Test.eql (fun hf0 => ?_) (fun hf0 => ?_) <;> (cbv; repeat (refine Later.mk ?_; cbv))
        rotate_left
        · exact absurd hfr.1 hf0
        refine Test.neq (fun he0 => ?_) (fun he0 => ?_) <;> (cbv; repeat (refine Later.mk ?_; cbv))
        rotate_left
        · exact absurd he0 hfr.2
        refine Reach.on (⟨limit1, a', waits1, first1, next, j0, ei, eh, rows, p, off, len, N1⟩ : GSt) ⟨⟨rfl, hi.1, h24⟩, hok1, by dsimp only; lia, ⟨by dsimp only; lia, by dsimp only; lia⟩, hei, hlt, hol, hwl, hN1⟩ ?_
        ((cbv; repeat (refine Later.mk ?_; cbv)); refine Less.to [(999000001, (34020003, 0))] rfl rfl ?_ ?_ <;> repeat' (first | exact trivial | exact ⟨rfl, rfl⟩ | exact ⟨_, rfl, Nat.zero_le _, rfl⟩ | apply And.intro | exact rfl))
      · have hb : fr1 = false := hfr1.trans (decide_eq_false hfr)
        have hf2 : first1 = first := hf1.trans (if_neg hfr)
        clear hf1 hfr1
        subst hb hf2
        (cbv; repeat (refine Later.mk ?_; cbv))
        refine Test.eql (fun hf0 => ?_) (fun hf0 => ?_) <;> (cbv; repeat (refine Later.mk ?_; cbv))
        · refine Test.neq (fun he0 => ?_) (fun he0 => ?_) <;> (cbv; repeat (refine Later.mk ?_; cbv))
          · exact absurd ⟨hf0, he0⟩ hfr
          · skip
            refine Reach.on (⟨limit1, a', waits1, first1, next, j0, ei, eh, rows, p, off, len, N1⟩ : GSt) ⟨⟨rfl, hi.1, h24⟩, hok1, by dsimp only; lia, ⟨by dsimp only; lia, by dsimp only; lia⟩, hei, hlt, hol, hwl, hN1⟩ ?_
            ((cbv; repeat (refine Later.mk ?_; cbv)); refine Less.to [(999000001, (34020003, 0))] rfl rfl ?_ ?_ <;> repeat' (first | exact trivial | exact ⟨rfl, rfl⟩ | exact ⟨_, rfl, Nat.zero_le _, rfl⟩ | apply And.intro | exact rfl))
        · skip
          refine Reach.on (⟨limit1, a', waits1, first1, next, j0, ei, eh, rows, p, off, len, N1⟩ : GSt) ⟨⟨rfl, hi.1, h24⟩, hok1, by dsimp only; lia, ⟨by dsimp only; lia, by dsimp only; lia⟩, hei, hlt, hol, hwl, hN1⟩ ?_
          ((cbv; repeat (refine Later.mk ?_; cbv)); refine Less.to [(999000001, (34020003, 0))] rfl rfl ?_ ?_ <;> repeat' (first | exact trivial | exact ⟨rfl, rfl⟩ | exact ⟨_, rfl, Nat.zero_le _, rfl⟩ | apply And.intro | exact rfl))
    · skip
      have hlen0 : 0 < len := by lia
      refine ACall.valN (r := rGIBB A) (os := fun _ => []) (dp := false) S.cx (implPassed_c S 0 limit active waits first err (Nat.le_trans hwb (by decide))) ⟨rfl, (by repeat' (first | exact trivial | exact rfl | exact Nat.le_refl _ | exact S.cx.giveEq | exact S.cx.lendLe (by assumption) | exact S.cx.lendEq (by assumption) | exact S.cx.lendLe0 | exact S.cx.lendEq0 | exact S.cx.partLe (by assumption) | exact S.cx.partEq (by assumption) | exact .inl rfl | refine ⟨?_, ?_⟩)), (by repeat' (first | exact trivial | exact rfl | exact Nat.le_refl _ | exact S.cx.giveEq | exact S.cx.lendLe (by assumption) | exact S.cx.lendEq (by assumption) | exact S.cx.lendLe0 | exact S.cx.lendEq0 | exact S.cx.partLe (by assumption) | exact S.cx.partEq (by assumption) | exact .inl rfl | refine ⟨?_, ?_⟩))⟩ rfl (fun ln hln x hx => ⟨rfl, ?_⟩)
      obtain ⟨⟨node1, limit1, active1, waits1, first1⟩, who1, is1, fr1⟩ := x
      (cbv; repeat (refine Later.mk ?_; cbv))
      have hN1 := hln cInt64 waits1
      generalize ln (A.enc cInt64 waits1) = N1 at hN1 ⊢
      have hw0 : waits ≠ [] := fun e => by
        have h := lenCut hwl hol
        rw [e] at h
        simp at h
        omega
      have e := hx.trans ((if_pos hok).trans (if_pos ⟨(by dsimp only; lia), hw0, (by lia), (by lia)⟩))
      have hok1 := okPassed hok (err := err) ⟨by lia, by lia⟩
      simp only [Prod.mk.injEq, Group.mk.injEq] at e
      obtain ⟨⟨rfl, rfl, rfl, hw1, hf1⟩, hwho, rfl, hfr1⟩ := e
      rw [← hw1, ← hf1] at hok1
      have hlt1 : ∀ w ∈ waits1, w < next := fun w hw => hlt w (List.mem_of_mem_tail (hw1 ▸ hw))
      clear hx
      refine ElemRef.go rfl (by decide) (by omega) (by rw [S.cx.lenE']; omega) (fun row hrow => ?_); (cbv; repeat (refine Later.mk ?_; cbv))
      refine Row.enc S.cx (by omega) (fun w' hw' => ?_)
      have ew : w' = who1 := by
        rw [hwho]
        refine (headCut hwl hlen0 ?_).symm
        rw [← hw', hrow]; rfl
      subst ew
      (cbv; repeat (refine Later.mk ?_; cbv))
      refine Test.neq (fun h => ?_) (fun h => ?_) <;> (cbv; repeat (refine Later.mk ?_; cbv))
      · exact absurd rfl h
      refine CutRef.go rfl (by decide) (by lia) (by lia) (by rw [S.cx.lenE']; omega) (fun p' off' len' hoff hlen => ?_); (cbv; repeat (refine Later.mk ?_; cbv))
      have hol1 : off' + len' ≤ rows.length := by lia
      have hwl1 : waits1 = (rows.drop off').take len' := by
        have e1 : off' = off + 1 := by rw [hoff]; rfl
        have e2 : len' = len - 1 := by rw [hlen]; lia
        rw [hw1, tailCut hwl, e1, e2]
      by_cases hfr : first = 0 ∧ err ≠ 0
      · have hb : fr1 = true := hfr1.trans (decide_eq_true hfr)
        have hf2 : first1 = err := hf1.trans (if_pos hfr)
        clear hf1 hfr1
        subst hb hf2
        (cbv; repeat (refine Later.mk ?_; cbv))
        refine Test.eql (fun hf0 => ?_) (fun hf0 => ?_) <;> (cbv; repeat (refine Later.mk ?_; cbv))
        rotate_left
        · exact absurd hfr.1 hf0
        refine Test.neq (fun he0 => ?_) (fun he0 => ?_) <;> (cbv; repeat (refine Later.mk ?_; cbv))
        rotate_left
        · exact absurd he0 hfr.2
        refine Reach.on (⟨limit1, active1, waits1, first1, next, j0, ei, eh, rows, p', off', len', N1⟩ : GSt) ⟨⟨rfl, hi.1, h24⟩, hok1, by dsimp only; lia, ⟨by dsimp only; lia, by dsimp only; lia⟩, hei, hlt1, hol1, hwl1, hN1⟩ ?_
        ((cbv; repeat (refine Later.mk ?_; cbv)); refine Less.to [(999000001, (36020003, 0))] rfl rfl ?_ ?_ <;> repeat' (first | exact trivial | exact ⟨rfl, rfl⟩ | exact ⟨_, rfl, Nat.zero_le _, rfl⟩ | apply And.intro | exact rfl))
      · have hb : fr1 = false := hfr1.trans (decide_eq_false hfr)
        have hf2 : first1 = first := hf1.trans (if_neg hfr)
        clear hf1 hfr1
        subst hb hf2
        (cbv; repeat (refine Later.mk ?_; cbv))
        refine Test.eql (fun hf0 => ?_) (fun hf0 => ?_) <;> (cbv; repeat (refine Later.mk ?_; cbv))
        · refine Test.neq (fun he0 => ?_) (fun he0 => ?_) <;> (cbv; repeat (refine Later.mk ?_; cbv))
          · exact absurd ⟨hf0, he0⟩ hfr
          · skip
            refine Reach.on (⟨limit1, active1, waits1, first1, next, j0, ei, eh, rows, p', off', len', N1⟩ : GSt) ⟨⟨rfl, hi.1, h24⟩, hok1, by dsimp only; lia, ⟨by dsimp only; lia, by dsimp only; lia⟩, hei, hlt1, hol1, hwl1, hN1⟩ ?_
            ((cbv; repeat (refine Later.mk ?_; cbv)); refine Less.to [(999000001, (36020003, 0))] rfl rfl ?_ ?_ <;> repeat' (first | exact trivial | exact ⟨rfl, rfl⟩ | exact ⟨_, rfl, Nat.zero_le _, rfl⟩ | apply And.intro | exact rfl))
        · skip
          refine Reach.on (⟨limit1, active1, waits1, first1, next, j0, ei, eh, rows, p', off', len', N1⟩ : GSt) ⟨⟨rfl, hi.1, h24⟩, hok1, by dsimp only; lia, ⟨by dsimp only; lia, by dsimp only; lia⟩, hei, hlt1, hol1, hwl1, hN1⟩ ?_
          ((cbv; repeat (refine Later.mk ?_; cbv)); refine Less.to [(999000001, (36020003, 0))] rfl rfl ?_ ?_ <;> repeat' (first | exact trivial | exact ⟨rfl, rfl⟩ | exact ⟨_, rfl, Nat.zero_le _, rfl⟩ | apply And.intro | exact rfl))
  rintro ⟨limit, active, waits, first, next, j1, ei, eh, rows, p, off, len, wn⟩ hk
  unfold GSt.mid GSt.rest at hk
  dsimp only at hk
  obtain ⟨⟨rfl, hi, h24⟩, hok, hai, hnx, hei, hlt, hol, hwl, hwn⟩ := hk
  refine Rnd.mk ?_
  (cbv; repeat (refine Later.mk ?_; cbv))
  refine ACall.testD (dp := false) (implGroupOk_c S 0 limit active waits first) ⟨rfl, (by repeat' (first | exact trivial | exact rfl | exact Nat.le_refl _ | exact S.cx.giveEq | exact S.cx.lendLe (by assumption) | exact S.cx.lendEq (by assumption) | exact S.cx.lendLe0 | exact S.cx.lendEq0 | exact S.cx.partLe (by assumption) | exact S.cx.partEq (by assumption) | exact .inl rfl | refine ⟨?_, ?_⟩)), (by repeat' (first | exact trivial | exact rfl | exact Nat.le_refl _ | exact S.cx.giveEq | exact S.cx.lendLe (by assumption) | exact S.cx.lendEq (by assumption) | exact S.cx.lendLe0 | exact S.cx.lendEq0 | exact S.cx.partLe (by assumption) | exact S.cx.partEq (by assumption) | exact .inl rfl | refine ⟨?_, ?_⟩))⟩ rfl (fun hg => ?_) (fun hg => ?_) <;> (cbv; repeat (refine Later.mk ?_; cbv))
  rotate_left
  · exact absurd hok hg
  refine Test.neq (fun h => ?_) (fun h => ?_) <;> (cbv; repeat (refine Later.mk ?_; cbv))
  · exact absurd rfl h
  refine Test.neq (fun h => ?_) (fun h => ?_) <;> (cbv; repeat (refine Later.mk ?_; cbv))
  · exact absurd rfl h
  refine ACall.testD (dp := false) (likeInts_c S waits waits) ⟨rfl, (by repeat' (first | exact trivial | exact rfl | exact Nat.le_refl _ | exact S.cx.giveEq | exact S.cx.lendLe (by assumption) | exact S.cx.lendEq (by assumption) | exact S.cx.lendLe0 | exact S.cx.lendEq0 | exact S.cx.partLe (by assumption) | exact S.cx.partEq (by assumption) | exact .inl rfl | refine ⟨?_, ?_⟩)), (by repeat' (first | exact trivial | exact rfl | exact Nat.le_refl _ | exact S.cx.giveEq | exact S.cx.lendLe (by assumption) | exact S.cx.lendEq (by assumption) | exact S.cx.lendLe0 | exact S.cx.lendEq0 | exact S.cx.partLe (by assumption) | exact S.cx.partEq (by assumption) | exact .inl rfl | refine ⟨?_, ?_⟩))⟩ rfl (fun h => ?_) (fun h => ?_) <;> (cbv; repeat (refine Later.mk ?_; cbv))
  rotate_left
  · exact absurd rfl h
  refine Test.gtr (fun hg1 => ?_) (fun hg1 => ?_) <;> (cbv; repeat (refine Later.mk ?_; cbv))
  · refine Test.gtr (fun hg2 => ?_) (fun hg2 => ?_) <;> (cbv; repeat (refine Later.mk ?_; cbv))
    · exact absurd ⟨hg1, hg2⟩ hok.2.2.2.1
    · skip
      refine Arith.go (by lia) (fun i' hi' => ?_); (cbv; repeat (refine Later.mk ?_; cbv))
      replace hi' : i' = j1 + 1 := hi'
      refine Again.on (⟨limit, active, waits, first, next, i', ei, eh, rows, p, off, len, wn⟩ : GSt) (by dsimp only; lia) ⟨⟨by dsimp only; lia, by dsimp only; lia⟩, hok, by dsimp only; lia, ⟨hnx.1, by dsimp only; lia⟩, hei, hlt, hol, hwl, hwn⟩ ?_
      ((cbv; repeat (refine Later.mk ?_; cbv)); refine Less.to [] rfl rfl ?_ ?_ <;> repeat' (first | exact trivial | exact ⟨rfl, rfl⟩ | exact ⟨_, rfl, Nat.zero_le _, rfl⟩ | apply And.intro | exact rfl))
  · refine Arith.go (by lia) (fun i' hi' => ?_); (cbv; repeat (refine Later.mk ?_; cbv))
    replace hi' : i' = j1 + 1 := hi'
    refine Again.on (⟨limit, active, waits, first, next, i', ei, eh, rows, p, off, len, wn⟩ : GSt) (by dsimp only; lia) ⟨⟨by dsimp only; lia, by dsimp only; lia⟩, hok, by dsimp only; lia, ⟨hnx.1, by dsimp only; lia⟩, hei, hlt, hol, hwl, hwn⟩ ?_
    ((cbv; repeat (refine Later.mk ?_; cbv)); refine Less.to [] rfl rfl ?_ ?_ <;> repeat' (first | exact trivial | exact ⟨rfl, rfl⟩ | exact ⟨_, rfl, Nat.zero_le _, rfl⟩ | apply And.intro | exact rfl))

end Go.Proofs.Ytmpbmfhlkhonkaa.AM
