/- What the timers' functions compute. -/
import Derived.Test.YtgooambndfkgkaaGreatE8
namespace Go.Proofs.YtgooambndfkgkaaGreat.AM
open Go Go.Proofs

set_option linter.unusedVariables false
set_option linter.unusedSimpArgs false

theorem nodup_len {α : Type} [DecidableEq α] : ∀ {b a : List α}, b.Nodup → (∀ x ∈ b, x ∈ a) → b.length ≤ a.length
  | [], _, _, _ => Nat.zero_le _
  | x :: b, a, h, hs => by
    obtain ⟨h1, h2⟩ := List.nodup_cons.1 h
    have hx : x ∈ a := hs x List.mem_cons_self
    have := nodup_len (a := a.erase x) h2 fun y hy => (List.mem_erase_of_ne (fun (e : y = x) => h1 (by rw [← e]; exact hy))).2 (hs y (List.mem_cons_of_mem _ hy))
    rw [List.length_erase_of_mem hx] at this
    have := List.length_pos_of_mem hx
    simp only [List.length_cons]
    omega

theorem nodup_all {α : Type} [DecidableEq α] {b a : List α} (h : b.Nodup) (hs : ∀ x ∈ b, x ∈ a) (hl : a.length ≤ b.length) : ∀ y ∈ a, y ∈ b := fun y hy =>
  Classical.byContradiction fun hn => by
    have := nodup_len (b := y :: b) (a := a) (List.nodup_cons.2 ⟨hn, h⟩) fun x hx => by
      rcases List.mem_cons.1 hx with rfl | hx
      · exact hy
      · exact hs x hx
    simp only [List.length_cons] at this
    omega

/-- The tree that rows tell. -/
def heapOf (l : List Twig) : Heap := (Heap.parse (l.length + 1) l).getD .nil

theorem heapOf_is {l : List Twig} (h : Heap.Is l) : (heapOf l).ok ∧ (heapOf l).flat = l := by
  obtain ⟨t, hok, hf⟩ := h
  have e : heapOf l = t := by
    unfold heapOf
    rw [← hf, Heap.parse_flat _ hok (by rw [Heap.flat_len]; omega)]
    rfl
  rw [e]; exact ⟨hok, hf⟩

theorem heapOf_flat {t : Heap} (h : t.ok) : heapOf t.flat = t := Heap.flat_inj (heapOf_is ⟨t, h, rfl⟩).2

def withoutL (l : List Twig) (q : Int) : List Twig := ((heapOf l).without q).flat
def putL (l : List Twig) (due seq : Int) : List Twig := (Heap.merge (heapOf l) (.node due seq .nil .nil)).flat

theorem heapOf_seqs {l : List Twig} (h : Heap.Is l) : (heapOf l).seqs = l.map (·.seq) := by
  rw [Heap.seqs_flat, (heapOf_is h).2]

/-- Every armed timer is in the heap. -/
theorem armed_in {t : Timers} (h : TimersOk t) {x : Timer} (hx : x ∈ t.list) (ha : x.armed = true) : x.seq ∈ t.heap.map (·.seq) := by
  refine nodup_all (a := (t.list.filter (·.armed)).map (·.seq)) h.2.2.1.2.1 (fun s hs => ?_) ?_ x.seq ?_
  · obtain ⟨w, hw, rfl⟩ := List.mem_map.1 hs
    obtain ⟨y, hy, e, hya, _⟩ := h.2.2.2.2.2.2 w hw
    exact List.mem_map.2 ⟨y, List.mem_filter.2 ⟨hy, hya⟩, e⟩
  · have := h.2.2.2.2.2.1
    rw [List.length_map, List.length_map]
    exact Nat.le_of_eq this
  · exact List.mem_map.2 ⟨x, List.mem_filter.2 ⟨hx, ha⟩, rfl⟩

/-- Disarmed. -/
def stopT (t : Timers) (q : Int) : Timers × Bool :=
  if 0 ≤ timIdx t.list q then
    match t.list[(timIdx t.list q).toNat]? with
    | some x => if x.armed = true then (⟨withoutL t.heap q, t.list.set (timIdx t.list q).toNat { x with armed := false }, t.next⟩, true) else (t, false)
    | none => (t, false)
  else (t, false)

/-- A timer more. -/
def armT (t : Timers) (due what whom : Int) : Timers × Int :=
  if t.list.length = 64 ∨ t.next = 1000000 ∨ ¬ (0 ≤ what ∧ what ≤ 2) ∨ ¬ (0 ≤ whom ∧ whom ≤ 99) then (t, -1)
  else (⟨putL t.heap due t.next, t.list ++ [⟨t.next, due, what, whom, true⟩], t.next + 1⟩, t.next)

def timers0 : Timers := ⟨[], [], 0⟩
def Stopped (t : Timers) (q : Int) : Timers × Bool := if TimersOk t then stopT t q else (timers0, false)
def Armed (t : Timers) (due what whom : Int) : Timers × Int := if TimersOk t then armT t due what whom else (timers0, -1)

end Go.Proofs.YtgooambndfkgkaaGreat.AM
