/-
  law.isPerm at an order that is one: THE WALK.
-/
import Derived.Test.YgdaigBase
import Derived.Test.YgdaigLockPlain
namespace Go.Proofs.Ygdaig
open Go.RowKit
set_option linter.unusedVariables false

/-- A row of m bools in block b. -/
def MarksAt (w : World) (b m : Nat) (s : Nat → Bool) : Prop :=
  (∀ j, j < m → w.cell? ⟨b, j, none⟩ = some (.bool (s j))) ∧ ∀ o, w.frozen? ⟨b, o, none⟩ = false
def markN (s : Nat → Bool) (g : Nat) : Nat → Bool := fun j => if j = g then true else s j
theorem MarksAt.of_block {w w' : World} {b m : Nat} {s : Nat → Bool} (h : MarksAt w b m s) (e : w'.heap[b]? = w.heap[b]?) : MarksAt w' b m s :=
  ⟨fun j hj => (World.cell?_of_block (a := ⟨b, j, none⟩) e).trans (h.1 j hj), fun o => (World.frozen?_of_block (a := ⟨b, o, none⟩) e).trans (h.2 o)⟩
theorem MarksAt.set {w : World} {b m : Nat} {s : Nat → Bool} (h : MarksAt w b m s) (g : Nat) : MarksAt (w.setCell ⟨b, g, none⟩ (.bool true)) b m (markN s g) := by
  refine ⟨fun j hj => ?_, fun o => by simpa using h.2 o⟩
  unfold markN
  by_cases e : j = g
  · subst e; rw [if_pos rfl]; exact World.cell?_setCell_same _ _ _ (h.1 j hj)
  · rw [if_neg e, cell_set_off (Ne.symm e)]; exact h.1 j hj

/-- What isPerm's loop keeps, in the world wr, begun in w. -/
structure PermSt (w wr : World) (q : Nat × Nat × Nat) (n i : Nat) (s : Nat → Bool) : Prop where
  box : wr.heap[w.heap.size]? = some (.cells #[.int .i64 q.1, .int .i64 q.2.1, .int .i64 q.2.2, .int .i64 n] 46)
  marks : MarksAt wr (w.heap.size + 1) 3 s
  seen : ∀ j, s j = true → ∃ k, k < i ∧ place q k = j
  bel : Below w.heap.size w wr
theorem PermSt.cell {w wr : World} {q : Nat × Nat × Nat} {n i : Nat} {s : Nat → Bool} (h : PermSt w wr q n i s) (k : Nat) (hk : k < 3) : wr.cell? ⟨w.heap.size, k, none⟩ = some (.int .i64 (place q k)) := by
  have d := h.box
  match k, hk with
  | 0, _ => simp [World.cell?, d, place]
  | 1, _ => simp [World.cell?, d, place]
  | 2, _ => simp [World.cell?, d, place]
theorem PermSt.count {w wr : World} {q : Nat × Nat × Nat} {n i : Nat} {s : Nat → Bool} (h : PermSt w wr q n i s) : wr.cell? ⟨w.heap.size, 3, none⟩ = some (.int .i64 n) := by
  have d := h.box
  simp [World.cell?, d]
theorem permSt_made (w : World) (q : Nat × Nat × Nat) (n : Nat) :
    PermSt w ((w.alloc (.cells #[.int .i64 q.1, .int .i64 q.2.1, .int .i64 q.2.2, .int .i64 n] 46)).alloc (.cells #[.bool false, .bool false, .bool false] 87)) q n 0 (fun _ => false) := by
  refine ⟨?_, ⟨fun j hj => ?_, fun o => ?_⟩, fun j h => by simp at h, ((Below.refl _ _).alloc (Nat.le_refl _) _).alloc (by simp) _⟩
  · rw [Below.heap_alloc _ _ _ (by simp)]; exact heap_alloc_new w _
  · rw [← World.size_alloc w (.cells #[.int .i64 q.1, .int .i64 q.2.1, .int .i64 q.2.2, .int .i64 n] 46), World.cell?_alloc_new]
    match j, hj with
    | 0, _ => rfl
    | 1, _ => rfl
    | 2, _ => rfl
  · rw [← World.size_alloc w (.cells #[.int .i64 q.1, .int .i64 q.2.1, .int .i64 q.2.2, .int .i64 n] 46)]; exact World.frozen?_alloc_new _ _ _ _
theorem PermSt.step {w wr : World} {q : Nat × Nat × Nat} {n i : Nat} {s : Nat → Bool} (h : PermSt w wr q n i s) :
    PermSt w (wr.setCell ⟨w.heap.size + 1, place q i, none⟩ (.bool true)) q n (i + 1) (markN s (place q i)) := by
  refine ⟨(Below.heap_setCell _ _ _ _ (by simp)).trans h.box, h.marks.set _, fun j hj => ?_, h.bel.setCell (by simp) _⟩
  unfold markN at hj
  split at hj
  · rename_i e; exact ⟨i, by omega, e.symm⟩
  · obtain ⟨k, hk, e⟩ := h.seen j hj; exact ⟨k, by omega, e⟩

set_option maxHeartbeats 1000000 in
theorem isPerm_any (q : Nat × Nat × Nat) (n : Nat) (w : World) (hq : PermQ q n) (hn : n ≤ 3) :
    Calls Yaid.prog 15 #[.agg #[.int .i64 q.1, .int .i64 q.2.1, .int .i64 q.2.2, .int .i64 n]] w fun e w' => e = .returned (.bool true) ∧ Below w.heap.size w w' := by
  have HM : Hid (PermSt w ((w.alloc (.cells #[.int .i64 q.1, .int .i64 q.2.1, .int .i64 q.2.2, .int .i64 n] 46)).alloc (.cells #[.bool false, .bool false, .bool false] 87)) q n 0 (fun _ => false)) := permSt_made w q n
  have HQ : Hid (PermQ q n) := hq
  clear hq
  have d1 : ¬ (n : Int) < 0 := by omega
  have d2 : ¬ (3 : Int) < (n : Int) := by omega
  go_enter Yaid.func15, Yaid.ntmps15
  go_wp2
  go_loopw [4] (fun v4 wr => ∃ (i : Nat) (s : Nat → Bool), v4 = .int .i64 i ∧ i ≤ n ∧ PermSt w wr q n i s) (fun v4 _ => n - (intOf v4).toNat)
  case atStart => exact ⟨0, _, rfl, by omega, HM.out⟩
  case round =>
    obtain ⟨i, s, rfl, hi, hS⟩ := hrel
    have hcnt := hS.count
    by_cases hlt : i < n
    · have hci := hS.cell i (by omega)
      have hpl := HQ.out.1 i hlt
      have hsf : s (place q i) = false := by
        cases e : s (place q i) with
        | false => rfl
        | true =>
          obtain ⟨k, hk, e2⟩ := hS.seen _ e
          have := HQ.out.2 k i (by omega) hlt e2
          omega
      have hsc : wr.cell? ⟨w.heap.size + 1, place q i, none⟩ = some (.bool false) := (hS.marks.1 _ (by omega)).trans (by rw [hsf])
      have hfz := hS.marks.2
      have HN : Hid (PermSt w (wr.setCell ⟨w.heap.size + 1, place q i, none⟩ (.bool true)) q n (i + 1) (markN s (place q i))) := hS.step
      clear hS hsf
      generalize place q i = p at *
      go_wp2
      go_roundw
      case rel => exact ⟨i + 1, _, by go_num, by omega, HN.out⟩
      case measure => simp [intOf]; omega
    · have hb := hS.bel
      clear hS
      go_wp2
      go_ret
      exact ⟨rfl, hb⟩
end Go.Proofs.Ygdaig
