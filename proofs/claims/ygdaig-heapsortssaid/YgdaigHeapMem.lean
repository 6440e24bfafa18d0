/-
  THE HEAP IN MEMORY: block b holds 78 timers of four cells each, then the count.
-/
import Derived.Test.YgdaigBase
import Derived.Test.YgdaigHeapPlain
namespace Go.Proofs.Ygdaig
open Go.RowKit

def HeapAt (w : World) (b n : Nat) (f : Nat → Tm) : Prop :=
  (∀ i, i < 78 → w.cell? ⟨b, i * 4, none⟩ = some (.int .i64 (f i).w) ∧ w.cell? ⟨b, i * 4 + 1, none⟩ = some (.int .i64 (f i).g) ∧
     w.cell? ⟨b, i * 4 + 2, none⟩ = some (.int .i64 (f i).c) ∧ w.cell? ⟨b, i * 4 + 3, none⟩ = some (.int .i64 (f i).v)) ∧
  w.cell? ⟨b, 312, none⟩ = some (.int .i64 n) ∧ (∀ o, w.frozen? ⟨b, o, none⟩ = false)

theorem HeapAt.lt {w : World} {b n : Nat} {f : Nat → Tm} (h : HeapAt w b n f) : b < w.heap.size := World.block_lt_of_cell? w _ h.2.1
theorem HeapAt.of_block {w w' : World} {b n : Nat} {f : Nat → Tm} (h : HeapAt w b n f) (e : w'.heap[b]? = w.heap[b]?) : HeapAt w' b n f := by
  have c : ∀ o, w'.cell? ⟨b, o, none⟩ = w.cell? ⟨b, o, none⟩ := fun o => World.cell?_of_block (a := ⟨b, o, none⟩) e
  have z : ∀ o, w'.frozen? ⟨b, o, none⟩ = w.frozen? ⟨b, o, none⟩ := fun o => World.frozen?_of_block (a := ⟨b, o, none⟩) e
  refine ⟨fun i hi => ?_, ?_, fun o => ?_⟩
  · rw [c, c, c, c]; exact h.1 i hi
  · rw [c]; exact h.2.1
  · rw [z]; exact h.2.2 o
theorem HeapAt.alloc {w : World} {b n : Nat} {f : Nat → Tm} (h : HeapAt w b n f) (o : Obj) : HeapAt (w.alloc o) b n f := h.of_block (Below.heap_alloc w o b h.lt)
theorem HeapAt.drew {w : World} {b n : Nat} {f : Nat → Tm} (h : HeapAt w b n f) : HeapAt w.drew b n f := h
theorem HeapAt.below {w w' : World} {b n : Nat} {f : Nat → Tm} (h : HeapAt w b n f) (s : Below w.heap.size w w') : HeapAt w' b n f := h.of_block (s.block b h.lt)

theorem HeapAt.setN {w : World} {b n : Nat} {f : Nat → Tm} (h : HeapAt w b n f) (m : Nat) {x : Int} (hx : x = m) : HeapAt (w.setCell ⟨b, 312, none⟩ (.int .i64 x)) b m f := by
  subst hx
  refine ⟨fun i hi => ?_, ?_, fun o => ?_⟩
  · rw [cell_set_off (by omega), cell_set_off (by omega), cell_set_off (by omega), cell_set_off (by omega)]; exact h.1 i hi
  · exact World.cell?_setCell_same _ _ _ h.2.1
  · simpa using h.2.2 o

/-- One whole timer stored into slot i. -/
theorem HeapAt.setT {w : World} {b n : Nat} {f : Nat → Tm} (h : HeapAt w b n f) (i : Nat) (hi : i < 78) (x : Tm) :
    HeapAt ((((w.setCell ⟨b, i * 4, none⟩ (.int .i64 x.w)).setCell ⟨b, i * 4 + 1, none⟩ (.int .i64 x.g)).setCell ⟨b, i * 4 + 2, none⟩ (.int .i64 x.c)).setCell ⟨b, i * 4 + 3, none⟩ (.int .i64 x.v)) b n (upd f i x) := by
  refine ⟨fun k hk => ?_, ?_, fun o => ?_⟩
  · obtain ⟨p0, p1, p2, p3⟩ := h.1 i hi
    by_cases e : k = i
    · subst e
      rw [upd_same]
      refine ⟨?_, ?_, ?_, ?_⟩
      · rw [cell_set_off (by omega), cell_set_off (by omega), cell_set_off (by omega)]; exact World.cell?_setCell_same _ _ _ p0
      · rw [cell_set_off (by omega), cell_set_off (by omega)]; exact World.cell?_setCell_same _ _ _ (by rw [cell_set_off (by omega)]; exact p1)
      · rw [cell_set_off (by omega)]; exact World.cell?_setCell_same _ _ _ (by rw [cell_set_off (by omega), cell_set_off (by omega)]; exact p2)
      · exact World.cell?_setCell_same _ _ _ (by rw [cell_set_off (by omega), cell_set_off (by omega), cell_set_off (by omega)]; exact p3)
    · rw [upd_other x e]
      refine ⟨?_, ?_, ?_, ?_⟩ <;> rw [cell_set_off (by omega), cell_set_off (by omega), cell_set_off (by omega), cell_set_off (by omega)]
      · exact (h.1 k hk).1
      · exact (h.1 k hk).2.1
      · exact (h.1 k hk).2.2.1
      · exact (h.1 k hk).2.2.2
  · rw [cell_set_off (by omega), cell_set_off (by omega), cell_set_off (by omega), cell_set_off (by omega)]; exact h.2.1
  · simpa using h.2.2 o

theorem grown_setT {a w : World} {b : Nat} (h : a.grownBy w (some b)) (i : Nat) (x : Tm) :
    a.grownBy ((((w.setCell ⟨b, i * 4, none⟩ (.int .i64 x.w)).setCell ⟨b, i * 4 + 1, none⟩ (.int .i64 x.g)).setCell ⟨b, i * 4 + 2, none⟩ (.int .i64 x.c)).setCell ⟨b, i * 4 + 3, none⟩ (.int .i64 x.v)) (some b) :=
  grown_setCell (grown_setCell (grown_setCell (grown_setCell h _ _) _ _) _ _) _ _

set_option maxHeartbeats 400000 in
theorem less_any (a b c d a' b' c' d' : Int) (w : World) :
    Calls Yaid.prog 25 #[.agg #[.int .i64 a, .int .i64 b, .int .i64 c, .int .i64 d], .agg #[.int .i64 a', .int .i64 b', .int .i64 c', .int .i64 d']] w fun e w' =>
      e = .returned (.bool (lessB a b c d a' b' c' d')) ∧ Below w.heap.size w w' := by
  have t1 : (a != a') = true → lessB a b c d a' b' c' d' = decide (a < a') := fun h => by simp at h; simp [lessB, h]
  have t2 : (a != a') = false → (b != b') = true → lessB a b c d a' b' c' d' = decide (b < b') := fun h k => by simp at h k; simp [lessB, h, k]
  have t3 : (a != a') = false → (b != b') = false → (c != c') = true → lessB a b c d a' b' c' d' = decide (c < c') := fun h k l => by simp at h k l; simp [lessB, h, k, l]
  have t4 : (a != a') = false → (b != b') = false → (c != c') = false → lessB a b c d a' b' c' d' = decide (d < d') := fun h k l => by simp at h k l; simp [lessB, h, k, l]
  generalize lessB a b c d a' b' c' d' = r at *
  have T1 : Hid _ := t1
  have T2 : Hid _ := t2
  have T3 : Hid _ := t3
  have T4 : Hid _ := t4
  clear t1 t2 t3 t4
  go_enter Yaid.func25, Yaid.ntmps25
  go_wp2
  · go_ret
    exact ⟨ret_bool (T1.out ‹_›).symm, ((Below.refl _ _).alloc (Nat.le_refl _) _).alloc (by simp) _⟩
  · go_ret
    exact ⟨ret_bool (T2.out ‹_› ‹_›).symm, ((Below.refl _ _).alloc (Nat.le_refl _) _).alloc (by simp) _⟩
  · go_ret
    exact ⟨ret_bool (T3.out ‹_› ‹_› ‹_›).symm, ((Below.refl _ _).alloc (Nat.le_refl _) _).alloc (by simp) _⟩
  · go_ret
    exact ⟨ret_bool (T4.out ‹_› ‹_› ‹_›).symm, ((Below.refl _ _).alloc (Nat.le_refl _) _).alloc (by simp) _⟩

end Go.Proofs.Ygdaig
