/-
  rq.Local in memory; Len and At: THE WALKS.
-/
import Derived.Test.YgdaigBase
namespace Go.Proofs.Ygdaig
open Go.RowKit
set_option linter.unusedVariables false

/-- A rq.Local in memory: head, tail, four slots, runnext. -/
def RingAt (w : World) (rb h t : Nat) (r : Nat → Int) (nx : Int) : Prop :=
  w.cell? ⟨rb, 0, none⟩ = some (.int .u8 h) ∧ w.cell? ⟨rb, 1, none⟩ = some (.int .u8 t) ∧ (∀ i, i < 4 → w.cell? ⟨rb, 2 + i, none⟩ = some (.int .i64 (r i))) ∧
  w.cell? ⟨rb, 6, none⟩ = some (.int .i64 nx) ∧ ∀ o, w.frozen? ⟨rb, o, none⟩ = false

theorem RingAt.of_block {w w' : World} {rb h t : Nat} {r : Nat → Int} {nx : Int} (k : RingAt w rb h t r nx) (e : w'.heap[rb]? = w.heap[rb]?) : RingAt w' rb h t r nx :=
  ⟨(World.cell?_of_block (a := ⟨rb, 0, none⟩) e).trans k.1, (World.cell?_of_block (a := ⟨rb, 1, none⟩) e).trans k.2.1, fun i hi => (World.cell?_of_block (a := ⟨rb, 2 + i, none⟩) e).trans (k.2.2.1 i hi),
    (World.cell?_of_block (a := ⟨rb, 6, none⟩) e).trans k.2.2.2.1, fun o => (World.frozen?_of_block (a := ⟨rb, o, none⟩) e).trans (k.2.2.2.2 o)⟩
theorem RingAt.lt {w : World} {rb h t : Nat} {r : Nat → Int} {nx : Int} (k : RingAt w rb h t r nx) : rb < w.heap.size := World.block_lt_of_cell? w _ k.1
theorem RingAt.below {w w' : World} {rb h t : Nat} {r : Nat → Int} {nx : Int} (k : RingAt w rb h t r nx) (b : Below w.heap.size w w') : RingAt w' rb h t r nx := k.of_block (b.block rb k.lt)

theorem below_drewN (w : World) (n : Nat) : Below w.heap.size w (w.drewN n) := ⟨rfl, rfl, rfl, Nat.le_refl _, fun _ _ => rfl⟩

set_option maxHeartbeats 400000 in
theorem rlen_any (rb h t n : Nat) (r : Nat → Int) (nx : Int) (w : World) (H : RingAt w rb h t r nx) (hn : ((t : Int) - (h : Int)) % 256 = (n : Int)) :
    Calls Yaid.prog 62 #[.pointer (some ⟨rb, 0, none⟩)] w fun e w' => e = .returned (.int .i64 n) ∧ Below w.heap.size w w' := by
  obtain ⟨c0, c1, c2, c3, fz⟩ := id H
  clear H c2
  have HN : Hid _ := hn
  clear hn
  go_enter Yaid.func62, Yaid.ntmps62
  go_wp2
  go_quiet (fail)
  go_wp2
  go_ret
  exact ⟨ret_int HN.out, below_drewN _ _⟩

theorem u8_wrap (x : Int) : IntKind.u8.wrap x = x % 256 := by simp [IntKind.wrap_u8]

set_option maxHeartbeats 400000 in
theorem rat_any (rb h t n i : Nat) (r : Nat → Int) (nx : Int) (w : World) (H : RingAt w rb h t r nx) (hh : h < 256) (ht : t < 256) (hn : ((t : Int) - (h : Int)) % 256 = (n : Int)) (hi : i < n) (h4 : n ≤ 4) :
    Calls Yaid.prog 60 #[.pointer (some ⟨rb, 0, none⟩), .int .i64 i] w fun e w' => e = .returned (.int .i64 (r ((h + i) % 4))) ∧ Below w.heap.size w w' := by
  obtain ⟨k, hk⟩ : ∃ k, k = (h + i) % 256 := ⟨_, rfl⟩
  obtain ⟨j, hj⟩ : ∃ j, j = (h + i) % 4 := ⟨_, rfl⟩
  have e1 : IntKind.u8.wrap (i : Int) = (i : Int) := by rw [u8_wrap]; omega
  have e2 : IntKind.u8.wrap ((h : Int) + (i : Int)) = (k : Int) := by rw [u8_wrap]; omega
  have e3 : ((k : Int)).tmod 4 = (j : Int) := by rw [Int.tmod_eq_emod_of_nonneg (by omega)]; omega
  have e4 : ((k : Int)) % 4 = (j : Int) := by omega
  have hj4 : j < 4 := by omega
  rw [← hj]
  have HN : Hid _ := hn
  clear hn hk hj
  have HR : Hid (RingAt w rb h t r nx) := H
  clear H
  go_enter Yaid.func60, Yaid.ntmps60
  go_wp2_with (go_at_call 62; refine (rlen_any rb h t n r nx _ HR.out HN.out).mono ?_; rintro e w' ⟨rfl, hq⟩)
  obtain ⟨c0, c1, c2, c3, fz⟩ := HR.out.below hq
  have cj := c2 j hj4
  clear c2
  go_quiet (fail)
  go_wp2
  go_ret
  exact ⟨rfl, hq.trans ⟨rfl, rfl, rfl, Nat.le_refl _, fun _ _ => rfl⟩⟩

def updI (r : Nat → Int) (i : Nat) (x : Int) : Nat → Int := fun k => if k = i then x else r k

theorem RingAt.setNx {w : World} {rb h t : Nat} {r : Nat → Int} {nx : Int} (k : RingAt w rb h t r nx) (x : Int) : RingAt (w.setCell ⟨rb, 6, none⟩ (.int .i64 x)) rb h t r x := by
  obtain ⟨c0, c1, c2, c3, fz⟩ := k
  refine ⟨?_, ?_, fun i hi => ?_, ?_, fun o => by simpa using fz o⟩
  · rw [cell_set_off (by omega)]; exact c0
  · rw [cell_set_off (by omega)]; exact c1
  · rw [cell_set_off (by omega)]; exact c2 i hi
  · exact World.cell?_setCell_same _ _ _ c3
theorem RingAt.setH {w : World} {rb h t : Nat} {r : Nat → Int} {nx : Int} (k : RingAt w rb h t r nx) (x : Nat) : RingAt (w.setCell ⟨rb, 0, none⟩ (.int .u8 x)) rb x t r nx := by
  obtain ⟨c0, c1, c2, c3, fz⟩ := k
  refine ⟨?_, ?_, fun i hi => ?_, ?_, fun o => by simpa using fz o⟩
  · exact World.cell?_setCell_same _ _ _ c0
  · rw [cell_set_off (by omega)]; exact c1
  · rw [cell_set_off (by omega)]; exact c2 i hi
  · rw [cell_set_off (by omega)]; exact c3
theorem RingAt.setT {w : World} {rb h t : Nat} {r : Nat → Int} {nx : Int} (k : RingAt w rb h t r nx) (x : Nat) : RingAt (w.setCell ⟨rb, 1, none⟩ (.int .u8 x)) rb h x r nx := by
  obtain ⟨c0, c1, c2, c3, fz⟩ := k
  refine ⟨?_, ?_, fun i hi => ?_, ?_, fun o => by simpa using fz o⟩
  · rw [cell_set_off (by omega)]; exact c0
  · exact World.cell?_setCell_same _ _ _ c1
  · rw [cell_set_off (by omega)]; exact c2 i hi
  · rw [cell_set_off (by omega)]; exact c3
theorem RingAt.setR {w : World} {rb h t : Nat} {r : Nat → Int} {nx : Int} (k : RingAt w rb h t r nx) (j : Nat) (hj : j < 4) (x : Int) : RingAt (w.setCell ⟨rb, 2 + j, none⟩ (.int .i64 x)) rb h t (updI r j x) nx := by
  obtain ⟨c0, c1, c2, c3, fz⟩ := k
  refine ⟨?_, ?_, fun i hi => ?_, ?_, fun o => by simpa using fz o⟩
  · rw [cell_set_off (by omega)]; exact c0
  · rw [cell_set_off (by omega)]; exact c1
  · unfold updI
    by_cases e : i = j
    · subst e; rw [if_pos rfl]; exact World.cell?_setCell_same _ _ _ (c2 i hi)
    · rw [if_neg e, cell_set_off (by omega)]; exact c2 i hi
  · rw [cell_set_off (by omega)]; exact c3

/-- The ring holds xs, the runnext slot nx. -/
def RingIs (w : World) (rb : Nat) (xs : List Int) (nx : Int) : Prop :=
  ∃ (h t : Nat) (r : Nat → Int), RingAt w rb h t r nx ∧ h < 256 ∧ t < 256 ∧ ((t : Int) - (h : Int)) % 256 = ((xs.length : Nat) : Int) ∧ xs.length ≤ 4 ∧ ∀ i, i < xs.length → xs[i]? = some (r ((h + i) % 4))
theorem RingIs.of_block {w w' : World} {rb : Nat} {xs : List Int} {nx : Int} (k : RingIs w rb xs nx) (e : w'.heap[rb]? = w.heap[rb]?) : RingIs w' rb xs nx := by
  obtain ⟨h, t, r, k1, k2⟩ := k
  exact ⟨h, t, r, k1.of_block e, k2⟩
theorem RingIs.lt {w : World} {rb : Nat} {xs : List Int} {nx : Int} (k : RingIs w rb xs nx) : rb < w.heap.size := by
  obtain ⟨h, t, r, k1, k2⟩ := k
  exact k1.lt
theorem RingIs.below {w w' : World} {rb : Nat} {xs : List Int} {nx : Int} (k : RingIs w rb xs nx) (b : Below w.heap.size w w') : RingIs w' rb xs nx := k.of_block (b.block rb k.lt)

/-- One taken at the head. -/
theorem ring_pop {w : World} {rb h t : Nat} {r : Nat → Int} {nx x : Int} {xs : List Int} (k : RingAt w rb h t r nx) (ht : t < 256) (hn : ((t : Int) - (h : Int)) % 256 = (((x :: xs).length : Nat) : Int)) (h4 : (x :: xs).length ≤ 4)
    (hx : ∀ i, i < (x :: xs).length → (x :: xs)[i]? = some (r ((h + i) % 4))) (h' : Nat) (hh : h' = (h + 1) % 256) : RingIs (w.setCell ⟨rb, 0, none⟩ (.int .u8 h')) rb xs nx := by
  simp only [List.length_cons] at hn h4 hx
  refine ⟨h', t, r, k.setH h', by omega, ht, by omega, by omega, fun i hi => ?_⟩
  have := hx (i + 1) (by omega)
  rw [List.getElem?_cons_succ] at this
  rw [this]
  congr 2
  omega
/-- One laid behind the tail. -/
theorem ring_push {w : World} {rb h t : Nat} {r : Nat → Int} {nx : Int} {xs : List Int} (k : RingAt w rb h t r nx) (hh : h < 256) (hn : ((t : Int) - (h : Int)) % 256 = ((xs.length : Nat) : Int)) (h4 : xs.length < 4)
    (hx : ∀ i, i < xs.length → xs[i]? = some (r ((h + i) % 4))) (g : Int) (j t' : Nat) (hj : j = t % 4) (ht : t' = (t + 1) % 256) :
    RingIs ((w.setCell ⟨rb, 2 + j, none⟩ (.int .i64 g)).setCell ⟨rb, 1, none⟩ (.int .u8 t')) rb (xs ++ [g]) nx := by
  refine ⟨h, t', updI r j g, (k.setR j (by omega) g).setT t', hh, by omega, by simp; omega, by simp; omega, fun i hi => ?_⟩
  simp only [List.length_append, List.length_cons, List.length_nil] at hi
  unfold updI
  by_cases e : i = xs.length
  · subst e
    rw [List.getElem?_append_right (Nat.le_refl _), if_pos (by omega)]
    simp
  · rw [List.getElem?_append_left (by omega), if_neg (by omega)]
    exact hx i (by omega)

set_option maxHeartbeats 400000 in
theorem rnext_any (rb h t : Nat) (r : Nat → Int) (nx : Int) (w : World) (H : RingAt w rb h t r nx) :
    Calls Yaid.prog 63 #[.pointer (some ⟨rb, 0, none⟩)] w fun e w' => e = .returned (.int .i64 nx) ∧ w' = w := by
  obtain ⟨c0, c1, c2, c3, fz⟩ := id H
  clear H c2
  go_enter Yaid.func63, Yaid.ntmps63
  go_wp2
  go_ret
  exact ⟨rfl, rfl⟩

end Go.Proofs.Ygdaig
