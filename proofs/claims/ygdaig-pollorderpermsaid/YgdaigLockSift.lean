/-
  sel.lockLess and sel.siftDown: THE WALKS.
-/
import Derived.Test.YgdaigBase
import Derived.Test.YgdaigLockPlain
namespace Go.Proofs.Ygdaig
open Go.RowKit
set_option linter.unusedVariables false

/-- The cases' channels, as they lie in memory. -/
def CasesAt (w : World) (b off len : Nat) (c : Nat → Int) : Prop := b < w.heap.size ∧ ∀ j, j < len → w.cell? ⟨b, off + j * 3 + 1, none⟩ = some (.int .i64 (c j))

theorem below_drewN (w : World) (n : Nat) : Below w.heap.size w (w.drewN n) := ⟨rfl, rfl, rfl, Nat.le_refl _, fun _ _ => rfl⟩

theorem CasesAt.below {w w' : World} {b off len : Nat} {c : Nat → Int} (h : CasesAt w b off len c) (k : Below w.heap.size w w') : CasesAt w' b off len c :=
  ⟨Nat.lt_of_lt_of_le h.1 k.size, fun j hj => (k.cell (p := ⟨b, off + j * 3 + 1, none⟩) h.1).trans (h.2 j hj)⟩
theorem CasesAt.grown {w w' : World} {b off len ob : Nat} {c : Nat → Int} (h : CasesAt w b off len c) (k : w.grownBy w' (some ob)) (hne : b ≠ ob) : CasesAt w' b off len c :=
  ⟨Nat.lt_of_lt_of_le h.1 k.size, fun j hj => k.cell (h.2 j hj) (by simpa using hne)⟩

set_option maxHeartbeats 400000 in
theorem lockLess_any (b off len cap : Nat) (c : Nat → Int) (i j : Nat) (w : World) (hc : CasesAt w b off len c) (hi : i < len) (hj : j < len) (hlen : len ≤ 3) :
    Calls Yaid.prog 26 #[.slice (some ⟨b, off, none⟩) len cap, .int .i64 i, .int .i64 j] w fun e w' => e = .returned (.bool (ltB c i j)) ∧ Below w.heap.size w w' := by
  have h1 := hc.2 i hi
  have h2 := hc.2 j hj
  have t1 : (c i != c j) = true → ltB c i j = decide (c i < c j) := fun h => by simp at h; simp [ltB, h]
  have t2 : (c i != c j) = false → ltB c i j = decide (i < j) := fun h => by simp at h; simp [ltB, h]
  generalize ltB c i j = r at *
  have T1 : Hid _ := t1
  have T2 : Hid _ := t2
  clear t1 t2 hc
  go_enter Yaid.func26, Yaid.ntmps26
  go_wp2
  go_quiet (fail)
  go_wp2
  · go_quiet (fail)
    go_wp2
    go_ret
    exact ⟨ret_bool (T1.out ‹_›).symm, by rw [World.drewN_drewN]; exact below_drewN _ _⟩
  · go_ret
    exact ⟨ret_bool (T2.out ‹_›).symm, below_drewN _ _⟩

/-- An Order in memory: three places, then the count. -/
def OrdAt (w : World) (ob : Nat) (q0 q1 q2 n : Nat) : Prop :=
  w.cell? ⟨ob, 0, none⟩ = some (.int .i64 q0) ∧ w.cell? ⟨ob, 1, none⟩ = some (.int .i64 q1) ∧ w.cell? ⟨ob, 2, none⟩ = some (.int .i64 q2) ∧ w.cell? ⟨ob, 3, none⟩ = some (.int .i64 n) ∧ ∀ o, w.frozen? ⟨ob, o, none⟩ = false

theorem OrdAt.of_block {w w' : World} {b q0 q1 q2 n : Nat} (h : OrdAt w b q0 q1 q2 n) (e : w'.heap[b]? = w.heap[b]?) : OrdAt w' b q0 q1 q2 n :=
  ⟨(World.cell?_of_block (a := ⟨b, 0, none⟩) e).trans h.1, (World.cell?_of_block (a := ⟨b, 1, none⟩) e).trans h.2.1, (World.cell?_of_block (a := ⟨b, 2, none⟩) e).trans h.2.2.1,
    (World.cell?_of_block (a := ⟨b, 3, none⟩) e).trans h.2.2.2.1, fun o => (World.frozen?_of_block (a := ⟨b, o, none⟩) e).trans (h.2.2.2.2 o)⟩
theorem OrdAt.lt {w : World} {b q0 q1 q2 n : Nat} (h : OrdAt w b q0 q1 q2 n) : b < w.heap.size := World.block_lt_of_cell? w _ h.1
theorem OrdAt.below {w w' : World} {b q0 q1 q2 n : Nat} (h : OrdAt w b q0 q1 q2 n) (k : Below w.heap.size w w') : OrdAt w' b q0 q1 q2 n := h.of_block (k.block b h.lt)
theorem OrdAt.drew {w : World} {b q0 q1 q2 n : Nat} (h : OrdAt w b q0 q1 q2 n) : OrdAt w.drew b q0 q1 q2 n := h
theorem OrdAt.set01 {w : World} {b q0 q1 q2 n : Nat} (h : OrdAt w b q0 q1 q2 n) (x y : Nat) : OrdAt ((w.setCell ⟨b, 0, none⟩ (.int .i64 x)).setCell ⟨b, 1, none⟩ (.int .i64 y)) b x y q2 n := by
  obtain ⟨p0, p1, p2, p3, fz⟩ := h
  refine ⟨?_, ?_, ?_, ?_, fun o => by simpa using fz o⟩
  · rw [cell_set_off (by omega)]; exact World.cell?_setCell_same _ _ _ p0
  · exact World.cell?_setCell_same _ _ _ (by rw [cell_set_off (by omega)]; exact p1)
  · rw [cell_set_off (by omega), cell_set_off (by omega)]; exact p2
  · rw [cell_set_off (by omega), cell_set_off (by omega)]; exact p3
theorem OrdAt.set02 {w : World} {b q0 q1 q2 n : Nat} (h : OrdAt w b q0 q1 q2 n) (x y : Nat) : OrdAt ((w.setCell ⟨b, 0, none⟩ (.int .i64 x)).setCell ⟨b, 2, none⟩ (.int .i64 y)) b x q1 y n := by
  obtain ⟨p0, p1, p2, p3, fz⟩ := h
  refine ⟨?_, ?_, ?_, ?_, fun o => by simpa using fz o⟩
  · rw [cell_set_off (by omega)]; exact World.cell?_setCell_same _ _ _ p0
  · rw [cell_set_off (by omega), cell_set_off (by omega)]; exact p1
  · exact World.cell?_setCell_same _ _ _ (by rw [cell_set_off (by omega)]; exact p2)
  · rw [cell_set_off (by omega), cell_set_off (by omega)]; exact p3

set_option maxHeartbeats 400000 in
theorem sift1_any (b off len cap ob : Nat) (w : World) :
    Calls Yaid.prog 16 #[.slice (some ⟨b, off, none⟩) len cap, .pointer (some ⟨ob, 0, none⟩), .int .i64 0, .int .i64 1] w fun e w' => e = .returned (.tuple #[]) ∧ w' = w := by
  go_enter Yaid.func16, Yaid.ntmps16
  go_wp2
  refine wp_loop_rounds 1 ?_
  rw [rounds_succ]
  go_wp2
  go_returns
  exact ⟨rfl, rfl⟩

set_option maxHeartbeats 400000 in
theorem sift2_any (b off len cap ob : Nat) (c : Nat → Int) (q0 q1 q2 n : Nat) (w : World) (hc : CasesAt w b off len c) (hO : OrdAt w ob q0 q1 q2 n) (h0 : q0 < len) (h1 : q1 < len) (hlen : len ≤ 3) :
    Calls Yaid.prog 16 #[.slice (some ⟨b, off, none⟩) len cap, .pointer (some ⟨ob, 0, none⟩), .int .i64 0, .int .i64 2] w fun e w' => e = .returned (.tuple #[]) ∧ 
       ∃ p0 p1 p2, sift2 (ltB c) (q0, q1, q2) = (p0, p1, p2) ∧ OrdAt w' ob p0 p1 p2 n ∧ w.grownBy w' (some ob) := by
  have HC : Hid (CasesAt w b off len c) := hc
  have HO : Hid (OrdAt w ob q0 q1 q2 n) := hO
  clear hc hO
  go_enter Yaid.func16, Yaid.ntmps16
  go_wp2
  refine wp_loop_rounds 2 ?_
  rw [rounds_succ]
  go_wp2
  have hne := later_some w
  refine wp_region_later (by kernel_rfl) (by kernel_rfl) ?_
  repeat (go_big_quiet_step (fail))
  refine wpQuiet_nil ?_
  intro w1 hw1
  clear hne
  have HC1 : Hid (CasesAt w1 b off len c) := HC.out.below hw1
  have HO1 : Hid (OrdAt w1 ob q0 q1 q2 n) := HO.out.below hw1
  have HG1 : Hid (w.grownBy w1 (some ob)) := grown_below hw1 _
  clear HC HO hw1
  go_wp2
  have hne := later_some w1
  have l0 : ∀ q : Later w1, q.val.cell? ⟨ob, 0, none⟩ = some (.int .i64 q0) := fun q => (q.cell _ _ HO1.out.lt).trans HO1.out.1
  have l1 : ∀ q : Later w1, q.val.cell? ⟨ob, 1, none⟩ = some (.int .i64 q1) := fun q => (q.cell _ _ HO1.out.lt).trans HO1.out.2.1
  refine wp_region_later (by kernel_rfl) (by kernel_rfl) ?_
  repeat (go_big_quiet_step ((go_at_call 26; refine later_call (lockLess_any b off len cap c _ _ _ (by exact HC1.out.below (Later.below _)) h0 h1 hlen))))
  refine wpQuiet_nil ?_
  intro w2 hw2
  clear hne l0 l1
  have HO2 : Hid (OrdAt w2 ob q0 q1 q2 n) := HO1.out.below hw2
  have HG2 : Hid (w.grownBy w2 (some ob)) := grown_trans HG1.out (grown_below hw2 _)
  clear HC1 HO1 HG1 hw2
  obtain ⟨a0, a1, a2, a3, fz⟩ := HO2.out
  cases hl : ltB c q0 q1
  · go_wp2
    go_returns
    exact ⟨rfl, q0, q1, q2, by simp [sift2, hl], HO2.out, HG2.out⟩
  · go_wp2
    go_region
    go_wp2
    rw [rounds_succ]
    go_wp2
    go_returns
    exact ⟨rfl, q1, q0, q2, by simp [sift2, hl], (HO2.out.set01 q1 q0).drew, grown_drew (grown_setCell (grown_setCell HG2.out _ _) _ _)⟩

set_option maxHeartbeats 1000000 in
theorem sift3_any (b off len cap ob : Nat) (c : Nat → Int) (q0 q1 q2 n : Nat) (w : World) (hc : CasesAt w b off len c) (hO : OrdAt w ob q0 q1 q2 n) (h0 : q0 < len) (h1 : q1 < len) (h2 : q2 < len) (hlen : len ≤ 3) :
    Calls Yaid.prog 16 #[.slice (some ⟨b, off, none⟩) len cap, .pointer (some ⟨ob, 0, none⟩), .int .i64 0, .int .i64 3] w fun e w' => e = .returned (.tuple #[]) ∧
       ∃ p0 p1 p2, sift3 (ltB c) (q0, q1, q2) = (p0, p1, p2) ∧ OrdAt w' ob p0 p1 p2 n ∧ w.grownBy w' (some ob) := by
  have HC : Hid (CasesAt w b off len c) := hc
  have HO : Hid (OrdAt w ob q0 q1 q2 n) := hO
  clear hc hO
  go_enter Yaid.func16, Yaid.ntmps16
  go_wp2
  refine wp_loop_rounds 2 ?_
  rw [rounds_succ]
  go_wp2
  have hne := later_some w
  have l1 : ∀ q : Later w, q.val.cell? ⟨ob, 1, none⟩ = some (.int .i64 q1) := fun q => (q.cell _ _ HO.out.lt).trans HO.out.2.1
  have l2 : ∀ q : Later w, q.val.cell? ⟨ob, 2, none⟩ = some (.int .i64 q2) := fun q => (q.cell _ _ HO.out.lt).trans HO.out.2.2.1
  refine wp_region_later (by kernel_rfl) (by kernel_rfl) ?_
  repeat (go_big_quiet_step ((go_at_call 26; refine later_call (lockLess_any b off len cap c _ _ _ (by exact HC.out.below (Later.below _)) h1 h2 hlen))))
  refine wpQuiet_nil ?_
  intro w1 hw1
  clear hne l1 l2
  have HC1 : Hid (CasesAt w1 b off len c) := HC.out.below hw1
  have HO1 : Hid (OrdAt w1 ob q0 q1 q2 n) := HO.out.below hw1
  have HG1 : Hid (w.grownBy w1 (some ob)) := grown_below hw1 _
  clear HC HO hw1
  cases hq : ltB c q1 q2
  all_goals
    go_wp2
    have hne := later_some w1
    have l0 : ∀ q : Later w1, q.val.cell? ⟨ob, 0, none⟩ = some (.int .i64 q0) := fun q => (q.cell _ _ HO1.out.lt).trans HO1.out.1
    have l1 : ∀ q : Later w1, q.val.cell? ⟨ob, 1, none⟩ = some (.int .i64 q1) := fun q => (q.cell _ _ HO1.out.lt).trans HO1.out.2.1
    have l2 : ∀ q : Later w1, q.val.cell? ⟨ob, 2, none⟩ = some (.int .i64 q2) := fun q => (q.cell _ _ HO1.out.lt).trans HO1.out.2.2.1
    refine wp_region_later (by kernel_rfl) (by kernel_rfl) ?_
    repeat (go_big_quiet_step ((go_at_call 26; refine later_call (lockLess_any b off len cap c _ _ _ (by exact HC1.out.below (Later.below _)) (by assumption) (by assumption) hlen))))
    refine wpQuiet_nil ?_
    intro w2 hw2
    clear hne l0 l1 l2
    have HO2 : Hid (OrdAt w2 ob q0 q1 q2 n) := HO1.out.below hw2
    have HG2 : Hid (w.grownBy w2 (some ob)) := grown_trans HG1.out (grown_below hw2 _)
    clear HC1 HO1 HG1 hw2
    obtain ⟨a0, a1, a2, a3, fz⟩ := HO2.out
  · cases hl : ltB c q0 q1
    · go_wp2
      go_returns
      exact ⟨rfl, q0, q1, q2, by simp [sift3, hl, hq], HO2.out, HG2.out⟩
    · go_wp2
      go_region
      go_wp2
      rw [rounds_succ]
      go_wp2
      go_returns
      exact ⟨rfl, q1, q0, q2, by simp [sift3, hl, hq], (HO2.out.set01 q1 q0).drew, grown_drew (grown_setCell (grown_setCell HG2.out _ _) _ _)⟩
  · cases hl : ltB c q0 q2
    · go_wp2
      go_returns
      exact ⟨rfl, q0, q1, q2, by simp [sift3, hl, hq], HO2.out, HG2.out⟩
    · go_wp2
      go_region
      go_wp2
      rw [rounds_succ]
      go_wp2
      go_returns
      exact ⟨rfl, q2, q1, q0, by simp [sift3, hl, hq], (HO2.out.set02 q2 q0).drew, grown_drew (grown_setCell (grown_setCell HG2.out _ _) _ _)⟩
end Go.Proofs.Ygdaig
