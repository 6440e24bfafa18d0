/-
  sel.LockOrder for one, two and three cases: THE WALKS.
-/
import Derived.Test.YgdaigLockSift
namespace Go.Proofs.Ygdaig
open Go.RowKit
set_option linter.unusedVariables false

theorem sift2_lt {lt : Nat → Nat → Bool} {q0 q1 q2 p0 p1 p2 n : Nat} (h : sift2 lt (q0, q1, q2) = (p0, p1, p2)) (h0 : q0 < n) (h1 : q1 < n) (h2 : q2 < n) : p0 < n ∧ p1 < n ∧ p2 < n := by
  unfold sift2 at h
  split at h <;> simp at h <;> omega
theorem sift3_lt {lt : Nat → Nat → Bool} {q0 q1 q2 p0 p1 p2 n : Nat} (h : sift3 lt (q0, q1, q2) = (p0, p1, p2)) (h0 : q0 < n) (h1 : q1 < n) (h2 : q2 < n) : p0 < n ∧ p1 < n ∧ p2 < n := by
  unfold sift3 at h
  split at h <;> split at h <;> simp at h <;> omega

/-- While LockOrder runs in the world wr, begun in w: its order in the second new block, its result's cell in the first. -/
structure LockSt (w wr : World) (b off len : Nat) (c : Nat → Int) (q0 q1 q2 n : Nat) : Prop where
  ord : OrdAt wr (w.heap.size + 1) q0 q1 q2 n
  cases : CasesAt wr b off len c
  res : wr.heap[w.heap.size]? = some (.cells #[.int .i64 0, .int .i64 0, .int .i64 0, .int .i64 0] 46)
  bel : Below w.heap.size w wr

theorem LockSt.step {w wr w' : World} {b off len : Nat} {c : Nat → Int} {q0 q1 q2 n p0 p1 p2 : Nat} (h : LockSt w wr b off len c q0 q1 q2 n) (hb : b < w.heap.size) (ho : OrdAt w' (w.heap.size + 1) p0 p1 p2 n) (hg : wr.grownBy w' (some (w.heap.size + 1))) :
    LockSt w w' b off len c p0 p1 p2 n :=
  ⟨ho, h.cases.grown hg (by omega), (hg.block _ (by have := h.ord.lt; omega) (by simp)).trans h.res, below_of_grown h.bel hg h.bel.size (by omega)⟩

theorem lockSt_made {w : World} {b off len : Nat} {c : Nat → Int} (hc : CasesAt w b off len c) (q0 q1 q2 n : Nat) :
    LockSt w ((w.alloc (.cells #[.int .i64 0, .int .i64 0, .int .i64 0, .int .i64 0] 46)).alloc (.cells #[.int .i64 q0, .int .i64 q1, .int .i64 q2, .int .i64 n] 46)) b off len c q0 q1 q2 n := by
  have hbel : Below w.heap.size w ((w.alloc (.cells #[.int .i64 0, .int .i64 0, .int .i64 0, .int .i64 0] 46)).alloc (.cells #[.int .i64 q0, .int .i64 q1, .int .i64 q2, .int .i64 n] 46)) :=
    ((Below.refl _ _).alloc (Nat.le_refl _) _).alloc (by simp) _
  refine ⟨?_, hc.below hbel, ?_, hbel⟩
  · rw [← World.size_alloc w (.cells #[.int .i64 0, .int .i64 0, .int .i64 0, .int .i64 0] 46)]
    exact ⟨World.cell?_alloc_new _ _ _ _, World.cell?_alloc_new _ _ _ _, World.cell?_alloc_new _ _ _ _, World.cell?_alloc_new _ _ _ _, fun o => World.frozen?_alloc_new _ _ _ _⟩
  · rw [Below.heap_alloc _ _ _ (by simp)]; exact heap_alloc_new w _

theorem LockSt.cells {w wr : World} {b off len : Nat} {c : Nat → Int} {q0 q1 q2 n : Nat} (h : LockSt w wr b off len c q0 q1 q2 n) :
    wr.cell? ⟨w.heap.size, 0, none⟩ = some (.int .i64 0) ∧ wr.cell? ⟨w.heap.size, 1, none⟩ = some (.int .i64 0) ∧ wr.cell? ⟨w.heap.size, 2, none⟩ = some (.int .i64 0) ∧ wr.cell? ⟨w.heap.size, 3, none⟩ = some (.int .i64 0) ∧ ∀ o, wr.frozen? ⟨w.heap.size, o, none⟩ = false := by
  have d := h.res
  exact ⟨by simp [World.cell?, d], by simp [World.cell?, d], by simp [World.cell?, d], by simp [World.cell?, d], fun o => by simp [World.frozen?, d]⟩

theorem LockSt.ends {w wr : World} {b off len : Nat} {c : Nat → Int} {q0 q1 q2 n : Nat} (h : LockSt w wr b off len c q0 q1 q2 n) (v0 v1 v2 v3 : Value) :
    Below w.heap.size w ((((wr.setCell ⟨w.heap.size, 0, none⟩ v0).setCell ⟨w.heap.size, 1, none⟩ v1).setCell ⟨w.heap.size, 2, none⟩ v2).setCell ⟨w.heap.size, 3, none⟩ v3) :=
  (((h.bel.setCell (Nat.le_refl _) _).setCell (Nat.le_refl _) _).setCell (Nat.le_refl _) _).setCell (Nat.le_refl _) _

set_option maxHeartbeats 1000000 in
theorem lock1_any (b off cap : Nat) (w : World) :
    Calls Yaid.prog 8 #[.slice (some ⟨b, off, none⟩) 1 cap] w fun e w' => e = .returned (.agg #[.int .i64 0, .int .i64 0, .int .i64 0, .int .i64 1]) ∧ Below w.heap.size w w' := by
  go_enter Yaid.func8, Yaid.ntmps8
  go_wp2
  go_rounds 2
  go_rounds 1
  go_rounds 1
  refine bodyPost_ret (v := .agg #[.int .i64 0, .int .i64 0, .int .i64 0, .int .i64 1]) (by simp [results, Yaid.results8, go_sem]) rfl ⟨rfl, ?_⟩
  go_grown

set_option maxHeartbeats 1000000 in
theorem lock2_any (b off cap : Nat) (c : Nat → Int) (w : World) (hc : CasesAt w b off 2 c) :
    Calls Yaid.prog 8 #[.slice (some ⟨b, off, none⟩) 2 cap] w fun e w' => ∃ p0 p1 p2 : Nat, lock2 (ltB c) = (p0, p1, p2) ∧ e = .returned (.agg #[.int .i64 p0, .int .i64 p1, .int .i64 p2, .int .i64 2]) ∧ Below w.heap.size w w' := by
  have hb := hc.1
  have HC : Hid (CasesAt w b off 2 c) := hc
  clear hc
  go_enter Yaid.func8, Yaid.ntmps8
  go_wp2
  go_rounds 3
  have S : LockSt w _ b off 2 c 0 1 0 2 := lockSt_made HC.out 0 1 0 2
  generalize (w.alloc (.cells #[.int .i64 0, .int .i64 0, .int .i64 0, .int .i64 0] 46)).alloc (.cells #[.int .i64 ((0 : Nat) : Int), .int .i64 ((1 : Nat) : Int), .int .i64 ((0 : Nat) : Int), .int .i64 ((2 : Nat) : Int)] 46) = W at S
  have HS : Hid (LockSt w W b off 2 c 0 1 0 2) := S
  clear S HC
  refine wp_loop_rounds 2 ?_
  rw [rounds_succ]
  go_wp2_with (go_at_call 16; refine (sift2_any b off 2 cap _ c 0 1 0 2 _ HS.out.cases HS.out.ord (by omega) (by omega) (by omega)).mono ?_; rintro e w1 ⟨rfl, p0, p1, p2, hs, hO, hg⟩)
  have HS1 : Hid (LockSt w w1 b off 2 c p0 p1 p2 2) := HS.out.step hb hO hg
  have HE1 : Hid (sift2 (ltB c) (0, 1, 0) = (p0, p1, p2)) := hs
  clear HS hs hO hg W
  rw [rounds_succ]
  go_wp2
  obtain ⟨a0, a1, a2, a3, fz⟩ := HS1.out.ord
  refine wp_loop_rounds 2 ?_
  rw [rounds_succ]
  go_wp2
  go_region
  go_wp2_with (go_at_call 16; refine (sift1_any b off 2 cap _ _).mono ?_; rintro e w2 ⟨rfl, rfl⟩)
  rw [rounds_succ]
  have HS2 := HS1.out.step hb (HS1.out.ord.set01 p1 p0).drew (grown_drew (grown_setCell (grown_setCell (grown_refl _ _) _ _) _ _))
  generalize ((w1.setCell ⟨w.heap.size + 1, 0, none⟩ (.int .i64 p1)).setCell ⟨w.heap.size + 1, 1, none⟩ (.int .i64 p0)).drew = w2 at HS2 ⊢
  clear a0 a1 a2 a3 fz HS1
  obtain ⟨r0, r1, r2, r3, rz⟩ := HS2.cells
  obtain ⟨a0, a1, a2, a3, fz⟩ := HS2.ord
  have HS3 : Hid (LockSt w w2 b off 2 c p1 p0 p2 2) := HS2
  clear HS2 w1
  go_wp2
  refine bodyPost_ret (v := .agg #[.int .i64 p1, .int .i64 p0, .int .i64 p2, .int .i64 2]) (by simp [results, Yaid.results8, go_sem, r0, r1, r2, r3]) rfl ⟨p1, p0, p2, ?_, rfl, HS3.out.ends _ _ _ _⟩
  rw [lock2, HE1.out]
  rfl

set_option maxHeartbeats 2000000 in
theorem lock3_any (b off cap : Nat) (c : Nat → Int) (w : World) (hc : CasesAt w b off 3 c) :
    Calls Yaid.prog 8 #[.slice (some ⟨b, off, none⟩) 3 cap] w fun e w' => ∃ p0 p1 p2 : Nat, lock3 (ltB c) = (p0, p1, p2) ∧ e = .returned (.agg #[.int .i64 p0, .int .i64 p1, .int .i64 p2, .int .i64 3]) ∧ Below w.heap.size w w' := by
  have hb := hc.1
  have HC : Hid (CasesAt w b off 3 c) := hc
  clear hc
  go_enter Yaid.func8, Yaid.ntmps8
  go_wp2
  go_rounds 4
  have S : LockSt w _ b off 3 c 0 1 2 3 := lockSt_made HC.out 0 1 2 3
  generalize (w.alloc (.cells #[.int .i64 0, .int .i64 0, .int .i64 0, .int .i64 0] 46)).alloc (.cells #[.int .i64 ((0 : Nat) : Int), .int .i64 ((1 : Nat) : Int), .int .i64 ((2 : Nat) : Int), .int .i64 ((3 : Nat) : Int)] 46) = W at S
  have HS : Hid (LockSt w W b off 3 c 0 1 2 3) := S
  clear S HC
  refine wp_loop_rounds 2 ?_
  rw [rounds_succ]
  go_wp2_with (go_at_call 16; refine (sift3_any b off 3 cap _ c 0 1 2 3 _ HS.out.cases HS.out.ord (by omega) (by omega) (by omega) (by omega)).mono ?_; rintro e w1 ⟨rfl, p0, p1, p2, hs, hO, hg⟩)
  have HS1 : Hid (LockSt w w1 b off 3 c p0 p1 p2 3) := HS.out.step hb hO hg
  have HE1 : Hid (sift3 (ltB c) (0, 1, 2) = (p0, p1, p2)) := hs
  obtain ⟨b0, b1, b2⟩ := sift3_lt (n := 3) hs (by omega) (by omega) (by omega)
  clear HS hs hO hg W
  rw [rounds_succ]
  go_wp2
  obtain ⟨a0, a1, a2, a3, fz⟩ := HS1.out.ord
  refine wp_loop_rounds 3 ?_
  rw [rounds_succ]
  go_wp2
  go_region
  have HS2 := HS1.out.step hb (HS1.out.ord.set02 p2 p0).drew (grown_drew (grown_setCell (grown_setCell (grown_refl _ _) _ _) _ _))
  generalize ((w1.setCell ⟨w.heap.size + 1, 0, none⟩ (.int .i64 p2)).setCell ⟨w.heap.size + 1, 2, none⟩ (.int .i64 p0)).drew = w2 at HS2 ⊢
  have HS3 : Hid (LockSt w w2 b off 3 c p2 p1 p0 3) := HS2
  clear HS2 HS1 a0 a1 a2 a3 fz w1
  go_wp2_with (go_at_call 16; refine (sift2_any b off 3 cap _ c p2 p1 p0 3 _ HS3.out.cases HS3.out.ord b2 b1 (by omega)).mono ?_; rintro e w3 ⟨rfl, s0, s1, s2, hs, hO, hg⟩)
  have HS4 : Hid (LockSt w w3 b off 3 c s0 s1 s2 3) := HS3.out.step hb hO hg
  have HE2 : Hid (sift2 (ltB c) (p2, p1, p0) = (s0, s1, s2)) := hs
  clear HS3 hs hO hg w2
  obtain ⟨a0, a1, a2, a3, fz⟩ := HS4.out.ord
  rw [rounds_succ]
  go_wp2
  go_region
  go_wp2_with (go_at_call 16; refine (sift1_any b off 3 cap _ _).mono ?_; rintro e w2 ⟨rfl, rfl⟩)
  rw [rounds_succ]
  have HS5 := HS4.out.step hb (HS4.out.ord.set01 s1 s0).drew (grown_drew (grown_setCell (grown_setCell (grown_refl _ _) _ _) _ _))
  generalize ((w3.setCell ⟨w.heap.size + 1, 0, none⟩ (.int .i64 s1)).setCell ⟨w.heap.size + 1, 1, none⟩ (.int .i64 s0)).drew = w4 at HS5 ⊢
  clear a0 a1 a2 a3 fz HS4
  obtain ⟨r0, r1, r2, r3, rz⟩ := HS5.cells
  obtain ⟨a0, a1, a2, a3, fz⟩ := HS5.ord
  have HS6 : Hid (LockSt w w4 b off 3 c s1 s0 s2 3) := HS5
  clear HS5 w3
  go_wp2
  refine bodyPost_ret (v := .agg #[.int .i64 s1, .int .i64 s0, .int .i64 s2, .int .i64 3]) (by simp [results, Yaid.results8, go_sem, r0, r1, r2, r3]) rfl ⟨s1, s0, s2, ?_, rfl, HS6.out.ends _ _ _ _⟩
  rw [lock3, HE1.out]
  show swap01 (sift2 (ltB c) (p2, p1, p0)) = _
  rw [HE2.out]
  rfl
end Go.Proofs.Ygdaig
