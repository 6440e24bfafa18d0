/-
  law.LockOrderSortedOf over sel.LockOrder: THE WALK.
-/
import Derived.Test.YgdaigLockOrder
import Derived.Test.YgdaigIsPerm
namespace Go.Proofs.Ygdaig
open Go.RowKit
set_option linter.unusedVariables false

theorem lock_any (b off len cap : Nat) (c : Nat → Int) (w : World) (hc : CasesAt w b off len c) (h1 : 1 ≤ len) (h3 : len ≤ 3) :
    Calls Yaid.prog 8 #[.slice (some ⟨b, off, none⟩) len cap] w fun e w' => ∃ q : Nat × Nat × Nat, PermQ q len ∧ SortedQ c q len ∧ e = .returned (.agg #[.int .i64 q.1, .int .i64 q.2.1, .int .i64 q.2.2, .int .i64 len]) ∧ Below w.heap.size w w' := by
  have : len = 1 ∨ len = 2 ∨ len = 3 := by omega
  rcases this with rfl | rfl | rfl
  · refine (lock1_any b off cap w).mono ?_
    rintro e w' ⟨rfl, hb⟩
    exact ⟨(0, 0, 0), perm1 0 0, fun i h1 h2 => by omega, rfl, hb⟩
  · refine (lock2_any b off cap c w hc).mono ?_
    rintro e w' ⟨p0, p1, p2, hq, rfl, hb⟩
    exact ⟨(p0, p1, p2), hq ▸ lock2_perm c, hq ▸ lock2_sorted c, rfl, hb⟩
  · refine (lock3_any b off cap c w hc).mono ?_
    rintro e w' ⟨p0, p1, p2, hq, rfl, hb⟩
    exact ⟨(p0, p1, p2), hq ▸ (lock3_case c).1, hq ▸ (lock3_case c).2, rfl, hb⟩

set_option maxHeartbeats 400000 in
theorem ls_out (a : Option Addr) (len cap : Nat) (w : World) (h : len < 1 ∨ 3 < len) :
    Calls Yaid.prog 7 #[.func (.func 8) #[] #[], .slice a len cap] w fun e w' => e = .returned (.bool true) ∧ Below w.heap.size w w' := by
  rcases h with h | h
  · obtain rfl : len = 0 := by omega
    go_enter Yaid.func7, Yaid.ntmps7
    go_wp2
    go_ret
    exact ⟨rfl, Below.refl _ _⟩
  · have d1 : ¬ (len : Int) < 1 := by omega
    go_enter Yaid.func7, Yaid.ntmps7
    go_wp2
    go_ret
    exact ⟨rfl, Below.refl _ _⟩

theorem ordAt_alloc (w : World) (q : Nat × Nat × Nat) (n : Nat) : OrdAt (w.alloc (.cells #[.int .i64 q.1, .int .i64 q.2.1, .int .i64 q.2.2, .int .i64 n] 46)) w.heap.size q.1 q.2.1 q.2.2 n :=
  ⟨World.cell?_alloc_new _ _ _ _, World.cell?_alloc_new _ _ _ _, World.cell?_alloc_new _ _ _ _, World.cell?_alloc_new _ _ _ _, fun o => World.frozen?_alloc_new _ _ _ _⟩
theorem OrdAt.place {w : World} {ob n : Nat} {q : Nat × Nat × Nat} (h : OrdAt w ob q.1 q.2.1 q.2.2 n) (k : Nat) (hk : k < 3) : w.cell? ⟨ob, k, none⟩ = some (.int .i64 (place q k)) := by
  match k, hk with
  | 0, _ => exact h.1
  | 1, _ => exact h.2.1
  | 2, _ => exact h.2.2.1

set_option maxHeartbeats 1000000 in
theorem ls_in (b off len cap : Nat) (c : Nat → Int) (w : World) (hc : CasesAt w b off len c) (h1 : 1 ≤ len) (h3 : len ≤ 3) :
    Calls Yaid.prog 7 #[.func (.func 8) #[] #[], .slice (some ⟨b, off, none⟩) len cap] w fun e w' => e = .returned (.bool true) ∧ Below w.heap.size w w' := by
  have d1 : ¬ (len : Int) < 1 := by omega
  have d2 : ¬ (3 : Int) < (len : Int) := by omega
  have HC : Hid (CasesAt w b off len c) := hc
  clear hc
  go_enter Yaid.func7, Yaid.ntmps7
  go_wp2_with (go_at_call 8; refine (lock_any b off len cap c _ HC.out h1 h3).mono ?_; rintro e w1 ⟨q, hq1, hq2, rfl, hb1⟩)
  have HQ1 : Hid (PermQ q len) := hq1
  have HQ2 : Hid (SortedQ c q len) := hq2
  have HO := ordAt_alloc w1 q len
  have HB : Below w.heap.size w (w1.alloc (.cells #[.int .i64 q.1, .int .i64 q.2.1, .int .i64 q.2.2, .int .i64 len] 46)) := hb1.alloc hb1.size _
  have HC2 : CasesAt (w1.alloc (.cells #[.int .i64 q.1, .int .i64 q.2.1, .int .i64 q.2.2, .int .i64 len] 46)) b off len c := HC.out.below HB
  generalize w1.alloc (.cells #[.int .i64 q.1, .int .i64 q.2.1, .int .i64 q.2.2, .int .i64 len] 46) = W at *
  generalize w1.heap.size = ob at *
  clear hq1 hq2 hb1 HC
  refine (isPerm_any q len _ HQ1.out h3).mono ?_
  rintro e w2 ⟨rfl, hb2⟩
  have HO2 : Hid (OrdAt w2 ob q.1 q.2.1 q.2.2 len) := HO.below hb2
  have HC3 : Hid (CasesAt w2 b off len c) := HC2.below hb2
  have HB2 : Hid (Below w.heap.size w w2) := HB.trans (hb2.mono HB.size)
  have hcnt := HO2.out.2.2.2.1
  clear HO HC2 HB hb2 w1
  go_wp2
  clear hcnt
  go_loopw [6] (fun v6 wr => ∃ k : Nat, v6 = .int .i64 ((k : Int) + 1) ∧ k < len ∧ Below w2.heap.size w2 wr) (fun v6 _ => 5 - (intOf v6).toNat)
  case atStart => exact ⟨0, rfl, by omega, Below.refl _ _⟩
  case round =>
    obtain ⟨k, rfl, hk, hbel⟩ := hrel
    have HO := HO2.out.below hbel
    have hcnt := HO.2.2.2.1
    by_cases hlt : k + 1 < len
    · have p0 := HO.place k (by omega)
      have p1 := HO.place (k + 1) (by omega)
      have HCr := HC3.out.below hbel
      have x0 := HCr.2 _ (HQ1.out.1 k (by omega))
      have x1 := HCr.2 _ (HQ1.out.1 (k + 1) (by omega))
      have hs : ltB c (place q k) (place q (k + 1)) = true := by have := HQ2.out (k + 1) (by omega) hlt; simpa using this
      have y0 := HQ1.out.1 k (by omega)
      have y1 := HQ1.out.1 (k + 1) (by omega)
      have HBel : Hid (Below w2.heap.size w2 wr) := hbel
      clear HO HCr hbel
      generalize place q k = u at *
      generalize place q (k + 1) = v at *
      rw [ltB_iff] at hs
      have z1 : decide (c v < c u) = false := by simp; omega
      go_wp2
      go_quiet (fail)
      go_wp2
      by_cases hcc : c u = c v
      · have e1 : (c u == c v) = true := by simpa using hcc
        have e2 : decide ((v : Int) < (u : Int)) = false := by simp; omega
        have e3 : decide (v < u) = false := by simp; omega
        have HX : Hid (c u = c v) := hcc
        clear hcc hs
        go_quiet (fail)
        go_wp2
        go_roundw
        case rel => exact ⟨k + 1, by go_num, by omega, ⟨HBel.out.os, HBel.out.tape, HBel.out.output, HBel.out.size, HBel.out.block⟩⟩
        case measure => simp [intOf]; omega
      · have e1 : (c u == c v) = false := by simpa using hcc
        clear hs hcc
        go_quiet (fail)
        go_wp2
        go_roundw
        case rel => exact ⟨k + 1, by go_num, by omega, ⟨HBel.out.os, HBel.out.tape, HBel.out.output, HBel.out.size, HBel.out.block⟩⟩
        case measure => simp [intOf]; omega
    · go_wp2
      go_ret
      exact ⟨rfl, HB2.out.trans (hbel.mono HB2.out.size)⟩
end Go.Proofs.Ygdaig
