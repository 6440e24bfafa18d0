/-
  prog.Tape: Next and NextMod: THE WALKS.
-/
import Derived.Test.YgdaigBase
namespace Go.Proofs.Ygdaig
open Go.RowKit
set_option linter.unusedVariables false

/-- A Tape in memory. -/
def TapeAt (w : World) (tb : Nat) (a : Option Addr) (len cap i calls : Nat) (beyond : Int) : Prop :=
  w.cell? ⟨tb, 0, none⟩ = some (.slice a len cap) ∧ w.cell? ⟨tb, 1, none⟩ = some (.int .i64 i) ∧ w.cell? ⟨tb, 2, none⟩ = some (.int .i64 calls) ∧ w.cell? ⟨tb, 3, none⟩ = some (.int .i64 beyond) ∧ ∀ o, w.frozen? ⟨tb, o, none⟩ = false
/-- The numbers that it reads. -/
def NumsAt (w : World) (tb : Nat) (a : Option Addr) (len : Nat) (z : Nat → Int) : Prop :=
  0 < len → ∃ b off, a = some ⟨b, off, none⟩ ∧ b ≠ tb ∧ b < w.heap.size ∧ ∀ j, j < len → w.cell? ⟨b, off + j, none⟩ = some (.int .i64 (z j))

theorem tape_num (x : Int) : (wrap64 (x.tmod 6 + 6)).tmod 6 = ((x % 6).toNat : Int) := by
  have h : x.tmod 6 = x % 6 ∨ (x.tmod 6 = x % 6 - 6 ∧ x % 6 ≠ 0) := by
    have := Int.tmod_eq_emod (a := x) (b := 6)
    rw [this]
    split
    · left; omega
    · right; simp; omega
  have b1 : 0 ≤ x % 6 := Int.emod_nonneg _ (by decide)
  have b2 : x % 6 < 6 := Int.emod_lt_of_pos _ (by decide)
  rw [IntWalk.wrap64_in _ (by omega)]
  rw [Int.tmod_eq_emod_of_nonneg (by omega)]
  omega

theorem grown_drewN {a w : World} {r : Option Nat} (h : a.grownBy w r) (n : Nat) : a.grownBy (w.drewN n) r := ⟨h.os, h.tape, h.output, h.size, h.block⟩

/-- What the tape reads at place i. -/
def tv (z : Nat → Int) (len i : Nat) : Nat := if i < len ∧ i < 256 then (z i % 6).toNat else 0
/-- Where it stands behind that. -/
def tnx (len i : Nat) : Nat := if i < len ∧ i < 256 then i + 1 else i

theorem tv_lt (z : Nat → Int) (len i : Nat) : tv z len i < 6 := by
  unfold tv
  split
  · have b1 : 0 ≤ z i % 6 := Int.emod_nonneg _ (by decide)
    have b2 : z i % 6 < 6 := Int.emod_lt_of_pos _ (by decide)
    omega
  · omega

set_option maxHeartbeats 400000 in
theorem next_in (tb len cap i calls b off : Nat) (beyond x : Int) (w : World) (hT : TapeAt w tb (some ⟨b, off, none⟩) len cap i calls beyond) (hlen : len ≤ 9223372036854775807) (hc : calls ≤ 100) (hi : i < len) (h2 : i < 256) (hne : b ≠ tb)
    (hx : w.cell? ⟨b, off + i, none⟩ = some (.int .i64 x)) :
    Calls Yaid.prog 27 #[.pointer (some ⟨tb, 0, none⟩)] w fun e w' => e = .returned (.int .i64 ((x % 6).toNat : Nat)) ∧ TapeAt w' tb (some ⟨b, off, none⟩) len cap (i + 1) (calls + 1) beyond ∧ w.grownBy w' (some tb) := by
  obtain ⟨t0, t1, t2, t3, fz⟩ := id hT
  clear hT
  have d1 : decide ((len : Int) ≤ (i : Int)) = false := by simp; omega
  have d2 : decide (len ≤ i) = false := by simp; omega
  have d3 : decide ((256 : Int) ≤ (i : Int)) = false := by simp; omega
  have d4 : decide (256 ≤ i) = false := by simp; omega
  go_enter Yaid.func27, Yaid.ntmps27
  go_wp2
  go_quiet (fail)
  go_wp2
  go_quiet (fail)
  go_wp2
  go_ret
  refine ⟨ret_int (tape_num x), ⟨?_, ?_, ?_, ?_, fun o => by simpa using fz o⟩, grown_setCell (grown_drewN (grown_setCell (grown_refl _ _) _ _) _) _ _⟩
  · rw [cell_set_off (by omega), World.cell?_drewN, cell_set_off (by omega)]; exact t0
  · exact World.cell?_setCell_same _ _ _ (by rw [World.cell?_drewN, cell_set_off (by omega)]; exact t1)
  · rw [cell_set_off (by omega), World.cell?_drewN]; exact World.cell?_setCell_same _ _ _ t2
  · rw [cell_set_off (by omega), World.cell?_drewN, cell_set_off (by omega)]; exact t3

set_option maxHeartbeats 400000 in
theorem next_out (tb len cap i calls : Nat) (a : Option Addr) (beyond : Int) (w : World) (hT : TapeAt w tb a len cap i calls beyond) (hc : calls ≤ 100) (hi : ¬ (i < len ∧ i < 256)) :
    Calls Yaid.prog 27 #[.pointer (some ⟨tb, 0, none⟩)] w fun e w' => e = .returned (.int .i64 0) ∧ TapeAt w' tb a len cap i (calls + 1) beyond ∧ w.grownBy w' (some tb) := by
  obtain ⟨t0, t1, t2, t3, fz⟩ := id hT
  clear hT
  have hcase : (decide ((len : Int) ≤ (i : Int)) = true ∧ decide (len ≤ i) = true) ∨ (decide ((len : Int) ≤ (i : Int)) = false ∧ decide (len ≤ i) = false ∧ decide ((256 : Int) ≤ (i : Int)) = true ∧ decide (256 ≤ i) = true) := by
    by_cases h : len ≤ i
    · left; simp; omega
    · right; simp; omega
  clear hi
  rcases hcase with ⟨d1, d2⟩ | ⟨d1, d2, d3, d4⟩
  all_goals
    go_enter Yaid.func27, Yaid.ntmps27
    go_wp2
    go_quiet (fail)
    go_wp2
    go_ret
    refine ⟨rfl, ⟨?_, ?_, ?_, ?_, fun o => by simpa using fz o⟩, grown_drewN (grown_setCell (grown_refl _ _) _ _) _⟩
    · rw [World.cell?_drewN, cell_set_off (by omega)]; exact t0
    · rw [World.cell?_drewN, cell_set_off (by omega)]; exact t1
    · rw [World.cell?_drewN]; exact World.cell?_setCell_same _ _ _ t2
    · rw [World.cell?_drewN, cell_set_off (by omega)]; exact t3

theorem NumsAt.grown {w w' : World} {tb : Nat} {a : Option Addr} {len : Nat} {z : Nat → Int} (h : NumsAt w tb a len z) (k : w.grownBy w' (some tb)) : NumsAt w' tb a len z := fun h0 => by
  obtain ⟨b, off, e, hne, hb, hc⟩ := h h0
  exact ⟨b, off, e, hne, Nat.lt_of_lt_of_le hb k.size, fun j hj => k.cell (hc j hj) (by simpa using hne)⟩

theorem next_any (tb len cap i calls : Nat) (a : Option Addr) (beyond : Int) (z : Nat → Int) (w : World) (hT : TapeAt w tb a len cap i calls beyond) (hN : NumsAt w tb a len z) (hlen : len ≤ 9223372036854775807) (hc : calls ≤ 100) :
    Calls Yaid.prog 27 #[.pointer (some ⟨tb, 0, none⟩)] w fun e w' => e = .returned (.int .i64 (tv z len i : Nat)) ∧ TapeAt w' tb a len cap (tnx len i) (calls + 1) beyond ∧ w.grownBy w' (some tb) := by
  by_cases h : i < len ∧ i < 256
  · obtain ⟨b, off, rfl, hne, hb, hcell⟩ := hN (by omega)
    rw [tv, if_pos h, tnx, if_pos h]
    exact next_in tb len cap i calls b off beyond (z i) w hT hlen hc h.1 h.2 hne (hcell i h.1)
  · rw [tv, if_neg h, tnx, if_neg h]
    exact next_out tb len cap i calls a beyond w hT hc h

theorem TapeAt.drewN {w : World} {tb : Nat} {a : Option Addr} {len cap i calls : Nat} {beyond : Int} (h : TapeAt w tb a len cap i calls beyond) (n : Nat) : TapeAt (w.drewN n) tb a len cap i calls beyond := h
theorem NumsAt.drewN {w : World} {tb : Nat} {a : Option Addr} {len : Nat} {z : Nat → Int} (h : NumsAt w tb a len z) (n : Nat) : NumsAt (w.drewN n) tb a len z := h
theorem TapeAt.set3 {w : World} {tb : Nat} {a : Option Addr} {len cap i calls : Nat} {beyond : Int} (h : TapeAt w tb a len cap i calls beyond) (x : Int) : TapeAt (w.setCell ⟨tb, 3, none⟩ (.int .i64 x)) tb a len cap i calls x := by
  obtain ⟨t0, t1, t2, t3, fz⟩ := h
  refine ⟨?_, ?_, ?_, ?_, fun o => by simpa using fz o⟩
  · rw [cell_set_off (by omega)]; exact t0
  · rw [cell_set_off (by omega)]; exact t1
  · rw [cell_set_off (by omega)]; exact t2
  · exact World.cell?_setCell_same _ _ _ t3

set_option maxHeartbeats 400000 in
theorem nextMod_any (tb len cap i calls k : Nat) (a : Option Addr) (beyond : Int) (z : Nat → Int) (w : World) (hT : TapeAt w tb a len cap i calls beyond) (hN : NumsAt w tb a len z) (hlen : len ≤ 9223372036854775807) (hc : calls ≤ 100)
    (hk1 : 1 ≤ k) (hk6 : k ≤ 6) :
    Calls Yaid.prog 18 #[.pointer (some ⟨tb, 0, none⟩), .int .i64 k] w fun e w' => e = .returned (.int .i64 ((tv z len i % k : Nat) : Int)) ∧ ∃ b', TapeAt w' tb a len cap (tnx len i) (calls + 1) b' ∧ w.grownBy w' (some tb) := by
  obtain ⟨t0, t1, t2, t3, fz⟩ := id hT
  have HT : Hid (TapeAt w tb a len cap i calls beyond) := hT
  have HN : Hid (NumsAt w tb a len z) := hN
  clear hT hN
  have hcase : ((calls : Int) == (len : Int)) = false ∨ (((calls : Int) == (len : Int)) = true ∧ (beyond == 0) = false) ∨ (((calls : Int) == (len : Int)) = true ∧ (beyond == 0) = true) := by
    cases ((calls : Int) == (len : Int)) <;> cases (beyond == 0) <;> simp
  have htv := tv_lt z len i
  have d1 : ¬ (k : Int) < 1 := by omega
  have d2 : ¬ (6 : Int) < (k : Int) := by omega
  rcases hcase with h1 | ⟨h1, h2⟩ | ⟨h1, h2⟩
  all_goals
    go_enter Yaid.func18, Yaid.ntmps18
    go_wp2
    go_quiet (fail)
    go_wp2_with (go_at_call 27; refine (next_any tb len cap i calls a beyond z _ (HT.out.drewN _) (HN.out.drewN _) hlen hc).mono ?_; rintro e w1 ⟨rfl, hT1, hg1⟩; obtain ⟨u0, u1, u2, u3, fz1⟩ := id hT1)
    have HT1 : Hid (TapeAt w1 tb a len cap (tnx len i) (calls + 1) beyond) := hT1
    have HG1 : Hid (w.grownBy w1 (some tb)) := ⟨hg1.os, hg1.tape, hg1.output, hg1.size, hg1.block⟩
    clear hT1 hg1
    go_ret
  · refine ⟨ret_int ?_, _, HT1.out, HG1.out⟩
    omega
  · refine ⟨ret_int ?_, _, HT1.out, HG1.out⟩
    omega
  · refine ⟨ret_int ?_, _, HT1.out.set3 _, grown_setCell HG1.out _ _⟩
    omega
end Go.Proofs.Ygdaig
