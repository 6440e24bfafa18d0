/-
  rq.Local's Get, and the wrappers law.local's Get, Len, Next, At: THE WALKS.
-/
import Derived.Test.YgdaigRingMem
namespace Go.Proofs.Ygdaig
open Go.RowKit
set_option linter.unusedVariables false

set_option maxHeartbeats 400000 in
theorem rget_next (rb : Nat) (xs : List Int) (nx : Int) (w : World) (H : RingIs w rb xs nx) (hnx : nx ≠ -1) :
    Calls Yaid.prog 61 #[.pointer (some ⟨rb, 0, none⟩)] w fun e w' => e = .returned (.tuple #[.int .i64 nx, .bool true]) ∧ RingIs w' rb xs (-1) ∧ w.grownBy w' (some rb) := by
  obtain ⟨h, t, r, k1, k2⟩ := H
  obtain ⟨c0, c1, c2, c3, fz⟩ := id k1
  clear c2
  have hb : (nx != -1) = true := by simpa using hnx
  have K1 : Hid (RingAt w rb h t r nx) := k1
  have K2 : Hid (h < 256 ∧ t < 256 ∧ ((t : Int) - (h : Int)) % 256 = ((xs.length : Nat) : Int) ∧ xs.length ≤ 4 ∧ ∀ i, i < xs.length → xs[i]? = some (r ((h + i) % 4))) := k2
  clear k1 k2 hnx
  go_enter Yaid.func61, Yaid.ntmps61
  go_wp2
  go_ret2
  exact ⟨rfl, ⟨h, t, r, K1.out.setNx (-1), K2.out⟩, grown_setCell (grown_refl _ _) _ _⟩

set_option maxHeartbeats 400000 in
theorem rget_none (rb : Nat) (w : World) (H : RingIs w rb [] (-1)) :
    Calls Yaid.prog 61 #[.pointer (some ⟨rb, 0, none⟩)] w fun e w' => e = .returned (.tuple #[.int .i64 (-1), .bool false]) ∧ RingIs w' rb [] (-1) ∧ w.grownBy w' (some rb) := by
  have HH : Hid (RingIs w rb [] (-1)) := H
  obtain ⟨h, t, r, k1, hh, ht, hn, _⟩ := H
  obtain ⟨c0, c1, c2, c3, fz⟩ := id k1
  clear c2 k1
  have he : t = h := by simp at hn; omega
  subst he
  clear hn
  go_enter Yaid.func61, Yaid.ntmps61
  go_wp2
  go_quiet (fail)
  go_wp2
  go_ret2
  exact ⟨rfl, HH.out.below (below_drewN _ _), grown_below (below_drewN _ _) _⟩

set_option maxHeartbeats 400000 in
theorem rget_head (rb : Nat) (x : Int) (xs : List Int) (w : World) (H : RingIs w rb (x :: xs) (-1)) :
    Calls Yaid.prog 61 #[.pointer (some ⟨rb, 0, none⟩)] w fun e w' => e = .returned (.tuple #[.int .i64 x, .bool true]) ∧ RingIs w' rb xs (-1) ∧ w.grownBy w' (some rb) := by
  obtain ⟨h, t, r, k1, hh, ht, hn, h4, hx⟩ := H
  obtain ⟨c0, c1, c2, c3, fz⟩ := id k1
  obtain ⟨j, hj⟩ : ∃ j, j = h % 4 := ⟨_, rfl⟩
  obtain ⟨h', hh'⟩ : ∃ h', h' = (h + 1) % 256 := ⟨_, rfl⟩
  have cj := c2 j (by omega)
  have hxj : x = r j := by have := hx 0 (by simp); rw [hj]; simpa using this
  have e3 : ((h : Int)).tmod 4 = (j : Int) := by rw [Int.tmod_eq_emod_of_nonneg (by omega)]; omega
  have e4 : ((h : Int)) % 4 = (j : Int) := by omega
  have e5 : ((h : Int) + 1) % 256 = (h' : Int) := by omega
  have e6 : IntKind.u8.wrap ((h : Int) + 1) = (h' : Int) := by rw [u8_wrap]; omega
  have hj4 : j < 4 := by omega
  have hne : ((t : Int) == (h : Int)) = false := by rw [beq_eq_false_iff_ne]; simp at hn; omega
  have FIN : Hid _ := fun W (hW : RingAt W rb h t r (-1)) => ring_pop hW ht hn h4 hx h' hh'
  have K1 : Hid (RingAt w rb h t r (-1)) := k1
  clear c2 k1 hx hn h4 hh' hj
  rw [hxj]
  clear hxj
  go_enter Yaid.func61, Yaid.ntmps61
  go_wp2
  go_quiet (fail)
  go_wp2
  go_quiet (fail)
  go_wp2
  go_ret2
  exact ⟨rfl, FIN.out _ (RingAt.below K1.out (below_drewN _ _)), grown_setCell (grown_below (below_drewN _ _) _) _ _⟩

/-- What Get hands back. -/
def getV (xs : List Int) (nx : Int) : Int := if nx ≠ -1 then nx else xs.head?.getD (-1)
def getB (xs : List Int) (nx : Int) : Bool := decide (nx ≠ -1) || !xs.isEmpty
def getXs (xs : List Int) (nx : Int) : List Int := if nx ≠ -1 then xs else xs.tail

theorem rget_any (rb : Nat) (xs : List Int) (nx : Int) (w : World) (H : RingIs w rb xs nx) :
    Calls Yaid.prog 61 #[.pointer (some ⟨rb, 0, none⟩)] w fun e w' => e = .returned (.tuple #[.int .i64 (getV xs nx), .bool (getB xs nx)]) ∧ RingIs w' rb (getXs xs nx) (-1) ∧ w.grownBy w' (some rb) := by
  by_cases h : nx = -1
  · subst h
    cases xs with
    | nil => exact rget_none rb w H
    | cons x xs => exact rget_head rb x xs w H
  · have e1 : getV xs nx = nx := by simp [getV, h]
    have e2 : getB xs nx = true := by simp [getB, h]
    have e3 : getXs xs nx = xs := by simp [getXs, h]
    rw [e1, e2, e3]
    exact rget_next rb xs nx w H h

set_option maxHeartbeats 400000 in
theorem get_any (rb : Nat) (xs : List Int) (nx : Int) (w : World) (H : RingIs w rb xs nx) :
    Calls Yaid.prog 55 #[.pointer (some ⟨rb, 0, none⟩)] w fun e w' => e = .returned (.tuple #[.int .i64 (getV xs nx), .bool (getB xs nx)]) ∧ RingIs w' rb (getXs xs nx) (-1) ∧ w.grownBy w' (some rb) := by
  have HH : Hid (RingIs w rb xs nx) := H
  clear H
  go_enter Yaid.func55, Yaid.ntmps55
  go_wp2_with (go_at_call 61; refine (rget_any rb xs nx _ HH.out).mono ?_; rintro e w' ⟨rfl, hq⟩)
  go_ret2
  exact ⟨rfl, hq⟩

set_option maxHeartbeats 400000 in
theorem len_ring (rb : Nat) (xs : List Int) (nx : Int) (w : World) (H : RingIs w rb xs nx) :
    Calls Yaid.prog 56 #[.pointer (some ⟨rb, 0, none⟩)] w fun e w' => e = .returned (.int .i64 (xs.length : Nat)) ∧ Below w.heap.size w w' := by
  obtain ⟨h, t, r, k1, hh, ht, hn, _⟩ := H
  have HN : Hid (((t : Int) - (h : Int)) % 256 = ((xs.length : Nat) : Int)) := hn
  have K1 : Hid (RingAt w rb h t r nx) := k1
  clear hn k1
  go_enter Yaid.func56, Yaid.ntmps56
  go_wp2_with (go_at_call 62; refine (rlen_any rb h t xs.length r nx _ K1.out HN.out).mono ?_; rintro e w' ⟨rfl, hq⟩)
  go_ret
  exact ⟨rfl, hq⟩

set_option maxHeartbeats 400000 in
theorem next_ring (rb : Nat) (xs : List Int) (nx : Int) (w : World) (H : RingIs w rb xs nx) :
    Calls Yaid.prog 57 #[.pointer (some ⟨rb, 0, none⟩)] w fun e w' => e = .returned (.int .i64 nx) ∧ Below w.heap.size w w' := by
  obtain ⟨h, t, r, k1, _⟩ := H
  have K1 : Hid (RingAt w rb h t r nx) := k1
  clear k1
  go_enter Yaid.func57, Yaid.ntmps57
  go_wp2_with (go_at_call 63; refine (rnext_any rb h t r nx _ K1.out).mono ?_; rintro e w' ⟨rfl, rfl⟩)
  go_ret
  exact ⟨rfl, Below.refl _ _⟩

set_option maxHeartbeats 400000 in
theorem at_ring (rb i : Nat) (xs : List Int) (nx x : Int) (w : World) (H : RingIs w rb xs nx) (hx : xs[i]? = some x) :
    Calls Yaid.prog 54 #[.pointer (some ⟨rb, 0, none⟩), .int .i64 i] w fun e w' => e = .returned (.int .i64 x) ∧ Below w.heap.size w w' := by
  obtain ⟨h, t, r, k1, hh, ht, hn, h4, hr⟩ := H
  have hi : i < xs.length := by
    rcases Nat.lt_or_ge i xs.length with h | h
    · exact h
    · rw [List.getElem?_eq_none h] at hx; cases hx
  have hxr : x = r ((h + i) % 4) := by have := hr i hi; rw [hx] at this; exact Option.some.inj this
  have HN : Hid (((t : Int) - (h : Int)) % 256 = ((xs.length : Nat) : Int)) := hn
  have K1 : Hid (RingAt w rb h t r nx) := k1
  rw [hxr]
  clear hn k1 hr hx hxr
  go_enter Yaid.func54, Yaid.ntmps54
  go_wp2_with (go_at_call 60; refine (rat_any rb h t xs.length i r nx _ K1.out hh ht HN.out hi h4).mono ?_; rintro e w' ⟨rfl, hq⟩)
  go_ret
  exact ⟨rfl, hq⟩
end Go.Proofs.Ygdaig
