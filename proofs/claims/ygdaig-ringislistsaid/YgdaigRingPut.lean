/-
  rq.Local's Put and the wrapper law.local's Put: THE WALKS.
-/
import Derived.Test.YgdaigRingMem
namespace Go.Proofs.Ygdaig
open Go.RowKit
set_option linter.unusedVariables false

set_option maxHeartbeats 400000 in
theorem rput_next (rb : Nat) (g : Int) (xs : List Int) (w : World) (H : RingIs w rb xs (-1)) :
    Calls Yaid.prog 64 #[.pointer (some ⟨rb, 0, none⟩), .int .i64 g, .bool true] w fun e w' => e = .returned (.agg #[.int .i64 0, .int .i64 0, .int .i64 0, .int .i64 0]) ∧ RingIs w' rb xs g ∧ w.grownBy w' (some rb) := by
  obtain ⟨h, t, r, k1, k2⟩ := H
  have hlt := k1.lt
  obtain ⟨c0, c1, c2, c3, fz⟩ := id k1
  clear c2
  have K1 : Hid (RingAt w rb h t r (-1)) := k1
  have K2 : Hid (h < 256 ∧ t < 256 ∧ ((t : Int) - (h : Int)) % 256 = ((xs.length : Nat) : Int) ∧ xs.length ≤ 4 ∧ ∀ i, i < xs.length → xs[i]? = some (r ((h + i) % 4))) := k2
  clear k1 k2
  go_enter Yaid.func64, Yaid.ntmps64
  go_wp2
  refine bodyPost_ret (v := .agg #[.int .i64 0, .int .i64 0, .int .i64 0, .int .i64 0]) (by simp [results, Yaid.results64, go_sem]) rfl ⟨rfl, ?_, ?_⟩
  · exact ⟨h, t, r, (K1.out.setNx g).of_block (Below.heap_alloc _ _ _ (by simpa using hlt)), K2.out⟩
  · exact grown_alloc (grown_setCell (grown_refl _ _) _ _) _

theorem RingIs.alloc {w : World} {rb : Nat} {xs : List Int} {nx : Int} (k : RingIs w rb xs nx) (o : Obj) : RingIs (w.alloc o) rb xs nx := k.of_block (Below.heap_alloc _ _ _ k.lt)
theorem RingIs.drew {w : World} {rb : Nat} {xs : List Int} {nx : Int} (k : RingIs w rb xs nx) : RingIs w.drew rb xs nx := k

theorem rput_fin {W : World} {rb N : Nat} {xs : List Int} {nx : Int} (h : RingIs W rb xs nx) (hlt : rb < N) {v0 v1 v2 v3 : Value} :
    RingIs ((((W.setCell ⟨N, 0, none⟩ v0).setCell ⟨N, 1, none⟩ v1).setCell ⟨N, 2, none⟩ v2).setCell ⟨N, 3, none⟩ v3) rb xs nx := by
  refine h.of_block ?_
  rw [Below.heap_setCell _ _ _ _ (by simp; omega), Below.heap_setCell _ _ _ _ (by simp; omega), Below.heap_setCell _ _ _ _ (by simp; omega), Below.heap_setCell _ _ _ _ (by simp; omega)]

set_option maxHeartbeats 1000000 in
theorem rput_room (rb : Nat) (b : Bool) (g nx : Int) (xs : List Int) (w : World) (H : RingIs w rb xs nx) (hb : b = true → nx ≠ -1) (h4 : xs.length < 4) :
    Calls Yaid.prog 64 #[.pointer (some ⟨rb, 0, none⟩), .int .i64 g, .bool b] w fun e w' => e = .returned (.agg #[.int .i64 0, .int .i64 0, .int .i64 0, .int .i64 0]) ∧
      RingIs w' rb (xs ++ [if b then nx else g]) (if b then g else nx) ∧ w.grownBy w' (some rb) := by
  obtain ⟨h, t, r, k1, hh, ht, hn, _, hx⟩ := H
  have hlt := k1.lt
  obtain ⟨c0, c1, c2, c3, fz⟩ := id k1
  obtain ⟨j, hj⟩ : ∃ j, j = t % 4 := ⟨_, rfl⟩
  obtain ⟨t', ht'⟩ : ∃ t', t' = (t + 1) % 256 := ⟨_, rfl⟩
  have cj := c2 j (by omega)
  have e3 : ((t : Int)).tmod 4 = (j : Int) := by rw [Int.tmod_eq_emod_of_nonneg (by omega)]; omega
  have e4 : ((t : Int)) % 4 = (j : Int) := by omega
  have e5 : ((t : Int) + 1) % 256 = (t' : Int) := by omega
  have e6 : IntKind.u8.wrap ((t : Int) + 1) = (t' : Int) := by rw [u8_wrap]; omega
  have hj4 : j < 4 := by omega
  have HX : Hid (∀ W nx, RingAt W rb h t r nx → ∀ v : Int, RingIs ((W.setCell ⟨rb, 2 + j, none⟩ (.int .i64 v)).setCell ⟨rb, 1, none⟩ (.int .u8 t')) rb (xs ++ [v]) nx) :=
    fun W nx hW v => ring_push hW hh hn h4 hx v j t' hj ht'
  have K1 : Hid (RingAt w rb h t r nx) := k1
  have d1 : ((t : Int) - (h : Int)) % 256 < 4 := by omega
  clear c2 k1 hx hn ht' hj
  cases b
  · simp only [if_false, Bool.false_eq_true]
    clear hb
    go_enter Yaid.func64, Yaid.ntmps64
    go_wp2
    go_quiet (fail)
    go_wp2
    go_region
    go_wp2

    have hlt' : rb < w.heap.size := by simpa using hlt
    have hbel : Below w.heap.size w ((w.alloc (.cells #[.int .i64 0, .int .i64 0, .int .i64 0, .int .i64 0] 66)).drewN (nq + 1)) :=
      ((Below.refl _ _).alloc (Nat.le_refl _) _).trans ⟨rfl, rfl, rfl, Nat.le_refl _, fun _ _ => rfl⟩
    refine bodyPost_ret (v := .agg #[.int .i64 0, .int .i64 0, .int .i64 0, .int .i64 0]) (by simp [results, Yaid.results64, go_sem]) rfl ⟨rfl, rput_fin (HX.out _ nx (RingAt.below K1.out hbel) g) hlt, ?_⟩
    exact grown_setNew (grown_setNew (grown_setNew (grown_setNew (grown_setCell (grown_setCell (grown_below hbel _) _ _) _ _) (Nat.le_refl _) _) (Nat.le_refl _) _) (Nat.le_refl _) _) (Nat.le_refl _) _
  · have hb' : (nx == -1) = false := by rw [beq_eq_false_iff_ne]; exact hb rfl
    simp only [if_true]
    clear hb
    go_enter Yaid.func64, Yaid.ntmps64
    go_wp2
    go_quiet (fail)
    go_wp2
    go_region
    go_wp2

    have hlt' : rb < (w.setCell ⟨rb, 6, none⟩ (.int .i64 g)).heap.size := by simpa using hlt
    have hbel : Below (w.setCell ⟨rb, 6, none⟩ (.int .i64 g)).heap.size (w.setCell ⟨rb, 6, none⟩ (.int .i64 g)) (((w.setCell ⟨rb, 6, none⟩ (.int .i64 g)).alloc (.cells #[.int .i64 0, .int .i64 0, .int .i64 0, .int .i64 0] 66)).drewN (nq + 1)) :=
      ((Below.refl _ _).alloc (Nat.le_refl _) _).trans ⟨rfl, rfl, rfl, Nat.le_refl _, fun _ _ => rfl⟩
    refine bodyPost_ret (v := .agg #[.int .i64 0, .int .i64 0, .int .i64 0, .int .i64 0]) (by simp [results, Yaid.results64, go_sem]) rfl ⟨rfl, rput_fin (HX.out _ g (RingAt.below (K1.out.setNx g) hbel) nx) hlt, ?_⟩
    exact grown_setNew (grown_setNew (grown_setNew (grown_setNew (grown_setCell (grown_setCell (grown_trans (grown_setCell (grown_refl _ _) _ _) (grown_below hbel _)) _ _) _ _) (Nat.le_refl _) _) (Nat.le_refl _) _) (Nat.le_refl _) _) (Nat.le_refl _) _

set_option maxHeartbeats 1000000 in
theorem rput_full (rb : Nat) (b : Bool) (g nx x0 x1 x2 x3 : Int) (w : World) (H : RingIs w rb [x0, x1, x2, x3] nx) (hb : b = true → nx ≠ -1) :
    Calls Yaid.prog 64 #[.pointer (some ⟨rb, 0, none⟩), .int .i64 g, .bool b] w fun e w' => e = .returned (.agg #[.int .i64 x0, .int .i64 x1, .int .i64 (if b then nx else g), .int .i64 3]) ∧
      RingIs w' rb [x2, x3] (if b then g else nx) ∧ w.grownBy w' (some rb) := by
  obtain ⟨h, t, r, k1, hh, ht, hn, _, hx⟩ := H
  have hlt := k1.lt
  obtain ⟨c0, c1, c2, c3, fz⟩ := id k1
  have y0 : x0 = r (h % 4) := by have := hx 0 (by simp); simpa using this
  have y1 : x1 = r ((h + 1) % 4) := by have := hx 1 (by simp); simpa using this
  have y2 : x2 = r ((h + 2) % 4) := by have := hx 2 (by simp); simpa using this
  have y3 : x3 = r ((h + 3) % 4) := by have := hx 3 (by simp); simpa using this
  obtain ⟨j0, hj0⟩ : ∃ j, j = h % 4 := ⟨_, rfl⟩
  obtain ⟨j1, hj1⟩ : ∃ j, j = (h + 1) % 4 := ⟨_, rfl⟩
  obtain ⟨h1, hh1⟩ : ∃ j, j = (h + 1) % 256 := ⟨_, rfl⟩
  obtain ⟨h2, hh2⟩ : ∃ j, j = (h + 2) % 256 := ⟨_, rfl⟩
  have cj0 := c2 j0 (by omega)
  have cj1 := c2 j1 (by omega)
  rw [hj0, ← y0] at cj0
  rw [hj1, ← y1] at cj1
  rw [← hj0] at cj0
  rw [← hj1] at cj1
  have e1 : ((h : Int)).tmod 4 = (j0 : Int) := by rw [Int.tmod_eq_emod_of_nonneg (by omega)]; omega
  have e2 : ((h : Int)) % 4 = (j0 : Int) := by omega
  have e3 : ((h : Int) + 1) % 256 = (h1 : Int) := by omega
  have e4 : IntKind.u8.wrap ((h : Int) + 1) = (h1 : Int) := by rw [u8_wrap]; omega
  have e5 : ((h1 : Int)).tmod 4 = (j1 : Int) := by rw [Int.tmod_eq_emod_of_nonneg (by omega)]; omega
  have e6 : ((h1 : Int)) % 4 = (j1 : Int) := by omega
  have e7 : ((h1 : Int) + 1) % 256 = (h2 : Int) := by omega
  have e8 : IntKind.u8.wrap ((h1 : Int) + 1) = (h2 : Int) := by rw [u8_wrap]; omega
  have hj04 : j0 < 4 := by omega
  have hj14 : j1 < 4 := by omega
  have hh14 : h1 < 256 := by omega
  have HX : Hid (∀ W nx, RingAt W rb h2 t r nx → RingIs W rb [x2, x3] nx) := fun W nx hW => by
    refine ⟨h2, t, r, hW, by omega, ht, by simp at hn; simp; omega, by simp, fun i hi => ?_⟩
    match i, hi with
    | 0, _ => rw [y2, hh2]; simp
    | 1, _ => rw [y3, hh2]; simp; congr 1; omega
  have K1 : Hid (RingAt w rb h t r nx) := k1
  have d1 : ¬ ((t : Int) - (h : Int)) % 256 < 4 := by simp at hn; omega
  clear c2 k1 hx hn hh1 hh2 hj0 hj1 y0 y1 y2 y3
  cases b
  · simp only [if_false, Bool.false_eq_true]
    clear hb
    go_enter Yaid.func64, Yaid.ntmps64
    go_wp2
    go_quiet (fail)
    go_wp2
    refine wp_loop_rounds 3 ?_
    rw [rounds_succ]
    go_wp2
    go_region
    go_wp2
    rw [rounds_succ]
    go_wp2
    go_region
    go_wp2
    rw [rounds_succ]
    go_wp2
    have hlt' : rb < w.heap.size := by simpa using hlt
    have hbel : Below w.heap.size w ((w.alloc (.cells #[.int .i64 0, .int .i64 0, .int .i64 0, .int .i64 0] 66)).drewN nq) :=
      ((Below.refl _ _).alloc (Nat.le_refl _) _).trans ⟨rfl, rfl, rfl, Nat.le_refl _, fun _ _ => rfl⟩
    refine bodyPost_ret (v := .agg #[.int .i64 x0, .int .i64 x1, .int .i64 g, .int .i64 3]) (by simp [results, Yaid.results64, go_sem]) rfl ⟨rfl, ?_, ?_⟩
    · exact (RingIs.alloc (rput_fin (HX.out _ nx (((RingAt.below K1.out hbel).setH h1).setH h2)) hlt) _).drew.drew
    · exact grown_drew (grown_drew (grown_alloc (grown_setNew (grown_setNew (grown_setNew (grown_setNew (grown_setCell (grown_setCell (grown_below hbel _) _ _) _ _) (Nat.le_refl _) _) (Nat.le_refl _) _) (Nat.le_refl _) _) (Nat.le_refl _) _) _))
  · have hb' : (nx == -1) = false := by rw [beq_eq_false_iff_ne]; exact hb rfl
    simp only [if_true]
    clear hb
    go_enter Yaid.func64, Yaid.ntmps64
    go_wp2
    go_quiet (fail)
    go_wp2
    refine wp_loop_rounds 3 ?_
    rw [rounds_succ]
    go_wp2
    go_region
    go_wp2
    rw [rounds_succ]
    go_wp2
    go_region
    go_wp2
    rw [rounds_succ]
    go_wp2
    have hlt' : rb < (w.setCell ⟨rb, 6, none⟩ (.int .i64 g)).heap.size := by simpa using hlt
    have hbel : Below (w.setCell ⟨rb, 6, none⟩ (.int .i64 g)).heap.size (w.setCell ⟨rb, 6, none⟩ (.int .i64 g)) (((w.setCell ⟨rb, 6, none⟩ (.int .i64 g)).alloc (.cells #[.int .i64 0, .int .i64 0, .int .i64 0, .int .i64 0] 66)).drewN nq) :=
      ((Below.refl _ _).alloc (Nat.le_refl _) _).trans ⟨rfl, rfl, rfl, Nat.le_refl _, fun _ _ => rfl⟩
    refine bodyPost_ret (v := .agg #[.int .i64 x0, .int .i64 x1, .int .i64 nx, .int .i64 3]) (by simp [results, Yaid.results64, go_sem]) rfl ⟨rfl, ?_, ?_⟩
    · exact (RingIs.alloc (rput_fin (HX.out _ g (((RingAt.below (K1.out.setNx g) hbel).setH h1).setH h2)) hlt) _).drew.drew
    · exact grown_drew (grown_drew (grown_alloc (grown_setNew (grown_setNew (grown_setNew (grown_setNew (grown_setCell (grown_setCell (grown_trans (grown_setCell (grown_refl _ _) _ _) (grown_below hbel _)) _ _) _ _) (Nat.le_refl _) _) (Nat.le_refl _) _) (Nat.le_refl _) _) (Nat.le_refl _) _) _))

/-- What Put leaves in the ring, in the runnext slot, and what it spills. -/
def putXs (b : Bool) (g nx : Int) (xs : List Int) : List Int :=
  if b = true ∧ nx = -1 then xs else if xs.length < 4 then xs ++ [if b then nx else g] else xs.drop 2
def putNx (b : Bool) (g nx : Int) : Int := if b then g else nx
def putSp (b : Bool) (g nx : Int) (xs : List Int) : List Int :=
  if b = true ∧ nx = -1 then [] else if xs.length < 4 then [] else xs.take 2 ++ [if b then nx else g]
/-- A Spill as a value. -/
def spV (l : List Int) : Value := .agg #[.int .i64 (l.getD 0 0), .int .i64 (l.getD 1 0), .int .i64 (l.getD 2 0), .int .i64 (l.length : Nat)]

theorem four_of : ∀ {xs : List Int}, xs.length = 4 → ∃ x0 x1 x2 x3, xs = [x0, x1, x2, x3]
  | [x0, x1, x2, x3], _ => ⟨x0, x1, x2, x3, rfl⟩

theorem rput_any (rb : Nat) (b : Bool) (g nx : Int) (xs : List Int) (w : World) (H : RingIs w rb xs nx) :
    Calls Yaid.prog 64 #[.pointer (some ⟨rb, 0, none⟩), .int .i64 g, .bool b] w fun e w' => e = .returned (spV (putSp b g nx xs)) ∧ RingIs w' rb (putXs b g nx xs) (putNx b g nx) ∧ w.grownBy w' (some rb) := by
  by_cases hA : b = true ∧ nx = -1
  · have e1 : putSp b g nx xs = [] := by simp [putSp, hA]
    have e2 : putXs b g nx xs = xs := by simp [putXs, hA]
    obtain ⟨rfl, rfl⟩ := hA
    rw [e1, e2]
    exact rput_next rb g xs w H
  · by_cases h4 : xs.length < 4
    · have e1 : putSp b g nx xs = [] := by unfold putSp; rw [if_neg hA, if_pos h4]
      have e2 : putXs b g nx xs = xs ++ [if b then nx else g] := by unfold putXs; rw [if_neg hA, if_pos h4]
      rw [e1, e2]
      exact rput_room rb b g nx xs w H (fun hb e => hA ⟨hb, e⟩) h4
    · have h5 : xs.length ≤ 4 := by obtain ⟨_, _, _, _, _, _, _, h, _⟩ := H; exact h
      have e1 : putSp b g nx xs = xs.take 2 ++ [if b then nx else g] := by unfold putSp; rw [if_neg hA, if_neg h4]
      have e2 : putXs b g nx xs = xs.drop 2 := by unfold putXs; rw [if_neg hA, if_neg h4]
      rw [e1, e2]
      obtain ⟨x0, x1, x2, x3, rfl⟩ := four_of (show xs.length = 4 by omega)
      exact rput_full rb b g nx x0 x1 x2 x3 w H (fun hb e => hA ⟨hb, e⟩)

set_option maxHeartbeats 400000 in
theorem put_any (rb : Nat) (b : Bool) (g nx : Int) (xs : List Int) (w : World) (H : RingIs w rb xs nx) :
    Calls Yaid.prog 58 #[.pointer (some ⟨rb, 0, none⟩), .int .i64 g, .bool b] w fun e w' => e = .returned (spV (putSp b g nx xs)) ∧ RingIs w' rb (putXs b g nx xs) (putNx b g nx) ∧ w.grownBy w' (some rb) := by
  have hlt := H.lt
  have HH : Hid (RingIs w rb xs nx) := H
  clear H
  go_enter Yaid.func58, Yaid.ntmps58
  go_wp2_with fail
  refine (rput_any rb b g nx xs _ (HH.out.alloc _)).mono ?_
  rintro e w1 ⟨rfl, hR, hg⟩
  have d : w1.heap[w.heap.size]? = some (.cells #[.int .i64 0, .int .i64 0, .int .i64 0, .int .i64 0] 66) := (hg.block _ (by simp) (by simp; omega)).trans (heap_alloc_new w _)
  have q0 : w1.cell? ⟨w.heap.size, 0, none⟩ = some (.int .i64 0) := by simp [World.cell?, d]
  have q1 : w1.cell? ⟨w.heap.size, 1, none⟩ = some (.int .i64 0) := by simp [World.cell?, d]
  have q2 : w1.cell? ⟨w.heap.size, 2, none⟩ = some (.int .i64 0) := by simp [World.cell?, d]
  have q3 : w1.cell? ⟨w.heap.size, 3, none⟩ = some (.int .i64 0) := by simp [World.cell?, d]
  have qz : ∀ o, w1.frozen? ⟨w.heap.size, o, none⟩ = false := fun o => by simp [World.frozen?, d]
  have HR : Hid (RingIs w1 rb (putXs b g nx xs) (putNx b g nx)) := hR
  have HG : Hid (w.grownBy w1 (some rb)) := grown_trans (World.grownBy_alloc w _ _) hg
  clear d hR hg HH
  obtain ⟨s0, s1, s2, sn, hsp⟩ : ∃ (s0 s1 s2 : Int) (sn : Nat), spV (putSp b g nx xs) = .agg #[.int .i64 s0, .int .i64 s1, .int .i64 s2, .int .i64 sn] := ⟨_, _, _, _, rfl⟩
  have HSP : Hid (spV (putSp b g nx xs) = .agg #[.int .i64 s0, .int .i64 s1, .int .i64 s2, .int .i64 sn]) := hsp
  rw [hsp]
  clear hsp
  go_wp2
  refine bodyPost_ret (v := .agg #[.int .i64 s0, .int .i64 s1, .int .i64 s2, .int .i64 sn]) (by simp [results, Yaid.results58, go_sem, q0, q1, q2, q3]) rfl ⟨?_, rput_fin HR.out hlt, ?_⟩
  · rw [HSP.out]
  · exact grown_setNew (grown_setNew (grown_setNew (grown_setNew HG.out (Nat.le_refl _) _) (Nat.le_refl _) _) (Nat.le_refl _) _) (Nat.le_refl _) _
end Go.Proofs.Ygdaig
