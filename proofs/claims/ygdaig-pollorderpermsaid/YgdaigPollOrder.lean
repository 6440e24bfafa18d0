/-
  sel.PollOrder for one, two and three cases: THE WALKS.
-/
import Derived.Test.YgdaigTape
import Derived.Test.YgdaigLockSift
import Derived.Test.YgdaigPollPlain
namespace Go.Proofs.Ygdaig
open Go.RowKit
set_option linter.unusedVariables false

/-- While PollOrder runs in the world wr, begun in w: its order in the second new block, its result's cell in the first, the tape in block tb. -/
structure PollSt (w wr : World) (tb : Nat) (a : Option Addr) (len cap : Nat) (z : Nat → Int) (i calls q0 q1 q2 n : Nat) : Prop where
  ord : OrdAt wr (w.heap.size + 1) q0 q1 q2 n
  tape : ∃ b, TapeAt wr tb a len cap i calls b
  nums : NumsAt wr tb a len z
  res : wr.heap[w.heap.size]? = some (.cells #[.int .i64 0, .int .i64 0, .int .i64 0, .int .i64 0] 46)
  bel : w.grownBy wr (some tb)

theorem TapeAt.of_block {w w' : World} {tb : Nat} {a : Option Addr} {len cap i calls : Nat} {b : Int} (h : TapeAt w tb a len cap i calls b) (e : w'.heap[tb]? = w.heap[tb]?) : TapeAt w' tb a len cap i calls b :=
  ⟨(World.cell?_of_block (a := ⟨tb, 0, none⟩) e).trans h.1, (World.cell?_of_block (a := ⟨tb, 1, none⟩) e).trans h.2.1, (World.cell?_of_block (a := ⟨tb, 2, none⟩) e).trans h.2.2.1,
    (World.cell?_of_block (a := ⟨tb, 3, none⟩) e).trans h.2.2.2.1, fun o => (World.frozen?_of_block (a := ⟨tb, o, none⟩) e).trans (h.2.2.2.2 o)⟩
theorem TapeAt.lt {w : World} {tb : Nat} {a : Option Addr} {len cap i calls : Nat} {b : Int} (h : TapeAt w tb a len cap i calls b) : tb < w.heap.size := World.block_lt_of_cell? w _ h.1

/-- The order's own block is written. -/
theorem PollSt.ordStep {w wr w' : World} {tb : Nat} {a : Option Addr} {len cap : Nat} {z : Nat → Int} {i calls q0 q1 q2 n p0 p1 p2 : Nat} (h : PollSt w wr tb a len cap z i calls q0 q1 q2 n) (ht : tb < w.heap.size) (ha : 0 < len → ∀ b off, a = some ⟨b, off, none⟩ → b < w.heap.size)
    (ho : OrdAt w' (w.heap.size + 1) p0 p1 p2 n) (hg : wr.grownBy w' (some (w.heap.size + 1))) : PollSt w w' tb a len cap z i calls p0 p1 p2 n := by
  obtain ⟨h1, ⟨b, h2⟩, h3, h4, h5⟩ := h
  have hl := h1.lt
  have hl2 := h2.lt
  refine ⟨ho, ⟨b, h2.of_block (hg.block _ hl2 (by simp; omega))⟩, fun h0 => ?_, (hg.block _ (by omega) (by simp)).trans h4, ?_⟩
  · obtain ⟨b', off, e, hne, hb, hc⟩ := h3 h0
    have := ha h0 b' off e
    exact ⟨b', off, e, hne, Nat.lt_of_lt_of_le hb hg.size, fun j hj => hg.cell (hc j hj) (by simp; omega)⟩
  · exact ⟨hg.os.trans h5.os, hg.tape.trans h5.tape, hg.output.trans h5.output, Nat.le_trans h5.size hg.size, fun k hk hr => (hg.block k (Nat.lt_of_lt_of_le hk h5.size) (by simp; omega)).trans (h5.block k hk hr)⟩
/-- The tape's block is written. -/
theorem PollSt.tapeStep {w wr w' : World} {tb : Nat} {a : Option Addr} {len cap : Nat} {z : Nat → Int} {i calls i' calls' q0 q1 q2 n : Nat} (h : PollSt w wr tb a len cap z i calls q0 q1 q2 n) (ht : tb < w.heap.size) {b : Int}
    (hT : TapeAt w' tb a len cap i' calls' b) (hg : wr.grownBy w' (some tb)) : PollSt w w' tb a len cap z i' calls' q0 q1 q2 n := by
  obtain ⟨h1, h2, h3, h4, h5⟩ := h
  have hl := h1.lt
  exact ⟨h1.of_block (hg.block _ hl (by simp; omega)), ⟨b, hT⟩, h3.grown hg, (hg.block _ (by omega) (by simp; omega)).trans h4, grown_trans h5 hg⟩
theorem pollSt_made {w : World} {tb : Nat} {a : Option Addr} {len cap : Nat} {z : Nat → Int} {b : Int} {i calls : Nat} (hT : TapeAt w tb a len cap i calls b) (hN : NumsAt w tb a len z) (q0 q1 q2 n : Nat) :
    PollSt w ((w.alloc (.cells #[.int .i64 0, .int .i64 0, .int .i64 0, .int .i64 0] 46)).alloc (.cells #[.int .i64 q0, .int .i64 q1, .int .i64 q2, .int .i64 n] 46)) tb a len cap z i calls q0 q1 q2 n := by
  have hg : w.grownBy ((w.alloc (.cells #[.int .i64 0, .int .i64 0, .int .i64 0, .int .i64 0] 46)).alloc (.cells #[.int .i64 q0, .int .i64 q1, .int .i64 q2, .int .i64 n] 46)) (some tb) := grown_alloc (grown_alloc (grown_refl _ _) _) _
  refine ⟨?_, ⟨b, hT.of_block ?_⟩, hN.grown hg, ?_, hg⟩
  · rw [← World.size_alloc w (.cells #[.int .i64 0, .int .i64 0, .int .i64 0, .int .i64 0] 46)]
    exact ⟨World.cell?_alloc_new _ _ _ _, World.cell?_alloc_new _ _ _ _, World.cell?_alloc_new _ _ _ _, World.cell?_alloc_new _ _ _ _, fun o => World.frozen?_alloc_new _ _ _ _⟩
  · have := hT.lt
    rw [Below.heap_alloc _ _ _ (by simp; omega), Below.heap_alloc _ _ _ this]
  · rw [Below.heap_alloc _ _ _ (by simp)]; exact heap_alloc_new w _
theorem PollSt.cells {w wr : World} {tb : Nat} {a : Option Addr} {len cap : Nat} {z : Nat → Int} {i calls q0 q1 q2 n : Nat} (h : PollSt w wr tb a len cap z i calls q0 q1 q2 n) :
    wr.cell? ⟨w.heap.size, 0, none⟩ = some (.int .i64 0) ∧ wr.cell? ⟨w.heap.size, 1, none⟩ = some (.int .i64 0) ∧ wr.cell? ⟨w.heap.size, 2, none⟩ = some (.int .i64 0) ∧ wr.cell? ⟨w.heap.size, 3, none⟩ = some (.int .i64 0) ∧ ∀ o, wr.frozen? ⟨w.heap.size, o, none⟩ = false := by
  have d := h.res
  exact ⟨by simp [World.cell?, d], by simp [World.cell?, d], by simp [World.cell?, d], by simp [World.cell?, d], fun o => by simp [World.frozen?, d]⟩
theorem PollSt.ends {w wr : World} {tb : Nat} {a : Option Addr} {len cap : Nat} {z : Nat → Int} {i calls q0 q1 q2 n : Nat} (h : PollSt w wr tb a len cap z i calls q0 q1 q2 n) (v0 v1 v2 v3 : Value) :
    w.grownBy ((((wr.setCell ⟨w.heap.size, 0, none⟩ v0).setCell ⟨w.heap.size, 1, none⟩ v1).setCell ⟨w.heap.size, 2, none⟩ v2).setCell ⟨w.heap.size, 3, none⟩ v3) (some tb) :=
  grown_setNew (grown_setNew (grown_setNew (grown_setNew h.bel (Nat.le_refl _) _) (Nat.le_refl _) _) (Nat.le_refl _) _) (Nat.le_refl _) _

theorem nextMod2 (tb len cap i calls : Nat) (a : Option Addr) (beyond : Int) (z : Nat → Int) (w : World) (j : Int) (hj : ((tv z len i % 2 : Nat) : Int) = j) (hT : TapeAt w tb a len cap i calls beyond) (hN : NumsAt w tb a len z) (hlen : len ≤ 9223372036854775807) (hc : calls ≤ 100) :
    Calls Yaid.prog 18 #[.pointer (some ⟨tb, 0, none⟩), .int .i64 2] w fun e w' => e = .returned (.int .i64 j) ∧ ∃ b', TapeAt w' tb a len cap (tnx len i) (calls + 1) b' ∧ w.grownBy w' (some tb) :=
  hj ▸ nextMod_any tb len cap i calls 2 a beyond z w hT hN hlen hc (by omega) (by omega)
theorem nextMod3 (tb len cap i calls : Nat) (a : Option Addr) (beyond : Int) (z : Nat → Int) (w : World) (j : Int) (hj : ((tv z len i % 3 : Nat) : Int) = j) (hT : TapeAt w tb a len cap i calls beyond) (hN : NumsAt w tb a len z) (hlen : len ≤ 9223372036854775807) (hc : calls ≤ 100) :
    Calls Yaid.prog 18 #[.pointer (some ⟨tb, 0, none⟩), .int .i64 3] w fun e w' => e = .returned (.int .i64 j) ∧ ∃ b', TapeAt w' tb a len cap (tnx len i) (calls + 1) b' ∧ w.grownBy w' (some tb) :=
  hj ▸ nextMod_any tb len cap i calls 3 a beyond z w hT hN hlen hc (by omega) (by omega)

theorem OrdAt.set10 {w : World} {b q0 q1 q2 n : Nat} (h : OrdAt w b q0 q1 q2 n) (x y : Nat) : OrdAt ((w.setCell ⟨b, 1, none⟩ (.int .i64 x)).setCell ⟨b, 0, none⟩ (.int .i64 y)) b y x q2 n := by
  obtain ⟨p0, p1, p2, p3, fz⟩ := h
  refine ⟨?_, ?_, ?_, ?_, fun o => by simpa using fz o⟩
  · exact World.cell?_setCell_same _ _ _ (by rw [cell_set_off (by omega)]; exact p0)
  · rw [cell_set_off (by omega)]; exact World.cell?_setCell_same _ _ _ p1
  · rw [cell_set_off (by omega), cell_set_off (by omega)]; exact p2
  · rw [cell_set_off (by omega), cell_set_off (by omega)]; exact p3
theorem OrdAt.set11 {w : World} {b q0 q1 q2 n : Nat} (h : OrdAt w b q0 q1 q2 n) (x y : Nat) : OrdAt ((w.setCell ⟨b, 1, none⟩ (.int .i64 x)).setCell ⟨b, 1, none⟩ (.int .i64 y)) b q0 y q2 n := by
  obtain ⟨p0, p1, p2, p3, fz⟩ := h
  refine ⟨?_, ?_, ?_, ?_, fun o => by simpa using fz o⟩
  · rw [cell_set_off (by omega), cell_set_off (by omega)]; exact p0
  · exact World.cell?_setCell_same _ _ _ (World.cell?_setCell_same _ _ _ p1)
  · rw [cell_set_off (by omega), cell_set_off (by omega)]; exact p2
  · rw [cell_set_off (by omega), cell_set_off (by omega)]; exact p3
theorem OrdAt.set22 {w : World} {b q0 q1 q2 n : Nat} (h : OrdAt w b q0 q1 q2 n) (x y : Nat) : OrdAt ((w.setCell ⟨b, 2, none⟩ (.int .i64 x)).setCell ⟨b, 2, none⟩ (.int .i64 y)) b q0 q1 y n := by
  obtain ⟨p0, p1, p2, p3, fz⟩ := h
  refine ⟨?_, ?_, ?_, ?_, fun o => by simpa using fz o⟩
  · rw [cell_set_off (by omega), cell_set_off (by omega)]; exact p0
  · rw [cell_set_off (by omega), cell_set_off (by omega)]; exact p1
  · exact World.cell?_setCell_same _ _ _ (World.cell?_setCell_same _ _ _ p2)
  · rw [cell_set_off (by omega), cell_set_off (by omega)]; exact p3
theorem OrdAt.set20 {w : World} {b q0 q1 q2 n : Nat} (h : OrdAt w b q0 q1 q2 n) (x y : Nat) : OrdAt ((w.setCell ⟨b, 2, none⟩ (.int .i64 x)).setCell ⟨b, 0, none⟩ (.int .i64 y)) b y q1 x n := by
  obtain ⟨p0, p1, p2, p3, fz⟩ := h
  refine ⟨?_, ?_, ?_, ?_, fun o => by simpa using fz o⟩
  · exact World.cell?_setCell_same _ _ _ (by rw [cell_set_off (by omega)]; exact p0)
  · rw [cell_set_off (by omega), cell_set_off (by omega)]; exact p1
  · rw [cell_set_off (by omega)]; exact World.cell?_setCell_same _ _ _ p2
  · rw [cell_set_off (by omega), cell_set_off (by omega)]; exact p3
theorem OrdAt.set21 {w : World} {b q0 q1 q2 n : Nat} (h : OrdAt w b q0 q1 q2 n) (x y : Nat) : OrdAt ((w.setCell ⟨b, 2, none⟩ (.int .i64 x)).setCell ⟨b, 1, none⟩ (.int .i64 y)) b q0 y x n := by
  obtain ⟨p0, p1, p2, p3, fz⟩ := h
  refine ⟨?_, ?_, ?_, ?_, fun o => by simpa using fz o⟩
  · rw [cell_set_off (by omega), cell_set_off (by omega)]; exact p0
  · exact World.cell?_setCell_same _ _ _ (by rw [cell_set_off (by omega)]; exact p1)
  · rw [cell_set_off (by omega)]; exact World.cell?_setCell_same _ _ _ p2
  · rw [cell_set_off (by omega), cell_set_off (by omega)]; exact p3

set_option maxHeartbeats 1000000 in
theorem poll1_any (tb : Nat) (w : World) (ht : tb < w.heap.size) :
    Calls Yaid.prog 10 #[.int .i64 1, .pointer (some ⟨tb, 0, none⟩)] w fun e w' => e = .returned (.agg #[.int .i64 0, .int .i64 0, .int .i64 0, .int .i64 1]) ∧ w.grownBy w' (some tb) := by
  go_enter Yaid.func10, Yaid.ntmps10
  go_wp2
  go_rounds 2
  go_rounds 1
  refine bodyPost_ret (v := .agg #[.int .i64 0, .int .i64 0, .int .i64 0, .int .i64 1]) (by simp [results, Yaid.results10, go_sem]) rfl ⟨rfl, ?_⟩
  exact grown_alloc (grown_alloc (grown_refl _ _) _) _

set_option maxHeartbeats 1000000 in
theorem poll2_any (tb : Nat) (a : Option Addr) (len cap : Nat) (z : Nat → Int) (b : Int) (w : World) (hT : TapeAt w tb a len cap 0 0 b) (hN : NumsAt w tb a len z) (ha : 0 < len → ∀ b off, a = some ⟨b, off, none⟩ → b < w.heap.size) (hlen : len ≤ 9223372036854775807) :
    Calls Yaid.prog 10 #[.int .i64 2, .pointer (some ⟨tb, 0, none⟩)] w fun e w' => e = .returned (.agg #[.int .i64 ((poll2 (tv z len 0 % 2)).1 : Nat), .int .i64 ((poll2 (tv z len 0 % 2)).2.1 : Nat), .int .i64 ((poll2 (tv z len 0 % 2)).2.2 : Nat), .int .i64 2]) ∧ w.grownBy w' (some tb) := by
  have ht := hT.lt
  have S := pollSt_made hT hN 0 1 0 2
  have HA : Hid _ := ha
  clear hT hN ha
  have HX : Hid _ := S
  clear S
  obtain ⟨j, hj⟩ : ∃ j, tv z len 0 % 2 = j := ⟨_, rfl⟩
  have hj2 : j = 0 ∨ j = 1 := by omega
  have HJ : Hid (tv z len 0 % 2 = j) := hj
  rw [hj]
  clear hj
  go_enter Yaid.func10, Yaid.ntmps10
  go_wp2
  go_rounds 3
  have HS := HX.out
  clear HX
  generalize (w.alloc (.cells #[.int .i64 0, .int .i64 0, .int .i64 0, .int .i64 0] 46)).alloc (.cells #[.int .i64 ((0 : Nat) : Int), .int .i64 ((1 : Nat) : Int), .int .i64 ((0 : Nat) : Int), .int .i64 ((2 : Nat) : Int)] 46) = W at HS
  have HS0 : Hid (PollSt w W tb a len cap z 0 0 0 1 0 2) := HS
  clear HS
  obtain ⟨bb, hTW⟩ := HS0.out.tape
  have HTW : Hid _ := hTW
  clear hTW
  refine wp_loop_rounds 2 ?_
  rw [rounds_succ]
  rcases hj2 with rfl | rfl
  · go_wp2_with (go_at_call 18; refine (nextMod2 tb len cap 0 0 a bb z _ 0 (by rw [HJ.out]; rfl) HTW.out HS0.out.nums hlen (by omega)).mono ?_; rintro e w1 ⟨rfl, b1, hT1, hg1⟩)
    have HS1 := HS0.out.tapeStep ht hT1 hg1
    clear HS0 HTW hT1 hg1 W
    have HS2 : Hid (PollSt w w1 tb a len cap z (tnx len 0) (0 + 1) 0 1 0 2) := HS1
    clear HS1
    obtain ⟨a0, a1, a2, a3, fz⟩ := HS2.out.ord
    go_wp2
    go_region
    go_wp2
    have HS3 := HS2.out.ordStep ht HA.out (HS2.out.ord.set10 0 1).drew (grown_drew (grown_setCell (grown_setCell (grown_refl _ _) _ _) _ _))
    obtain ⟨W2, hW2⟩ : ∃ W2, W2 = ((w1.setCell ⟨w.heap.size + 1, 1, none⟩ (.int .i64 0)).setCell ⟨w.heap.size + 1, 0, none⟩ (.int .i64 1)).drew := ⟨_, rfl⟩
    have HS4 : PollSt w W2 tb a len cap z (tnx len 0) (0 + 1) 1 0 0 2 := by rw [hW2]; exact HS3
    rw [← hW2]
    clear hW2 HS3 HS2 a0 a1 a2 a3 fz
    obtain ⟨r0, r1, r2, r3, rz⟩ := HS4.cells
    obtain ⟨a0, a1, a2, a3, fz⟩ := HS4.ord
    have HS5 : Hid (PollSt w W2 tb a len cap z (tnx len 0) (0 + 1) 1 0 0 2) := HS4
    clear HS4 w1
    rw [rounds_succ]
    go_wp2
    exact bodyPost_ret (v := .agg #[.int .i64 1, .int .i64 0, .int .i64 0, .int .i64 2]) (by simp [results, Yaid.results10, go_sem, r0, r1, r2, r3]) rfl ⟨rfl, HS5.out.ends _ _ _ _⟩
  · go_wp2_with (go_at_call 18; refine (nextMod2 tb len cap 0 0 a bb z _ 1 (by rw [HJ.out]; rfl) HTW.out HS0.out.nums hlen (by omega)).mono ?_; rintro e w1 ⟨rfl, b1, hT1, hg1⟩)
    have HS1 := HS0.out.tapeStep ht hT1 hg1
    clear HS0 HTW hT1 hg1 W
    have HS2 : Hid (PollSt w w1 tb a len cap z (tnx len 0) (0 + 1) 0 1 0 2) := HS1
    clear HS1
    obtain ⟨a0, a1, a2, a3, fz⟩ := HS2.out.ord
    go_wp2
    go_region
    go_wp2
    have HS3 := HS2.out.ordStep ht HA.out (HS2.out.ord.set11 1 1).drew (grown_drew (grown_setCell (grown_setCell (grown_refl _ _) _ _) _ _))
    obtain ⟨W2, hW2⟩ : ∃ W2, W2 = ((w1.setCell ⟨w.heap.size + 1, 1, none⟩ (.int .i64 1)).setCell ⟨w.heap.size + 1, 1, none⟩ (.int .i64 1)).drew := ⟨_, rfl⟩
    have HS4 : PollSt w W2 tb a len cap z (tnx len 0) (0 + 1) 0 1 0 2 := by rw [hW2]; exact HS3
    rw [← hW2]
    clear hW2 HS3 HS2 a0 a1 a2 a3 fz
    obtain ⟨r0, r1, r2, r3, rz⟩ := HS4.cells
    obtain ⟨a0, a1, a2, a3, fz⟩ := HS4.ord
    have HS5 : Hid (PollSt w W2 tb a len cap z (tnx len 0) (0 + 1) 0 1 0 2) := HS4
    clear HS4 w1
    rw [rounds_succ]
    go_wp2
    exact bodyPost_ret (v := .agg #[.int .i64 0, .int .i64 1, .int .i64 0, .int .i64 2]) (by simp [results, Yaid.results10, go_sem, r0, r1, r2, r3]) rfl ⟨rfl, HS5.out.ends _ _ _ _⟩

set_option maxHeartbeats 2000000 in
theorem poll3_any (tb : Nat) (a : Option Addr) (len cap : Nat) (z : Nat → Int) (b : Int) (w : World) (hT : TapeAt w tb a len cap 0 0 b) (hN : NumsAt w tb a len z) (ha : 0 < len → ∀ b off, a = some ⟨b, off, none⟩ → b < w.heap.size) (hlen : len ≤ 9223372036854775807) :
    Calls Yaid.prog 10 #[.int .i64 3, .pointer (some ⟨tb, 0, none⟩)] w fun e w' => ∃ p0 p1 p2 : Nat, poll3 (tv z len 0 % 3) (tv z len (tnx len 0) % 2) = (p0, p1, p2) ∧ e = .returned (.agg #[.int .i64 p0, .int .i64 p1, .int .i64 p2, .int .i64 3]) ∧ w.grownBy w' (some tb) := by
  have ht := hT.lt
  have S := pollSt_made hT hN 0 1 2 3
  have HA : Hid _ := ha
  clear hT hN ha
  have HX : Hid _ := S
  clear S
  obtain ⟨j, hj⟩ : ∃ j, tv z len 0 % 3 = j := ⟨_, rfl⟩
  have hj2 : j = 0 ∨ j = 1 ∨ j = 2 := by omega
  have HJ : Hid (tv z len 0 % 3 = j) := hj
  obtain ⟨k, hk⟩ : ∃ k, tv z len (tnx len 0) % 2 = k := ⟨_, rfl⟩
  have hk2 : k = 0 ∨ k = 1 := by omega
  have HK : Hid (tv z len (tnx len 0) % 2 = k) := hk
  rw [hj, hk]
  clear hj hk
  go_enter Yaid.func10, Yaid.ntmps10
  go_wp2
  go_rounds 4
  have HS := HX.out
  clear HX
  generalize (w.alloc (.cells #[.int .i64 0, .int .i64 0, .int .i64 0, .int .i64 0] 46)).alloc (.cells #[.int .i64 ((0 : Nat) : Int), .int .i64 ((1 : Nat) : Int), .int .i64 ((2 : Nat) : Int), .int .i64 ((3 : Nat) : Int)] 46) = W at HS
  have HS0 : Hid (PollSt w W tb a len cap z 0 0 0 1 2 3) := HS
  clear HS
  obtain ⟨bb, hTW⟩ := HS0.out.tape
  have HTW : Hid _ := hTW
  clear hTW
  refine wp_loop_rounds 3 ?_
  rw [rounds_succ]
  go_wp2_with (go_at_call 18; refine (nextMod3 tb len cap 0 0 a bb z _ (j : Int) (by rw [HJ.out]) HTW.out HS0.out.nums hlen (by omega)).mono ?_; rintro e w1 ⟨rfl, b1, hT1, hg1⟩)
  have HS1 := HS0.out.tapeStep ht hT1 hg1
  clear HS0 HTW hT1 hg1 W
  have HS2 : Hid (PollSt w w1 tb a len cap z (tnx len 0) (0 + 1) 0 1 2 3) := HS1
  clear HS1
  obtain ⟨a0, a1, a2, a3, fz⟩ := HS2.out.ord
  have hO0 := HS2.out.ordStep ht HA.out (HS2.out.ord.set20 0 2).drew (grown_drew (grown_setCell (grown_setCell (grown_refl _ _) _ _) _ _))
  have hO1 := HS2.out.ordStep ht HA.out (HS2.out.ord.set21 1 2).drew (grown_drew (grown_setCell (grown_setCell (grown_refl _ _) _ _) _ _))
  have hO2 := HS2.out.ordStep ht HA.out (HS2.out.ord.set22 2 2).drew (grown_drew (grown_setCell (grown_setCell (grown_refl _ _) _ _) _ _))
  have HO0 : Hid _ := hO0
  have HO1 : Hid _ := hO1
  have HO2 : Hid _ := hO2
  clear hO0 hO1 hO2
  rcases hj2 with rfl | rfl | rfl
  case' inl =>
    go_wp2
    go_region
    obtain ⟨W2, hW2⟩ : ∃ W2, W2 = ((w1.setCell ⟨w.heap.size + 1, 2, none⟩ (.int .i64 0)).setCell ⟨w.heap.size + 1, 0, none⟩ (.int .i64 2)).drew := ⟨_, rfl⟩
    have HS4 : Hid (∃ q0 q1 q2, PollSt w W2 tb a len cap z (tnx len 0) 1 q0 q1 q2 3 ∧ mid3 0 = (q0, q1, q2)) := ⟨2, 1, 0, by rw [hW2]; exact HO0.out, rfl⟩
  case' inr.inl =>
    go_wp2
    go_region
    obtain ⟨W2, hW2⟩ : ∃ W2, W2 = ((w1.setCell ⟨w.heap.size + 1, 2, none⟩ (.int .i64 1)).setCell ⟨w.heap.size + 1, 1, none⟩ (.int .i64 2)).drew := ⟨_, rfl⟩
    have HS4 : Hid (∃ q0 q1 q2, PollSt w W2 tb a len cap z (tnx len 0) 1 q0 q1 q2 3 ∧ mid3 1 = (q0, q1, q2)) := ⟨0, 2, 1, by rw [hW2]; exact HO1.out, rfl⟩
  case' inr.inr =>
    go_wp2
    go_region
    obtain ⟨W2, hW2⟩ : ∃ W2, W2 = ((w1.setCell ⟨w.heap.size + 1, 2, none⟩ (.int .i64 2)).setCell ⟨w.heap.size + 1, 2, none⟩ (.int .i64 2)).drew := ⟨_, rfl⟩
    have HS4 : Hid (∃ q0 q1 q2, PollSt w W2 tb a len cap z (tnx len 0) 1 q0 q1 q2 3 ∧ mid3 2 = (q0, q1, q2)) := ⟨0, 1, 2, by rw [hW2]; exact HO2.out, rfl⟩
  all_goals
    rw [← hW2]
    clear hW2 HO0 HO1 HO2 HS2 a0 a1 a2 a3 fz
    obtain ⟨q0, q1, q2, hS5, hmid⟩ := HS4.out
    have HS5 : Hid _ := hS5
    have HM : Hid _ := hmid
    clear hS5 hmid HS4 w1
    go_wp2
    rw [rounds_succ]
    obtain ⟨bc, hTW⟩ := HS5.out.tape
    have HTW : Hid _ := hTW
    clear hTW
    go_wp2_with (go_at_call 18; refine (nextMod2 tb len cap (tnx len 0) 1 a bc z _ (k : Int) (by rw [HK.out]) HTW.out HS5.out.nums hlen (by omega)).mono ?_; rintro e w3 ⟨rfl, b3, hT3, hg3⟩)
    have HS6 : Hid _ := HS5.out.tapeStep ht hT3 hg3
    clear HS5 HTW hT3 hg3 W2
    obtain ⟨a0, a1, a2, a3, fz⟩ := HS6.out.ord
    have HP0 : Hid _ := HS6.out.ordStep ht HA.out (HS6.out.ord.set10 q0 q1).drew (grown_drew (grown_setCell (grown_setCell (grown_refl _ _) _ _) _ _))
    have HP1 : Hid _ := HS6.out.ordStep ht HA.out (HS6.out.ord.set11 q1 q1).drew (grown_drew (grown_setCell (grown_setCell (grown_refl _ _) _ _) _ _))
    rcases hk2 with rfl | rfl
    · go_wp2
      go_region
      obtain ⟨W4, hW4⟩ : ∃ W4, W4 = ((w3.setCell ⟨w.heap.size + 1, 1, none⟩ (.int .i64 q0)).setCell ⟨w.heap.size + 1, 0, none⟩ (.int .i64 q1)).drew := ⟨_, rfl⟩
      have HS7 := HP0.out
      rw [← hW4] at HS7 ⊢
      clear hW4 HP0 HP1 HS6 a0 a1 a2 a3 fz
      obtain ⟨r0, r1, r2, r3, rz⟩ := HS7.cells
      obtain ⟨a0, a1, a2, a3, fz⟩ := HS7.ord
      have HS8 : Hid _ := HS7
      clear HS7 w3
      go_wp2
      rw [rounds_succ]
      go_wp2
      exact bodyPost_ret (v := .agg #[.int .i64 q1, .int .i64 q0, .int .i64 q2, .int .i64 3]) (by simp [results, Yaid.results10, go_sem, r0, r1, r2, r3]) rfl ⟨q1, q0, q2, poll3_zero HM.out, rfl, HS8.out.ends _ _ _ _⟩
    · go_wp2
      go_region
      obtain ⟨W4, hW4⟩ : ∃ W4, W4 = ((w3.setCell ⟨w.heap.size + 1, 1, none⟩ (.int .i64 q1)).setCell ⟨w.heap.size + 1, 1, none⟩ (.int .i64 q1)).drew := ⟨_, rfl⟩
      have HS7 := HP1.out
      rw [← hW4] at HS7 ⊢
      clear hW4 HP0 HP1 HS6 a0 a1 a2 a3 fz
      obtain ⟨r0, r1, r2, r3, rz⟩ := HS7.cells
      obtain ⟨a0, a1, a2, a3, fz⟩ := HS7.ord
      have HS8 : Hid _ := HS7
      clear HS7 w3
      go_wp2
      rw [rounds_succ]
      go_wp2
      exact bodyPost_ret (v := .agg #[.int .i64 q0, .int .i64 q1, .int .i64 q2, .int .i64 3]) (by simp [results, Yaid.results10, go_sem, r0, r1, r2, r3]) rfl ⟨q0, q1, q2, poll3_one HM.out, rfl, HS8.out.ends _ _ _ _⟩
end Go.Proofs.Ygdaig
