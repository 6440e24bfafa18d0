/-
  law.HeapSortsOf over tm.Heap: THE WALK.
-/
import Derived.Test.YgdaigHeapDel
import Derived.Test.YgdaigHeapLaw
namespace Go.Proofs.Ygdaig
open Go.RowKit

def z313 : Array Value := Array.replicate 313 (.int .i64 0)
theorem zero41 (w : World) : (zeroValue 41).run Yaid.prog w = .ok (.agg z313) w := by kernel_rfl

set_option maxHeartbeats 400000 in
set_option maxRecDepth 100000 in
theorem new_any (w : World) :
    Calls Yaid.prog 14 #[] w fun e w' => 
      e = .returned (.iface 36 (.pointer (some ⟨w.heap.size, 0, none⟩))) ∧ w' = w.alloc (.cells z313 41) := by
  have hz := zero41
  go_enter Yaid.func14, Yaid.ntmps14
  go_wp2
  go_ret
  exact ⟨rfl, rfl⟩
theorem zcell (i : Nat) (h : i < 313) : z313[i]? = some (.int .i64 0) := by
  unfold z313
  simp [h]
theorem heap_made (w : World) : HeapAt (w.alloc (.cells z313 41)) w.heap.size 0 (fun _ => ⟨0, 0, 0, 0⟩) := by
  have c : ∀ o, o < 313 → (w.alloc (.cells z313 41)).cell? ⟨w.heap.size, o, none⟩ = some (.int .i64 0) := fun o ho => by
    rw [World.cell?_alloc_new]; exact zcell o ho
  exact ⟨fun i hi => ⟨c _ (by omega), c _ (by omega), c _ (by omega), c _ (by omega)⟩, c _ (by omega), fun o => World.frozen?_alloc_new _ _ _ _⟩

set_option maxHeartbeats 400000 in
theorem len_any (b n : Nat) (w : World) (f : Nat → Tm) (H : HeapAt w b n f) :
    Calls Yaid.prog 51 #[.pointer (some ⟨b, 0, none⟩)] w fun e w' => e = .returned (.int .i64 n) ∧ w' = w := by
  have c312 := H.2.1
  clear H
  go_enter Yaid.func51, Yaid.ntmps51
  go_wp2
  go_ret
  exact ⟨rfl, rfl⟩

set_option maxHeartbeats 400000 in
theorem hs_long (a : Option Addr) (len cap : Nat) (w : World) (h : 6 < len) :
    Calls Yaid.prog 13 #[.func (.func 14) #[] #[], .slice a len cap] w fun e w' => 
      e = .returned (.bool true) ∧ Below w.heap.size w w' := by
  go_enter Yaid.func13, Yaid.ntmps13
  go_wp2
  go_ret
  exact ⟨rfl, Below.refl _ _⟩

def SeenAt (w : World) (b : Nat) (s : Nat → Bool) : Prop :=
  (∀ j, j < 6 → w.cell? ⟨b, j, none⟩ = some (.bool (s j))) ∧ ∀ o, w.frozen? ⟨b, o, none⟩ = false
def PrevAt (w : World) (b : Nat) (p : Tm) : Prop :=
  w.cell? ⟨b, 0, none⟩ = some (.int .i64 p.w) ∧ w.cell? ⟨b, 1, none⟩ = some (.int .i64 p.g) ∧ w.cell? ⟨b, 2, none⟩ = some (.int .i64 p.c) ∧ w.cell? ⟨b, 3, none⟩ = some (.int .i64 p.v) ∧ ∀ o, w.frozen? ⟨b, o, none⟩ = false
theorem SeenAt.of_block {w w' : World} {b : Nat} {s : Nat → Bool} (h : SeenAt w b s) (e : w'.heap[b]? = w.heap[b]?) : SeenAt w' b s :=
  ⟨fun j hj => (World.cell?_of_block (a := ⟨b, j, none⟩) e).trans (h.1 j hj), fun o => (World.frozen?_of_block (a := ⟨b, o, none⟩) e).trans (h.2 o)⟩
theorem PrevAt.of_block {w w' : World} {b : Nat} {p : Tm} (h : PrevAt w b p) (e : w'.heap[b]? = w.heap[b]?) : PrevAt w' b p :=
  ⟨(World.cell?_of_block (a := ⟨b, 0, none⟩) e).trans h.1, (World.cell?_of_block (a := ⟨b, 1, none⟩) e).trans h.2.1, (World.cell?_of_block (a := ⟨b, 2, none⟩) e).trans h.2.2.1,
    (World.cell?_of_block (a := ⟨b, 3, none⟩) e).trans h.2.2.2.1, fun o => (World.frozen?_of_block (a := ⟨b, o, none⟩) e).trans (h.2.2.2.2 o)⟩
theorem SeenAt.lt {w : World} {b : Nat} {s : Nat → Bool} (h : SeenAt w b s) : b < w.heap.size := World.block_lt_of_cell? w _ (h.1 0 (by omega))
theorem PrevAt.lt {w : World} {b : Nat} {p : Tm} (h : PrevAt w b p) : b < w.heap.size := World.block_lt_of_cell? w _ h.1
theorem SeenAt.set {w : World} {b : Nat} {s : Nat → Bool} (h : SeenAt w b s) (g : Nat) (hg : g < 6) : SeenAt (w.setCell ⟨b, g, none⟩ (.bool true)) b (mark s g) := by
  refine ⟨fun j hj => ?_, fun o => by simpa using h.2 o⟩
  unfold mark
  by_cases e : j = g
  · subst e; rw [if_pos rfl]; exact World.cell?_setCell_same _ _ _ (h.1 j hj)
  · rw [if_neg e, cell_set_off (Ne.symm e)]; exact h.1 j hj
theorem PrevAt.set {w : World} {b : Nat} {p : Tm} (h : PrevAt w b p) (x : Tm) :
    PrevAt ((((w.setCell ⟨b, 0, none⟩ (.int .i64 x.w)).setCell ⟨b, 1, none⟩ (.int .i64 x.g)).setCell ⟨b, 2, none⟩ (.int .i64 x.c)).setCell ⟨b, 3, none⟩ (.int .i64 x.v)) b x := by
  obtain ⟨p0, p1, p2, p3, fz⟩ := h
  refine ⟨?_, ?_, ?_, ?_, fun o => by simpa using fz o⟩
  · rw [cell_set_off (by omega), cell_set_off (by omega), cell_set_off (by omega)]; exact World.cell?_setCell_same _ _ _ p0
  · rw [cell_set_off (by omega), cell_set_off (by omega)]; exact World.cell?_setCell_same _ _ _ (by rw [cell_set_off (by omega)]; exact p1)
  · rw [cell_set_off (by omega)]; exact World.cell?_setCell_same _ _ _ (by rw [cell_set_off (by omega), cell_set_off (by omega)]; exact p2)
  · exact World.cell?_setCell_same _ _ _ (by rw [cell_set_off (by omega), cell_set_off (by omega), cell_set_off (by omega)]; exact p3)

theorem hs_rel {w v : World} {N sb n : Nat} {f : Nat → Tm} {s : Nat → Bool} {p x : Tm} (H : HeapAt v N n f) (hS : SeenAt v sb s) (hP : PrevAt v (sb + 1) p) (hB : Below N w v) (h1 : N ≠ sb) (h2 : N ≠ sb + 1) (h3 : N ≤ sb) (_h4 : N < sb) (g : Nat) (hg : g < 6) :
    HeapAt (((((v.setCell ⟨sb, g, none⟩ (.bool true)).setCell ⟨sb + 1, 0, none⟩ (.int .i64 x.w)).setCell ⟨sb + 1, 1, none⟩ (.int .i64 x.g)).setCell ⟨sb + 1, 2, none⟩ (.int .i64 x.c)).setCell ⟨sb + 1, 3, none⟩ (.int .i64 x.v)) N n f ∧
    SeenAt (((((v.setCell ⟨sb, g, none⟩ (.bool true)).setCell ⟨sb + 1, 0, none⟩ (.int .i64 x.w)).setCell ⟨sb + 1, 1, none⟩ (.int .i64 x.g)).setCell ⟨sb + 1, 2, none⟩ (.int .i64 x.c)).setCell ⟨sb + 1, 3, none⟩ (.int .i64 x.v)) sb (mark s g) ∧
    PrevAt (((((v.setCell ⟨sb, g, none⟩ (.bool true)).setCell ⟨sb + 1, 0, none⟩ (.int .i64 x.w)).setCell ⟨sb + 1, 1, none⟩ (.int .i64 x.g)).setCell ⟨sb + 1, 2, none⟩ (.int .i64 x.c)).setCell ⟨sb + 1, 3, none⟩ (.int .i64 x.v)) (sb + 1) x ∧
    Below N w (((((v.setCell ⟨sb, g, none⟩ (.bool true)).setCell ⟨sb + 1, 0, none⟩ (.int .i64 x.w)).setCell ⟨sb + 1, 1, none⟩ (.int .i64 x.g)).setCell ⟨sb + 1, 2, none⟩ (.int .i64 x.c)).setCell ⟨sb + 1, 3, none⟩ (.int .i64 x.v)) := by
  refine ⟨?_, ?_, ?_, ?_⟩
  · refine H.of_block ?_
    rw [Below.heap_setCell _ _ _ _ h2, Below.heap_setCell _ _ _ _ h2, Below.heap_setCell _ _ _ _ h2, Below.heap_setCell _ _ _ _ h2, Below.heap_setCell _ _ _ _ h1]
  · refine (hS.set g hg).of_block ?_
    rw [Below.heap_setCell _ _ _ _ (by simp), Below.heap_setCell _ _ _ _ (by simp), Below.heap_setCell _ _ _ _ (by simp), Below.heap_setCell _ _ _ _ (by simp)]
  · exact (hP.of_block (Below.heap_setCell _ _ _ _ (by simp))).set x
  · exact ((((hB.setCell h3 _).setCell (by simp; omega) _).setCell (by simp; omega) _).setCell (by simp; omega) _).setCell (by simp; omega) _

set_option maxHeartbeats 400000 in
theorem hs_short (a : Option Addr) (len cap : Nat) (z : Nat → Int) (w : World) (h : len ≤ 6)
   (hrow : 0 < len → ∃ b off, a = some ⟨b, off, none⟩ ∧ b < w.heap.size ∧ ∀ j, j < len → w.cell? ⟨b, off + j, none⟩ = some (.int .i64 (z j))) :
    Calls Yaid.prog 13 #[.func (.func 14) #[] #[], .slice a len cap] w fun e w' => 
      e = .returned (.bool true) ∧ Below w.heap.size w w' := by
  have HR : Hid _ := hrow
  clear hrow
  have hlen : ¬ (6 : Int) < (len : Int) := by omega
  go_enter Yaid.func13, Yaid.ntmps13
  go_wp2_with (go_at_call 14; refine (new_any _).mono ?_; rintro e w' ⟨rfl, rfl⟩)
  go_loopw [22] (fun v22 wr => ∃ (k : Nat) (f : Nat → Tm), v22 = .int .i64 k ∧ k ≤ len ∧ HeapAt wr w.heap.size k f ∧ IsHp f k ∧ (content f k).Perm ((List.range k).map (tmOf z)) ∧ Below w.heap.size w wr) 
    (fun v22 _ => len - (intOf v22).toNat)
  case atStart => 
    exact ⟨0, _, rfl, by omega, heap_made w, fun c h0 hc => by omega, by simp [content], (Below.refl _ _).alloc (Nat.le_refl _) _⟩
  case round =>
    obtain ⟨k, f, rfl, hk, H, hp, hperm, hbel⟩ := hrel
    by_cases hlt : k < len
    · obtain ⟨b, off, rfl, hb, hc⟩ := HR.out (by omega)
      have hcell : wr.cell? ⟨b, off + k, none⟩ = some (.int .i64 (z k)) := (hbel.cell (p := ⟨b, off + k, none⟩) hb).trans (hc k hlt)
      have HH : Hid (HeapAt wr w.heap.size k f) := H
      have HB : Hid (Below w.heap.size w wr) := hbel
      clear H hc hbel
      go_wp2_with (go_at_call 47; refine (add_any _ _ _ _ _ f (by omega) HH.out hp).mono ?_; rintro e w' ⟨rfl, f', hq1, hq2, hq3, hq4⟩)
      go_roundw
      case rel =>
        refine ⟨k + 1, f', by go_num, by omega, hq1, hq2, ?_, ?_⟩
        · rw [List.range_succ, List.map_append]
          exact hq3.trans (List.Perm.append_right _ hperm)
        · exact below_of_grown HB.out hq4 HB.out.size (Nat.le_refl _)
      case measure => simp [intOf]; omega
    · obtain rfl : k = len := by omega
      have hz := hbel.size
      have HH : Hid (HeapAt wr w.heap.size k f) := H
      have HB : Hid (Below w.heap.size w wr) := hbel
      have hnl := H.lt
      have HL : Hid (Left z k (fun _ => false) ⟨0, 0, 0, 0⟩ 0 (content f k)) := left_start _ hperm
      clear H hbel hperm
      rename World => w1
      go_wp2
      go_loopw [36] (fun v36 wr => ∃ (i n : Nat) (f : Nat → Tm) (s : Nat → Bool) (p : Tm), v36 = .int .i64 i ∧ i + n = k ∧ HeapAt wr w.heap.size n f ∧ IsHp f n ∧ SeenAt wr w1.heap.size s ∧ PrevAt wr (w1.heap.size + 1) p ∧ Left z k s p i (content f n) ∧ Below w.heap.size w wr)
        (fun v36 _ => k - (intOf v36).toNat)
      case atStart =>
        refine ⟨0, k, f, fun _ => false, ⟨0, 0, 0, 0⟩, rfl, by omega, (HH.out.alloc _).alloc _, hp, ?_, ?_, HL.out, ?_⟩
        · refine SeenAt.of_block (w := w1.alloc (.cells #[.bool false, .bool false, .bool false, .bool false, .bool false, .bool false] 82)) ⟨fun j hj => ?_, fun o => World.frozen?_alloc_new _ _ _ _⟩ (Below.heap_alloc _ _ _ (by simp))
          rw [World.cell?_alloc_new]
          match j, hj with
          | 0, _ => rfl
          | 1, _ => rfl
          | 2, _ => rfl
          | 3, _ => rfl
          | 4, _ => rfl
          | 5, _ => rfl
        · rw [← World.size_alloc w1 (.cells #[.bool false, .bool false, .bool false, .bool false, .bool false, .bool false] 82)]
          exact ⟨World.cell?_alloc_new _ _ _ _, World.cell?_alloc_new _ _ _ _, World.cell?_alloc_new _ _ _ _, World.cell?_alloc_new _ _ _ _, fun o => World.frozen?_alloc_new _ _ _ _⟩
        · exact (HB.out.alloc hz _).alloc (by simp; omega) _
      case round =>
        obtain ⟨i, n, f, s, p, rfl, hin, H, hp, hS, hP, hL, hbel⟩ := hrel
        have hnl2 := H.lt
        have hSl := hS.lt
        have hPl := hP.lt
        by_cases hlt : i < k
        · obtain ⟨n, rfl⟩ : ∃ m, n = m + 1 := ⟨n - 1, by omega⟩
          have HH : Hid (HeapAt wr w.heap.size (n + 1) f) := H
          have HB : Hid (Below w.heap.size w wr) := hbel
          have HS : Hid (SeenAt wr w1.heap.size s) := hS
          have HP : Hid (PrevAt wr (w1.heap.size + 1) p) := hP
          have HL : Hid (Left z k s p i (content f (n + 1))) := hL
          clear H hbel hS hP hL
          go_wp2_with (go_at_call 49; refine (delmin_any _ n _ f (by omega) HH.out hp).mono ?_; rintro e w' ⟨rfl, f', hq1, hq2, hq3, hq4⟩)
          obtain ⟨g, hg, ef, hsg, hple, hL2⟩ := left_del HL.out hp hq3
          have e0 : (f 0).w = z g := by rw [ef]; rfl
          have e1 : (f 0).g = (g : Int) := by rw [ef]; rfl
          have e2 : (f 0).c = -1 := by rw [ef]; rfl
          have e3 : (f 0).v = 0 := by rw [ef]; rfl
          obtain ⟨b, off, rfl, hb, hc⟩ := HR.out (by omega)
          have hB2 : Below w.heap.size w w' := below_of_grown HB.out hq4 HB.out.size (Nat.le_refl _)
          have hcw : w'.cell? ⟨b, off + g, none⟩ = some (.int .i64 (z g)) := (hB2.cell (p := ⟨b, off + g, none⟩) hb).trans (hc g hg)
          have hsz := hq4.size
          have hS2 : SeenAt w' w1.heap.size s := HS.out.of_block (hq4.block _ hSl (by simp; omega))
          have hP2 : PrevAt w' (w1.heap.size + 1) p := HP.out.of_block (hq4.block _ hPl (by simp; omega))
          have hbw : b < w'.heap.size := by omega
          rw [e0, e1, e2, e3]
          obtain ⟨W, hW⟩ : ∃ W, W = w'.alloc (.cells #[.int .i64 (z g), .int .i64 g, .int .i64 (-1), .int .i64 0] 38) := ⟨_, rfl⟩
          have hWs : w'.heap.size < W.heap.size := by rw [hW]; simp
          have hWo : Below w'.heap.size w' W := by rw [hW]; exact (Below.refl _ _).alloc (Nat.le_refl _) _
          have t0 : W.cell? ⟨w'.heap.size, 0, none⟩ = some (.int .i64 (z g)) := by rw [hW]; exact World.cell?_alloc_new _ _ _ _
          have t1 : W.cell? ⟨w'.heap.size, 1, none⟩ = some (.int .i64 g) := by rw [hW]; exact World.cell?_alloc_new _ _ _ _
          have t2 : W.cell? ⟨w'.heap.size, 2, none⟩ = some (.int .i64 (-1)) := by rw [hW]; exact World.cell?_alloc_new _ _ _ _
          have t3 : W.cell? ⟨w'.heap.size, 3, none⟩ = some (.int .i64 0) := by rw [hW]; exact World.cell?_alloc_new _ _ _ _
          rw [← hW]
          clear hW e0 e1 e2 e3
          have HL2 : Hid (Left z k (mark s g) (f 0) (i + 1) (content f' n)) := hL2
          have HQ1 : Hid (HeapAt W w.heap.size n f') := hq1.below hWo
          have HB2 : Hid (Below w.heap.size w W) := hB2.trans (hWo.mono hB2.size)
          have hS3 : SeenAt W w1.heap.size s := hS2.of_block (hWo.block _ (by omega))
          have hP3 : PrevAt W (w1.heap.size + 1) p := hP2.of_block (hWo.block _ (by omega))
          have hcw2 : W.cell? ⟨b, off + g, none⟩ = some (.int .i64 (z g)) := (hWo.cell (p := ⟨b, off + g, none⟩) hbw).trans hcw
          clear hL2 hq1 hB2 hWo hS2 hP2 hc hq3 hq4 hcw
          have s1 : ∀ q : Later W, q.val.cell? ⟨w'.heap.size, 0, none⟩ = some (.int .i64 (z g)) := fun q => (q.cell _ _ hWs).trans t0
          have s2 : ∀ q : Later W, q.val.cell? ⟨w'.heap.size, 1, none⟩ = some (.int .i64 g) := fun q => (q.cell _ _ hWs).trans t1
          have s3 : ∀ q : Later W, q.val.cell? ⟨w'.heap.size, 2, none⟩ = some (.int .i64 (-1)) := fun q => (q.cell _ _ hWs).trans t2
          have s4 : ∀ q : Later W, q.val.cell? ⟨w'.heap.size, 3, none⟩ = some (.int .i64 0) := fun q => (q.cell _ _ hWs).trans t3
          have s5 : ∀ q : Later W, q.val.cell? ⟨w1.heap.size, g, none⟩ = some (.bool false) := fun q => ((q.cell _ _ hS3.lt).trans (hS3.1 g (by omega))).trans (by rw [hsg])
          have s6 : ∀ q : Later W, q.val.cell? ⟨w1.heap.size + 1, 0, none⟩ = some (.int .i64 p.w) := fun q => (q.cell _ _ hP3.lt).trans hP3.1
          have s7 : ∀ q : Later W, q.val.cell? ⟨w1.heap.size + 1, 1, none⟩ = some (.int .i64 p.g) := fun q => (q.cell _ _ hP3.lt).trans hP3.2.1
          have s8 : ∀ q : Later W, q.val.cell? ⟨w1.heap.size + 1, 2, none⟩ = some (.int .i64 p.c) := fun q => (q.cell _ _ hP3.lt).trans hP3.2.2.1
          have s9 : ∀ q : Later W, q.val.cell? ⟨w1.heap.size + 1, 3, none⟩ = some (.int .i64 p.v) := fun q => (q.cell _ _ hP3.lt).trans hP3.2.2.2.1
          have s10 : ∀ q : Later W, q.val.cell? ⟨b, off + g, none⟩ = some (.int .i64 (z g)) := fun q => (q.cell _ _ (by omega)).trans hcw2
          have hne := later_some W
          have d1 : decide ((g : Int) < 0) = false := by simp
          have d2 : decide ((k : Int) ≤ (g : Int)) = false := by simp; omega
          have d2n : decide (k ≤ g) = false := by simp; omega
          have HS3 : Hid (SeenAt W w1.heap.size s) := hS3
          have HP3 : Hid (PrevAt W (w1.heap.size + 1) p) := hP3
          clear hS3 hP3 hcw2 t0 t1 t2 t3
          have hcase : (0 < i ∧ lessB (z g) g (-1) 0 p.w p.g p.c p.v = false) ∨ ¬ 0 < i := by
            by_cases hi0 : 0 < i
            · have := hple hi0
              rw [ef] at this
              exact .inl ⟨hi0, this⟩
            · exact .inr hi0
          have EF : Hid (f 0 = tmOf z g) := ef
          clear ef hple
          rcases hcase with ⟨hi0, hll⟩ | hi0
          case' inl =>
            have d3 : decide (0 < (i : Int)) = true := by simp; omega
            have d3n : decide (0 < i) = true := by simp; omega
          case' inr =>
            have d3 : decide (0 < (i : Int)) = false := by simp; omega
            have d3n : decide (0 < i) = false := by simp; omega
          all_goals
            refine wp_region_later (by kernel_rfl) (by kernel_rfl) ?_
            repeat (go_big_quiet_step ((go_at_call 25; refine later_call (less_any _ _ _ _ _ _ _ _ _))))
            refine wpQuiet_nil ?_
            intro v hv
            have r1 := s1 ⟨v, hv⟩
            have r2 := s2 ⟨v, hv⟩
            have r3 := s3 ⟨v, hv⟩
            have r4 := s4 ⟨v, hv⟩
            have r5 := s5 ⟨v, hv⟩
            have r6 := s6 ⟨v, hv⟩
            have r7 := s7 ⟨v, hv⟩
            have r8 := s8 ⟨v, hv⟩
            have r9 := s9 ⟨v, hv⟩
            clear s1 s2 s3 s4 s5 s6 s7 s8 s9 s10 hne
            simp only at r1 r2 r3 r4 r5 r6 r7 r8 r9
            have HSv := HS3.out.of_block (hv.block _ (by omega))
            have HPv := HP3.out.of_block (hv.block _ (by omega))
            have fz1 := HSv.2
            have fz2 := HPv.2.2.2.2
            have HS4 : Hid (SeenAt v w1.heap.size s) := HSv
            have HP4 : Hid (PrevAt v (w1.heap.size + 1) p) := HPv
            have HQ4 : Hid (HeapAt v w.heap.size n f') := HQ1.out.below hv
            have HB4 : Hid (Below w.heap.size w v) := HB2.out.trans (hv.mono HB2.out.size)
            have hvs := hv.size
            clear HSv HPv hv
            go_wp2
            have fin := hs_rel (x := tmOf z g) HQ4.out HS4.out HP4.out HB4.out (by omega) (by omega) (by omega) hnl g (by omega)
            have FIN : Hid _ := fin
            clear fin
            go_roundw
            case rel =>
              refine ⟨i + 1, n, f', mark s g, tmOf z g, by go_num, ?_, FIN.out.1, hq2, FIN.out.2.1, FIN.out.2.2.1, ?_, FIN.out.2.2.2⟩
              · omega
              · have := HL2.out; rw [EF.out] at this; exact this
            case measure => simp [intOf]; omega
        · obtain rfl : i = k := by omega
          obtain rfl : n = 0 := by omega
          have HB : Hid (Below w.heap.size w wr) := hbel
          have HH : Hid (HeapAt wr w.heap.size 0 f) := H
          clear H hbel hS hP hL
          go_wp2_with (first | (go_at_call 49; refine (delmin_none _ _ f HH.out).mono ?_; rintro e w' ⟨rfl, hq⟩) | (go_at_call 51; refine (len_any _ 0 _ f (by exact (HH.out.below hq).alloc _)).mono ?_; rintro e w' ⟨rfl, rfl⟩))
          go_ret
          exact ⟨rfl, (HB.out.trans (hq.mono HB.out.size)).alloc (Nat.le_trans HB.out.size hq.size) _⟩
end Go.Proofs.Ygdaig
