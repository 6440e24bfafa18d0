/-
  (*tm.Heap).DelMin: THE WALK.
-/
import Derived.Test.YgdaigHeapPush
namespace Go.Proofs.Ygdaig
open Go.RowKit

set_option maxHeartbeats 400000 in
theorem delmin_none (b : Nat) (w : World) (f : Nat → Tm) (H : HeapAt w b 0 f) :
    Calls Yaid.prog 49 #[.pointer (some ⟨b, 0, none⟩)] w fun e w' => 
      e = .returned (.tuple #[.agg #[.int .i64 0, .int .i64 0, .int .i64 0, .int .i64 0], .bool false]) ∧ Below w.heap.size w w' := by
  have hb := H.lt
  have c312 := H.2.1
  clear H
  go_enter Yaid.func49, Yaid.ntmps49
  go_wp2
  refine bodyPost_ret (v := .tuple #[.agg #[.int .i64 0, .int .i64 0, .int .i64 0, .int .i64 0], .bool false]) (by simp [results, Yaid.results49, go_sem]) rfl ⟨rfl, ?_⟩
  go_grown

/-- The result's cell and the root that was read, in their two new blocks. -/
def DelAt (w wr : World) (x : Tm) : Prop :=
  wr.heap[w.heap.size]? = some (.cells #[.int .i64 0, .int .i64 0, .int .i64 0, .int .i64 0] 38) ∧
  wr.heap[w.heap.size + 1]? = some (.cells #[.int .i64 x.w, .int .i64 x.g, .int .i64 x.c, .int .i64 x.v] 38)
theorem DelAt.drew {w wr : World} {x : Tm} (h : DelAt w wr x) : DelAt w wr.drew x := h
theorem DelAt.made {w w0 : World} (h : w0.heap.size = w.heap.size) (x : Tm) : DelAt w ((w0.alloc (.cells #[.int .i64 0, .int .i64 0, .int .i64 0, .int .i64 0] 38)).alloc (.cells #[.int .i64 x.w, .int .i64 x.g, .int .i64 x.c, .int .i64 x.v] 38)) x := by
  refine ⟨?_, ?_⟩
  · rw [Below.heap_alloc _ _ _ (by simp; omega), ← h]; exact heap_alloc_new w0 _
  · rw [← h, ← World.size_alloc w0 (.cells #[.int .i64 0, .int .i64 0, .int .i64 0, .int .i64 0] 38)]; exact heap_alloc_new (w0.alloc _) _
theorem DelAt.lt {w wr : World} {x : Tm} (h : DelAt w wr x) : w.heap.size + 1 < wr.heap.size := (Array.getElem?_eq_some_iff.1 h.2).1
theorem DelAt.below {w wr w' : World} {x : Tm} (h : DelAt w wr x) (k : Below wr.heap.size wr w') : DelAt w w' x := by
  have := h.lt
  exact ⟨(k.block _ (by omega)).trans h.1, (k.block _ (by omega)).trans h.2⟩
theorem DelAt.set {w wr : World} {x : Tm} (h : DelAt w wr x) {b : Nat} (hb : b < w.heap.size) (o : Nat) (v : Value) : DelAt w (wr.setCell ⟨b, o, none⟩ v) x :=
  ⟨(Below.heap_setCell _ _ _ _ (by simp; omega)).trans h.1, (Below.heap_setCell _ _ _ _ (by simp; omega)).trans h.2⟩

set_option maxHeartbeats 1000000 in
theorem delmin_any (b n : Nat) (w : World) (f : Nat → Tm) (hn : n < 78)
   (H : HeapAt w b (n + 1) f) (hp : IsHp f (n + 1)) :
    Calls Yaid.prog 49 #[.pointer (some ⟨b, 0, none⟩)] w fun e w' => 
      e = .returned (.tuple #[.agg #[.int .i64 (f 0).w, .int .i64 (f 0).g, .int .i64 (f 0).c, .int .i64 (f 0).v], .bool true]) ∧ 
      ∃ f', HeapAt w' b n f' ∧ IsHp f' n ∧ (content f (n + 1)).Perm (f 0 :: content f' n) ∧ w.grownBy w' (some b) := by
  have hb := H.lt
  have hn1 : (((n : Int) + 1) == 0) = false := by rw [beq_eq_false_iff_ne]; omega
  obtain ⟨a0, a1, a2, a3⟩ := H.1 n hn
  obtain ⟨u0, u1, u2, u3⟩ := H.1 0 (by omega)
  simp only [Nat.zero_mul, Nat.zero_add] at u0 u1 u2 u3
  have c312 := H.2.1
  have fz := H.2.2
  have HH : Hid (HeapAt w b (n + 1) f) := H
  clear H
  go_enter Yaid.func49, Yaid.ntmps49
  go_wp2
  go_region
  go_wp2
  clear a0 a1 a2 a3 u0 u1 u2 u3 c312 fz
  go_loopw [5] (fun v5 wr => ∃ (i : Nat) (f' : Nat → Tm), v5 = .int .i64 i ∧ (i = 0 ∨ i < n) ∧ HeapAt wr b n f' ∧ DnInv f' n i ∧ (content f (n + 1)).Perm (f 0 :: content f' n) ∧ w.grownBy wr (some b) ∧ DelAt w wr (f 0))
     (fun v5 _ => 100 - (intOf v5).toNat)
  case atStart =>
    refine ⟨0, upd f 0 (f n), rfl, .inl rfl, ?_, dn_start (f n) hp, content_del f n, ?_, ?_⟩
    · have := (((((HH.out.setN n rfl).setT 0 (by omega) (f n))).alloc (.cells #[.int .i64 0, .int .i64 0, .int .i64 0, .int .i64 0] 38)).alloc (.cells #[.int .i64 (f 0).w, .int .i64 (f 0).g, .int .i64 (f 0).c, .int .i64 (f 0).v] 38)).drew
      simpa only [Nat.zero_mul, Nat.zero_add] using this
    · exact grown_drew (grown_alloc (grown_alloc (grown_setCell (grown_setCell (grown_setCell (grown_setCell (grown_setCell (grown_refl w _) _ _) _ _) _ _) _ _) _ _) _) _)
    · exact (DelAt.made (by simp) _).drew
  case round =>
    obtain ⟨i, f', rfl, hi, H, hu, hperm, hg, hd⟩ := hrel
    rename World => w0
    have hbr := H.lt
    have HH : Hid (HeapAt w0 b n f') := H
    have hg' : Hid (w.grownBy w0 (some b)) := hg
    have hu' : Hid (DnInv f' n i) := hu
    have hperm' : Hid ((content f (n + 1)).Perm (f 0 :: content f' n)) := hperm
    have hd' : Hid (DelAt w w0 (f 0)) := hd
    clear H hg hu hperm hd
    go_wp2
    go_loopw [6, 7] (fun v6 v7 ws => ∃ l c : Nat, v6 = .int .i64 l ∧ v7 = .int .i64 c ∧ Least f' n i c l ∧ 4 * i + 1 ≤ c ∧ c ≤ 4 * i + 5 ∧ Below w0.heap.size w0 ws)
      (fun _ v7 _ => 500 - (intOf v7).toNat)
    case atStart => exact ⟨i, 4 * i + 1, rfl, by go_num, least_start f' n i, by omega, by omega, Below.refl _ _⟩
    case round =>
      obtain ⟨l, c, rfl, rfl, hl, hc1, hc2, hbel⟩ := hrel
      have H := HH.out.below hbel
      have hbr' := H.lt
      have hl2 : l < 78 := by rcases hl.1 with e | e <;> omega
      have c312 := H.2.1
      have HL : Hid (Least f' n i c l) := hl
      have HBel : Hid (Below w0.heap.size w0 wr) := hbel
      clear hl hbel
      by_cases hcont : c ≤ 4 * i + 4 ∧ c < n
      · obtain ⟨hc3, hc4⟩ := hcont
        obtain ⟨a0, a1, a2, a3⟩ := H.1 c (by omega)
        obtain ⟨u0, u1, u2, u3⟩ := H.1 l (by omega)
        have HH2 : Hid (HeapAt wr b n f') := H
        clear H
        have lc : ∀ (s : Later wr) (o : Nat), s.val.cell? ⟨b, o, none⟩ = wr.cell? ⟨b, o, none⟩ := fun s o => s.cell b o hbr'
        have hne := later_some wr
        go_wp2
        refine wp_region_later (by kernel_rfl) (by kernel_rfl) ?_
        repeat (go_big_quiet_step ((go_at_call 25; refine later_call (less_any _ _ _ _ _ _ _ _ _))))
        refine wpQuiet_nil ?_
        intro s hs
        clear lc hne a0 a1 a2 a3 u0 u1 u2 u3 c312
        have hsz := HBel.out.size
        have HS : Hid (Below w0.heap.size w0 s) := HBel.out.trans (hs.mono hsz)
        clear hs
        cases hless : lessB (f' c).w (f' c).g (f' c).c (f' c).v (f' l).w (f' l).g (f' l).c (f' l).v
        · go_wp2
          go_roundw
          case rel => exact ⟨l, c + 1, rfl, by go_num, least_keep HL.out hless, by omega, by omega, HS.out⟩
          case measure => simp [intOf]; omega
        · go_wp2
          go_roundw
          case rel => exact ⟨c, c + 1, rfl, by go_num, least_take HL.out hc4 hc1 hless, by omega, by omega, HS.out⟩
          case measure => simp [intOf]; omega
      · have hend : 4 * i + 4 < c ∨ n ≤ c := by omega
        have hgs : Hid (w.grownBy wr (some b)) := grown_trans hg'.out (grown_below HBel.out _)
        have hds : Hid (DelAt w wr (f 0)) := hd'.out.below HBel.out
        by_cases hli : l = i
        · subst hli
          obtain ⟨d0, d1⟩ := hds.out
          have e0 : ∀ o, wr.frozen? ⟨w.heap.size, o, none⟩ = false := fun o => by simp [World.frozen?, d0]
          have q0 : wr.cell? ⟨w.heap.size, 0, none⟩ = some (.int .i64 0) := by simp [World.cell?, d0]
          have q1 : wr.cell? ⟨w.heap.size, 1, none⟩ = some (.int .i64 0) := by simp [World.cell?, d0]
          have q2 : wr.cell? ⟨w.heap.size, 2, none⟩ = some (.int .i64 0) := by simp [World.cell?, d0]
          have q3 : wr.cell? ⟨w.heap.size, 3, none⟩ = some (.int .i64 0) := by simp [World.cell?, d0]
          have z0 : wr.cell? ⟨w.heap.size + 1, 0, none⟩ = some (.int .i64 (f 0).w) := by simp [World.cell?, d1]
          have z1 : wr.cell? ⟨w.heap.size + 1, 1, none⟩ = some (.int .i64 (f 0).g) := by simp [World.cell?, d1]
          have z2 : wr.cell? ⟨w.heap.size + 1, 2, none⟩ = some (.int .i64 (f 0).c) := by simp [World.cell?, d1]
          have z3 : wr.cell? ⟨w.heap.size + 1, 3, none⟩ = some (.int .i64 (f 0).v) := by simp [World.cell?, d1]
          clear d0 d1
          have hfin : Hid (IsHp f' n) := dn_done hu'.out HL.out hend
          have HH2 : Hid (HeapAt wr b n f') := H
          clear H
          by_cases hc3 : c ≤ 4 * l + 4
          all_goals
            go_wp2
            refine bodyPost_ret (v := .tuple #[.agg #[.int .i64 (f 0).w, .int .i64 (f 0).g, .int .i64 (f 0).c, .int .i64 (f 0).v], .bool true]) (by simp [results, Yaid.results49, go_sem, q0, q1, q2, q3]) rfl ⟨rfl, f', ?_, hfin.out, hperm'.out, ?_⟩
            · refine HH2.out.of_block ?_
              rw [Below.heap_setCell _ _ _ _ (by simp; omega), Below.heap_setCell _ _ _ _ (by simp; omega), Below.heap_setCell _ _ _ _ (by simp; omega), Below.heap_setCell _ _ _ _ (by simp; omega)]
            · exact grown_setNew (grown_setNew (grown_setNew (grown_setNew hgs.out (Nat.le_refl _) _) (Nat.le_refl _) _) (Nat.le_refl _) _) (Nat.le_refl _) _
        · have hll : l < n := by rcases HL.out.1 with e | e <;> omega
          have hil : i < l := by rcases HL.out.1 with e | e <;> omega
          obtain ⟨a0, a1, a2, a3⟩ := H.1 i (by omega)
          obtain ⟨u0, u1, u2, u3⟩ := H.1 l (by omega)
          have fz := H.2.2
          have hfin : Hid (DnInv (swp f' i l) n l) := dn_step hu'.out HL.out hend (by omega) hli
          have hli' : ((l : Int) == (i : Int)) = false := by rw [beq_eq_false_iff_ne]; omega
          have HH2 : Hid (HeapAt wr b n f') := H
          clear H
          by_cases hc3 : c ≤ 4 * i + 4
          all_goals
            go_wp2
            go_region
            go_wp2
            go_roundw
            case rel =>
              refine ⟨l, swp f' i l, rfl, .inr hll, ?_, hfin.out, ?_, ?_, ?_⟩
              · exact ((HH2.out.setT i (by omega) (f' l)).setT l (by omega) (f' i)).drew
              · exact hperm'.out.trans (List.Perm.cons _ (content_swp f' n i l (by omega) hll).symm)
              · exact grown_drew (grown_setT (grown_setT hgs.out i (f' l)) l (f' i))
              · exact ((((((((hds.out.set hb _ _).set hb _ _).set hb _ _).set hb _ _).set hb _ _).set hb _ _).set hb _ _).set hb _ _).drew
            case measure => simp [intOf]; omega
end Go.Proofs.Ygdaig
