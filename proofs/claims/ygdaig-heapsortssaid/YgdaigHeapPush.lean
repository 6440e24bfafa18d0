/-
  (*tm.Heap).Push and Add: THE WALKS.
-/
import Derived.Test.YgdaigHeapMem
namespace Go.Proofs.Ygdaig
open Go.RowKit

set_option maxHeartbeats 1000000 in
theorem push_any (b n : Nat) (x : Tm) (w : World) (f : Nat → Tm) (hn : n < 78)
   (H : HeapAt w b n f) (hp : IsHp f n) :
    Calls Yaid.prog 52 #[.pointer (some ⟨b, 0, none⟩), .agg #[.int .i64 x.w, .int .i64 x.g, .int .i64 x.c, .int .i64 x.v]] w fun e w' => 
      e = .returned (.bool true) ∧ ∃ f', HeapAt w' b (n + 1) f' ∧ IsHp f' (n + 1) ∧ (content f' (n + 1)).Perm (content f n ++ [x]) ∧ w.grownBy w' (some b) := by
  have hb := H.lt
  obtain ⟨a0, a1, a2, a3⟩ := H.1 n hn
  have c312 := H.2.1
  have fz := H.2.2
  have HH : Hid (HeapAt w b n f) := H
  clear H
  go_enter Yaid.func52, Yaid.ntmps52
  go_wp2
  go_region
  go_wp2
  clear a0 a1 a2 a3 c312 fz
  go_loopw [5] (fun v5 wr => ∃ (i : Nat) (f' : Nat → Tm), v5 = .int .i64 i ∧ i < n + 1 ∧ HeapAt wr b (n + 1) f' ∧ UpInv f' (n + 1) i ∧ (content f' (n + 1)).Perm (content f n ++ [x]) ∧ w.grownBy wr (some b))
     (fun v5 _ => (intOf v5).toNat)
  case atStart =>
    refine ⟨n, upd f n x, rfl, by omega, ?_, up_start x hp, ?_, ?_⟩
    · exact (((HH.out.setT n hn x).setN (n + 1) (by omega)).alloc _).drew
    · rw [content_upd_last]
    · exact grown_drew (grown_alloc (grown_setCell (grown_setT (grown_refl w _) n x) _ _) _)
  case round =>
    obtain ⟨i, f', rfl, hi, H, hu, hperm, hg⟩ := hrel
    have hbr := H.lt
    by_cases h0 : 0 < i
    · obtain ⟨a0, a1, a2, a3⟩ := H.1 i (by omega)
      obtain ⟨u, hu0⟩ : ∃ u, u = (i - 1) / 4 := ⟨_, rfl⟩
      have hu1 : ((i : Int) - 1) / 4 = (u : Int) := by omega
      have hu2 : u < i := by omega
      have HU : Hid (u = (i - 1) / 4) := hu0
      clear hu0
      obtain ⟨u0, u1, u2, u3⟩ := H.1 u (by omega)
      have fz := H.2.2
      have HH : Hid (HeapAt wr b (n + 1) f') := H
      have hg' : Hid (w.grownBy wr (some b)) := hg
      have hu' : Hid (UpInv f' (n + 1) i) := hu
      have hperm' : Hid ((content f' (n + 1)).Perm (content f n ++ [x])) := hperm
      clear H hg hu hperm
      have lc : ∀ (s : Later wr) (o : Nat), s.val.cell? ⟨b, o, none⟩ = wr.cell? ⟨b, o, none⟩ := fun s o => s.cell b o hbr
      have hne := later_some wr
      go_wp2
      rw [hu1]
      refine wp_region_later (by kernel_rfl) (by kernel_rfl) ?_
      repeat (go_big_quiet_step ((go_at_call 25; refine later_call (less_any _ _ _ _ _ _ _ _ _))))
      refine wpQuiet_nil ?_
      intro s hs
      have H1 := HH.out.below hs
      clear lc u0 u1 u2 u3 a0 a1 a2 a3 fz hbr hne
      have hg1 : Hid (w.grownBy s (some b)) := grown_trans hg'.out (grown_below hs _)
      clear hs hg'
      obtain ⟨a0, a1, a2, a3⟩ := H1.1 i (by omega)
      obtain ⟨u0, u1, u2, u3⟩ := H1.1 u (by omega)
      have fz := H1.2.2
      have hbr := H1.lt
      have HH : Hid (HeapAt s b (n + 1) f') := H1
      clear H1
      cases hl : lessB (f' i).w (f' i).g (f' i).c (f' i).v (f' u).w (f' u).g (f' u).c (f' u).v
      · go_wp2
        go_ret
        exact ⟨rfl, f', HH.out, up_done hu'.out (.inr (by rw [← HU.out]; exact hl)), hperm'.out, hg1.out⟩
      · go_wp2
        go_region
        go_wp2
        go_roundw
        case rel => 
          refine ⟨u, swp f' i u, rfl, by omega, ?_, ?_, ?_, ?_⟩
          · exact ((HH.out.setT i (by omega) (f' u)).setT u (by omega) (f' i)).drew
          · have := up_step hu'.out h0 hi (by rw [← HU.out]; exact hl)
            rw [← HU.out] at this
            exact this
          · exact (content_swp f' (n + 1) i u hi (by omega)).trans hperm'.out
          · exact grown_drew (grown_setT (grown_setT hg1.out i (f' u)) u (f' i))
        case measure => simp [intOf]; omega
    · go_wp2
      go_ret
      exact ⟨rfl, f', H, up_done hu (.inl (by omega)), hperm, hg⟩

set_option maxHeartbeats 400000 in
theorem add_any (b n : Nat) (t g : Int) (w : World) (f : Nat → Tm) (hn : n < 78) (H : HeapAt w b n f) (hp : IsHp f n) :
    Calls Yaid.prog 47 #[.pointer (some ⟨b, 0, none⟩), .int .i64 t, .int .i64 g] w fun e w' =>
      e = .returned (.bool true) ∧ ∃ f', HeapAt w' b (n + 1) f' ∧ IsHp f' (n + 1) ∧ (content f' (n + 1)).Perm (content f n ++ [⟨t, g, -1, 0⟩]) ∧ w.grownBy w' (some b) := by
  have c312 := H.2.1
  have HH : Hid (HeapAt w b n f) := H
  clear H
  go_enter Yaid.func47, Yaid.ntmps47
  go_wp2_with (go_at_call 52; refine (push_any b n ⟨t, g, -1, 0⟩ _ f hn HH.out hp).mono ?_; rintro e w' ⟨rfl, hq⟩)
  go_ret
  exact ⟨rfl, hq⟩
end Go.Proofs.Ygdaig
