/-
  law.ringModel's agrees: THE WALK.
-/
import Derived.Test.YgdaigModelPut
namespace Go.Proofs.Ygdaig
open Go.RowKit
set_option linter.unusedVariables false

theorem ModelIs.below {w w' : World} {mb : Nat} {lb sb : Option Nat} {nx : Int} {xs sp : List Int} (h : ModelIs w mb lb sb nx xs sp) (k : Below w.heap.size w w') : ModelIs w' mb lb sb nx xs sp :=
  h.of_kept (p := fun _ => False) (kept_below k) (fun h => h) (fun _ _ h => h) (fun _ _ h => h)
theorem GlobIs.below {w w' : World} {gb : Nat} {qb : Option Nat} {sp : List Int} (h : GlobIs w gb qb sp) (k : Below w.heap.size w w') : GlobIs w' gb qb sp :=
  h.of_kept (p := fun _ => False) (kept_below k) (fun h => h) (fun _ _ h => h)

theorem sl_at {w : World} {al : Option Addr} {n cl i : Nat} {lb : Option Nat} {xs : List Int} {x : Int} (h : SlIs w (.slice al n cl) lb xs) (hx : xs[i]? = some x) : ∃ g off, al = some ⟨g, off, none⟩ ∧ w.cell? ⟨g, off + i, none⟩ = some (.int .i64 x) := by
  rcases h with ⟨_, _, rfl⟩ | ⟨g, off, cap, _, _, e3, _, _, _, c2, _⟩
  · simp at hx
  · injection e3 with e3 _ _
    exact ⟨g, off, e3, c2 i x hx⟩
theorem SlIs.below {w w' : World} {v : Value} {b : Option Nat} {xs : List Int} (h : SlIs w v b xs) (k : Below w.heap.size w w') : SlIs w' v b xs := h.of_kept (p := fun _ => False) (kept_below k) (fun _ _ h => h)
theorem some_at {xs : List Int} {i : Nat} (h : i < xs.length) : ∃ x, xs[i]? = some x := ⟨xs[i], List.getElem?_eq_getElem h⟩

theorem meth_len (rb : Nat) (w : World) : (method 215 78 (.pointer (some ⟨rb, 0, none⟩)) "Len").run Yaid.prog w = .ok (56, .pointer (some ⟨rb, 0, none⟩)) w := by kernel_rfl
theorem meth_next (rb : Nat) (w : World) : (method 215 78 (.pointer (some ⟨rb, 0, none⟩)) "Next").run Yaid.prog w = .ok (57, .pointer (some ⟨rb, 0, none⟩)) w := by kernel_rfl

set_option maxRecDepth 100000 in
set_option maxHeartbeats 1000000 in
theorem agrees_any (mb rb gb : Nat) (lb sb qb : Option Nat) (nx : Int) (xs sp : List Int) (w : World) (HM : ModelIs w mb lb sb nx xs sp) (HR : RingIs w rb xs nx) (HG : GlobIs w gb qb sp) (h4 : xs.length ≤ 4) (h44 : sp.length * 8 ≤ 140737488351232) :
    Calls Yaid.prog 23 #[.pointer (some ⟨mb, 0, none⟩), .iface 78 (.pointer (some ⟨rb, 0, none⟩)), .pointer (some ⟨gb, 0, none⟩)] w fun e w' => e = .returned (.bool true) ∧ Below w.heap.size w w' := by
  have hlt := HM.lt
  obtain ⟨lv, sv, c0, c1, c2, fz, hsl, hss⟩ := HM.cells
  obtain ⟨al, cl, hlv⟩ := hsl.form
  obtain ⟨asp, csp, hsv⟩ := hss.form
  rw [hlv] at c1
  rw [hsv] at c2
  have l0 : ∀ q : Later w, q.val.cell? ⟨mb, 0, none⟩ = some (.int .i64 nx) := fun q => (q.cell _ _ hlt).trans c0
  have l1 : ∀ q : Later w, q.val.cell? ⟨mb, 1, none⟩ = some (.slice al xs.length cl) := fun q => (q.cell _ _ hlt).trans c1
  have l2 : ∀ q : Later w, q.val.cell? ⟨mb, 2, none⟩ = some (.slice asp sp.length csp) := fun q => (q.cell _ _ hlt).trans c2
  have hne := later_some w
  have HMM : Hid (ModelIs w mb lb sb nx xs sp) := HM
  have HRR : Hid (RingIs w rb xs nx) := HR
  have HGG : Hid (GlobIs w gb qb sp) := HG
  have HSL : Hid (SlIs w (.slice al xs.length cl) lb xs) := by rw [← hlv]; exact hsl
  have HSP : Hid (SlIs w (.slice asp sp.length csp) sb sp) := by rw [← hsv]; exact hss
  clear HM HR HG hsl hss hlv hsv
  go_enter Yaid.func23, Yaid.ntmps23
  go_wp2
  refine wp_region_later (by kernel_rfl) (by kernel_rfl) ?_
  have m1 := meth_len rb
  have m2 := meth_next rb
  repeat (go_big_quiet_step ((first | (go_at_call 56; refine later_call (len_ring rb xs nx _ (by exact HRR.out.below (Later.below _)))) | (go_at_call 57; refine later_call (next_ring rb xs nx _ (by exact HRR.out.below (Later.below _)))) | (go_at_call 29; refine later_call (glen_any gb qb sp _ (by exact HGG.out.below (Later.below _)))))))
  refine wpQuiet_nil ?_
  intro w1 hw1
  have q1 : w1.cell? ⟨mb, 1, none⟩ = some (.slice al xs.length cl) := l1 ⟨w1, hw1⟩
  have HB1 : Hid (Below w.heap.size w w1) := hw1
  clear m1 m2 l0 l1 l2 hne hw1 c0 c1 fz
  go_wp2
  go_loopw [43] (fun v43 wr => ∃ i : Nat, v43 = .int .i64 i ∧ i ≤ xs.length ∧ Below w.heap.size w wr) (fun v43 _ => 5 - (intOf v43).toNat)
  case atStart => exact ⟨0, rfl, by omega, HB1.out⟩
  case round =>
    obtain ⟨i, rfl, hi, hB⟩ := hrel
    have HB : Hid (Below w.heap.size w wr) := hB
    clear hB
    by_cases hil : i < xs.length
    · obtain ⟨x, hx⟩ := some_at hil
      obtain ⟨g, off, rfl, hc⟩ := sl_at (HSL.out.below HB.out) hx
      have HX : Hid (xs[i]? = some x) := hx
      clear hx
      go_wp2_with (go_at_call 54; refine (at_ring rb i xs nx x _ (HRR.out.below HB.out) HX.out).mono ?_; rintro e w2 ⟨rfl, hb2⟩)
      go_roundw
      case rel => exact ⟨i + 1, by go_num, by omega, HB.out.trans (hb2.mono HB.out.size)⟩
      case measure => simp [intOf]; omega
    · have q2 : wr.cell? ⟨mb, 2, none⟩ = some (.slice asp sp.length csp) := (HB.out.cell (p := ⟨mb, 2, none⟩) hlt).trans c2
      rename World => w3
      go_wp2
      go_loopw [59] (fun v59 wr => ∃ i : Nat, v59 = .int .i64 i ∧ i ≤ sp.length ∧ Below w.heap.size w wr) (fun v59 _ => sp.length - (intOf v59).toNat)
      case atStart => exact ⟨0, rfl, by omega, HB.out⟩
      case round =>
        obtain ⟨k, rfl, hk, hB⟩ := hrel
        have HB4 : Hid (Below w.heap.size w wr) := hB
        clear hB
        by_cases hkl : k < sp.length
        · obtain ⟨x, hx⟩ := some_at hkl
          obtain ⟨g, off, rfl, hc⟩ := sl_at (HSP.out.below HB4.out) hx
          have HX : Hid (sp[k]? = some x) := hx
          clear hx
          go_wp2_with (go_at_call 30; refine (gat_any gb k qb sp x _ (HGG.out.below HB4.out) HX.out h44).mono ?_; rintro e w2 ⟨rfl, hb2⟩)
          go_roundw
          case rel => exact ⟨k + 1, by go_num, by omega, HB4.out.trans (hb2.mono HB4.out.size)⟩
          case measure => simp [intOf]; omega
        · go_wp2
          go_ret
          exact ⟨rfl, HB4.out⟩
end Go.Proofs.Ygdaig
