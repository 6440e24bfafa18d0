/-
  law.ringModel's steal: THE WALK.
-/
import Derived.Test.YgdaigModelAgrees
namespace Go.Proofs.Ygdaig
open Go.RowKit
set_option linter.unusedVariables false

theorem getV_cons (x : Int) (xs : List Int) : getV (x :: xs) (-1) = x := by simp [getV]
theorem getB_cons (x : Int) (xs : List Int) : getB (x :: xs) (-1) = true := by simp [getB]
theorem getV_nil : getV [] (-1) = -1 := by simp [getV]
theorem getB_nil : getB [] (-1) = false := by simp [getB]
theorem getXs_cons (x : Int) (xs : List Int) : getXs (x :: xs) (-1) = xs := by simp [getXs]

/-- The list cut at its front, stored back. -/
theorem model_cut {w : World} {mb : Nat} {lb sb : Option Nat} {nx : Int} {xs zs sp : List Int} {v' : Value} (H : ModelIs w mb lb sb nx xs sp) (h1 : SlIs w v' lb zs) : ModelIs (w.setCell ⟨mb, 1, none⟩ v') mb lb sb nx zs sp := by
  obtain ⟨lv, sv, a, b, c, d, e⟩ := H
  exact ⟨v', sv, a.setL v', h1.of_kept (kept_set1 _ _ _ _) (fun g hg e' => (d g hg).1 e'), c.of_kept (kept_set1 _ _ _ _) (fun g hg e' => e g hg e'), d, e⟩

set_option maxRecDepth 100000 in
set_option maxHeartbeats 1000000 in
theorem msteal_any (mb rb : Nat) (lb sb : Option Nat) (nx : Int) (xs sp : List Int) (s : Nat) (w : World) (HM : ModelIs w mb lb sb nx xs sp) (HR : RingIs w rb xs nx) (h4 : xs.length ≤ 4) (hs : s < 256) (hmr : mb ≠ rb) (hlr : lb ≠ some rb) (hsr : sb ≠ some rb) :
    Calls Yaid.prog 22 #[.pointer (some ⟨mb, 0, none⟩), .func (.func 12) #[] #[], .iface 78 (.pointer (some ⟨rb, 0, none⟩)), .int .u8 s] w fun e w' => e = .returned (.bool true) ∧
      ModelIs w' mb lb sb nx (xs.drop (xs.length - xs.length / 2)) sp ∧ RingIs w' rb (xs.drop (xs.length - xs.length / 2)) nx ∧ Kept w w' (fun k => k = mb ∨ k = rb) := by
  obtain ⟨k, hk⟩ : ∃ k, k = xs.length - xs.length / 2 := ⟨_, rfl⟩
  obtain ⟨s', hs'⟩ : ∃ s', s' = (s + 128) % 256 := ⟨_, rfl⟩
  have hlt := HM.lt
  have hrl := HR.lt
  have HLL : Hid ((∀ g, lb = some g → g < w.heap.size) ∧ ∀ g, sb = some g → g < w.heap.size) := HM.llt
  have es1 : ((s : Int) + 128) % 256 = (s' : Int) := by omega
  have es2 : IntKind.u8.wrap ((s : Int) + 128) = (s' : Int) := by rw [u8_wrap]; omega
  have hs4 : s' < 256 := by omega
  have hk2 : k ≤ xs.length := by omega
  have e1 : ((xs.length : Int)) - (xs.length : Int) / 2 = (k : Int) := by omega
  rw [← hk]
  have HK : Hid (k = xs.length - xs.length / 2) := hk
  have HMM : Hid (ModelIs w mb lb sb nx xs sp) := HM
  have HRR : Hid (RingIs w rb xs nx) := HR
  clear HM HR hk hs'
  go_enter Yaid.func22, Yaid.ntmps22
  go_wp2_with fail
  refine (newRing_any s' _ hs4).mono ?_
  rintro e w1 ⟨tb, rfl, htb, hT1, hb1⟩
  have HT1 : Hid (RingIs w1 tb [] (-1)) := hT1
  have HB1 : Hid (Below w.heap.size w w1) := hb1
  have htl := hT1.lt
  clear hT1 hb1
  go_wp2_with fail
  refine (steal_any tb rb xs nx _ (by omega) HT1.out (HRR.out.below HB1.out)).mono ?_
  rintro e w2 ⟨rfl, hT2, hR2, hK2⟩
  rw [← HK.out] at hT2 hR2 ⊢
  have hM2 : ModelIs w2 mb lb sb nx xs sp := (HMM.out.below HB1.out).of_kept hK2 (fun h => by omega) (fun g hg h => by
    have := HMM.out.llt.1 g hg
    rcases h with h | h
    · omega
    · exact hlr (by rw [hg, h])) (fun g hg h => by
    have := HMM.out.llt.2 g hg
    rcases h with h | h
    · omega
    · exact hsr (by rw [hg, h]))
  have HKP : Hid (Kept w w2 (fun k => k = mb ∨ k = rb)) := Kept.trans2 (p := fun k => k = mb ∨ k = rb) (kept_below HB1.out) hK2 (fun i hi h => by
    rcases h with h | h
    · omega
    · exact .inr h)
  have HM2 : Hid (ModelIs w2 mb lb sb nx xs sp) := hM2
  have HT2 : Hid (RingIs w2 tb (xs.take k) (-1)) := hT2
  have HR2 : Hid (RingIs w2 rb (xs.drop k) nx) := hR2
  obtain ⟨lv, sv, c0, c1, c2, fz, hsl, hss⟩ := hM2.cells
  obtain ⟨al, cl, hlv⟩ := hsl.form
  rw [hlv] at c1 hsl
  have HSL : Hid (SlIs w2 (.slice al xs.length cl) lb xs) := hsl
  clear hT2 hR2 hK2 hM2 hsl hss hlv HMM HRR HT1
  go_wp2_with fail
  refine (len_ring tb (xs.take k) (-1) _ HT2.out).mono ?_
  rintro e w3 ⟨rfl, hb3⟩
  have htk : (xs.take k).length = k := by rw [List.length_take]; omega
  rw [htk]
  have HB3 : Hid (Below w2.heap.size w2 w3) := hb3
  have HC1 : Hid (w2.cell? ⟨mb, 1, none⟩ = some (.slice al xs.length cl)) := c1
  have HFZ : Hid (∀ o, w2.frozen? ⟨mb, o, none⟩ = false) := fz
  clear hb3 c0 c1 c2 fz e1 es1 es2
  go_wp2
  go_loopw [12] (fun v12 wr => ∃ i : Nat, v12 = .int .i64 i ∧ i ≤ k ∧ RingIs wr tb ((xs.take k).drop i) (-1) ∧ Kept w2 wr (fun j => j = tb)) (fun v12 _ => 5 - (intOf v12).toNat)
  case atStart => exact ⟨0, rfl, by omega, HT2.out.below HB3.out, kept_below HB3.out⟩
  case round =>
    obtain ⟨i, rfl, hi, hT, hK⟩ := hrel
    have hsz1 := HB1.out.size
    have hmt : ¬ mb = tb := by omega
    have hblk : wr.heap[mb]? = w2.heap[mb]? := hK.block _ HM2.out.lt hmt
    have c1 : wr.cell? ⟨mb, 1, none⟩ = some (.slice al xs.length cl) := (World.cell?_of_block (a := ⟨mb, 1, none⟩) hblk).trans HC1.out
    have fz : ∀ o, wr.frozen? ⟨mb, o, none⟩ = false := fun o => (World.frozen?_of_block (a := ⟨mb, o, none⟩) hblk).trans (HFZ.out o)
    have HT : Hid (RingIs wr tb ((xs.take k).drop i) (-1)) := hT
    have HKT : Hid (Kept w2 wr (fun j => j = tb)) := hK
    have HLT : Hid (∀ g, lb = some g → ¬ g = tb) := fun g hg e => by
      have := HLL.out.1 g hg
      omega
    have HST : Hid (∀ g, sb = some g → ¬ g = tb) := fun g hg e => by
      have := HLL.out.2 g hg
      omega
    have HSR : Hid (SlIs wr (.slice al xs.length cl) lb xs) := HSL.out.of_kept hK HLT.out
    clear hT hK hblk
    by_cases hil : i < k
    · obtain ⟨x, hx⟩ := some_at (xs := xs) (i := i) (by omega)
      have hdr : (xs.take k).drop i = x :: (xs.take k).drop (i + 1) := by
        have hil' : i < (xs.take k).length := by omega
        rw [List.drop_eq_getElem_cons hil']
        congr 1
        rw [List.getElem_take]
        rw [List.getElem?_eq_getElem (by omega)] at hx
        exact Option.some.inj hx
      obtain ⟨g, off, rfl, hc⟩ := sl_at HSR.out hx
      have HT' : Hid (RingIs wr tb (x :: (xs.take k).drop (i + 1)) (-1)) := by rw [← hdr]; exact HT.out
      clear hx hdr HT
      go_wp2_with fail
      refine (get_any tb (x :: (xs.take k).drop (i + 1)) (-1) _ HT'.out).mono ?_
      rintro e w4 ⟨rfl, hT4, hg4⟩
      rw [getV_cons, getB_cons]
      rw [getXs_cons] at hT4
      have hblk4 : w4.heap[mb]? = wr.heap[mb]? := hg4.block _ (World.block_lt_of_cell? wr _ c1) (by simp; omega)
      have c14 : w4.cell? ⟨mb, 1, none⟩ = some (.slice (some ⟨g, off, none⟩) xs.length cl) := (World.cell?_of_block (a := ⟨mb, 1, none⟩) hblk4).trans c1
      have hgt : ¬ g = tb := by
        rcases HSR.out with ⟨_, h, _⟩ | ⟨g', off', cap', e1, _, e3, _⟩
        · cases h
        · injection e3 with e3 _ _
          cases e3
          exact HLT.out g e1
      have hc4 : w4.cell? ⟨g, off + i, none⟩ = some (.int .i64 x) := hg4.cell hc (by simp; omega)
      have HT4 : Hid (RingIs w4 tb ((xs.take k).drop (i + 1)) (-1)) := hT4
      have HK4 : Hid (Kept w2 w4 (fun j => j = tb)) := HKT.out.trans2 (kept_grown (p := fun j => j = tb) hg4 rfl) (fun _ _ h => h)
      clear hT4 hg4 hblk4 c1 hc
      go_wp2
      go_roundw
      case rel => exact ⟨i + 1, by go_num, by omega, HT4.out, HK4.out⟩
      case measure => simp [intOf]; omega
    · obtain rfl : i = k := by omega
      have hnil : (xs.take i).drop i = [] := List.drop_eq_nil_of_le (by omega)
      have HT' : Hid (RingIs wr tb [] (-1)) := by rw [← hnil]; exact HT.out
      have hMr : ModelIs wr mb lb sb nx xs sp := HM2.out.of_kept HKT.out hmt HLT.out HST.out
      have FIN : Hid (∀ v' w', SlIs wr v' lb (xs.drop i) → Kept (wr.setCell ⟨mb, 1, none⟩ v') w' (fun j => j = tb) → ModelIs w' mb lb sb nx (xs.drop i) sp ∧ RingIs w' rb (xs.drop i) nx ∧ Kept w w' (fun k => k = mb ∨ k = rb)) := fun v' w' h1 h2 => by
        have m1 := model_cut hMr h1
        refine ⟨m1.of_kept h2 hmt HLT.out HST.out, ?_, ?_⟩
        · have hr1 : RingIs wr rb (xs.drop i) nx := HR2.out.of_block (HKT.out.block _ HR2.out.lt (show ¬ rb = tb by omega))
          have hr2 : RingIs (wr.setCell ⟨mb, 1, none⟩ v') rb (xs.drop i) nx := hr1.of_block (Below.heap_setCell _ _ _ _ (show rb ≠ mb by omega))
          exact hr2.of_block (h2.block _ hr2.lt (show ¬ rb = tb by omega))
        · have k1 : Kept w wr (fun k => k = mb ∨ k = rb) := HKP.out.trans2 HKT.out (fun j hj e => by omega)
          have k2 : Kept w (wr.setCell ⟨mb, 1, none⟩ v') (fun k => k = mb ∨ k = rb) := k1.set (.inl (.inl rfl)) _ _
          exact k2.trans2 h2 (fun j hj e => by omega)
      have htr := HT'.out.lt
      clear hMr hnil HT
      rcases HSR.out with ⟨rfl, hv, hx0⟩ | ⟨g, off, cap, rfl, e2, hv, e4, e5, p1, p2, fz2⟩
      · injection hv with hv1 hv2 hv3
        have hi0 : i = 0 := by omega
        subst hv1 hv3 hi0
        subst hx0
        have hcut : SlIs wr (.slice none 0 0) none (([] : List Int).drop 0) := .inl ⟨rfl, rfl, rfl⟩
        have HCUT : Hid (SlIs wr (.slice none 0 0) none (([] : List Int).drop 0)) := hcut
        clear hcut
        go_wp2_with fail
        refine (get_any tb [] (-1) _ (HT'.out.of_block (Below.heap_setCell _ _ _ _ (show tb ≠ mb by omega)))).mono ?_
        rintro e w6 ⟨rfl, hT6, hg6⟩
        rw [getV_nil, getB_nil]
        have HT6 : Hid (RingIs w6 tb [] (-1)) := hT6
        have HK6 : Hid (Kept (wr.setCell ⟨mb, 1, none⟩ (.slice none 0 0)) w6 (fun j => j = tb)) := kept_grown hg6 rfl
        clear hT6 hg6
        go_wp2_with fail
        refine (len_ring tb [] (-1) _ HT6.out).mono ?_
        rintro e w7 ⟨rfl, hb7⟩
        have HK7 : Hid (Kept (wr.setCell ⟨mb, 1, none⟩ (.slice none 0 0)) w7 (fun j => j = tb)) := HK6.out.trans (kept_below hb7)
        clear hb7
        go_wp2
        go_ret
        exact ⟨rfl, FIN.out _ _ HCUT.out HK7.out⟩
      · injection hv with hv1 hv2 hv3
        subst hv1 hv3
        have CUT : Hid (∀ off' c, (off' = off + i ∨ cl = i) → c = cl - i → SlIs wr (.slice (some ⟨g, off', none⟩) (xs.length - i) c) (some g) (xs.drop i)) := fun off' c ho hc =>
          sl_drop e2 e4 e5 p1 p2 fz2 i (by omega) off' ho _ (by rw [List.length_drop]) c hc
        unfold maxLen at e5
        have hil2 : (i : Int) ≤ (xs.length : Int) := by omega
        clear p1 p2
        go_wp2_with fail
        · have HCUT : Hid (SlIs wr (.slice (some ⟨g, off, none⟩) (xs.length - i) 0) (some g) (xs.drop i)) := CUT.out _ _ (.inr ‹_›) (by omega)
          refine (get_any tb [] (-1) _ (HT'.out.of_block (Below.heap_setCell _ _ _ _ (show tb ≠ mb by omega)))).mono ?_
          rintro e w6 ⟨rfl, hT6, hg6⟩
          rw [getV_nil, getB_nil]
          have HT6 : Hid (RingIs w6 tb [] (-1)) := hT6
          have HK6 : Hid (Kept (wr.setCell ⟨mb, 1, none⟩ (.slice (some ⟨g, off, none⟩) (xs.length - i) 0)) w6 (fun j => j = tb)) := kept_grown hg6 rfl
          clear hT6 hg6
          go_wp2_with fail
          refine (len_ring tb [] (-1) _ HT6.out).mono ?_
          rintro e w7 ⟨rfl, hb7⟩
          have HK7 : Hid (Kept (wr.setCell ⟨mb, 1, none⟩ (.slice (some ⟨g, off, none⟩) (xs.length - i) 0)) w7 (fun j => j = tb)) := HK6.out.trans (kept_below hb7)
          clear hb7
          go_wp2
          go_ret
          exact ⟨rfl, FIN.out _ _ HCUT.out HK7.out⟩
        · have HCUT : Hid (SlIs wr (.slice (some ⟨g, off + i, none⟩) (xs.length - i) (cl - i)) (some g) (xs.drop i)) := CUT.out _ _ (.inl rfl) rfl
          refine (get_any tb [] (-1) _ (HT'.out.of_block (Below.heap_setCell _ _ _ _ (show tb ≠ mb by omega)))).mono ?_
          rintro e w6 ⟨rfl, hT6, hg6⟩
          rw [getV_nil, getB_nil]
          have HT6 : Hid (RingIs w6 tb [] (-1)) := hT6
          have HK6 : Hid (Kept (wr.setCell ⟨mb, 1, none⟩ (.slice (some ⟨g, off + i, none⟩) (xs.length - i) (cl - i))) w6 (fun j => j = tb)) := kept_grown hg6 rfl
          clear hT6 hg6
          go_wp2_with fail
          refine (len_ring tb [] (-1) _ HT6.out).mono ?_
          rintro e w7 ⟨rfl, hb7⟩
          have HK7 : Hid (Kept (wr.setCell ⟨mb, 1, none⟩ (.slice (some ⟨g, off + i, none⟩) (xs.length - i) (cl - i))) w7 (fun j => j = tb)) := HK6.out.trans (kept_below hb7)
          clear hb7
          go_wp2
          go_ret
          exact ⟨rfl, FIN.out _ _ HCUT.out HK7.out⟩
end Go.Proofs.Ygdaig
