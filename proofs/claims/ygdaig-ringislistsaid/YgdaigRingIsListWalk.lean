/-
  law.RingIsListOf over rq.Local: THE WALK.
-/
import Derived.Test.YgdaigRingState
namespace Go.Proofs.Ygdaig
open Go.RowKit
set_option linter.unusedVariables false

theorem op_num (x : Int) : (wrap64 (x.tmod 8 + 8)).tmod 8 = ((x % 8).toNat : Int) := by
  have h : x.tmod 8 = x % 8 ∨ (x.tmod 8 = x % 8 - 8 ∧ x % 8 ≠ 0) := by
    have := Int.tmod_eq_emod (a := x) (b := 8)
    rw [this]
    split
    · left; omega
    · right; simp; omega
  have b1 : 0 ≤ x % 8 := Int.emod_nonneg _ (by decide)
  have b2 : x % 8 < 8 := Int.emod_lt_of_pos _ (by decide)
  rw [IntWalk.wrap64_in _ (by omega)]
  rw [Int.tmod_eq_emod_of_nonneg (by omega)]
  omega
theorem op_cases (x : Int) : ∃ c : Int, (wrap64 (x.tmod 8 + 8)).tmod 8 = c ∧ (c = 0 ∨ c = 1 ∨ c = 2 ∨ c = 3 ∨ c = 4 ∨ c = 5 ∨ c = 6 ∨ c = 7) := by
  refine ⟨_, op_num x, ?_⟩
  have b1 : 0 ≤ x % 8 := Int.emod_nonneg _ (by decide)
  have b2 : x % 8 < 8 := Int.emod_lt_of_pos _ (by decide)
  omega

/-- The loop's relation, but for the two counters. -/
def RRel (w : World) (rb gb mb p : Nat) (wr : World) : Prop :=
  ∃ (lb sb qb : Option Nat) (nx : Int) (xs sp : List Int), RSt w wr rb gb mb lb sb qb nx xs sp ∧ sp.length + xs.length + one nx ≤ p

theorem rrel_start {w w1 : World} {rb : Nat} (hrb : w.heap.size ≤ rb) (hR : RingIs w1 rb [] (-1)) (hb : Below w.heap.size w w1) :
    RRel w rb w1.heap.size (w1.heap.size + 1) 0 ((w1.alloc (.cells #[.slice none 0 0, .int .i64 0, .int .i64 0] 61)).alloc (.cells #[.int .i64 (-1), .slice none 0 0, .slice none 0 0] 63)) := by
  have hrl := hR.lt
  have hz := hb.size
  refine ⟨none, none, none, -1, [], [], ⟨⟨.slice none 0 0, .slice none 0 0, ?_, .inl ⟨rfl, rfl, rfl⟩, .inl ⟨rfl, rfl, rfl⟩, fun g h => by (cases h), fun g h => by (cases h)⟩, (hR.alloc _).alloc _, .inl ⟨rfl, rfl, ?_⟩, by simp, fun g h => by (cases h), fun g h => by (cases h), fun g h => by (cases h), ⟨by omega, by omega, by omega, hrb, hz, by omega⟩, (hb.alloc hz _).alloc (by simp; omega) _⟩, by simp [one]⟩
  · rw [← World.size_alloc w1 (.cells #[.slice none 0 0, .int .i64 0, .int .i64 0] 61)]
    exact ⟨World.cell?_alloc_new _ _ _ _, World.cell?_alloc_new _ _ _ _, World.cell?_alloc_new _ _ _ _, fun o => World.frozen?_alloc_new _ _ _ _⟩
  · refine HeadAt.of_block (w := w1.alloc (.cells #[.slice none 0 0, .int .i64 0, .int .i64 0] 61)) ?_ (Below.heap_alloc _ _ _ (by simp))
    exact ⟨World.cell?_alloc_new _ _ _ _, World.cell?_alloc_new _ _ _ _, World.cell?_alloc_new _ _ _ _, fun o => World.frozen?_alloc_new _ _ _ _⟩

set_option maxRecDepth 100000 in
set_option maxHeartbeats 4000000 in
theorem ri_any (a : Option Addr) (s len cap : Nat) (z : Nat → Int) (w : World) (hs : s < 256) (h44 : len * 8 ≤ 140737488351232)
   (hrow : 0 < len → ∃ b off, a = some ⟨b, off, none⟩ ∧ b < w.heap.size ∧ ∀ j, j < len → w.cell? ⟨b, off + j, none⟩ = some (.int .i64 (z j))) :
    Calls Yaid.prog 11 #[.func (.func 12) #[] #[], .int .u8 s, .slice a len cap] w fun e w' => e = .returned (.bool true) ∧ Below w.heap.size w w' := by
  have HRW : Hid (0 < len → ∃ b off, a = some ⟨b, off, none⟩ ∧ b < w.heap.size ∧ ∀ j, j < len → w.cell? ⟨b, off + j, none⟩ = some (.int .i64 (z j))) := hrow
  clear hrow
  go_enter Yaid.func11, Yaid.ntmps11
  go_wp2_with fail
  refine (newRing_any s _ hs).mono ?_
  rintro e w1 ⟨rb, rfl, hrb, hR1, hb1⟩
  have HR1 : Hid (RingIs w1 rb [] (-1)) := hR1
  have HB1 : Hid (Below w.heap.size w w1) := hb1
  have hrl := hR1.lt
  clear hR1 hb1
  go_wp2
  obtain ⟨gb, hgb⟩ : ∃ gb, gb = w1.heap.size := ⟨_, rfl⟩
  obtain ⟨mb, hmb⟩ : ∃ mb, mb = w1.heap.size + 1 := ⟨_, rfl⟩
  have HST : Hid (RRel w rb gb mb 0 ((w1.alloc (.cells #[.slice none 0 0, .int .i64 0, .int .i64 0] 61)).alloc (.cells #[.int .i64 (-1), .slice none 0 0, .slice none 0 0] 63))) := by rw [hgb, hmb]; exact rrel_start hrb HR1.out HB1.out
  rw [← hmb, ← hgb]
  clear hgb hmb HR1 HB1 hrl hrb
  go_loopw [10, 23] (fun v10 v23 wr => ∃ k p : Nat, v23 = .int .i64 k ∧ v10 = .int .i64 p ∧ k ≤ len ∧ p ≤ k ∧ RRel w rb gb mb p wr) (fun _ v23 _ => len - (intOf v23).toNat)
  case atStart => exact ⟨0, 0, rfl, rfl, by omega, by omega, HST.out⟩
  case round =>
    obtain ⟨k, p, rfl, rfl, hk, hp, lb, sb, qb, nx, xs, sp, hS, hC⟩ := hrel
    have HS : Hid (RSt w wr rb gb mb lb sb qb nx xs sp) := hS
    have HC : Hid (sp.length + xs.length + one nx ≤ p) := hC
    have hsp : sp.length ≤ p := by omega
    clear hS hC HST
    by_cases hlt : k < len
    · obtain ⟨b, off, rfl, hb, hcell⟩ := HRW.out (by omega)
      have hx : wr.cell? ⟨b, off + k, none⟩ = some (.int .i64 (z k)) := (HS.out.bel.cell (p := ⟨b, off + k, none⟩) hb).trans (hcell k hlt)
      obtain ⟨c, hc, hcs⟩ := op_cases (z k)
      clear hcell
      rcases hcs with rfl | rfl | rfl | rfl | rfl | rfl | rfl | rfl
      · -- Put, false
        go_wp2_with fail
        refine (put_any rb false (p : Int) nx xs _ HS.out.ring).mono ?_
        rintro e w2 ⟨rfl, hR2, hg2⟩
        obtain ⟨m2, g2, _⟩ := HS.out.ring1 hg2
        have HR2 : Hid (RingIs w2 rb (putXs false (p : Int) nx xs) (putNx false (p : Int) nx)) := hR2
        have HG2 : Hid (wr.grownBy w2 (some rb)) := hg2
        have HGl2 : Hid (GlobIs w2 gb qb sp) := g2
        clear hR2 hg2 g2 m2
        go_wp2_with fail
        refine (pushSpill_any gb qb sp (putSp false (p : Int) nx xs) _ HGl2.out (putSp_len _ _ _ _ HS.out.len4) (by have := putSp_le false (p : Int) nx xs HS.out.len4; have := HC.out; omega)).mono ?_
        rintro e w3 ⟨rfl, qb', hG3, hO3, hK3⟩
        obtain ⟨m3, r3, _⟩ := HS.out.glob2 HG2.out HR2.out hK3
        have HM3 : Hid (ModelIs w3 mb lb sb nx xs sp) := m3
        have HG3 : Hid (GlobIs w3 gb qb' (sp ++ putSp false (p : Int) nx xs)) := hG3
        have HO3 : Hid (OldOrNew w2 qb qb') := hO3
        have HK3 : Hid (Kept w2 w3 (fun k => k = gb ∨ qb = some k)) := hK3
        clear hG3 hO3 hK3 m3 r3 HGl2
        go_wp2_with fail
        refine (mput_any mb lb sb false (p : Int) nx xs sp _ HM3.out HS.out.len4 (by have := HC.out; omega)).mono ?_
        rintro e w4 ⟨rfl, lb', sb', hM4, hOl, hOs, hK4⟩
        have SS : Hid (RSt w w4 rb gb mb lb' sb' qb' (putNx false (p : Int) nx) (putXs false (p : Int) nx xs) (sp ++ putSp false (p : Int) nx xs)) :=
          HS.out.put3 (putXs_len _ _ _ _ HS.out.len4) HG2.out HR2.out HK3.out HG3.out HO3.out hM4 hOl hOs hK4
        have CC : Hid ((sp ++ putSp false (p : Int) nx xs).length + (putXs false (p : Int) nx xs).length + one (putNx false (p : Int) nx) ≤ p + 1) := by
          have := put_count false (p : Int) nx xs sp HS.out.len4 (by omega)
          have := HC.out
          exact Nat.le_trans ‹_› (by omega)
        clear hM4 hOl hOs hK4 HM3 HG3 HO3 HK3 HR2 HG2 HS
        go_wp2_with fail
        refine (agrees_any mb rb gb lb' sb' qb' (putNx false (p : Int) nx) (putXs false (p : Int) nx xs) (sp ++ putSp false (p : Int) nx xs) _ SS.out.model SS.out.ring SS.out.glob SS.out.len4 (by have := CC.out; omega)).mono ?_
        rintro e wz ⟨rfl, hbz⟩
        have FIN : Hid (RRel w rb gb mb (p + 1) wz) := ⟨lb', sb', qb', (putNx false (p : Int) nx), (putXs false (p : Int) nx xs), (sp ++ putSp false (p : Int) nx xs), SS.out.below hbz, CC.out⟩
        clear hbz SS
        go_wp2
        go_roundw
        case rel => exact ⟨k + 1, (p + 1), by go_num, by go_num, by omega, by omega, FIN.out⟩
        case measure => simp [intOf]; omega
      · -- Put, false
        go_wp2_with fail
        refine (put_any rb false (p : Int) nx xs _ HS.out.ring).mono ?_
        rintro e w2 ⟨rfl, hR2, hg2⟩
        obtain ⟨m2, g2, _⟩ := HS.out.ring1 hg2
        have HR2 : Hid (RingIs w2 rb (putXs false (p : Int) nx xs) (putNx false (p : Int) nx)) := hR2
        have HG2 : Hid (wr.grownBy w2 (some rb)) := hg2
        have HGl2 : Hid (GlobIs w2 gb qb sp) := g2
        clear hR2 hg2 g2 m2
        go_wp2_with fail
        refine (pushSpill_any gb qb sp (putSp false (p : Int) nx xs) _ HGl2.out (putSp_len _ _ _ _ HS.out.len4) (by have := putSp_le false (p : Int) nx xs HS.out.len4; have := HC.out; omega)).mono ?_
        rintro e w3 ⟨rfl, qb', hG3, hO3, hK3⟩
        obtain ⟨m3, r3, _⟩ := HS.out.glob2 HG2.out HR2.out hK3
        have HM3 : Hid (ModelIs w3 mb lb sb nx xs sp) := m3
        have HG3 : Hid (GlobIs w3 gb qb' (sp ++ putSp false (p : Int) nx xs)) := hG3
        have HO3 : Hid (OldOrNew w2 qb qb') := hO3
        have HK3 : Hid (Kept w2 w3 (fun k => k = gb ∨ qb = some k)) := hK3
        clear hG3 hO3 hK3 m3 r3 HGl2
        go_wp2_with fail
        refine (mput_any mb lb sb false (p : Int) nx xs sp _ HM3.out HS.out.len4 (by have := HC.out; omega)).mono ?_
        rintro e w4 ⟨rfl, lb', sb', hM4, hOl, hOs, hK4⟩
        have SS : Hid (RSt w w4 rb gb mb lb' sb' qb' (putNx false (p : Int) nx) (putXs false (p : Int) nx xs) (sp ++ putSp false (p : Int) nx xs)) :=
          HS.out.put3 (putXs_len _ _ _ _ HS.out.len4) HG2.out HR2.out HK3.out HG3.out HO3.out hM4 hOl hOs hK4
        have CC : Hid ((sp ++ putSp false (p : Int) nx xs).length + (putXs false (p : Int) nx xs).length + one (putNx false (p : Int) nx) ≤ p + 1) := by
          have := put_count false (p : Int) nx xs sp HS.out.len4 (by omega)
          have := HC.out
          exact Nat.le_trans ‹_› (by omega)
        clear hM4 hOl hOs hK4 HM3 HG3 HO3 HK3 HR2 HG2 HS
        go_wp2_with fail
        refine (agrees_any mb rb gb lb' sb' qb' (putNx false (p : Int) nx) (putXs false (p : Int) nx xs) (sp ++ putSp false (p : Int) nx xs) _ SS.out.model SS.out.ring SS.out.glob SS.out.len4 (by have := CC.out; omega)).mono ?_
        rintro e wz ⟨rfl, hbz⟩
        have FIN : Hid (RRel w rb gb mb (p + 1) wz) := ⟨lb', sb', qb', (putNx false (p : Int) nx), (putXs false (p : Int) nx xs), (sp ++ putSp false (p : Int) nx xs), SS.out.below hbz, CC.out⟩
        clear hbz SS
        go_wp2
        go_roundw
        case rel => exact ⟨k + 1, (p + 1), by go_num, by go_num, by omega, by omega, FIN.out⟩
        case measure => simp [intOf]; omega
      · -- Put, true
        go_wp2_with fail
        refine (put_any rb true (p : Int) nx xs _ HS.out.ring).mono ?_
        rintro e w2 ⟨rfl, hR2, hg2⟩
        obtain ⟨m2, g2, _⟩ := HS.out.ring1 hg2
        have HR2 : Hid (RingIs w2 rb (putXs true (p : Int) nx xs) (putNx true (p : Int) nx)) := hR2
        have HG2 : Hid (wr.grownBy w2 (some rb)) := hg2
        have HGl2 : Hid (GlobIs w2 gb qb sp) := g2
        clear hR2 hg2 g2 m2
        go_wp2_with fail
        refine (pushSpill_any gb qb sp (putSp true (p : Int) nx xs) _ HGl2.out (putSp_len _ _ _ _ HS.out.len4) (by have := putSp_le true (p : Int) nx xs HS.out.len4; have := HC.out; omega)).mono ?_
        rintro e w3 ⟨rfl, qb', hG3, hO3, hK3⟩
        obtain ⟨m3, r3, _⟩ := HS.out.glob2 HG2.out HR2.out hK3
        have HM3 : Hid (ModelIs w3 mb lb sb nx xs sp) := m3
        have HG3 : Hid (GlobIs w3 gb qb' (sp ++ putSp true (p : Int) nx xs)) := hG3
        have HO3 : Hid (OldOrNew w2 qb qb') := hO3
        have HK3 : Hid (Kept w2 w3 (fun k => k = gb ∨ qb = some k)) := hK3
        clear hG3 hO3 hK3 m3 r3 HGl2
        go_wp2_with fail
        refine (mput_any mb lb sb true (p : Int) nx xs sp _ HM3.out HS.out.len4 (by have := HC.out; omega)).mono ?_
        rintro e w4 ⟨rfl, lb', sb', hM4, hOl, hOs, hK4⟩
        have SS : Hid (RSt w w4 rb gb mb lb' sb' qb' (putNx true (p : Int) nx) (putXs true (p : Int) nx xs) (sp ++ putSp true (p : Int) nx xs)) :=
          HS.out.put3 (putXs_len _ _ _ _ HS.out.len4) HG2.out HR2.out HK3.out HG3.out HO3.out hM4 hOl hOs hK4
        have CC : Hid ((sp ++ putSp true (p : Int) nx xs).length + (putXs true (p : Int) nx xs).length + one (putNx true (p : Int) nx) ≤ p + 1) := by
          have := put_count true (p : Int) nx xs sp HS.out.len4 (by omega)
          have := HC.out
          exact Nat.le_trans ‹_› (by omega)
        clear hM4 hOl hOs hK4 HM3 HG3 HO3 HK3 HR2 HG2 HS
        go_wp2_with fail
        refine (agrees_any mb rb gb lb' sb' qb' (putNx true (p : Int) nx) (putXs true (p : Int) nx xs) (sp ++ putSp true (p : Int) nx xs) _ SS.out.model SS.out.ring SS.out.glob SS.out.len4 (by have := CC.out; omega)).mono ?_
        rintro e wz ⟨rfl, hbz⟩
        have FIN : Hid (RRel w rb gb mb (p + 1) wz) := ⟨lb', sb', qb', (putNx true (p : Int) nx), (putXs true (p : Int) nx xs), (sp ++ putSp true (p : Int) nx xs), SS.out.below hbz, CC.out⟩
        clear hbz SS
        go_wp2
        go_roundw
        case rel => exact ⟨k + 1, (p + 1), by go_num, by go_num, by omega, by omega, FIN.out⟩
        case measure => simp [intOf]; omega
      · -- Put, true
        go_wp2_with fail
        refine (put_any rb true (p : Int) nx xs _ HS.out.ring).mono ?_
        rintro e w2 ⟨rfl, hR2, hg2⟩
        obtain ⟨m2, g2, _⟩ := HS.out.ring1 hg2
        have HR2 : Hid (RingIs w2 rb (putXs true (p : Int) nx xs) (putNx true (p : Int) nx)) := hR2
        have HG2 : Hid (wr.grownBy w2 (some rb)) := hg2
        have HGl2 : Hid (GlobIs w2 gb qb sp) := g2
        clear hR2 hg2 g2 m2
        go_wp2_with fail
        refine (pushSpill_any gb qb sp (putSp true (p : Int) nx xs) _ HGl2.out (putSp_len _ _ _ _ HS.out.len4) (by have := putSp_le true (p : Int) nx xs HS.out.len4; have := HC.out; omega)).mono ?_
        rintro e w3 ⟨rfl, qb', hG3, hO3, hK3⟩
        obtain ⟨m3, r3, _⟩ := HS.out.glob2 HG2.out HR2.out hK3
        have HM3 : Hid (ModelIs w3 mb lb sb nx xs sp) := m3
        have HG3 : Hid (GlobIs w3 gb qb' (sp ++ putSp true (p : Int) nx xs)) := hG3
        have HO3 : Hid (OldOrNew w2 qb qb') := hO3
        have HK3 : Hid (Kept w2 w3 (fun k => k = gb ∨ qb = some k)) := hK3
        clear hG3 hO3 hK3 m3 r3 HGl2
        go_wp2_with fail
        refine (mput_any mb lb sb true (p : Int) nx xs sp _ HM3.out HS.out.len4 (by have := HC.out; omega)).mono ?_
        rintro e w4 ⟨rfl, lb', sb', hM4, hOl, hOs, hK4⟩
        have SS : Hid (RSt w w4 rb gb mb lb' sb' qb' (putNx true (p : Int) nx) (putXs true (p : Int) nx xs) (sp ++ putSp true (p : Int) nx xs)) :=
          HS.out.put3 (putXs_len _ _ _ _ HS.out.len4) HG2.out HR2.out HK3.out HG3.out HO3.out hM4 hOl hOs hK4
        have CC : Hid ((sp ++ putSp true (p : Int) nx xs).length + (putXs true (p : Int) nx xs).length + one (putNx true (p : Int) nx) ≤ p + 1) := by
          have := put_count true (p : Int) nx xs sp HS.out.len4 (by omega)
          have := HC.out
          exact Nat.le_trans ‹_› (by omega)
        clear hM4 hOl hOs hK4 HM3 HG3 HO3 HK3 HR2 HG2 HS
        go_wp2_with fail
        refine (agrees_any mb rb gb lb' sb' qb' (putNx true (p : Int) nx) (putXs true (p : Int) nx xs) (sp ++ putSp true (p : Int) nx xs) _ SS.out.model SS.out.ring SS.out.glob SS.out.len4 (by have := CC.out; omega)).mono ?_
        rintro e wz ⟨rfl, hbz⟩
        have FIN : Hid (RRel w rb gb mb (p + 1) wz) := ⟨lb', sb', qb', (putNx true (p : Int) nx), (putXs true (p : Int) nx xs), (sp ++ putSp true (p : Int) nx xs), SS.out.below hbz, CC.out⟩
        clear hbz SS
        go_wp2
        go_roundw
        case rel => exact ⟨k + 1, (p + 1), by go_num, by go_num, by omega, by omega, FIN.out⟩
        case measure => simp [intOf]; omega
      · -- Get
        go_wp2_with fail
        refine (get_any rb xs nx _ HS.out.ring).mono ?_
        rintro e w2 ⟨rfl, hR2, hg2⟩
        obtain ⟨m2, g2, _⟩ := HS.out.ring1 hg2
        have HR2 : Hid (RingIs w2 rb (getXs xs nx) (-1)) := hR2
        have HG2 : Hid (wr.grownBy w2 (some rb)) := hg2
        have HM2 : Hid (ModelIs w2 mb lb sb nx xs sp) := m2
        clear hR2 hg2 g2 m2
        go_wp2_with fail
        refine (mget_any mb lb sb nx xs sp _ HM2.out HS.out.len4).mono ?_
        rintro e w3 ⟨rfl, hM3, hK3⟩
        have SS : Hid (RSt w w3 rb gb mb lb sb qb (-1) (getXs xs nx) sp) := HS.out.get2 (getXs_len _ _ HS.out.len4) HG2.out HR2.out hM3 hK3
        have CC : Hid (sp.length + (getXs xs nx).length + one (-1) ≤ p) := Nat.le_trans (get_count nx xs sp) HC.out
        clear hM3 hK3 HM2 HR2 HG2 HS
        generalize getV xs nx = gv
        generalize getB xs nx = gbv
        go_wp2_with fail
        refine (agrees_any mb rb gb lb sb qb (-1) (getXs xs nx) sp _ SS.out.model SS.out.ring SS.out.glob SS.out.len4 (by have := CC.out; omega)).mono ?_
        rintro e wz ⟨rfl, hbz⟩
        have FIN : Hid (RRel w rb gb mb p wz) := ⟨lb, sb, qb, (-1), (getXs xs nx), sp, SS.out.below hbz, CC.out⟩
        clear hbz SS
        go_wp2
        go_roundw
        case rel => exact ⟨k + 1, p, by go_num, rfl, by omega, by omega, FIN.out⟩
        case measure => simp [intOf]; omega
      · -- Get
        go_wp2_with fail
        refine (get_any rb xs nx _ HS.out.ring).mono ?_
        rintro e w2 ⟨rfl, hR2, hg2⟩
        obtain ⟨m2, g2, _⟩ := HS.out.ring1 hg2
        have HR2 : Hid (RingIs w2 rb (getXs xs nx) (-1)) := hR2
        have HG2 : Hid (wr.grownBy w2 (some rb)) := hg2
        have HM2 : Hid (ModelIs w2 mb lb sb nx xs sp) := m2
        clear hR2 hg2 g2 m2
        go_wp2_with fail
        refine (mget_any mb lb sb nx xs sp _ HM2.out HS.out.len4).mono ?_
        rintro e w3 ⟨rfl, hM3, hK3⟩
        have SS : Hid (RSt w w3 rb gb mb lb sb qb (-1) (getXs xs nx) sp) := HS.out.get2 (getXs_len _ _ HS.out.len4) HG2.out HR2.out hM3 hK3
        have CC : Hid (sp.length + (getXs xs nx).length + one (-1) ≤ p) := Nat.le_trans (get_count nx xs sp) HC.out
        clear hM3 hK3 HM2 HR2 HG2 HS
        generalize getV xs nx = gv
        generalize getB xs nx = gbv
        go_wp2_with fail
        refine (agrees_any mb rb gb lb sb qb (-1) (getXs xs nx) sp _ SS.out.model SS.out.ring SS.out.glob SS.out.len4 (by have := CC.out; omega)).mono ?_
        rintro e wz ⟨rfl, hbz⟩
        have FIN : Hid (RRel w rb gb mb p wz) := ⟨lb, sb, qb, (-1), (getXs xs nx), sp, SS.out.below hbz, CC.out⟩
        clear hbz SS
        go_wp2
        go_roundw
        case rel => exact ⟨k + 1, p, by go_num, rfl, by omega, by omega, FIN.out⟩
        case measure => simp [intOf]; omega
      · -- StealHalf
        go_wp2_with fail
        refine (msteal_any mb rb lb sb nx xs sp s _ HS.out.model HS.out.ring HS.out.len4 hs (fun e => HS.out.ne.2.1 e.symm) (fun e => (HS.out.dl _ e).1 rfl) (fun e => (HS.out.ds _ e).1 rfl)).mono ?_
        rintro e w2 ⟨rfl, hM2, hR2, hK2⟩
        have hdl : (xs.drop (xs.length - xs.length / 2)).length ≤ xs.length := by rw [List.length_drop]; omega
        have SS : Hid (RSt w w2 rb gb mb lb sb qb nx (xs.drop (xs.length - xs.length / 2)) sp) := HS.out.steal1 (Nat.le_trans hdl HS.out.len4) hM2 hR2 hK2
        have CC : Hid (sp.length + (xs.drop (xs.length - xs.length / 2)).length + one nx ≤ p) := by have := HC.out; show _ ≤ _; omega
        clear hM2 hR2 hK2 HS hdl
        go_wp2_with fail
        refine (agrees_any mb rb gb lb sb qb nx (xs.drop (xs.length - xs.length / 2)) sp _ SS.out.model SS.out.ring SS.out.glob SS.out.len4 (by have := CC.out; omega)).mono ?_
        rintro e wz ⟨rfl, hbz⟩
        have FIN : Hid (RRel w rb gb mb p wz) := ⟨lb, sb, qb, nx, (xs.drop (xs.length - xs.length / 2)), sp, SS.out.below hbz, CC.out⟩
        clear hbz SS
        go_wp2
        go_roundw
        case rel => exact ⟨k + 1, p, by go_num, rfl, by omega, by omega, FIN.out⟩
        case measure => simp [intOf]; omega
      · -- nothing
        have SS : Hid (RSt w wr rb gb mb lb sb qb nx xs sp) := HS.out
        have CC : Hid (sp.length + xs.length + one nx ≤ p) := HC.out
        clear HS
        go_wp2_with fail
        refine (agrees_any mb rb gb lb sb qb nx xs sp _ SS.out.model SS.out.ring SS.out.glob SS.out.len4 (by have := CC.out; omega)).mono ?_
        rintro e wz ⟨rfl, hbz⟩
        have FIN : Hid (RRel w rb gb mb p wz) := ⟨lb, sb, qb, nx, xs, sp, SS.out.below hbz, CC.out⟩
        clear hbz SS
        go_wp2
        go_roundw
        case rel => exact ⟨k + 1, p, by go_num, rfl, by omega, by omega, FIN.out⟩
        case measure => simp [intOf]; omega
    · have HB : Hid (Below w.heap.size w wr) := HS.out.bel
      clear HS HC
      go_wp2
      go_ret
      exact ⟨rfl, HB.out⟩
end Go.Proofs.Ygdaig
