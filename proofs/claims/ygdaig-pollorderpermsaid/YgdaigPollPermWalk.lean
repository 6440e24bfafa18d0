/-
  law.PollOrderPermOf over sel.PollOrder: THE WALK.
-/
import Derived.Test.YgdaigPollOrder
import Derived.Test.YgdaigIsPerm
namespace Go.Proofs.Ygdaig
open Go.RowKit
set_option linter.unusedVariables false

set_option maxHeartbeats 400000 in
theorem newTape_any (a : Option Addr) (len cap : Nat) (w : World) :
    Calls Yaid.prog 17 #[.slice a len cap] w fun e w' => e = .returned (.agg #[.slice a len cap, .int .i64 0, .int .i64 0, .int .i64 0]) ∧ Below w.heap.size w w' := by
  go_enter Yaid.func17, Yaid.ntmps17
  go_wp2
  refine bodyPost_ret (v := .agg #[.slice a len cap, .int .i64 0, .int .i64 0, .int .i64 0]) (by simp [results, Yaid.results17, go_sem]) rfl ⟨rfl, ?_⟩
  go_grown

theorem poll_any (n : Nat) (tb : Nat) (a : Option Addr) (len cap : Nat) (z : Nat → Int) (b : Int) (w : World) (hT : TapeAt w tb a len cap 0 0 b) (hN : NumsAt w tb a len z) (ha : 0 < len → ∀ b off, a = some ⟨b, off, none⟩ → b < w.heap.size) (hlen : len ≤ 9223372036854775807)
    (h1 : 1 ≤ n) (h3 : n ≤ 3) :
    Calls Yaid.prog 10 #[.int .i64 n, .pointer (some ⟨tb, 0, none⟩)] w fun e w' => ∃ q : Nat × Nat × Nat, PermQ q n ∧ e = .returned (.agg #[.int .i64 q.1, .int .i64 q.2.1, .int .i64 q.2.2, .int .i64 n]) ∧ w.grownBy w' (some tb) := by
  have : n = 1 ∨ n = 2 ∨ n = 3 := by omega
  rcases this with rfl | rfl | rfl
  · refine (poll1_any tb w hT.lt).mono ?_
    rintro e w' ⟨rfl, hb⟩
    exact ⟨(0, 0, 0), perm1 0 0, rfl, hb⟩
  · refine (poll2_any tb a len cap z b w hT hN ha hlen).mono ?_
    rintro e w' ⟨rfl, hb⟩
    exact ⟨_, poll2_perm _, rfl, hb⟩
  · refine (poll3_any tb a len cap z b w hT hN ha hlen).mono ?_
    rintro e w' ⟨p0, p1, p2, hq, rfl, hb⟩
    exact ⟨(p0, p1, p2), hq ▸ poll3_perm _ _, rfl, hb⟩

set_option maxHeartbeats 400000 in
theorem pp_out (n : Int) (a : Option Addr) (len cap : Nat) (w : World) (h : n < 1 ∨ 3 < n) :
    Calls Yaid.prog 9 #[.func (.func 10) #[] #[], .int .i64 n, .slice a len cap] w fun e w' => e = .returned (.bool true) ∧ Below w.heap.size w w' := by
  rcases h with h | h
  · go_enter Yaid.func9, Yaid.ntmps9
    go_wp2
    go_ret
    exact ⟨rfl, Below.refl _ _⟩
  · have d1 : ¬ n < 1 := by omega
    go_enter Yaid.func9, Yaid.ntmps9
    go_wp2
    go_ret
    exact ⟨rfl, Below.refl _ _⟩

theorem tapeAt_alloc (w : World) (a : Option Addr) (len cap : Nat) : TapeAt (w.alloc (.cells #[.slice a len cap, .int .i64 0, .int .i64 0, .int .i64 0] 53)) w.heap.size a len cap 0 0 0 :=
  ⟨World.cell?_alloc_new _ _ _ _, World.cell?_alloc_new _ _ _ _, World.cell?_alloc_new _ _ _ _, World.cell?_alloc_new _ _ _ _, fun o => World.frozen?_alloc_new _ _ _ _⟩

def z27 : Array Value := Array.replicate 27 (.bool false)
theorem zero56 (w : World) : (zeroValue 56).run Yaid.prog w = .ok (.agg z27) w := by kernel_rfl
theorem marks_made (w : World) : MarksAt (w.alloc (.cells z27 56)) w.heap.size 27 (fun j => (seenX 0).contains j) := by
  refine ⟨fun j hj => ?_, fun o => World.frozen?_alloc_new _ _ _ _⟩
  rw [World.cell?_alloc_new]
  unfold z27
  simp [hj, seenX]
theorem MarksAt.lt {w : World} {b m : Nat} {s : Nat → Bool} (h : MarksAt w b m s) (hm : 0 < m) : b < w.heap.size := World.block_lt_of_cell? w _ (h.1 0 hm)

/-- The numbers of the law's tape number x. -/
def zX (x : Nat) (j : Nat) : Int := if j = 0 then (x : Int) / 36 else if j = 1 then (x : Int) / 6 % 6 else (x : Int) % 6
theorem tvX0 (x : Nat) (hx : x < 216) : tv (zX x) 3 0 % 3 = x / 36 % 3 := by
  unfold tv zX
  simp
  omega
theorem tvX1 (x : Nat) (hx : x < 216) : tv (zX x) 3 (tnx 3 0) % 2 = x / 6 % 6 % 2 := by
  unfold tv zX tnx
  simp
  omega
theorem rowX (w : World) (x : Nat) : 0 < 3 → ∃ b off, some (⟨w.heap.size, 0, none⟩ : Addr) = some ⟨b, off, none⟩ ∧ b < (w.alloc (.cells #[.int .i64 ((x : Int) / 36), .int .i64 ((x : Int) / 6 % 6), .int .i64 ((x : Int) % 6)] 3)).heap.size ∧
    ∀ j, j < 3 → (w.alloc (.cells #[.int .i64 ((x : Int) / 36), .int .i64 ((x : Int) / 6 % 6), .int .i64 ((x : Int) % 6)] 3)).cell? ⟨b, off + j, none⟩ = some (.int .i64 (zX x j)) := fun _ => by
  refine ⟨w.heap.size, 0, rfl, by simp, fun j hj => ?_⟩
  rw [World.cell?_alloc_new]
  match j, hj with
  | 0, _ => rfl
  | 1, _ => rfl
  | 2, _ => rfl

theorem ordAt_new (w : World) (q0 q1 q2 n : Nat) : OrdAt (w.alloc (.cells #[.int .i64 q0, .int .i64 q1, .int .i64 q2, .int .i64 n] 46)) w.heap.size q0 q1 q2 n :=
  ⟨World.cell?_alloc_new _ _ _ _, World.cell?_alloc_new _ _ _ _, World.cell?_alloc_new _ _ _ _, World.cell?_alloc_new _ _ _ _, fun o => World.frozen?_alloc_new _ _ _ _⟩

theorem MarksAt.congr {w : World} {b m : Nat} {s s' : Nat → Bool} (h : MarksAt w b m s) (e : ∀ j, s j = s' j) : MarksAt w b m s' := ⟨fun j hj => by rw [← e j]; exact h.1 j hj, h.2⟩
theorem seenX_new {x : Nat} (h : (seenX x).contains (keyX x) = false) : seenX (x + 1) = keyX x :: seenX x := by
  rw [seenX, h]; rfl
theorem seenX_old {x : Nat} (h : (seenX x).contains (keyX x) = true) : seenX (x + 1) = seenX x := by
  rw [seenX, h]; rfl
theorem marks_new {w : World} {b x kk : Nat} (hk : keyX x = kk) (hs : (seenX x).contains kk = false) (h : MarksAt w b 27 (fun j => (seenX x).contains j)) : MarksAt (w.setCell ⟨b, kk, none⟩ (.bool true)) b 27 (fun j => (seenX (x + 1)).contains j) := by
  refine (h.set kk).congr fun j => ?_
  subst hk
  rw [seenX_new hs]
  unfold markN
  by_cases e : j = keyX x
  · subst e; simp
  · rw [if_neg e]; simp [e]

/-- A tape made over numbers that lie in older memory. -/
theorem nums_made {w0 w1 : World} {a : Option Addr} {len : Nat} {z : Nat → Int} {B : Nat} (hB : B ≤ w1.heap.size) (hb : Below B w0 w1)
    (hrow : 0 < len → ∃ b off, a = some ⟨b, off, none⟩ ∧ b < B ∧ ∀ j, j < len → w0.cell? ⟨b, off + j, none⟩ = some (.int .i64 (z j))) (o : Obj) : NumsAt (w1.alloc o) w1.heap.size a len z := fun h0 => by
  obtain ⟨b, off, e, hlt, hc⟩ := hrow h0
  refine ⟨b, off, e, by omega, by simp; omega, fun j hj => ?_⟩
  rw [World.cell?_alloc_lt _ _ _ (by show b < w1.heap.size; omega)]
  exact (hb.cell (p := ⟨b, off + j, none⟩) hlt).trans (hc j hj)

set_option maxRecDepth 100000 in
set_option maxHeartbeats 1000000 in
theorem pp_in (n : Nat) (a : Option Addr) (len cap : Nat) (z : Nat → Int) (w : World) (h1 : 1 ≤ n) (h3 : n ≤ 3) (hlen : len ≤ 9223372036854775807)
   (hrow : 0 < len → ∃ b off, a = some ⟨b, off, none⟩ ∧ b < w.heap.size ∧ ∀ j, j < len → w.cell? ⟨b, off + j, none⟩ = some (.int .i64 (z j))) (ha : 0 < len → ∀ b off, a = some ⟨b, off, none⟩ → b < w.heap.size) :
    Calls Yaid.prog 9 #[.func (.func 10) #[] #[], .int .i64 n, .slice a len cap] w fun e w' => e = .returned (.bool true) ∧ Below w.heap.size w w' := by
  have d1 : ¬ (n : Int) < 1 := by omega
  have d2 : ¬ (3 : Int) < (n : Int) := by omega
  have HR : Hid _ := hrow
  have HA : Hid _ := ha
  clear hrow ha
  have hz56 := zero56
  have hn3 : ((n : Int) != 3) = true ∨ ((n : Int) != 3) = false := by cases ((n : Int) != 3) <;> simp
  rcases hn3 with hn3 | hn3
  all_goals
    go_enter Yaid.func9, Yaid.ntmps9
    go_wp2_with (go_at_call 17; refine (newTape_any a len cap _).mono ?_; rintro e w1 ⟨rfl, hb1⟩)
    have HB1 : Hid (Below w.heap.size w w1) := hb1
    have hz1 := hb1.size
    clear hb1
    refine (poll_any n w1.heap.size a len cap z 0 _ (tapeAt_alloc w1 a len cap) (nums_made hz1 HB1.out HR.out _) (fun h0 b off e => by have := HA.out h0 b off e; simp; omega) hlen h1 h3).mono ?_
    rintro e w2 ⟨q, hq, rfl, hg2⟩
    have HB2 : Hid (Below w.heap.size w w2) := below_of_grown (HB1.out.alloc hz1 _) hg2 (by simp; omega) hz1
    have hz2 := HB2.out.size
    have HQ : Hid (PermQ q n) := hq
    clear hq hg2 HB1 hz1
    go_wp2_with (go_at_call 15; refine (isPerm_any q n _ HQ.out h3).mono ?_; rintro e w3 ⟨rfl, hb3⟩)
  · go_ret
    exact ⟨rfl, (HB2.out.alloc hz2 _).trans (hb3.mono (by simp; omega))⟩
  · have HB3 : Hid (Below w.heap.size w w3) := (HB2.out.alloc hz2 _).trans (hb3.mono (by simp; omega))
    have hz3 := HB3.out.size
    clear hb3 HB2 hz2 HQ HR HA
    rename World => w4
    go_loopw [10, 11] (fun v10 v11 wr => ∃ x : Nat, v11 = .int .i64 x ∧ x ≤ 216 ∧ v10 = .int .i64 ((seenX x).length : Nat) ∧ MarksAt wr w4.heap.size 27 (fun j => (seenX x).contains j) ∧ Below w.heap.size w wr)
      (fun _ v11 _ => 216 - (intOf v11).toNat)
    case atStart => exact ⟨0, rfl, by omega, rfl, marks_made w4, HB3.out.alloc hz3 _⟩
    case round =>
      obtain ⟨x, rfl, hx, rfl, hM, hB⟩ := hrel
      have hsx := seenX_le x
      have hml := hM.lt (by omega)
      by_cases hlt : x < 216
      · have HM : Hid (MarksAt wr w4.heap.size 27 (fun j => (seenX x).contains j)) := hM
        have HB : Hid (Below w.heap.size w wr) := hB
        clear hM hB
        go_wp2_with (go_at_call 17; refine (newTape_any _ 3 3 _).mono ?_; rintro e w5 ⟨rfl, hb5⟩)
        have hw5 : wr.heap.size < w5.heap.size := by have := hb5.size; simp at this; omega
        have hB5 : Below wr.heap.size wr w5 := ((Below.refl _ _).alloc (Nat.le_refl _) _).trans (hb5.mono (by simp))
        have hN5 := nums_made (z := zX x) hb5.size hb5 (rowX wr x) (.cells #[.slice (some ⟨wr.heap.size, 0, none⟩) 3 3, .int .i64 0, .int .i64 0, .int .i64 0] 53)
        refine (poll3_any w5.heap.size (some ⟨wr.heap.size, 0, none⟩) 3 3 (zX x) 0 _ (tapeAt_alloc w5 _ 3 3) hN5 (fun _ b off e => by cases e; simp; omega) (by omega)).mono ?_
        rintro e w6 ⟨p0, p1, p2, hp, rfl, hg6⟩
        rw [tvX0 x hlt, tvX1 x hlt] at hp
        have hp' : pollX x = (p0, p1, p2) := hp
        have hpp : Hid (PermQ (p0, p1, p2) 3) := hp ▸ poll3_perm _ _
        have hpl := pollX_lt x
        rw [hp'] at hpl
        obtain ⟨l0, l1, l2⟩ := hpl
        simp only at l0 l1 l2
        have hkey : keyX x = p0 * 9 + p1 * 3 + p2 := by unfold keyX; rw [hp']
        have HB6 : Hid (Below wr.heap.size wr w6) := below_of_grown (hB5.alloc (by omega) _) hg6 (by simp; omega) (by omega)
        have hw6 := HB6.out.size
        clear hB5 hN5 hg6 hb5 hp
        have HKEY : Hid (keyX x = p0 * 9 + p1 * 3 + p2) := hkey
        have he : (p0 : Int) * 9 + (p1 : Int) * 3 + (p2 : Int) = ((keyX x : Nat) : Int) := by omega
        have hk27 : keyX x < 27 := by omega
        clear hkey hp'
        go_wp2_with fail
        refine (isPerm_any (p0, p1, p2) 3 _ hpp.out (by omega)).mono ?_
        rintro e w8 ⟨rfl, hb8⟩
        have hO8 : OrdAt w8 w6.heap.size p0 p1 p2 3 := (ordAt_new w6 p0 p1 p2 3).below hb8
        have hB8 : Below wr.heap.size wr w8 := (HB6.out.alloc hw6 _).trans (hb8.mono (by simp; omega))
        have hM8 : MarksAt w8 w4.heap.size 27 (fun j => (seenX x).contains j) := HM.out.of_block (hB8.block _ hml)
        have HB8 : Hid (Below w.heap.size w w8) := HB.out.trans (hB8.mono HB.out.size)
        obtain ⟨o0, o1, o2, o3, ofz⟩ := hO8
        have hmk := hM8.1 (keyX x) hk27
        simp only at hmk
        have hmf := hM8.2
        have HM8 : Hid (MarksAt w8 w4.heap.size 27 (fun j => (seenX x).contains j)) := hM8
        clear hM8 hB8 hb8 HB6 HM HB
        obtain ⟨sx, hsxe⟩ : ∃ sx, (seenX x).contains (keyX x) = sx := ⟨_, rfl⟩
        rw [hsxe] at hmk
        have HSX : Hid ((seenX x).contains (keyX x) = sx) := hsxe
        clear hsxe
        generalize hL : (seenX x).length = L at *
        have HL : Hid ((seenX x).length = L) := hL
        clear hL
        generalize hkk : keyX x = kk at *
        have HKK : Hid (keyX x = kk) := hkk
        clear hkk
        go_wp2
        · have hs0 : sx = false := by have h : (!sx) = true := by assumption
                                      simpa using h
          have hnew : (seenX x).contains kk = false := HSX.out.trans hs0
          have hlen' : (seenX (x + 1)).length = L + 1 := by rw [seenX_new (by rw [HKK.out]; exact hnew), List.length_cons, HL.out]
          go_roundw
          case rel => exact ⟨x + 1, by go_num, by omega, by rw [hlen']; go_num, marks_new HKK.out hnew HM8.out, HB8.out.setCell hz3 _⟩
          case measure => simp [intOf]; omega
        · have hs1 : sx = true := by have h : (!sx) = false := by assumption
                                     simpa using h
          have hold : (seenX x).contains kk = true := HSX.out.trans hs1
          have hse : seenX (x + 1) = seenX x := seenX_old (by rw [HKK.out]; exact hold)
          go_roundw
          case rel => exact ⟨x + 1, by go_num, by omega, by rw [hse, HL.out], by rw [hse]; exact HM8.out, HB8.out⟩
          case measure => simp [intOf]; omega
      · obtain rfl : x = 216 := by omega
        have HB : Hid (Below w.heap.size w wr) := hB
        clear hM hB
        rw [seenX_all]
        go_wp2
        go_ret
        exact ⟨rfl, HB.out⟩
end Go.Proofs.Ygdaig
