/-
  rq.Local's StealHalf, NewLocal, law.NewRing: THE WALKS; a frame for writes to several blocks.
-/
import Derived.Test.YgdaigRingPut
import Derived.Deep.RegionWith
namespace Go.Proofs.Ygdaig
open Go.RowKit
set_option linter.unusedVariables false

/-- w' is w with new blocks, and with writes to blocks of p alone. -/
structure Kept (w w' : World) (p : Nat → Prop) : Prop where
  os : w'.os = w.os
  tape : w'.tape = w.tape
  output : w'.output = w.output
  size : w.heap.size ≤ w'.heap.size
  block : ∀ k, k < w.heap.size → ¬ p k → w'.heap[k]? = w.heap[k]?
theorem kept_refl (w : World) (p : Nat → Prop) : Kept w w p := ⟨rfl, rfl, rfl, Nat.le_refl _, fun _ _ _ => rfl⟩
theorem Kept.trans {a b c : World} {p : Nat → Prop} (h : Kept a b p) (k : Kept b c p) : Kept a c p :=
  ⟨k.os.trans h.os, k.tape.trans h.tape, k.output.trans h.output, Nat.le_trans h.size k.size, fun i hi hp => (k.block i (Nat.lt_of_lt_of_le hi h.size) hp).trans (h.block i hi hp)⟩
theorem Kept.mono {a b : World} {p q : Nat → Prop} (h : Kept a b p) (hpq : ∀ k, k < a.heap.size → p k → q k) : Kept a b q := ⟨h.os, h.tape, h.output, h.size, fun i hi hq => h.block i hi (fun hp => hq (hpq i hi hp))⟩
theorem kept_grown {a b : World} {r : Nat} {p : Nat → Prop} (h : a.grownBy b (some r)) (hr : p r) : Kept a b p := ⟨h.os, h.tape, h.output, h.size, fun i hi hp => h.block i hi (fun e => hp (by cases e; exact hr))⟩
theorem kept_below {a b : World} {p : Nat → Prop} (h : Below a.heap.size a b) : Kept a b p := ⟨h.os, h.tape, h.output, h.size, fun i hi _ => h.block i hi⟩
theorem Kept.drew {a b : World} {p : Nat → Prop} (h : Kept a b p) : Kept a b.drew p := ⟨h.os, h.tape, h.output, h.size, h.block⟩
theorem Kept.alloc {a b : World} {p : Nat → Prop} (h : Kept a b p) (o : Obj) : Kept a (b.alloc o) p :=
  h.trans ⟨rfl, rfl, rfl, by simp, fun k hk _ => Below.heap_alloc _ _ _ hk⟩
theorem Kept.set {a b : World} {p : Nat → Prop} (h : Kept a b p) {r : Nat} (hr : p r ∨ a.heap.size ≤ r) (o : Nat) (v : Value) : Kept a (b.setCell ⟨r, o, none⟩ v) p :=
  ⟨h.os, h.tape, h.output, by have := h.size; simp; omega, fun k hk hp => (Below.heap_setCell _ _ _ _ (by
    intro e
    simp only at e
    subst e
    rcases hr with hr | hr
    · exact hp hr
    · omega)).trans (h.block k hk hp)⟩
/-- What lies beyond B alone is written. -/
theorem Kept.toBelow {a w w' : World} {B : Nat} {p : Nat → Prop} (h : Below B a w) (k : Kept w w' p) (hB : B ≤ w.heap.size) (hp : ∀ k, p k → B ≤ k) : Below B a w' :=
  h.trans ⟨k.os, k.tape, k.output, k.size, fun i hi => k.block i (by omega) (fun e => by have := hp i e; omega)⟩

set_option maxHeartbeats 400000 in
theorem newLocal_any (s : Nat) (w : World) :
    Calls Yaid.prog 24 #[.int .u8 s] w fun e w' => e = .returned (.agg #[.int .u8 s, .int .u8 s, .int .i64 0, .int .i64 0, .int .i64 0, .int .i64 0, .int .i64 (-1)]) ∧ Below w.heap.size w w' := by
  go_enter Yaid.func24, Yaid.ntmps24
  go_wp2
  refine bodyPost_ret (v := .agg #[.int .u8 s, .int .u8 s, .int .i64 0, .int .i64 0, .int .i64 0, .int .i64 0, .int .i64 (-1)]) (by simp [results, Yaid.results24, go_sem]) rfl ⟨rfl, ?_⟩
  go_grown

theorem ring_made (w : World) (s : Nat) (hs : s < 256) : RingIs (w.alloc (.cells #[.int .u8 s, .int .u8 s, .int .i64 0, .int .i64 0, .int .i64 0, .int .i64 0, .int .i64 (-1)] 80)) w.heap.size [] (-1) := by
  refine ⟨s, s, fun _ => 0, ⟨World.cell?_alloc_new _ _ _ _, World.cell?_alloc_new _ _ _ _, fun i hi => ?_, World.cell?_alloc_new _ _ _ _, fun o => World.frozen?_alloc_new _ _ _ _⟩, hs, hs, by simp, by simp, fun i hi => by simp at hi⟩
  rw [World.cell?_alloc_new]
  match i, hi with
  | 0, _ => rfl
  | 1, _ => rfl
  | 2, _ => rfl
  | 3, _ => rfl

set_option maxHeartbeats 400000 in
theorem newRing_any (s : Nat) (w : World) (hs : s < 256) :
    Calls Yaid.prog 12 #[.int .u8 s] w fun e w' => ∃ rb, e = .returned (.iface 78 (.pointer (some ⟨rb, 0, none⟩))) ∧ w.heap.size ≤ rb ∧ RingIs w' rb [] (-1) ∧ Below w.heap.size w w' := by
  go_enter Yaid.func12, Yaid.ntmps12
  go_wp2_with (go_at_call 24; refine (newLocal_any s _).mono ?_; rintro e w1 ⟨rfl, hb1⟩)
  go_ret
  have hz := hb1.size
  refine ⟨w1.heap.size + 1, rfl, by omega, ?_, (hb1.alloc hz _).alloc (by simp; omega) _⟩
  have := ring_made (w1.alloc (.cells #[.int .u8 s, .int .u8 s, .int .i64 0, .int .i64 0, .int .i64 0, .int .i64 0, .int .i64 (-1)] 76)) s hs
  rw [World.size_alloc] at this
  exact this

/-- One goes from the victim's head to the thief's tail. -/
theorem steal_one {w : World} {tb vb h t h2 t2 : Nat} {r r2 : Nat → Int} {nx nx2 x : Int} {ys zs : List Int} (hne : tb ≠ vb) (k : RingAt w tb h t r nx) (k2 : RingAt w vb h2 t2 r2 nx2)
    (hh : h < 256) (hn : ((t : Int) - (h : Int)) % 256 = ((ys.length : Nat) : Int)) (h4 : ys.length < 4) (hx : ∀ i, i < ys.length → ys[i]? = some (r ((h + i) % 4)))
    (ht2 : t2 < 256) (hn2 : ((t2 : Int) - (h2 : Int)) % 256 = (((x :: zs).length : Nat) : Int)) (h42 : (x :: zs).length ≤ 4) (hx2 : ∀ i, i < (x :: zs).length → (x :: zs)[i]? = some (r2 ((h2 + i) % 4)))
    (j t' h' : Nat) (hj : j = t % 4) (ht' : t' = (t + 1) % 256) (hh' : h' = (h2 + 1) % 256) :
    RingIs (((w.setCell ⟨tb, 2 + j, none⟩ (.int .i64 x)).setCell ⟨tb, 1, none⟩ (.int .u8 t')).setCell ⟨vb, 0, none⟩ (.int .u8 h')) tb (ys ++ [x]) nx ∧
    RingIs (((w.setCell ⟨tb, 2 + j, none⟩ (.int .i64 x)).setCell ⟨tb, 1, none⟩ (.int .u8 t')).setCell ⟨vb, 0, none⟩ (.int .u8 h')) vb zs nx2 := by
  refine ⟨?_, ?_⟩
  · exact (ring_push k hh hn h4 hx x j t' hj ht').of_block (Below.heap_setCell _ _ _ _ hne)
  · refine ring_pop (w := (w.setCell ⟨tb, 2 + j, none⟩ (.int .i64 x)).setCell ⟨tb, 1, none⟩ (.int .u8 t')) (k2.of_block ?_) ht2 hn2 h42 hx2 h' hh'
    rw [Below.heap_setCell _ _ _ _ (Ne.symm hne), Below.heap_setCell _ _ _ _ (Ne.symm hne)]

set_option maxHeartbeats 1000000 in
theorem rsteal_any (tb vb : Nat) (xs : List Int) (nx : Int) (w : World) (hne : tb ≠ vb) (HT : RingIs w tb [] (-1)) (HV : RingIs w vb xs nx) :
    Calls Yaid.prog 65 #[.pointer (some ⟨tb, 0, none⟩), .pointer (some ⟨vb, 0, none⟩)] w fun e w' => e = .returned (.int .i64 ((xs.length - xs.length / 2 : Nat) : Int)) ∧
      RingIs w' tb (xs.take (xs.length - xs.length / 2)) (-1) ∧ RingIs w' vb (xs.drop (xs.length - xs.length / 2)) nx ∧ Kept w w' (fun k => k = tb ∨ k = vb) := by
  have h4 : xs.length ≤ 4 := by obtain ⟨_, _, _, _, _, _, _, h, _⟩ := HV; exact h
  obtain ⟨k, hk⟩ : ∃ k, k = xs.length - xs.length / 2 := ⟨_, rfl⟩
  have hk2 : k ≤ 2 := by omega
  have hk3 : k ≤ xs.length := by omega
  rw [← hk]
  have e1 : ((xs.length : Int)) - (xs.length : Int) / 2 = (k : Int) := by omega
  have e2 : ((xs.length : Int)) - wrap64 ((xs.length : Int).tdiv 2) = (k : Int) := by
    rw [Int.tdiv_eq_ediv_of_nonneg (by omega), IntWalk.wrap64_in _ (by omega)]; omega
  have HTT : Hid (RingIs w tb [] (-1)) := HT
  have HVV : Hid (RingIs w vb xs nx) := HV
  have HK : Hid (k = xs.length - xs.length / 2) := hk
  clear HT HV hk
  obtain ⟨hT, tT, rT, k1, _, _, hn1, _⟩ := HTT.out
  obtain ⟨hV, tV, rV, k2, _, _, hn2, _⟩ := HVV.out
  have K1 : Hid (RingAt w tb hT tT rT (-1)) := k1
  have K2 : Hid (RingAt w vb hV tV rV nx) := k2
  have HN1 : Hid (((tT : Int) - (hT : Int)) % 256 = ((0 : Nat) : Int)) := hn1
  have HN2 : Hid (((tV : Int) - (hV : Int)) % 256 = ((xs.length : Nat) : Int)) := hn2
  clear k1 k2 hn1 hn2
  go_enter Yaid.func65, Yaid.ntmps65
  go_wp2_with fail
  refine (rlen_any vb hV tV xs.length rV nx _ K2.out HN2.out).mono ?_
  rintro e w1 ⟨rfl, hb1⟩
  go_wp2_with fail
  refine (rlen_any tb hT tT 0 rT (-1) _ (K1.out.below hb1) HN1.out).mono ?_
  rintro e w2 ⟨rfl, hb2⟩
  go_wp2
  have HT2 : Hid (RingIs w2 tb [] (-1)) := (HTT.out.below hb1).below hb2
  have HV2 : Hid (RingIs w2 vb xs nx) := (HVV.out.below hb1).below hb2
  have HK2 : Hid (Kept w w2 (fun k => k = tb ∨ k = vb)) := (kept_below hb1).trans (kept_below hb2)
  clear K1 K2 HTT HVV hb1 hb2 HN1 HN2 e1 e2
  go_loopw [8] (fun v8 wr => ∃ i : Nat, v8 = .int .i64 i ∧ i ≤ k ∧ RingIs wr tb (xs.take i) (-1) ∧ RingIs wr vb (xs.drop i) nx ∧ Kept w wr (fun k => k = tb ∨ k = vb)) (fun v8 _ => 5 - (intOf v8).toNat)
  case atStart => exact ⟨0, rfl, by omega, HT2.out, HV2.out, HK2.out⟩
  case round =>
    obtain ⟨i, rfl, hi, hT1, hV1, hKp⟩ := hrel
    by_cases hlt : i < k
    · obtain ⟨x, hdx⟩ : ∃ x, xs.drop i = x :: xs.drop (i + 1) := ⟨xs[i]'(by omega), List.drop_eq_getElem_cons (by omega)⟩
      have htk : xs.take (i + 1) = xs.take i ++ [x] := by
        have h1 : xs[i]? = some x := by
          have := congrArg (fun l => l[0]?) hdx
          simpa using this
        rw [List.take_add_one, h1]
        rfl
      have htl : (xs.take i).length = i := by simp; omega
      rw [hdx] at hV1
      obtain ⟨h, t, r, k1, hh, ht, hn, _, hx⟩ := hT1
      obtain ⟨h2, t2, r2, k2, hh2, ht2, hn2, h42, hx2⟩ := hV1
      obtain ⟨j, hj⟩ : ∃ j, j = t % 4 := ⟨_, rfl⟩
      obtain ⟨t', ht'⟩ : ∃ t', t' = (t + 1) % 256 := ⟨_, rfl⟩
      obtain ⟨j2, hj2⟩ : ∃ j, j = h2 % 4 := ⟨_, rfl⟩
      obtain ⟨h', hh'⟩ : ∃ h', h' = (h2 + 1) % 256 := ⟨_, rfl⟩
      have FIN : Hid _ := steal_one (w := wr) hne k1 k2 hh hn (by omega) hx ht2 hn2 h42 hx2 j t' h' hj ht' hh'
      have hxj : x = r2 j2 := by have := hx2 0 (by simp); rw [hj2]; simpa using this
      obtain ⟨c0, c1, c2, c3, fz⟩ := id k1
      obtain ⟨d0, d1, d2, d3, fz2⟩ := id k2
      have cj := c2 j (by omega)
      have dj := d2 j2 (by omega)
      rw [← hxj] at dj
      have e1 : ((t : Int)).tmod 4 = (j : Int) := by rw [Int.tmod_eq_emod_of_nonneg (by omega)]; omega
      have e2 : ((t : Int)) % 4 = (j : Int) := by omega
      have e3 : ((t : Int) + 1) % 256 = (t' : Int) := by omega
      have e4 : IntKind.u8.wrap ((t : Int) + 1) = (t' : Int) := by rw [u8_wrap]; omega
      have e5 : ((h2 : Int)).tmod 4 = (j2 : Int) := by rw [Int.tmod_eq_emod_of_nonneg (by omega)]; omega
      have e6 : ((h2 : Int)) % 4 = (j2 : Int) := by omega
      have e7 : ((h2 : Int) + 1) % 256 = (h' : Int) := by omega
      have e8 : IntKind.u8.wrap ((h2 : Int) + 1) = (h' : Int) := by rw [u8_wrap]; omega
      have hj4 : j < 4 := by omega
      have hj24 : j2 < 4 := by omega
      have HKP : Hid (Kept w wr (fun k => k = tb ∨ k = vb)) := hKp
      have HDX : Hid (xs.drop i = x :: xs.drop (i + 1)) := hdx
      have HTK : Hid (xs.take (i + 1) = xs.take i ++ [x]) := htk
      clear c2 d2 k1 k2 hx hx2 hn hn2 hxj hj hj2 ht' hh' hKp hdx htk htl h42
      go_wp2
      go_region
      go_wp2
      go_roundw
      case rel =>
        refine ⟨i + 1, by go_num, by omega, ?_, ?_, ?_⟩
        · rw [HTK.out]; exact FIN.out.1.drew
        · exact FIN.out.2.drew
        · exact (((HKP.out.set (.inl (.inl rfl)) _ _).set (.inl (.inl rfl)) _ _).set (.inl (.inr rfl)) _ _).drew
      case measure => simp [intOf]; omega
    · obtain rfl : i = k := by omega
      go_wp2
      go_ret
      exact ⟨rfl, hT1, hV1, hKp⟩

theorem steal_assert (vb : Nat) (w : World) : (Instr.typeAssert (.iface 78 (.pointer (some ⟨vb, 0, none⟩))) 59 78 true).run Yaid.prog w = .ok (.tuple #[.pointer (some ⟨vb, 0, none⟩), .bool true]) w := by kernel_rfl

set_option maxRecDepth 100000 in
set_option maxHeartbeats 1000000 in
theorem steal_any (tb vb : Nat) (xs : List Int) (nx : Int) (w : World) (hne : tb ≠ vb) (HT : RingIs w tb [] (-1)) (HV : RingIs w vb xs nx) :
    Calls Yaid.prog 59 #[.pointer (some ⟨tb, 0, none⟩), .iface 78 (.pointer (some ⟨vb, 0, none⟩))] w fun e w' => e = .returned (.int .i64 ((xs.length - xs.length / 2 : Nat) : Int)) ∧
      RingIs w' tb (xs.take (xs.length - xs.length / 2)) (-1) ∧ RingIs w' vb (xs.drop (xs.length - xs.length / 2)) nx ∧ Kept w w' (fun k => k = tb ∨ k = vb) := by
  have HTT : Hid (RingIs w tb [] (-1)) := HT
  have HVV : Hid (RingIs w vb xs nx) := HV
  clear HT HV
  have hta := steal_assert vb
  go_enter Yaid.func59, Yaid.ntmps59
  go_wp2
  go_region_with (go_at_call 65; refine (rsteal_any tb vb xs nx _ hne HTT.out.drew HVV.out.drew).mono ?_; rintro e w1 ⟨rfl, hq1, hq2, hq3⟩)
  all_goals
    go_wp2
    go_ret
    exact ⟨rfl, hq1, hq2, ⟨hq3.os, hq3.tape, hq3.output, hq3.size, hq3.block⟩⟩
end Go.Proofs.Ygdaig
