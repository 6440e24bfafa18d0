/-
  rq.Global's Push: THE WALKS.
-/
import Derived.Test.YgdaigRingSteal
import Derived.Deep.OwnRows
namespace Go.Proofs.Ygdaig
open Go.RowKit
set_option linter.unusedVariables false

theorem info3 : (Yaid.prog.info? 3).map (fun i => (i.zero, i.size, i.bytes)) = some (some (.int .i64 0), 1, 8) := by kernel_rfl

/-- A row of L ints at the head of block b. -/
def RowAt (w : World) (b L : Nat) (f : Nat → Int) : Prop := (∀ i, i < L → w.cell? ⟨b, i, none⟩ = some (.int .i64 (f i))) ∧ ∀ o, w.frozen? ⟨b, o, none⟩ = false
theorem RowAt.of_block {w w' : World} {b L : Nat} {f : Nat → Int} (h : RowAt w b L f) (e : w'.heap[b]? = w.heap[b]?) : RowAt w' b L f :=
  ⟨fun i hi => (World.cell?_of_block (a := ⟨b, i, none⟩) e).trans (h.1 i hi), fun o => (World.frozen?_of_block (a := ⟨b, o, none⟩) e).trans (h.2 o)⟩
theorem RowAt.set {w : World} {b L : Nat} {f : Nat → Int} (h : RowAt w b L f) (j : Nat) (x : Int) : RowAt (w.setCell ⟨b, j, none⟩ (.int .i64 x)) b L (updI f j x) := by
  refine ⟨fun i hi => ?_, fun o => by simpa using h.2 o⟩
  unfold updI
  by_cases e : i = j
  · subst e; rw [if_pos rfl]; exact World.cell?_setCell_same _ _ _ (h.1 i hi)
  · rw [if_neg e, cell_set_off (Ne.symm e)]; exact h.1 i hi
theorem row_made (w : World) (L : Nat) : RowAt (w.alloc (.cells (madeCells #[.int .i64 0] L) 3)) w.heap.size L (fun _ => 0) := by
  refine ⟨fun i hi => ?_, fun o => World.frozen?_alloc_new _ _ _ _⟩
  rw [World.cell?_alloc_new]
  unfold madeCells
  rw [Array.getElem?_map, Array.getElem?_range, if_pos hi]
  simp [Nat.mod_one]

/-- The global queue's header in block gb. -/
def HeadAt (w : World) (gb : Nat) (qv : Value) (n : Nat) : Prop :=
  w.cell? ⟨gb, 0, none⟩ = some qv ∧ w.cell? ⟨gb, 1, none⟩ = some (.int .i64 0) ∧ w.cell? ⟨gb, 2, none⟩ = some (.int .i64 n) ∧ ∀ o, w.frozen? ⟨gb, o, none⟩ = false
theorem HeadAt.of_block {w w' : World} {b n : Nat} {qv : Value} (h : HeadAt w b qv n) (e : w'.heap[b]? = w.heap[b]?) : HeadAt w' b qv n :=
  ⟨(World.cell?_of_block (a := ⟨b, 0, none⟩) e).trans h.1, (World.cell?_of_block (a := ⟨b, 1, none⟩) e).trans h.2.1, (World.cell?_of_block (a := ⟨b, 2, none⟩) e).trans h.2.2.1, fun o => (World.frozen?_of_block (a := ⟨b, o, none⟩) e).trans (h.2.2.2 o)⟩
theorem HeadAt.drew {w : World} {b n : Nat} {qv : Value} (h : HeadAt w b qv n) : HeadAt w.drew b qv n := h
theorem RowAt.drew {w : World} {b L : Nat} {f : Nat → Int} (h : RowAt w b L f) : RowAt w.drew b L f := h
theorem HeadAt.lt {w : World} {b n : Nat} {qv : Value} (h : HeadAt w b qv n) : b < w.heap.size := World.block_lt_of_cell? w _ h.1
theorem HeadAt.setN {w : World} {b n : Nat} {qv : Value} (h : HeadAt w b qv n) (x : Int) (m : Nat) (hx : x = m) : HeadAt (w.setCell ⟨b, 2, none⟩ (.int .i64 x)) b qv m := by
  subst hx
  obtain ⟨c0, c1, c2, fz⟩ := h
  refine ⟨?_, ?_, ?_, fun o => by simpa using fz o⟩
  · rw [cell_set_off (by omega)]; exact c0
  · rw [cell_set_off (by omega)]; exact c1
  · exact World.cell?_setCell_same _ _ _ c2
theorem HeadAt.setQ {w : World} {b n : Nat} {qv : Value} (h : HeadAt w b qv n) (v : Value) : HeadAt ((w.setCell ⟨b, 0, none⟩ v).setCell ⟨b, 1, none⟩ (.int .i64 0)) b v n := by
  obtain ⟨c0, c1, c2, fz⟩ := h
  refine ⟨?_, ?_, ?_, fun o => by simpa using fz o⟩
  · rw [cell_set_off (by omega)]; exact World.cell?_setCell_same _ _ _ c0
  · exact World.cell?_setCell_same _ _ _ (by rw [cell_set_off (by omega)]; exact c1)
  · rw [cell_set_off (by omega), cell_set_off (by omega)]; exact c2

/-- The global queue holds sp, its row in block qb (none: nil). -/
def GlobIs (w : World) (gb : Nat) (qb : Option Nat) (sp : List Int) : Prop :=
  (qb = none ∧ sp = [] ∧ HeadAt w gb (.slice none 0 0) 0) ∨
  ∃ (b L : Nat) (f : Nat → Int), qb = some b ∧ b ≠ gb ∧ b < w.heap.size ∧ HeadAt w gb (.slice (some ⟨b, 0, none⟩) L L) sp.length ∧ RowAt w b L f ∧ sp.length ≤ L ∧ L ≤ 2 * sp.length + 4 ∧ ∀ i, i < sp.length → sp[i]? = some (f i)

theorem sp_snoc {sp : List Int} {f : Nat → Int} (h : ∀ i, i < sp.length → sp[i]? = some (f i)) (g : Int) : ∀ i, i < (sp ++ [g]).length → (sp ++ [g])[i]? = some (updI f sp.length g i) := fun i hi => by
  simp only [List.length_append, List.length_cons, List.length_nil] at hi
  unfold updI
  by_cases e : i = sp.length
  · subst e
    rw [List.getElem?_append_right (Nat.le_refl _), if_pos rfl]
    simp
  · rw [List.getElem?_append_left (by omega), if_neg e]
    exact h i (by omega)

set_option maxHeartbeats 1000000 in
theorem gpush_room (gb b L : Nat) (sp : List Int) (f : Nat → Int) (g : Int) (w : World) (hb : b ≠ gb) (hbl : b < w.heap.size) (hH : HeadAt w gb (.slice (some ⟨b, 0, none⟩) L L) sp.length) (hR : RowAt w b L f) (hL : sp.length < L)
    (hL2 : L ≤ 2 * sp.length + 4) (hf : ∀ i, i < sp.length → sp[i]? = some (f i)) (h44 : sp.length * 8 ≤ 140737488351232) :
    Calls Yaid.prog 28 #[.pointer (some ⟨gb, 0, none⟩), .int .i64 g] w fun e w' => e = .returned (.tuple #[]) ∧ GlobIs w' gb (some b) (sp ++ [g]) ∧ Kept w w' (fun k => k = gb ∨ k = b) := by
  obtain ⟨c0, c1, c2, fz⟩ := id hH
  obtain ⟨n, hn⟩ : ∃ n, n = sp.length := ⟨_, rfl⟩
  rw [← hn] at c2
  have cn := hR.1 n (by omega)
  have fz2 := hR.2
  have e1 : ((n : Int) == (L : Int)) = false := by rw [beq_eq_false_iff_ne]; omega
  have e2 : (n : Int) % (L : Int) = (n : Int) := Int.emod_eq_of_lt (by omega) (by omega)
  have e3 : (n : Int).tmod (L : Int) = (n : Int) := by rw [Int.tmod_eq_emod_of_nonneg (by omega)]; exact e2
  have hnL : n < L := by omega
  have hn44 : n * 8 ≤ 140737488351232 := by omega
  have hL44 : L * 8 ≤ 281474976710656 := by omega
  have HN : Hid (n = sp.length) := hn
  have HH : Hid (HeadAt w gb (.slice (some ⟨b, 0, none⟩) L L) sp.length) := hH
  have HR : Hid (RowAt w b L f) := hR
  have HF : Hid (∀ i, i < sp.length → sp[i]? = some (f i)) := hf
  clear hn hH hR hf
  go_enter Yaid.func28, Yaid.ntmps28
  go_wp2
  go_quiet (fail)
  go_wp2
  go_region
  go_wp2
  go_end0
  have hbel : Kept w (w.drewN (nq + 1)) (fun k => k = gb ∨ k = b) := kept_below ⟨rfl, rfl, rfl, Nat.le_refl _, fun _ _ => rfl⟩
  refine ⟨rfl, .inr ⟨b, L, updI f sp.length g, rfl, hb, by simpa using hbl, ?_, ?_, ?_, ?_, sp_snoc HF.out g⟩, (hbel.set (.inl (.inr rfl)) _ _).set (.inl (.inl rfl)) _ _⟩
  · exact HeadAt.setN (n := sp.length) (HeadAt.of_block (w := w) HH.out (Below.heap_setCell _ _ _ _ (Ne.symm hb))) _ _ (by simp; have := HN.out; omega)
  · rw [← HN.out]
    exact RowAt.of_block (RowAt.set (w := w.drewN (nq + 1)) HR.out n g) (Below.heap_setCell _ _ _ _ hb)
  · simp; have := HN.out; omega
  · simp; have := HN.out; omega

/-- While the row is copied into a larger one. -/
def copyI (f : Nat → Int) (i : Nat) : Nat → Int := fun k => if k < i then f k else 0
theorem copyI_succ (f : Nat → Int) (i : Nat) : updI (copyI f i) i (f i) = copyI f (i + 1) := by
  funext k
  unfold updI copyI
  by_cases e : k = i
  · subst e; rw [if_pos rfl, if_pos (by omega)]
  · rw [if_neg e]
    by_cases h : k < i
    · rw [if_pos h, if_pos (by omega)]
    · rw [if_neg h, if_neg (by omega)]

theorem gpush_fin {wr : World} {gb N n M : Nat} {qv : Value} {sp : List Int} {f : Nat → Int} {g : Int} (hH : HeadAt wr gb qv n) (hR : RowAt wr N M (copyI f n)) (hne : gb ≠ N) (hsz : N < wr.heap.size) (hn : n = sp.length) (hM : M = 2 * n + 4)
    (hf : ∀ i, i < sp.length → sp[i]? = some (f i)) :
    GlobIs ((((wr.setCell ⟨gb, 0, none⟩ (.slice (some ⟨N, 0, none⟩) M M)).setCell ⟨gb, 1, none⟩ (.int .i64 0)).setCell ⟨N, n, none⟩ (.int .i64 g)).setCell ⟨gb, 2, none⟩ (.int .i64 ((n : Int) + 1))).drew gb (some N) (sp ++ [g]) := by
  have hf2 : ∀ i, i < sp.length → sp[i]? = some (copyI f n i) := fun i hi => by
    rw [hf i hi]; unfold copyI; rw [if_pos (by omega)]
  have hlen : (sp ++ [g]).length = n + 1 := by simp; omega
  have h1 : HeadAt (((wr.setCell ⟨gb, 0, none⟩ (.slice (some ⟨N, 0, none⟩) M M)).setCell ⟨gb, 1, none⟩ (.int .i64 0)).setCell ⟨N, n, none⟩ (.int .i64 g)) gb (.slice (some ⟨N, 0, none⟩) M M) n :=
    (hH.setQ (.slice (some ⟨N, 0, none⟩) M M)).of_block (Below.heap_setCell _ _ _ _ hne)
  have h2 := h1.setN ((n : Int) + 1) (n + 1) (by omega)
  have h3 : RowAt ((wr.setCell ⟨gb, 0, none⟩ (.slice (some ⟨N, 0, none⟩) M M)).setCell ⟨gb, 1, none⟩ (.int .i64 0)) N M (copyI f n) := by
    refine hR.of_block ?_
    rw [Below.heap_setCell _ _ _ _ (Ne.symm hne), Below.heap_setCell _ _ _ _ (Ne.symm hne)]
  have h4 := (h3.set n g).of_block (w' := (((wr.setCell ⟨gb, 0, none⟩ (.slice (some ⟨N, 0, none⟩) M M)).setCell ⟨gb, 1, none⟩ (.int .i64 0)).setCell ⟨N, n, none⟩ (.int .i64 g)).setCell ⟨gb, 2, none⟩ (.int .i64 ((n : Int) + 1))) (Below.heap_setCell _ _ _ _ (Ne.symm hne))
  have h5 := sp_snoc hf2 g
  rw [← hn] at h5
  refine .inr ⟨N, M, updI (copyI f n) n g, rfl, Ne.symm hne, ?_, ?_, h4.drew, ?_, ?_, h5⟩
  · simp only [World.size_drew, World.size_setCell]; exact hsz
  · rw [hlen]; exact h2.drew
  · omega
  · omega
theorem gpush_kept {w wr : World} {gb n M : Nat} {g : Int} {p : Nat → Prop} (h : Kept w wr (fun k => k = gb ∨ p k)) :
    Kept w ((((wr.setCell ⟨gb, 0, none⟩ (.slice (some ⟨w.heap.size, 0, none⟩) M M)).setCell ⟨gb, 1, none⟩ (.int .i64 0)).setCell ⟨w.heap.size, n, none⟩ (.int .i64 g)).setCell ⟨gb, 2, none⟩ (.int .i64 ((n : Int) + 1))).drew (fun k => k = gb ∨ p k) :=
  ((((h.set (.inl (.inl rfl)) _ _).set (.inl (.inl rfl)) _ _).set (.inr (Nat.le_refl _)) _ _).set (.inl (.inl rfl)) _ _).drew

set_option maxHeartbeats 1000000 in
theorem gpush_grow (gb b : Nat) (sp : List Int) (f : Nat → Int) (g : Int) (w : World) (hb : b ≠ gb) (hbl : b < w.heap.size) (hH : HeadAt w gb (.slice (some ⟨b, 0, none⟩) sp.length sp.length) sp.length) (hR : RowAt w b sp.length f)
    (hf : ∀ i, i < sp.length → sp[i]? = some (f i)) (h44 : sp.length * 8 ≤ 140737488351232) :
    Calls Yaid.prog 28 #[.pointer (some ⟨gb, 0, none⟩), .int .i64 g] w fun e w' => e = .returned (.tuple #[]) ∧ ∃ b', w.heap.size ≤ b' ∧ GlobIs w' gb (some b') (sp ++ [g]) ∧ Kept w w' (fun k => k = gb ∨ k = b) := by
  obtain ⟨c0, c1, c2, fz⟩ := id hH
  obtain ⟨n, hn⟩ : ∃ n, n = sp.length := ⟨_, rfl⟩
  rw [← hn] at c2 c0 hR
  have fz2 := hR.2
  have hn44 : n * 8 ≤ 140737488351232 := by omega
  obtain ⟨M, hM⟩ : ∃ M, M = 2 * n + 4 := ⟨_, rfl⟩
  have e1 : ((n : Int) == (n : Int)) = true := by simp
  have e2 : 2 * (n : Int) + 4 = (M : Int) := by omega
  have hmk := run_make_row' (P := Yaid.prog) 26 3 (.int .i64 0) 8 Yaid.underlying26 info3 rfl .i64 .i64 M (by omega) (by omega)
  have hgl := hH.lt
  have HN : Hid (n = sp.length) := hn
  have HM : Hid (M = 2 * n + 4) := hM
  have HH : Hid (HeadAt w gb (.slice (some ⟨b, 0, none⟩) n n) n) := by rw [hn]; exact hH
  have HR : Hid (RowAt w b n f) := hR
  have HF : Hid (∀ i, i < sp.length → sp[i]? = some (f i)) := hf
  clear hn hM hH hR hf
  go_enter Yaid.func28, Yaid.ntmps28
  go_wp2
  go_quiet (fail)
  go_wp2
  go_loopw [5] (fun v5 wr => ∃ i : Nat, v5 = .int .i64 i ∧ i ≤ n ∧ HeadAt wr gb (.slice (some ⟨b, 0, none⟩) n n) n ∧ RowAt wr b n f ∧ RowAt wr w.heap.size M (copyI f i) ∧ w.heap.size < wr.heap.size ∧ Below w.heap.size w wr) (fun v5 _ => n - (intOf v5).toNat)
  case atStart =>
    have hb0 : Below w.heap.size w ((w.drewN nq).alloc (Obj.cells (madeCells #[Value.int IntKind.i64 0] M) 3)) := (show Below w.heap.size w (w.drewN nq) from ⟨rfl, rfl, rfl, Nat.le_refl _, fun _ _ => rfl⟩).alloc (Nat.le_refl _) _
    exact ⟨0, rfl, by omega, HH.out.of_block (hb0.block _ hgl), HR.out.of_block (hb0.block _ hbl), row_made (w.drewN nq) M, by simp, hb0⟩
  case round =>
    obtain ⟨i, rfl, hi, hH, hR, hR2, hsz, hB⟩ := hrel
    obtain ⟨c0, c1, c2, fz⟩ := id hH
    have fz2 := hR.2
    have fz3 := hR2.2
    have HHr : Hid (HeadAt wr gb (.slice (some ⟨b, 0, none⟩) n n) n) := hH
    have HRr : Hid (RowAt wr b n f) := hR
    have HR2 : Hid (RowAt wr w.heap.size M (copyI f i)) := hR2
    have HB : Hid (Below w.heap.size w wr) := hB
    by_cases hlt : i < n
    · have ci := hR.1 i hlt
      have di := hR2.1 i (by have := HM.out; omega)
      have e3 : (i : Int) % (n : Int) = (i : Int) := Int.emod_eq_of_lt (by omega) (by omega)
      have e4 : (i : Int).tmod (n : Int) = (i : Int) := by rw [Int.tmod_eq_emod_of_nonneg (by omega)]; exact e3
      have hiM : i < M := by have := HM.out; omega
      clear hH hR hR2 hB e1 e2 hmk
      go_wp2
      go_region
      go_wp2
      go_roundw
      case rel =>
        refine ⟨i + 1, by go_num, by omega, ?_, ?_, ?_, by simpa using hsz, (HB.out.setCell (Nat.le_refl _) _).drew⟩
        · exact HHr.out.of_block (Below.heap_setCell _ _ _ _ (by simp; omega))
        · exact HRr.out.of_block (Below.heap_setCell _ _ _ _ (by simp; omega))
        · rw [← copyI_succ]; exact HR2.out.set i (f i)
      case measure => simp [intOf]; omega
    · obtain rfl : i = n := by omega
      have di := hR2.1 i (by have := HM.out; omega)
      have hiM : i < M := by have := HM.out; omega
      have e3 : (i : Int) % (M : Int) = (i : Int) := Int.emod_eq_of_lt (by omega) (by omega)
      have e4 : (i : Int).tmod (M : Int) = (i : Int) := by rw [Int.tmod_eq_emod_of_nonneg (by omega)]; exact e3
      clear hH hR hR2 hB e1 e2 hmk
      have hne1 : gb ≠ w.heap.size := by omega
      go_wp2
      go_region
      go_wp2
      go_end0
      exact ⟨rfl, w.heap.size, Nat.le_refl _, gpush_fin HHr.out HR2.out hne1 hsz HN.out HM.out HF.out, gpush_kept (kept_below HB.out)⟩

set_option maxHeartbeats 1000000 in
theorem gpush_nil (gb : Nat) (g : Int) (w : World) (hH : HeadAt w gb (.slice none 0 0) 0) :
    Calls Yaid.prog 28 #[.pointer (some ⟨gb, 0, none⟩), .int .i64 g] w fun e w' => e = .returned (.tuple #[]) ∧ ∃ b', w.heap.size ≤ b' ∧ GlobIs w' gb (some b') [g] ∧ Kept w w' (fun k => k = gb ∨ False) := by
  obtain ⟨c0, c1, c2, fz⟩ := id hH
  have hmk := run_make_row' (P := Yaid.prog) 26 3 (.int .i64 0) 8 Yaid.underlying26 info3 rfl .i64 .i64 4 (by omega) (by omega)
  have hmk' : ∀ w, (Instr.makeSlice 26 (.int .i64 4) (.int .i64 4)).run Yaid.prog w = .ok (.slice (some ⟨w.heap.size, 0, none⟩) 4 4) (w.alloc (.cells (madeCells #[.int .i64 0] 4) 3)) := hmk
  have hgl := hH.lt
  have HH : Hid (HeadAt w gb (.slice none 0 0) 0) := hH
  clear hH hmk
  go_enter Yaid.func28, Yaid.ntmps28
  go_wp2
  go_quiet (fail)
  go_wp2
  have hb0 : Below w.heap.size w ((w.drewN nq).alloc (Obj.cells (madeCells #[Value.int IntKind.i64 0] 4) 3)) := (show Below w.heap.size w (w.drewN nq) from ⟨rfl, rfl, rfl, Nat.le_refl _, fun _ _ => rfl⟩).alloc (Nat.le_refl _) _
  have hH2 := HH.out.of_block (hb0.block _ hgl)
  have hR2 : RowAt ((w.drewN nq).alloc (Obj.cells (madeCells #[Value.int IntKind.i64 0] 4) 3)) w.heap.size 4 (fun _ => 0) := row_made (w.drewN nq) 4
  have hsz : w.heap.size < ((w.drewN nq).alloc (Obj.cells (madeCells #[Value.int IntKind.i64 0] 4) 3)).heap.size := by simp
  generalize (w.drewN nq).alloc (Obj.cells (madeCells #[Value.int IntKind.i64 0] 4) 3) = wr at *
  obtain ⟨a0, a1, a2, az⟩ := id hH2
  have di := hR2.1 0 (by omega)
  have fz3 := hR2.2
  have hne1 : gb ≠ w.heap.size := by omega
  have HB : Hid (Below w.heap.size w wr) := hb0
  have HH2 : Hid (HeadAt wr gb (.slice none 0 0) 0) := hH2
  have HR2 : Hid (RowAt wr w.heap.size 4 (copyI (fun _ => 0) 0)) := hR2
  clear hb0 hH2 hR2 hmk' c0 c1 c2 fz HH
  go_rounds 1
  go_region
  go_wp2
  go_end0
  have fin := gpush_fin (sp := []) (g := g) HH2.out HR2.out hne1 hsz rfl rfl (fun i hi => by simp at hi)
  exact ⟨rfl, w.heap.size, Nat.le_refl _, fin, gpush_kept (n := 0) (kept_below HB.out)⟩
end Go.Proofs.Ygdaig
