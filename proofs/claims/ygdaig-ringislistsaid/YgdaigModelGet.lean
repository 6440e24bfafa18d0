/-
  law.ringModel's get: THE WALKS; the model in memory.
-/
import Derived.Test.YgdaigSlice
import Derived.Test.YgdaigRingGet
namespace Go.Proofs.Ygdaig
open Go.RowKit
set_option linter.unusedVariables false

theorem kept_set1 (w : World) (mb o : Nat) (v : Value) : Kept w (w.setCell ⟨mb, o, none⟩ v) (fun k => k = mb) := Kept.set (p := fun k => k = mb) (kept_refl w _) (.inl rfl) o v

/-- The plain model's struct in memory. -/
def ModAt (w : World) (mb : Nat) (nx : Int) (lv sv : Value) : Prop :=
  w.cell? ⟨mb, 0, none⟩ = some (.int .i64 nx) ∧ w.cell? ⟨mb, 1, none⟩ = some lv ∧ w.cell? ⟨mb, 2, none⟩ = some sv ∧ ∀ o, w.frozen? ⟨mb, o, none⟩ = false
theorem ModAt.of_block {w w' : World} {mb : Nat} {nx : Int} {lv sv : Value} (h : ModAt w mb nx lv sv) (e : w'.heap[mb]? = w.heap[mb]?) : ModAt w' mb nx lv sv :=
  ⟨(World.cell?_of_block (a := ⟨mb, 0, none⟩) e).trans h.1, (World.cell?_of_block (a := ⟨mb, 1, none⟩) e).trans h.2.1, (World.cell?_of_block (a := ⟨mb, 2, none⟩) e).trans h.2.2.1, fun o => (World.frozen?_of_block (a := ⟨mb, o, none⟩) e).trans (h.2.2.2 o)⟩
theorem ModAt.lt {w : World} {mb : Nat} {nx : Int} {lv sv : Value} (h : ModAt w mb nx lv sv) : mb < w.heap.size := World.block_lt_of_cell? w _ h.1
theorem ModAt.drew {w : World} {mb : Nat} {nx : Int} {lv sv : Value} (h : ModAt w mb nx lv sv) : ModAt w.drew mb nx lv sv := h
theorem ModAt.setNx {w : World} {mb : Nat} {nx : Int} {lv sv : Value} (h : ModAt w mb nx lv sv) (x : Int) : ModAt (w.setCell ⟨mb, 0, none⟩ (.int .i64 x)) mb x lv sv := by
  obtain ⟨c0, c1, c2, fz⟩ := h
  refine ⟨World.cell?_setCell_same _ _ _ c0, ?_, ?_, fun o => by simpa using fz o⟩
  · rw [cell_set_off (by omega)]; exact c1
  · rw [cell_set_off (by omega)]; exact c2
theorem ModAt.setL {w : World} {mb : Nat} {nx : Int} {lv sv : Value} (h : ModAt w mb nx lv sv) (x : Value) : ModAt (w.setCell ⟨mb, 1, none⟩ x) mb nx x sv := by
  obtain ⟨c0, c1, c2, fz⟩ := h
  refine ⟨?_, World.cell?_setCell_same _ _ _ c1, ?_, fun o => by simpa using fz o⟩
  · rw [cell_set_off (by omega)]; exact c0
  · rw [cell_set_off (by omega)]; exact c2
theorem ModAt.setS {w : World} {mb : Nat} {nx : Int} {lv sv : Value} (h : ModAt w mb nx lv sv) (x : Value) : ModAt (w.setCell ⟨mb, 2, none⟩ x) mb nx lv x := by
  obtain ⟨c0, c1, c2, fz⟩ := h
  refine ⟨?_, ?_, World.cell?_setCell_same _ _ _ c2, fun o => by simpa using fz o⟩
  · rw [cell_set_off (by omega)]; exact c0
  · rw [cell_set_off (by omega)]; exact c1

/-- The model holds next nx, list xs (its row in lb), spilled sp (its row in sb). -/
def ModelIs (w : World) (mb : Nat) (lb sb : Option Nat) (nx : Int) (xs sp : List Int) : Prop :=
  ∃ lv sv, ModAt w mb nx lv sv ∧ SlIs w lv lb xs ∧ SlIs w sv sb sp ∧ (∀ g, lb = some g → g ≠ mb ∧ sb ≠ some g) ∧ ∀ g, sb = some g → g ≠ mb
theorem ModelIs.lt {w : World} {mb : Nat} {lb sb : Option Nat} {nx : Int} {xs sp : List Int} (h : ModelIs w mb lb sb nx xs sp) : mb < w.heap.size := by
  obtain ⟨lv, sv, h1, _⟩ := h
  exact h1.lt
theorem ModelIs.of_kept {w w' : World} {mb : Nat} {lb sb : Option Nat} {nx : Int} {xs sp : List Int} {p : Nat → Prop} (h : ModelIs w mb lb sb nx xs sp) (k : Kept w w' p) (h1 : ¬ p mb) (h2 : ∀ g, lb = some g → ¬ p g) (h3 : ∀ g, sb = some g → ¬ p g) : ModelIs w' mb lb sb nx xs sp := by
  obtain ⟨lv, sv, a, b, c, d, e⟩ := h
  exact ⟨lv, sv, a.of_block (k.block _ a.lt h1), b.of_kept k h2, c.of_kept k h3, d, e⟩
theorem ModelIs.llt {w : World} {mb : Nat} {lb sb : Option Nat} {nx : Int} {xs sp : List Int} (h : ModelIs w mb lb sb nx xs sp) : (∀ g, lb = some g → g < w.heap.size) ∧ ∀ g, sb = some g → g < w.heap.size := by
  obtain ⟨lv, sv, a, b, c, d, e⟩ := h
  exact ⟨b.lt, c.lt⟩

/-- 'xs[k:]': where nothing is left of the capacity the address stays. -/
theorem sl_drop {w : World} {g off cap : Nat} {xs : List Int} (hg : g < w.heap.size) (h1 : xs.length ≤ cap) (h2 : cap ≤ maxLen) (h3 : ∀ i, i < cap → (w.cell? ⟨g, off + i, none⟩).isSome = true)
    (h4 : ∀ i y, xs[i]? = some y → w.cell? ⟨g, off + i, none⟩ = some (.int .i64 y)) (fz : ∀ o, w.frozen? ⟨g, o, none⟩ = false) (k : Nat) (hk : k ≤ xs.length) (off' : Nat) (ho : off' = off + k ∨ cap = k) (n : Nat) (hn : n = (xs.drop k).length) (c : Nat) (hc : c = cap - k) :
    SlIs w (.slice (some ⟨g, off', none⟩) n c) (some g) (xs.drop k) := by
  subst hc
  have hl : (xs.drop k).length = xs.length - k := List.length_drop
  refine .inr ⟨g, off', cap - k, rfl, hg, by rw [hn], by omega, by omega, fun i hi => ?_, fun i y hy => ?_, fz⟩
  · rcases ho with ho | ho
    · have := h3 (k + i) (by omega)
      rw [show off + (k + i) = off' + i by omega] at this
      exact this
    · omega
  · have hi : i < (xs.drop k).length := by
      rcases Nat.lt_or_ge i (xs.drop k).length with h | h
      · exact h
      · rw [List.getElem?_eq_none h] at hy; cases hy
    rcases ho with ho | ho
    · rw [List.getElem?_drop] at hy
      have := h4 (k + i) y hy
      rw [show off + (k + i) = off' + i by omega] at this
      exact this
    · omega

set_option maxHeartbeats 400000 in
theorem mget_next (mb : Nat) (lb sb : Option Nat) (nx : Int) (xs sp : List Int) (w : World) (H : ModelIs w mb lb sb nx xs sp) (hnx : nx ≠ -1) :
    Calls Yaid.prog 21 #[.pointer (some ⟨mb, 0, none⟩)] w fun e w' => e = .returned (.tuple #[.int .i64 nx, .bool true]) ∧ ModelIs w' mb lb sb (-1) xs sp ∧ Kept w w' (fun k => k = mb) := by
  obtain ⟨lv, sv, a, b, c, d, e⟩ := H
  obtain ⟨c0, c1, c2, fz⟩ := id a
  have hb : (nx != -1) = true := by simpa using hnx
  have hk : Kept w (w.setCell ⟨mb, 0, none⟩ (.int .i64 (-1))) (fun k => k = mb) := kept_set1 _ _ _ _
  have FIN : Hid (ModelIs (w.setCell ⟨mb, 0, none⟩ (.int .i64 (-1))) mb lb sb (-1) xs sp) := ⟨lv, sv, a.setNx (-1), b.of_kept hk (fun g hg e => (d g hg).1 e), c.of_kept hk (fun g hg e' => e g hg e'), d, e⟩
  have HK : Hid (Kept w (w.setCell ⟨mb, 0, none⟩ (.int .i64 (-1))) (fun k => k = mb)) := hk
  clear a b c d e hk hnx
  go_enter Yaid.func21, Yaid.ntmps21
  go_wp2
  go_ret2
  exact ⟨rfl, FIN.out, HK.out⟩

set_option maxHeartbeats 400000 in
theorem mget_none (mb : Nat) (lb sb : Option Nat) (sp : List Int) (w : World) (H : ModelIs w mb lb sb (-1) [] sp) :
    Calls Yaid.prog 21 #[.pointer (some ⟨mb, 0, none⟩)] w fun e w' => e = .returned (.tuple #[.int .i64 (-1), .bool false]) ∧ ModelIs w' mb lb sb (-1) [] sp ∧ Kept w w' (fun k => k = mb) := by
  have HH : Hid (ModelIs w mb lb sb (-1) [] sp) := H
  obtain ⟨lv, sv, a, b, c, d, e⟩ := H
  obtain ⟨c0, c1, c2, fz⟩ := id a
  obtain ⟨al, cl, rfl⟩ := b.form
  simp only [List.length_nil] at c1
  clear a b c d e
  go_enter Yaid.func21, Yaid.ntmps21
  go_wp2
  go_ret2
  exact ⟨rfl, HH.out, kept_refl _ _⟩

set_option maxHeartbeats 400000 in
theorem mget_head (mb : Nat) (lb sb : Option Nat) (x : Int) (xs sp : List Int) (w : World) (H : ModelIs w mb lb sb (-1) (x :: xs) sp) (h4 : (x :: xs).length ≤ 4) :
    Calls Yaid.prog 21 #[.pointer (some ⟨mb, 0, none⟩)] w fun e w' => e = .returned (.tuple #[.int .i64 x, .bool true]) ∧ ModelIs w' mb lb sb (-1) xs sp ∧ Kept w w' (fun k => k = mb) := by
  obtain ⟨lv, sv, a, b, c', d, e⟩ := H
  obtain ⟨c0, c1, c2, fz⟩ := id a
  rcases b with ⟨_, _, h⟩ | ⟨g, off, cap, rfl, e2, rfl, e4, e5, p1, p2, fz2⟩
  · cases h
  · have hx := p2 0 x (by simp)
    simp only [Nat.add_zero] at hx
    have FIN : Hid (∀ off' c, (off' = off + 1 ∨ cap = 1) → c = cap - 1 → ModelIs (w.setCell ⟨mb, 1, none⟩ (.slice (some ⟨g, off', none⟩) xs.length c)) mb (some g) sb (-1) xs sp) := fun off' c ho hc =>
      ⟨_, sv, a.setL _, (sl_drop e2 e4 e5 p1 p2 fz2 1 (by simp) off' ho xs.length rfl c hc).of_kept (kept_set1 _ _ _ _) (fun g hg e => (d g hg).1 e), c'.of_kept (kept_set1 _ _ _ _) (fun g hg e' => e g hg e'), d, e⟩
    simp only [List.length_cons] at c1 h4 e4
    unfold maxLen at e5
    have hne : ((xs.length : Int) + 1 == 0) = false := by rw [beq_eq_false_iff_ne]; omega
    clear a c' d e p1 p2
    go_enter Yaid.func21, Yaid.ntmps21
    go_wp2
    · go_ret2
      exact ⟨rfl, FIN.out _ _ (.inr ‹_›) (by omega), kept_set1 _ _ _ _⟩
    · go_ret2
      exact ⟨rfl, FIN.out _ _ (.inl rfl) rfl, kept_set1 _ _ _ _⟩

theorem mget_any (mb : Nat) (lb sb : Option Nat) (nx : Int) (xs sp : List Int) (w : World) (H : ModelIs w mb lb sb nx xs sp) (h4 : xs.length ≤ 4) :
    Calls Yaid.prog 21 #[.pointer (some ⟨mb, 0, none⟩)] w fun e w' => e = .returned (.tuple #[.int .i64 (getV xs nx), .bool (getB xs nx)]) ∧ ModelIs w' mb lb sb (-1) (getXs xs nx) sp ∧ Kept w w' (fun k => k = mb) := by
  by_cases h : nx = -1
  · subst h
    cases xs with
    | nil => exact mget_none mb lb sb sp w H
    | cons x xs => exact mget_head mb lb sb x xs sp w H h4
  · have e1 : getV xs nx = nx := by simp [getV, h]
    have e2 : getB xs nx = true := by simp [getB, h]
    have e3 : getXs xs nx = xs := by simp [getXs, h]
    rw [e1, e2, e3]
    exact mget_next mb lb sb nx xs sp w H h
end Go.Proofs.Ygdaig
