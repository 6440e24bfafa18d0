/-
  law.ringModel's put: THE WALKS.
-/
import Derived.Test.YgdaigModelGet
namespace Go.Proofs.Ygdaig
open Go.RowKit
set_option linter.unusedVariables false

theorem ModelIs.setNx {w : World} {mb : Nat} {lb sb : Option Nat} {nx : Int} {xs sp : List Int} (H : ModelIs w mb lb sb nx xs sp) (g : Int) : ModelIs (w.setCell ⟨mb, 0, none⟩ (.int .i64 g)) mb lb sb g xs sp := by
  obtain ⟨lv, sv, a, b, c, d, e⟩ := H
  exact ⟨lv, sv, a.setNx g, b.of_kept (kept_set1 _ _ _ _) (fun k hk e => (d k hk).1 e), c.of_kept (kept_set1 _ _ _ _) (fun k hk e' => e k hk e'), d, e⟩

set_option maxHeartbeats 400000 in
theorem mput_next (mb : Nat) (lb sb : Option Nat) (g : Int) (xs sp : List Int) (w : World) (H : ModelIs w mb lb sb (-1) xs sp) :
    Calls Yaid.prog 20 #[.pointer (some ⟨mb, 0, none⟩), .int .i64 g, .bool true] w fun e w' => e = .returned (.tuple #[]) ∧ ModelIs w' mb lb sb g xs sp ∧ Kept w w' (fun k => k = mb) := by
  have FIN : Hid (ModelIs (w.setCell ⟨mb, 0, none⟩ (.int .i64 g)) mb lb sb g xs sp) := H.setNx g
  obtain ⟨lv, sv, a, b, c, d, e⟩ := H
  obtain ⟨c0, c1, c2, fz⟩ := id a
  clear a b c d e
  go_enter Yaid.func20, Yaid.ntmps20
  go_wp2
  go_returns
  exact ⟨rfl, FIN.out, kept_set1 _ _ _ _⟩

/-- The list grows by one: what the append leaves, stored back. -/
theorem model_list {w w0 w' : World} {mb : Nat} {lb sb b' : Option Nat} {nx : Int} {xs zs sp : List Int} {v' : Value} (H : ModelIs w mb lb sb nx xs sp) (h0 : Below w.heap.size w w0) (h1 : SlIs w' v' b' zs) (h2 : OldOrNew w0 lb b') (h3 : Kept w0 w' (fun k => lb = some k)) :
    ModelIs (w'.setCell ⟨mb, 1, none⟩ v') mb b' sb nx zs sp ∧ Kept w (w'.setCell ⟨mb, 1, none⟩ v') (fun k => k = mb ∨ lb = some k) ∧ OldOrNew w lb b' := by
  obtain ⟨lv, sv, a, b, c, d, e⟩ := H
  have hlt := a.lt
  have hk : Kept w w' (fun k => lb = some k) := (kept_below h0).trans h3
  have hn : OldOrNew w lb b' := by
    rcases h2 with h2 | ⟨k, h2, h2'⟩
    · exact .inl h2
    · exact .inr ⟨k, h2, Nat.le_trans h0.size h2'⟩
  have hd : ∀ g, b' = some g → g ≠ mb ∧ sb ≠ some g := fun g hg => by
    rcases hn with h | ⟨k, h, hk'⟩
    · exact d g (by rw [← h]; exact hg)
    · rw [h] at hg; cases hg
      exact ⟨by omega, fun hs => by have := c.lt _ hs; omega⟩
  have hm : ModAt w' mb nx lv sv := a.of_block (hk.block _ hlt (fun hp => (d _ hp).1 rfl))
  have hc : SlIs w' sv sb sp := c.of_kept hk (fun g hg hp => (d g hp).2 hg)
  refine ⟨⟨v', sv, hm.setL v', h1.of_kept (kept_set1 _ _ _ _) (fun g hg e' => (hd g hg).1 e'), hc.of_kept (kept_set1 _ _ _ _) (fun g hg e' => e g hg e'), hd, e⟩, ?_, hn⟩
  exact (hk.mono (fun k _ h => .inr h)).set (.inl (.inl rfl)) _ _

theorem ModelIs.cells {w : World} {mb : Nat} {lb sb : Option Nat} {nx : Int} {xs sp : List Int} (H : ModelIs w mb lb sb nx xs sp) : ∃ lv sv, w.cell? ⟨mb, 0, none⟩ = some (.int .i64 nx) ∧ w.cell? ⟨mb, 1, none⟩ = some lv ∧ w.cell? ⟨mb, 2, none⟩ = some sv ∧ (∀ o, w.frozen? ⟨mb, o, none⟩ = false) ∧ SlIs w lv lb xs ∧ SlIs w sv sb sp := by
  obtain ⟨lv, sv, ⟨a0, a1, a2, a3⟩, b, c, d, e⟩ := H
  exact ⟨lv, sv, a0, a1, a2, a3, b, c⟩

/-- 'append(.., g)' of one: g lies in a new block of its own. -/
theorem one_new (w : World) (g : Int) : ∀ j y, [g][j]? = some y → (w.alloc (.cells #[.int .i64 g] 3)).cell? ((⟨w.heap.size, 0, none⟩ : Addr).add j) = some (.int .i64 y) := fun j y hy => by
  match j, hy with
  | 0, hy => simp at hy; subst hy; exact World.cell?_alloc_new _ _ _ _

theorem oldOrNew_size {w w' : World} {b b' : Option Nat} (h : OldOrNew w b b') (e : w'.heap.size ≤ w.heap.size) : OldOrNew w' b b' := by
  rcases h with h | ⟨k, h, hk⟩
  · exact .inl h
  · exact .inr ⟨k, h, Nat.le_trans e hk⟩

set_option maxHeartbeats 1000000 in
theorem mput_room (mb : Nat) (lb sb : Option Nat) (b : Bool) (g nx : Int) (xs sp : List Int) (w : World) (H : ModelIs w mb lb sb nx xs sp) (hb : b = true → nx ≠ -1) (h4 : xs.length < 4) :
    Calls Yaid.prog 20 #[.pointer (some ⟨mb, 0, none⟩), .int .i64 g, .bool b] w fun e w' => e = .returned (.tuple #[]) ∧ ∃ lb', ModelIs w' mb lb' sb (if b then g else nx) (xs ++ [if b then nx else g]) sp ∧ OldOrNew w lb lb' ∧ Kept w w' (fun k => k = mb ∨ lb = some k) := by
  have hlt := H.lt
  cases b
  · simp only [if_false, Bool.false_eq_true]
    clear hb
    obtain ⟨lv, sv, c0, c1, c2, fz, hsl, hss⟩ := H.cells
    obtain ⟨al, cl, hlv⟩ := hsl.form
    rw [hlv] at c1 hsl
    have HH : Hid (ModelIs w mb lb sb nx xs sp) := H
    have hlt' : mb < w.heap.size := by simpa using hlt
    have hk0 : Below w.heap.size w (w.alloc (.cells #[.int .i64 g] 3)) := (Below.refl _ _).alloc (Nat.le_refl _) _
    have HSL : Hid (SlIs (w.alloc (.cells #[.int .i64 g] 3)) (.slice al xs.length cl) lb xs) := by
      obtain ⟨lv2, sv2, a0, a1, a2, az, hs2, _⟩ := HH.out.cells
      have : lv2 = .slice al xs.length cl := by rw [a1] at c1; exact Option.some.inj c1
      rw [this] at hs2
      exact hs2.of_kept (p := fun _ => False) (kept_below hk0) (fun _ _ h => h)
    clear H hss hsl hlv
    have d1 : (xs.length : Int) < 4 := by omega
    go_enter Yaid.func20, Yaid.ntmps20
    go_wp2_with (at_builtin; refine wpList_append_sl rfl (.tmp 29) (.tmp 31) rfl rfl HSL.out ⟨w.heap.size, 0, none⟩ 1 1 rfl rfl (by omega) (one_new w g) (by omega) ?_)
    intro v' w1 b1 h1 h2 h3
    obtain ⟨fin1, fin2, fin3⟩ := model_list HH.out hk0 h1 h2 h3
    obtain ⟨a', c', rfl⟩ := h1.form
    have hmb : w1.heap[mb]? = w.heap[mb]? := by
      obtain ⟨_, _, _, _, _, dd, _⟩ := HH.out
      exact (h3.block _ (by simp; omega) (fun hp => (dd _ hp).1 rfl)).trans (hk0.block _ hlt')
    have q1 : w1.cell? ⟨mb, 1, none⟩ = some (.slice al xs.length cl) := (World.cell?_of_block (a := ⟨mb, 1, none⟩) hmb).trans c1
    have qz : ∀ o, w1.frozen? ⟨mb, o, none⟩ = false := fun o => (World.frozen?_of_block (a := ⟨mb, o, none⟩) hmb).trans (fz o)
    have F1 : Hid _ := fin1
    have F2 : Hid _ := fin2
    have F3 : Hid _ := fin3
    clear h1 h2 h3 fin1 fin2 fin3 hmb hk0 HSL HH
    simp only [List.length_append, List.length_cons, List.length_nil] at *
    go_wp2
    go_returns
    exact ⟨rfl, b1, F1.out, F3.out, F2.out⟩
  · have hb' : (nx == -1) = false := by rw [beq_eq_false_iff_ne]; exact hb rfl
    simp only [if_true]
    clear hb
    obtain ⟨lv, sv, c0, c1, c2, fz, hsl, hss⟩ := H.cells
    obtain ⟨al, cl, hlv⟩ := hsl.form
    rw [hlv] at c1 hsl
    have HH : Hid (ModelIs (w.setCell ⟨mb, 0, none⟩ (.int .i64 g)) mb lb sb g xs sp) := H.setNx g
    have hlt' : mb < (w.setCell ⟨mb, 0, none⟩ (.int .i64 g)).heap.size := by simpa using hlt
    have hk0 : Below (w.setCell ⟨mb, 0, none⟩ (.int .i64 g)).heap.size (w.setCell ⟨mb, 0, none⟩ (.int .i64 g)) ((w.setCell ⟨mb, 0, none⟩ (.int .i64 g)).alloc (.cells #[.int .i64 nx] 3)) := (Below.refl _ _).alloc (Nat.le_refl _) _
    have HSL : Hid (SlIs ((w.setCell ⟨mb, 0, none⟩ (.int .i64 g)).alloc (.cells #[.int .i64 nx] 3)) (.slice al xs.length cl) lb xs) := by
      obtain ⟨lv2, sv2, a0, a1, a2, az, hs2, _⟩ := HH.out.cells
      have : lv2 = .slice al xs.length cl := by rw [cell_set_off (by omega), c1] at a1; exact (Option.some.inj a1).symm
      rw [this] at hs2
      exact hs2.of_kept (p := fun _ => False) (kept_below hk0) (fun _ _ h => h)
    clear H hss hsl hlv
    have d1 : (xs.length : Int) < 4 := by omega
    have hnew := one_new (w.setCell ⟨mb, 0, none⟩ (.int .i64 g)) nx
    rw [World.size_setCell] at hnew
    have NEW : Hid (∀ j y, [nx][j]? = some y → ((w.setCell ⟨mb, 0, none⟩ (.int .i64 g)).alloc (.cells #[.int .i64 nx] 3)).cell? ((⟨w.heap.size, 0, none⟩ : Addr).add j) = some (.int .i64 y)) := hnew
    clear hnew
    go_enter Yaid.func20, Yaid.ntmps20
    go_wp2_with (at_builtin; refine wpList_append_sl rfl (.tmp 29) (.tmp 31) rfl rfl HSL.out ⟨w.heap.size, 0, none⟩ 1 1 rfl rfl (by omega) NEW.out (by omega) ?_)
    intro v' w1 b1 h1 h2 h3
    obtain ⟨fin1, fin2, fin3⟩ := model_list HH.out hk0 h1 h2 h3
    obtain ⟨a', c', rfl⟩ := h1.form
    have hmb : w1.heap[mb]? = (w.setCell ⟨mb, 0, none⟩ (.int .i64 g)).heap[mb]? := by
      obtain ⟨_, _, _, _, _, dd, _⟩ := HH.out
      exact (h3.block _ (by simp; omega) (fun hp => (dd _ hp).1 rfl)).trans (hk0.block _ hlt')
    have q1 : w1.cell? ⟨mb, 1, none⟩ = some (.slice al xs.length cl) := (World.cell?_of_block (a := ⟨mb, 1, none⟩) hmb).trans ((cell_set_off (by omega)).trans c1)
    have qz : ∀ o, w1.frozen? ⟨mb, o, none⟩ = false := fun o => (World.frozen?_of_block (a := ⟨mb, o, none⟩) hmb).trans (by simpa using fz o)
    have F1 : Hid _ := fin1
    have F2 : Hid _ := fin2
    have F3 : Hid _ := fin3
    clear h1 h2 h3 fin1 fin2 fin3 hmb hk0 HSL HH
    simp only [List.length_append, List.length_cons, List.length_nil] at *
    go_wp2
    go_returns
    exact ⟨rfl, b1, F1.out, oldOrNew_size F3.out (by simp), Kept.trans2 (p := fun k => k = mb ∨ lb = some k) ((kept_set1 w mb 0 _).mono (fun _ _ h => .inl h)) F2.out (fun _ _ h => h)⟩

/-- The spilled list grows: what the append leaves, stored back. -/
theorem model_spill {w w0 w' : World} {mb : Nat} {lb sb b' : Option Nat} {nx : Int} {xs zs sp : List Int} {v' : Value} (H : ModelIs w mb lb sb nx xs sp) (h0 : Below w.heap.size w w0) (h1 : SlIs w' v' b' zs) (h2 : OldOrNew w0 sb b') (h3 : Kept w0 w' (fun k => sb = some k)) :
    ModelIs (w'.setCell ⟨mb, 2, none⟩ v') mb lb b' nx xs zs ∧ Kept w (w'.setCell ⟨mb, 2, none⟩ v') (fun k => k = mb ∨ sb = some k) ∧ OldOrNew w sb b' := by
  obtain ⟨lv, sv, a, b, c, d, e⟩ := H
  have hlt := a.lt
  have hk : Kept w w' (fun k => sb = some k) := (kept_below h0).trans h3
  have hn : OldOrNew w sb b' := by
    rcases h2 with h2 | ⟨k, h2, h2'⟩
    · exact .inl h2
    · exact .inr ⟨k, h2, Nat.le_trans h0.size h2'⟩
  have hd : ∀ g, lb = some g → g ≠ mb ∧ b' ≠ some g := fun g hg => by
    refine ⟨(d g hg).1, fun hb' => ?_⟩
    rcases hn with h | ⟨k, h, hk'⟩
    · exact (d g hg).2 (by rw [← h]; exact hb')
    · rw [h] at hb'; cases hb'
      have := b.lt _ hg
      omega
  have he : ∀ g, b' = some g → g ≠ mb := fun g hg => by
    rcases hn with h | ⟨k, h, hk'⟩
    · exact e g (by rw [← h]; exact hg)
    · rw [h] at hg; cases hg; omega
  have hm : ModAt w' mb nx lv sv := a.of_block (hk.block _ hlt (fun hp => e _ hp rfl))
  have hb : SlIs w' lv lb xs := b.of_kept hk (fun g hg hp => (d g hg).2 hp)
  refine ⟨⟨lv, v', hm.setS v', hb.of_kept (kept_set1 _ _ _ _) (fun g hg e' => (hd g hg).1 e'), h1.of_kept (kept_set1 _ _ _ _) (fun g hg e' => he g hg e'), hd, he⟩, ?_, hn⟩
  exact (hk.mono (fun k _ h => .inr h)).set (.inl (.inl rfl)) _ _

/-- A wholly new list, stored. -/
theorem model_fresh {w w0 w' : World} {mb : Nat} {lb sb b' : Option Nat} {nx : Int} {xs zs sp : List Int} {v' : Value} (H : ModelIs w mb lb sb nx xs sp) (h0 : Below w.heap.size w w0) (h1 : SlIs w' v' b' zs) (h2 : OldOrNew w0 none b') (h3 : Kept w0 w' (fun k => none = some k)) :
    ModelIs (w'.setCell ⟨mb, 1, none⟩ v') mb b' sb nx zs sp ∧ Kept w (w'.setCell ⟨mb, 1, none⟩ v') (fun k => k = mb) ∧ OldOrNew w none b' := by
  obtain ⟨lv, sv, a, b, c, d, e⟩ := H
  have hlt := a.lt
  have hk : Kept w w' (fun k => k = mb) := (kept_below h0).trans (h3.mono (fun k _ h => by cases h))
  have hk2 : Kept w w' (fun _ => False) := (kept_below h0).trans (h3.mono (fun k _ h => by cases h))
  have hn : OldOrNew w none b' := by
    rcases h2 with h2 | ⟨k, h2, h2'⟩
    · exact .inl h2
    · exact .inr ⟨k, h2, Nat.le_trans h0.size h2'⟩
  have hd : ∀ g, b' = some g → g ≠ mb ∧ sb ≠ some g := fun g hg => by
    rcases hn with h | ⟨k, h, hk'⟩
    · rw [h] at hg; cases hg
    · rw [h] at hg; cases hg
      exact ⟨by omega, fun hs => by have := c.lt _ hs; omega⟩
  have hm : ModAt w' mb nx lv sv := a.of_block (hk2.block _ hlt (fun hp => hp))
  have hc : SlIs w' sv sb sp := c.of_kept hk2 (fun g hg hp => hp)
  refine ⟨⟨v', sv, hm.setL v', h1.of_kept (kept_set1 _ _ _ _) (fun g hg e' => (hd g hg).1 e'), hc.of_kept (kept_set1 _ _ _ _) (fun g hg e' => e g hg e'), hd, e⟩, ?_, hn⟩
  exact hk.set (.inl rfl) _ _

theorem ModelIs.same {w w0 w1 : World} {mb : Nat} {lb sb b : Option Nat} {nx : Int} {xs sp : List Int} (H : ModelIs w mb lb sb nx xs sp) (h0 : Below w.heap.size w w0) (h3 : Kept w0 w1 (fun k => b = some k)) (hb : b = sb ∨ b = lb ∨ b = none) :
    (∀ o, w1.cell? ⟨mb, o, none⟩ = w.cell? ⟨mb, o, none⟩) ∧ ∀ o, w1.frozen? ⟨mb, o, none⟩ = w.frozen? ⟨mb, o, none⟩ := by
  obtain ⟨lv, sv, a, _, _, d, e⟩ := H
  have hlt := a.lt
  have hk : w1.heap[mb]? = w.heap[mb]? := (h3.block mb (Nat.lt_of_lt_of_le hlt h0.size) (fun hp => by
    rcases hb with rfl | rfl | rfl
    · exact e _ hp rfl
    · exact (d _ hp).1 rfl
    · cases hp)).trans (h0.block _ hlt)
  exact ⟨fun o => World.cell?_of_block (a := ⟨mb, o, none⟩) hk, fun o => World.frozen?_of_block (a := ⟨mb, o, none⟩) hk⟩

set_option maxHeartbeats 1000000 in
theorem mput_full (mb : Nat) (lb sb : Option Nat) (g nx x0 x1 x2 x3 : Int) (sp : List Int) (w : World) (H : ModelIs w mb lb sb nx [x0, x1, x2, x3] sp) (h44 : (sp.length + 3) * 8 ≤ 140737488351232) :
    Calls Yaid.prog 20 #[.pointer (some ⟨mb, 0, none⟩), .int .i64 g, .bool false] w fun e w' => e = .returned (.tuple #[]) ∧ ∃ lb' sb', ModelIs w' mb lb' sb' nx [x2, x3] (sp ++ [x0, x1, g]) ∧ OldOrNew w lb lb' ∧ OldOrNew w sb sb' ∧ Kept w w' (fun k => k = mb ∨ sb = some k) := by
  have hlt := H.lt
  obtain ⟨lv, sv, c0, c1, c2, fz, hsl, hss⟩ := H.cells
  obtain ⟨al, cl, hsv⟩ := hss.form
  rw [hsv] at c2 hss
  rcases hsl with ⟨_, _, h⟩ | ⟨gl, off, cap, rfl, e2, rfl, e4, e5, p1, p2, fz2⟩
  · cases h
  · simp only [List.length_cons, List.length_nil, Nat.zero_add, Nat.reduceAdd] at c1 e4
    have HH : Hid (ModelIs w mb (some gl) sb nx [x0, x1, x2, x3] sp) := H
    have HSS : Hid (SlIs w.drew (.slice al sp.length cl) sb sp) := hss.of_kept (p := fun _ => False) ((kept_refl w _).drew) (fun _ _ h => h)
    have HY : Hid (∀ j y, [x0, x1][j]? = some y → w.drew.cell? ((⟨gl, off, none⟩ : Addr).add j) = some (.int .i64 y)) := fun j y hy => by
      have hj : j < 2 := by
        rcases Nat.lt_or_ge j 2 with h | h
        · exact h
        · rw [List.getElem?_eq_none (by simpa using h)] at hy; cases hy
      rw [Addr.add_lit]
      refine p2 j y ?_
      match j, hj with
      | 0, _ => exact hy
      | 1, _ => exact hy
    clear H hss hsv p1 p2
    unfold maxLen at e5
    have hcap : (2 : Int) ≤ (cap : Int) := by omega
    have hcap2 : ¬ cap = 2 := by omega
    have hcap4 : (4 : Int) ≤ (cap : Int) := by omega
    go_enter Yaid.func20, Yaid.ntmps20
    go_wp2
    go_region_law (refine step_append_sl rfl (.tmp 39) (.tmp 44) rfl (by simp [Act.eval, Act.put]) HSS.out ⟨gl, off, none⟩ 2 cap (by simp [Act.eval, Act.put]) rfl (by omega) HY.out (by omega) ?_; intro v' w1 b1 h1 h2 h3; obtain ⟨s1, s2⟩ := HH.out.same (Below.refl _ _).drew h3 (.inl rfl); have q2 := (s1 2).trans c2; have qz := fun o => (s2 o).trans (fz o); obtain ⟨a', c', hv'⟩ := h1.form; have FF : Hid _ := model_spill HH.out (Below.refl _ _).drew h1 h2 h3; rw [hv'] at FF ⊢; clear h1 h2 h3 s1 s2 hv')
    all_goals
      obtain ⟨M1, K1, O1⟩ := FF.out
      simp only [List.length_append, List.length_cons, List.length_nil, Nat.zero_add, Nat.reduceAdd] at M1 K1
      clear FF q2 qz HSS HY c0 c1 c2 fz fz2 hcap hcap2 hcap4 HH e2 e4 e5
      generalize w1.setCell ⟨mb, 2, none⟩ (Value.slice a' (sp.length + 2) c') = W1 at *
      obtain ⟨lv, sv, c0, c1, c2, fz, hsl, hss⟩ := M1.cells
      obtain ⟨al2, cl2, hsv⟩ := hss.form
      rw [hsv] at c2 hss
      rcases hsl with ⟨_, _, h⟩ | ⟨gl', off2, cap2, hgl, e2, rfl, e4, e5, p1, p2, fz2⟩
      · cases h
      · simp only [List.length_cons, List.length_nil, Nat.zero_add, Nat.reduceAdd] at c1 e4
        obtain rfl : gl = gl' := by cases hgl; rfl
        have hlt1 := M1.lt
        have hk0 : Below W1.heap.size W1 (W1.alloc (.cells #[.int .i64 g] 3)) := (Below.refl _ _).alloc (Nat.le_refl _) _
        have HM1 : Hid (ModelIs W1 mb (some gl) b1 nx [x0, x1, x2, x3] (sp ++ [x0, x1])) := M1
        have HK1 : Hid (Kept w W1 (fun k => k = mb ∨ sb = some k)) := K1
        have HO1 : Hid (OldOrNew w sb b1) := O1
        have HSS : Hid (SlIs (W1.alloc (.cells #[.int .i64 g] 3)) (.slice al2 (sp ++ [x0, x1]).length cl2) b1 (sp ++ [x0, x1])) := hss.of_kept (p := fun _ => False) (kept_below hk0) (fun _ _ h => h)
        have hl2 : (sp ++ [x0, x1]).length = sp.length + 2 := by simp
        rw [hl2] at c2 HSS
        clear M1 K1 O1 hss hsv p1 p2 e5 hgl
        go_wp2_with (at_builtin; refine wpList_append_sl rfl (.tmp 52) (.tmp 54) rfl rfl HSS.out ⟨W1.heap.size, 0, none⟩ 1 1 rfl rfl (by omega) (one_new W1 g) (by rw [hl2]; omega) ?_)
        intro v2 w2 b2 h1 h2 h3
        obtain ⟨s1, s2⟩ := HM1.out.same hk0 h3 (.inl rfl)
        have q2 := (s1 2).trans c2
        have qz := fun o => (s2 o).trans (fz o)
        obtain ⟨a2, c2', hv2⟩ := h1.form
        have hl3 : (sp ++ [x0, x1, g]).length = sp.length + 3 := by simp
        rw [hl3] at hv2
        obtain ⟨M2, K2, O2⟩ := model_spill HM1.out hk0 h1 h2 h3
        have K2' : Kept w (w2.setCell ⟨mb, 2, none⟩ v2) (fun k => k = mb ∨ sb = some k) := HK1.out.trans2 K2 (fun i hi hp => by
          rcases hp with hp | hp
          · exact .inl hp
          · rcases HO1.out with h | ⟨k, h, hk⟩
            · exact .inr (by rw [← h]; exact hp)
            · rw [h] at hp; cases hp; omega)
        have O2' : OldOrNew w sb b2 := by
          rcases O2 with h | ⟨k, h, hk⟩
          · rw [h]; exact HO1.out
          · exact .inr ⟨k, h, Nat.le_trans HK1.out.size hk⟩
        subst hv2
        have HM2 : Hid (ModelIs (w2.setCell ⟨mb, 2, none⟩ (.slice a2 (sp.length + 3) c2')) mb (some gl) b2 nx [x0, x1, x2, x3] (sp ++ [x0, x1, g])) := M2
        have HK2 : Hid (Kept w (w2.setCell ⟨mb, 2, none⟩ (.slice a2 (sp.length + 3) c2')) (fun k => k = mb ∨ sb = some k)) := K2'
        have HO2 : Hid (OldOrNew w sb b2) := O2'
        clear h1 h2 h3 s1 s2 M2 K2 O2 K2' O2' HSS hl2 hl3 c0 c1 c2 fz fz2 e2 e4 HM1 HK1 HO1 hk0 hlt1
        obtain ⟨lv3, sv3, d0, d1, d2, dz, hsl3, _⟩ := HM2.out.cells
        rcases hsl3 with ⟨_, _, h⟩ | ⟨gl', off3, cap3, hgl, e2, rfl, e4, e5, p1, p2, fz2⟩
        · cases h
        · simp only [List.length_cons, List.length_nil, Nat.zero_add, Nat.reduceAdd] at d1 e4
          obtain rfl : gl = gl' := by cases hgl; rfl
          have q1 : w2.cell? ⟨mb, 1, none⟩ = some (.slice (some ⟨gl, off3, none⟩) 4 cap3) := (cell_set_off (by omega)).symm.trans d1
          have HY : Hid (∀ j y, [x2, x3][j]? = some y → (w2.setCell ⟨mb, 2, none⟩ (.slice a2 (sp.length + 3) c2')).cell? ((⟨gl, off3 + 2, none⟩ : Addr).add j) = some (.int .i64 y)) := fun j y hy => by
            have hj : j < 2 := by
              rcases Nat.lt_or_ge j 2 with h | h
              · exact h
              · rw [List.getElem?_eq_none (by simpa using h)] at hy; cases hy
            rw [Addr.add_lit, show off3 + 2 + j = off3 + (2 + j) by omega]
            refine p2 (2 + j) y ?_
            match j, hj with
            | 0, _ => exact hy
            | 1, _ => exact hy
          have NIL : Hid (SlIs (w2.setCell ⟨mb, 2, none⟩ (.slice a2 (sp.length + 3) c2')) (.slice none 0 0) none []) := .inl ⟨rfl, rfl, rfl⟩
          unfold maxLen at e5
          have hcap2 : ¬ cap3 = 2 := by omega
          have hcap4 : (4 : Int) ≤ (cap3 : Int) := by omega
          clear d0 d1 d2 dz p1 p2 hgl
          go_wp2_with (at_builtin; refine wpList_append_sl rfl (.const (.slice none 0 0)) (.tmp 63) rfl rfl NIL.out ⟨gl, off3 + 2, none⟩ 2 (cap3 - 2) rfl rfl (by omega) HY.out (by simp) ?_)
          intro v3 w3 b3 h1 h2 h30
          have h3 : Kept (w2.setCell ⟨mb, 2, none⟩ (.slice a2 (sp.length + 3) c2')) w3 (fun k => (none : Option Nat) = some k) := h30.mono (fun _ _ h => h.elim)
          clear h30
          obtain ⟨s1, s2⟩ := HM2.out.same (Below.refl _ _) h3 (.inr (.inr rfl))
          have r1 : w3.cell? ⟨mb, 1, none⟩ = some (.slice (some ⟨gl, off3, none⟩) 4 cap3) := (s1 1).trans ((cell_set_off (by omega)).trans q1)
          have rz : ∀ o, w3.frozen? ⟨mb, o, none⟩ = false := fun o => (s2 o).trans (by simpa using qz o)
          obtain ⟨M3, K3, O3⟩ := model_fresh HM2.out (Below.refl _ _) h1 h2 h3
          obtain ⟨a3, c3', hv3⟩ := h1.form
          have K3' : Kept w (w3.setCell ⟨mb, 1, none⟩ v3) (fun k => k = mb ∨ sb = some k) := HK2.out.trans2 K3 (fun i hi hp => .inl hp)
          have O3' : OldOrNew w (some gl) b3 := by
            rcases O3 with h | ⟨k, h, hk⟩
            · exfalso
              rw [h] at h1
              rcases h1 with ⟨_, _, h1⟩ | ⟨g', _, _, h1, _⟩
              · cases h1
              · cases h1
            · exact .inr ⟨k, h, Nat.le_trans HK2.out.size hk⟩
          subst hv3
          have FIN : Hid (∃ lb' sb', ModelIs (w3.setCell ⟨mb, 1, none⟩ (.slice a3 [x2, x3].length c3')) mb lb' sb' nx [x2, x3] (sp ++ [x0, x1, g]) ∧ OldOrNew w (some gl) lb' ∧ OldOrNew w sb sb' ∧ Kept w (w3.setCell ⟨mb, 1, none⟩ (.slice a3 [x2, x3].length c3')) (fun k => k = mb ∨ sb = some k)) := ⟨b3, b2, M3, O3', HO2.out, K3'⟩
          clear h1 h2 h3 s1 s2 M3 K3 O3 K3' O3' HM2 HK2 HO2 HY NIL q1 q2 qz
          go_wp2
          go_returns
          exact ⟨rfl, FIN.out⟩
set_option maxHeartbeats 1000000 in
theorem mput_fullN (mb : Nat) (lb sb : Option Nat) (g nx x0 x1 x2 x3 : Int) (sp : List Int) (w : World) (H : ModelIs w mb lb sb nx [x0, x1, x2, x3] sp) (h44 : (sp.length + 3) * 8 ≤ 140737488351232) (hnx : nx ≠ -1) :
    Calls Yaid.prog 20 #[.pointer (some ⟨mb, 0, none⟩), .int .i64 g, .bool true] w fun e w' => e = .returned (.tuple #[]) ∧ ∃ lb' sb', ModelIs w' mb lb' sb' g [x2, x3] (sp ++ [x0, x1, nx]) ∧ OldOrNew w lb lb' ∧ OldOrNew w sb sb' ∧ Kept w w' (fun k => k = mb ∨ sb = some k) := by
  obtain ⟨W0, hW0⟩ : ∃ W0, W0 = w.setCell ⟨mb, 0, none⟩ (.int .i64 g) := ⟨_, rfl⟩
  obtain ⟨lvo, svo, o0, o1, o2, oz, hslo, _⟩ := H.cells
  have hform := hslo.form
  have H0 : ModelIs W0 mb lb sb g [x0, x1, x2, x3] sp := by rw [hW0]; exact H.setNx g
  have HKW : Hid (Kept w W0 (fun k => k = mb)) := by rw [hW0]; exact kept_set1 _ _ _ _
  have HSZ : Hid (W0.heap.size = w.heap.size) := by rw [hW0]; exact World.size_setCell _ _ _
  have HW0 : Hid (W0 = w.setCell ⟨mb, 0, none⟩ (.int .i64 g)) := hW0
  have hb' : (nx == -1) = false := by rw [beq_eq_false_iff_ne]; exact hnx
  clear hW0 hnx hslo H
  have hlt := H0.lt
  obtain ⟨alo, clo, hlvo⟩ := hform
  simp only [List.length_cons, List.length_nil, Nat.zero_add, Nat.reduceAdd] at hlvo
  rw [hlvo] at o1
  clear hlvo
  obtain ⟨lv, sv, c0, c1, c2, fz, hsl, hss⟩ := H0.cells
  obtain ⟨al, cl, hsv⟩ := hss.form
  rw [hsv] at c2 hss
  rcases hsl with ⟨_, _, h⟩ | ⟨gl, off, cap, rfl, e2, rfl, e4, e5, p1, p2, fz2⟩
  · cases h
  · simp only [List.length_cons, List.length_nil, Nat.zero_add, Nat.reduceAdd] at c1 e4
    have HH : Hid (ModelIs W0 mb (some gl) sb g [x0, x1, x2, x3] sp) := H0
    have HSS : Hid (SlIs W0.drew (.slice al sp.length cl) sb sp) := hss.of_kept (p := fun _ => False) ((kept_refl W0 _).drew) (fun _ _ h => h)
    have HY : Hid (∀ j y, [x0, x1][j]? = some y → W0.drew.cell? ((⟨gl, off, none⟩ : Addr).add j) = some (.int .i64 y)) := fun j y hy => by
      have hj : j < 2 := by
        rcases Nat.lt_or_ge j 2 with h | h
        · exact h
        · rw [List.getElem?_eq_none (by simpa using h)] at hy; cases hy
      rw [Addr.add_lit]
      refine p2 j y ?_
      match j, hj with
      | 0, _ => exact hy
      | 1, _ => exact hy
    clear H0 hss hsv p1 p2
    unfold maxLen at e5
    have hcap : (2 : Int) ≤ (cap : Int) := by omega
    have hcap2 : ¬ cap = 2 := by omega
    have hcap4 : (4 : Int) ≤ (cap : Int) := by omega
    go_enter Yaid.func20, Yaid.ntmps20
    go_wp2
    rw [← HW0.out]
    clear o0 o1 o2 oz HW0
    go_region_law (refine step_append_sl rfl (.tmp 39) (.tmp 44) rfl (by simp [Act.eval, Act.put]) HSS.out ⟨gl, off, none⟩ 2 cap (by simp [Act.eval, Act.put]) rfl (by omega) HY.out (by omega) ?_; intro v' w1 b1 h1 h2 h3; obtain ⟨s1, s2⟩ := HH.out.same (Below.refl _ _).drew h3 (.inl rfl); have q2 := (s1 2).trans c2; have qz := fun o => (s2 o).trans (fz o); obtain ⟨a', c', hv'⟩ := h1.form; have FF : Hid _ := model_spill HH.out (Below.refl _ _).drew h1 h2 h3; rw [hv'] at FF ⊢; clear h1 h2 h3 s1 s2 hv')
    all_goals
      obtain ⟨M1, K1, O1⟩ := FF.out
      simp only [List.length_append, List.length_cons, List.length_nil, Nat.zero_add, Nat.reduceAdd] at M1 K1
      clear FF q2 qz HSS HY c0 c1 c2 fz fz2 hcap hcap2 hcap4 HH e2 e4 e5
      generalize w1.setCell ⟨mb, 2, none⟩ (Value.slice a' (sp.length + 2) c') = W1 at *
      obtain ⟨lv, sv, c0, c1, c2, fz, hsl, hss⟩ := M1.cells
      obtain ⟨al2, cl2, hsv⟩ := hss.form
      rw [hsv] at c2 hss
      rcases hsl with ⟨_, _, h⟩ | ⟨gl', off2, cap2, hgl, e2, rfl, e4, e5, p1, p2, fz2⟩
      · cases h
      · simp only [List.length_cons, List.length_nil, Nat.zero_add, Nat.reduceAdd] at c1 e4
        obtain rfl : gl = gl' := by cases hgl; rfl
        have hlt1 := M1.lt
        have hk0 : Below W1.heap.size W1 (W1.alloc (.cells #[.int .i64 nx] 3)) := (Below.refl _ _).alloc (Nat.le_refl _) _
        have HM1 : Hid (ModelIs W1 mb (some gl) b1 g [x0, x1, x2, x3] (sp ++ [x0, x1])) := M1
        have HK1 : Hid (Kept W0 W1 (fun k => k = mb ∨ sb = some k)) := K1
        have HO1 : Hid (OldOrNew W0 sb b1) := O1
        have HSS : Hid (SlIs (W1.alloc (.cells #[.int .i64 nx] 3)) (.slice al2 (sp ++ [x0, x1]).length cl2) b1 (sp ++ [x0, x1])) := hss.of_kept (p := fun _ => False) (kept_below hk0) (fun _ _ h => h)
        have hl2 : (sp ++ [x0, x1]).length = sp.length + 2 := by simp
        rw [hl2] at c2 HSS
        clear M1 K1 O1 hss hsv p1 p2 e5 hgl
        go_wp2_with (at_builtin; refine wpList_append_sl rfl (.tmp 52) (.tmp 54) rfl rfl HSS.out ⟨W1.heap.size, 0, none⟩ 1 1 rfl rfl (by omega) (one_new W1 nx) (by rw [hl2]; omega) ?_)
        intro v2 w2 b2 h1 h2 h3
        obtain ⟨s1, s2⟩ := HM1.out.same hk0 h3 (.inl rfl)
        have q2 := (s1 2).trans c2
        have qz := fun o => (s2 o).trans (fz o)
        obtain ⟨a2, c2', hv2⟩ := h1.form
        have hl3 : (sp ++ [x0, x1, nx]).length = sp.length + 3 := by simp
        rw [hl3] at hv2
        obtain ⟨M2, K2, O2⟩ := model_spill HM1.out hk0 h1 h2 h3
        have K2' : Kept W0 (w2.setCell ⟨mb, 2, none⟩ v2) (fun k => k = mb ∨ sb = some k) := HK1.out.trans2 K2 (fun i hi hp => by
          rcases hp with hp | hp
          · exact .inl hp
          · rcases HO1.out with h | ⟨k, h, hk⟩
            · exact .inr (by rw [← h]; exact hp)
            · rw [h] at hp; cases hp; omega)
        have O2' : OldOrNew W0 sb b2 := by
          rcases O2 with h | ⟨k, h, hk⟩
          · rw [h]; exact HO1.out
          · exact .inr ⟨k, h, Nat.le_trans HK1.out.size hk⟩
        subst hv2
        have HM2 : Hid (ModelIs (w2.setCell ⟨mb, 2, none⟩ (.slice a2 (sp.length + 3) c2')) mb (some gl) b2 g [x0, x1, x2, x3] (sp ++ [x0, x1, nx])) := M2
        have HK2 : Hid (Kept W0 (w2.setCell ⟨mb, 2, none⟩ (.slice a2 (sp.length + 3) c2')) (fun k => k = mb ∨ sb = some k)) := K2'
        have HO2 : Hid (OldOrNew W0 sb b2) := O2'
        clear h1 h2 h3 s1 s2 M2 K2 O2 K2' O2' HSS hl2 hl3 c0 c1 c2 fz fz2 e2 e4 HM1 HK1 HO1 hk0 hlt1
        obtain ⟨lv3, sv3, d0, d1, d2, dz, hsl3, _⟩ := HM2.out.cells
        rcases hsl3 with ⟨_, _, h⟩ | ⟨gl', off3, cap3, hgl, e2, rfl, e4, e5, p1, p2, fz2⟩
        · cases h
        · simp only [List.length_cons, List.length_nil, Nat.zero_add, Nat.reduceAdd] at d1 e4
          obtain rfl : gl = gl' := by cases hgl; rfl
          have q1 : w2.cell? ⟨mb, 1, none⟩ = some (.slice (some ⟨gl, off3, none⟩) 4 cap3) := (cell_set_off (by omega)).symm.trans d1
          have HY : Hid (∀ j y, [x2, x3][j]? = some y → (w2.setCell ⟨mb, 2, none⟩ (.slice a2 (sp.length + 3) c2')).cell? ((⟨gl, off3 + 2, none⟩ : Addr).add j) = some (.int .i64 y)) := fun j y hy => by
            have hj : j < 2 := by
              rcases Nat.lt_or_ge j 2 with h | h
              · exact h
              · rw [List.getElem?_eq_none (by simpa using h)] at hy; cases hy
            rw [Addr.add_lit, show off3 + 2 + j = off3 + (2 + j) by omega]
            refine p2 (2 + j) y ?_
            match j, hj with
            | 0, _ => exact hy
            | 1, _ => exact hy
          have NIL : Hid (SlIs (w2.setCell ⟨mb, 2, none⟩ (.slice a2 (sp.length + 3) c2')) (.slice none 0 0) none []) := .inl ⟨rfl, rfl, rfl⟩
          unfold maxLen at e5
          have hcap2 : ¬ cap3 = 2 := by omega
          have hcap4 : (4 : Int) ≤ (cap3 : Int) := by omega
          clear d0 d1 d2 dz p1 p2 hgl
          go_wp2_with (at_builtin; refine wpList_append_sl rfl (.const (.slice none 0 0)) (.tmp 63) rfl rfl NIL.out ⟨gl, off3 + 2, none⟩ 2 (cap3 - 2) rfl rfl (by omega) HY.out (by simp) ?_)
          intro v3 w3 b3 h1 h2 h30
          have h3 : Kept (w2.setCell ⟨mb, 2, none⟩ (.slice a2 (sp.length + 3) c2')) w3 (fun k => (none : Option Nat) = some k) := h30.mono (fun _ _ h => h.elim)
          clear h30
          obtain ⟨s1, s2⟩ := HM2.out.same (Below.refl _ _) h3 (.inr (.inr rfl))
          have r1 : w3.cell? ⟨mb, 1, none⟩ = some (.slice (some ⟨gl, off3, none⟩) 4 cap3) := (s1 1).trans ((cell_set_off (by omega)).trans q1)
          have rz : ∀ o, w3.frozen? ⟨mb, o, none⟩ = false := fun o => (s2 o).trans (by simpa using qz o)
          obtain ⟨M3, K3, O3⟩ := model_fresh HM2.out (Below.refl _ _) h1 h2 h3
          obtain ⟨a3, c3', hv3⟩ := h1.form
          have K3' : Kept W0 (w3.setCell ⟨mb, 1, none⟩ v3) (fun k => k = mb ∨ sb = some k) := HK2.out.trans2 K3 (fun i hi hp => .inl hp)
          have O3' : OldOrNew W0 (some gl) b3 := by
            rcases O3 with h | ⟨k, h, hk⟩
            · exfalso
              rw [h] at h1
              rcases h1 with ⟨_, _, h1⟩ | ⟨g', _, _, h1, _⟩
              · cases h1
              · cases h1
            · exact .inr ⟨k, h, Nat.le_trans HK2.out.size hk⟩
          subst hv3
          have FIN : Hid (∃ lb' sb', ModelIs (w3.setCell ⟨mb, 1, none⟩ (.slice a3 [x2, x3].length c3')) mb lb' sb' g [x2, x3] (sp ++ [x0, x1, nx]) ∧ OldOrNew W0 (some gl) lb' ∧ OldOrNew W0 sb sb' ∧ Kept W0 (w3.setCell ⟨mb, 1, none⟩ (.slice a3 [x2, x3].length c3')) (fun k => k = mb ∨ sb = some k)) := ⟨b3, b2, M3, O3', HO2.out, K3'⟩
          clear h1 h2 h3 s1 s2 M3 K3 O3 K3' O3' HM2 HK2 HO2 HY NIL q1 q2 qz
          go_wp2
          go_returns
          obtain ⟨lb', sb', f1, f2, f3, f4⟩ := FIN.out
          exact ⟨rfl, lb', sb', f1, oldOrNew_size f2 (by rw [HSZ.out]; exact Nat.le_refl _), oldOrNew_size f3 (by rw [HSZ.out]; exact Nat.le_refl _), Kept.trans2 (p := fun k => k = mb ∨ sb = some k) (HKW.out.mono (fun _ _ h => .inl h)) f4 (fun _ _ h => h)⟩

theorem mput_any (mb : Nat) (lb sb : Option Nat) (b : Bool) (g nx : Int) (xs sp : List Int) (w : World) (H : ModelIs w mb lb sb nx xs sp) (h4 : xs.length ≤ 4) (h44 : (sp.length + xs.length) * 8 ≤ 140737488351232) :
    Calls Yaid.prog 20 #[.pointer (some ⟨mb, 0, none⟩), .int .i64 g, .bool b] w fun e w' => e = .returned (.tuple #[]) ∧
      ∃ lb' sb', ModelIs w' mb lb' sb' (putNx b g nx) (putXs b g nx xs) (sp ++ putSp b g nx xs) ∧ OldOrNew w lb lb' ∧ OldOrNew w sb sb' ∧ Kept w w' (fun k => k = mb ∨ lb = some k ∨ sb = some k) := by
  by_cases hA : b = true ∧ nx = -1
  · have e1 : putSp b g nx xs = [] := by simp [putSp, hA]
    have e2 : putXs b g nx xs = xs := by simp [putXs, hA]
    obtain ⟨rfl, rfl⟩ := hA
    rw [e1, e2, List.append_nil]
    refine (mput_next mb lb sb g xs sp w H).mono ?_
    rintro e w' ⟨rfl, h1, h2⟩
    exact ⟨rfl, lb, sb, h1, .inl rfl, .inl rfl, h2.mono (fun _ _ h => .inl h)⟩
  · by_cases hl : xs.length < 4
    · have e1 : putSp b g nx xs = [] := by unfold putSp; rw [if_neg hA, if_pos hl]
      have e2 : putXs b g nx xs = xs ++ [if b then nx else g] := by unfold putXs; rw [if_neg hA, if_pos hl]
      rw [e1, e2, List.append_nil]
      refine (mput_room mb lb sb b g nx xs sp w H (fun hb e => hA ⟨hb, e⟩) hl).mono ?_
      rintro e w' ⟨rfl, lb', h1, h2, h3⟩
      exact ⟨rfl, lb', sb, h1, h2, .inl rfl, h3.mono (fun _ _ h => by rcases h with h | h; exact .inl h; exact .inr (.inl h))⟩
    · have e1 : putSp b g nx xs = xs.take 2 ++ [if b then nx else g] := by unfold putSp; rw [if_neg hA, if_neg hl]
      have e2 : putXs b g nx xs = xs.drop 2 := by unfold putXs; rw [if_neg hA, if_neg hl]
      rw [e1, e2]
      obtain ⟨x0, x1, x2, x3, rfl⟩ := four_of (show xs.length = 4 by omega)
      cases b
      · refine (mput_full mb lb sb g nx x0 x1 x2 x3 sp w H (by simp only [List.length_cons, List.length_nil] at h44; omega)).mono ?_
        rintro e w' ⟨rfl, lb', sb', h1, h2, h3, h4⟩
        exact ⟨rfl, lb', sb', h1, h2, h3, h4.mono (fun _ _ h => by rcases h with h | h; exact .inl h; exact .inr (.inr h))⟩
      · refine (mput_fullN mb lb sb g nx x0 x1 x2 x3 sp w H (by simp only [List.length_cons, List.length_nil] at h44; omega) (fun e => hA ⟨rfl, e⟩)).mono ?_
        rintro e w' ⟨rfl, lb', sb', h1, h2, h3, h4⟩
        exact ⟨rfl, lb', sb', h1, h2, h3, h4.mono (fun _ _ h => by rcases h with h | h; exact .inl h; exact .inr (.inr h))⟩
end Go.Proofs.Ygdaig
