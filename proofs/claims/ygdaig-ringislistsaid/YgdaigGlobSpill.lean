/-
  rq.Global's PushSpill, Len, At: THE WALKS.
-/
import Derived.Test.YgdaigGlobPush
namespace Go.Proofs.Ygdaig
open Go.RowKit
set_option linter.unusedVariables false

theorem Kept.trans2 {a b c : World} {p q : Nat → Prop} (h : Kept a b p) (k : Kept b c q) (hq : ∀ i, i < a.heap.size → q i → p i) : Kept a c p :=
  ⟨k.os.trans h.os, k.tape.trans h.tape, k.output.trans h.output, Nat.le_trans h.size k.size, fun i hi hp => (k.block i (Nat.lt_of_lt_of_le hi h.size) (fun e => hp (hq i hi e))).trans (h.block i hi hp)⟩

/-- The block is the one that it was, or a new one. -/
def OldOrNew (w : World) (b b' : Option Nat) : Prop := b' = b ∨ ∃ k, b' = some k ∧ w.heap.size ≤ k

theorem GlobIs.of_kept {w w' : World} {gb : Nat} {qb : Option Nat} {sp : List Int} {p : Nat → Prop} (h : GlobIs w gb qb sp) (k : Kept w w' p) (h1 : ¬ p gb) (h2 : ∀ b, qb = some b → ¬ p b) : GlobIs w' gb qb sp := by
  rcases h with ⟨e1, e2, hH⟩ | ⟨b, L, f, e1, e2, e3, hH, hR, r1, r2, r3⟩
  · exact .inl ⟨e1, e2, hH.of_block (k.block _ hH.lt h1)⟩
  · exact .inr ⟨b, L, f, e1, e2, Nat.lt_of_lt_of_le e3 k.size, hH.of_block (k.block _ hH.lt h1), hR.of_block (k.block _ e3 (h2 b e1)), r1, r2, r3⟩
theorem GlobIs.lt {w : World} {gb : Nat} {qb : Option Nat} {sp : List Int} (h : GlobIs w gb qb sp) : gb < w.heap.size := by
  rcases h with ⟨e1, e2, hH⟩ | ⟨b, L, f, e1, e2, e3, hH, _⟩
  · exact hH.lt
  · exact hH.lt
theorem GlobIs.qlt {w : World} {gb : Nat} {qb : Option Nat} {sp : List Int} (h : GlobIs w gb qb sp) : ∀ b, qb = some b → b < w.heap.size ∧ b ≠ gb := by
  rcases h with ⟨e1, e2, hH⟩ | ⟨b, L, f, e1, e2, e3, hH, _⟩
  · intro b hb; rw [e1] at hb; cases hb
  · intro b' hb; rw [e1] at hb; cases hb; exact ⟨e3, e2⟩

theorem gpush_any (gb : Nat) (qb : Option Nat) (sp : List Int) (g : Int) (w : World) (H : GlobIs w gb qb sp) (h44 : sp.length * 8 ≤ 140737488351232) :
    Calls Yaid.prog 28 #[.pointer (some ⟨gb, 0, none⟩), .int .i64 g] w fun e w' => e = .returned (.tuple #[]) ∧ ∃ qb', GlobIs w' gb qb' (sp ++ [g]) ∧ OldOrNew w qb qb' ∧ Kept w w' (fun k => k = gb ∨ qb = some k) := by
  rcases H with ⟨rfl, rfl, hH⟩ | ⟨b, L, f, rfl, e2, e3, hH, hR, r1, r2, r3⟩
  · refine (gpush_nil gb g w hH).mono ?_
    rintro e w' ⟨rfl, b', h1, h2, h3⟩
    exact ⟨rfl, some b', h2, .inr ⟨b', rfl, h1⟩, h3.mono (fun k _ hk => by rcases hk with hk | hk; exact .inl hk; exact hk.elim)⟩
  · by_cases hl : sp.length < L
    · refine (gpush_room gb b L sp f g w e2 e3 hH hR hl r2 r3 h44).mono ?_
      rintro e w' ⟨rfl, h1, h2⟩
      exact ⟨rfl, some b, h1, .inl rfl, h2.mono (fun k _ hk => by rcases hk with hk | hk; exact .inl hk; exact .inr (by rw [hk]))⟩
    · obtain rfl : L = sp.length := by omega
      refine (gpush_grow gb b sp f g w e2 e3 hH hR r3 h44).mono ?_
      rintro e w' ⟨rfl, b', h1, h2, h3⟩
      exact ⟨rfl, some b', h2, .inr ⟨b', rfl, h1⟩, h3.mono (fun k _ hk => by rcases hk with hk | hk; exact .inl hk; exact .inr (by rw [hk]))⟩

set_option maxHeartbeats 400000 in
theorem glen_any (gb : Nat) (qb : Option Nat) (sp : List Int) (w : World) (H : GlobIs w gb qb sp) :
    Calls Yaid.prog 29 #[.pointer (some ⟨gb, 0, none⟩)] w fun e w' => e = .returned (.int .i64 (sp.length : Nat)) ∧ Below w.heap.size w w' := by
  have c2 : w.cell? ⟨gb, 2, none⟩ = some (.int .i64 (sp.length : Nat)) := by
    rcases H with ⟨rfl, rfl, hH⟩ | ⟨b, L, f, e1, e2, e3, hH, _⟩
    · exact hH.2.2.1
    · exact hH.2.2.1
  clear H
  go_enter Yaid.func29, Yaid.ntmps29
  go_wp2
  go_ret
  exact ⟨rfl, Below.refl _ _⟩

set_option maxHeartbeats 400000 in
theorem gat_any (gb i : Nat) (qb : Option Nat) (sp : List Int) (x : Int) (w : World) (H : GlobIs w gb qb sp) (hx : sp[i]? = some x) (h44 : sp.length * 8 ≤ 140737488351232) :
    Calls Yaid.prog 30 #[.pointer (some ⟨gb, 0, none⟩), .int .i64 i] w fun e w' => e = .returned (.int .i64 x) ∧ Below w.heap.size w w' := by
  have hi : i < sp.length := by
    rcases Nat.lt_or_ge i sp.length with h | h
    · exact h
    · rw [List.getElem?_eq_none h] at hx; cases hx
  rcases H with ⟨rfl, rfl, hH⟩ | ⟨b, L, f, e1, e2, e3, hH, hR, r1, r2, r3⟩
  · simp at hi
  · obtain ⟨c0, c1, c2, fz⟩ := id hH
    have hxf : x = f i := by have := r3 i hi; rw [hx] at this; exact Option.some.inj this
    rw [hxf]
    have ci := hR.1 i (by omega)
    obtain ⟨n, hn⟩ : ∃ n, n = sp.length := ⟨_, rfl⟩
    rw [← hn] at c2 hi r2 r1
    have hn44 : n * 8 ≤ 140737488351232 := by omega
    have d1 : ¬ (i : Int) < 0 := by omega
    have e3 : (i : Int) % (L : Int) = (i : Int) := Int.emod_eq_of_lt (by omega) (by omega)
    have e4 : (i : Int).tmod (L : Int) = (i : Int) := by rw [Int.tmod_eq_emod_of_nonneg (by omega)]; exact e3
    have hiL : i < L := by omega
    have hL44 : L * 8 ≤ 281474976710656 := by omega
    clear hH hR r3 hx hxf hn h44 e1
    go_enter Yaid.func30, Yaid.ntmps30
    go_wp2
    go_quiet (fail)
    go_wp2
    go_ret
    exact ⟨rfl, below_drewN _ _⟩

set_option maxHeartbeats 1000000 in
theorem pushSpill_nil (gb : Nat) (w : World) :
    Calls Yaid.prog 19 #[.pointer (some ⟨gb, 0, none⟩), spV []] w fun e w' => e = .returned (.tuple #[]) ∧ Below w.heap.size w w' := by
  show Calls Yaid.prog 19 #[.pointer (some ⟨gb, 0, none⟩), .agg #[.int .i64 0, .int .i64 0, .int .i64 0, .int .i64 0]] w _
  go_enter Yaid.func19, Yaid.ntmps19
  go_wp2
  go_rounds 1
  go_end0
  exact ⟨rfl, (Below.refl _ _).alloc (Nat.le_refl _) _⟩

/-- While PushSpill runs in the world wr, begun in w: its spill boxed in the first new block. -/
structure SpillSt (w wr : World) (gb : Nat) (qb qi : Option Nat) (l : List Int) (x0 x1 x2 : Int) : Prop where
  glob : GlobIs wr gb qi l
  new : qi = qb ∨ ∃ k, qi = some k ∧ w.heap.size < k
  kept : Kept w wr (fun k => k = gb ∨ qb = some k)
  box : wr.heap[w.heap.size]? = some (.cells #[.int .i64 x0, .int .i64 x1, .int .i64 x2, .int .i64 3] 66)
theorem SpillSt.lt {w wr : World} {gb : Nat} {qb qi : Option Nat} {l : List Int} {x0 x1 x2 : Int} (h : SpillSt w wr gb qb qi l x0 x1 x2) : w.heap.size < wr.heap.size := (Array.getElem?_eq_some_iff.1 h.box).1
theorem SpillSt.cells {w wr : World} {gb : Nat} {qb qi : Option Nat} {l : List Int} {x0 x1 x2 : Int} (h : SpillSt w wr gb qb qi l x0 x1 x2) :
    wr.cell? ⟨w.heap.size, 0, none⟩ = some (.int .i64 x0) ∧ wr.cell? ⟨w.heap.size, 1, none⟩ = some (.int .i64 x1) ∧ wr.cell? ⟨w.heap.size, 2, none⟩ = some (.int .i64 x2) ∧ wr.cell? ⟨w.heap.size, 3, none⟩ = some (.int .i64 3) := by
  have d := h.box
  exact ⟨by simp [World.cell?, d], by simp [World.cell?, d], by simp [World.cell?, d], by simp [World.cell?, d]⟩
theorem SpillSt.step {w wr w' : World} {gb : Nat} {qb qi q' : Option Nat} {l : List Int} {x0 x1 x2 g : Int} (h : SpillSt w wr gb qb qi l x0 x1 x2) (hg : gb < w.heap.size) (hq : ∀ b, qb = some b → b < w.heap.size ∧ b ≠ gb)
    (h1 : GlobIs w' gb q' (l ++ [g])) (h2 : OldOrNew wr qi q') (h3 : Kept wr w' (fun k => k = gb ∨ qi = some k)) : SpillSt w w' gb qb q' (l ++ [g]) x0 x1 x2 := by
  have hl := h.lt
  refine ⟨h1, ?_, h.kept.trans2 h3 ?_, ?_⟩
  · rcases h2 with h2 | ⟨k, h2, h2'⟩
    · rw [h2]; exact h.new
    · exact .inr ⟨k, h2, by omega⟩
  · intro i hi hp
    rcases hp with hp | hp
    · exact .inl hp
    · rcases h.new with e | ⟨k, e, hk⟩
      · exact .inr (e ▸ hp)
      · rw [e] at hp; cases hp; omega
  · refine (h3.block _ hl ?_).trans h.box
    intro hp
    rcases hp with hp | hp
    · omega
    · rcases h.new with e | ⟨k, e, hk⟩
      · rw [e] at hp; have := (hq _ hp).1; omega
      · rw [e] at hp; cases hp; omega

set_option maxHeartbeats 1000000 in
theorem pushSpill_three (gb : Nat) (qb : Option Nat) (sp : List Int) (x0 x1 x2 : Int) (w : World) (H : GlobIs w gb qb sp) (h44 : (sp.length + 3) * 8 ≤ 140737488351232) :
    Calls Yaid.prog 19 #[.pointer (some ⟨gb, 0, none⟩), .agg #[.int .i64 x0, .int .i64 x1, .int .i64 x2, .int .i64 3]] w fun e w' => e = .returned (.tuple #[]) ∧ ∃ qb', GlobIs w' gb qb' (sp ++ [x0, x1, x2]) ∧ OldOrNew w qb qb' ∧ Kept w w' (fun k => k = gb ∨ qb = some k) := by
  have hgl := H.lt
  have hql := H.qlt
  have HH : Hid (GlobIs w gb qb sp) := H
  have HQ : Hid (∀ b, qb = some b → b < w.heap.size ∧ b ≠ gb) := hql
  clear H hql
  go_enter Yaid.func19, Yaid.ntmps19
  go_wp2
  refine wp_loop_rounds 4 ?_
  rw [rounds_succ]
  go_wp2_with fail
  have S0 : SpillSt w (w.alloc (.cells #[.int .i64 x0, .int .i64 x1, .int .i64 x2, .int .i64 3] 66)) gb qb qb sp x0 x1 x2 :=
    ⟨HH.out.of_kept (p := fun _ => False) ((kept_refl w _).alloc _) (fun h => h) (fun _ _ h => h), .inl rfl, (kept_refl w _).alloc _, heap_alloc_new w _⟩
  refine (gpush_any gb qb sp x0 _ S0.glob (by omega)).mono ?_
  rintro e w1 ⟨rfl, qb1, hG1, hO1, hK1⟩
  have S1 := S0.step hgl HQ.out hG1 hO1 hK1
  have HS1 : Hid (SpillSt w w1 gb qb qb1 (sp ++ [x0]) x0 x1 x2) := S1
  obtain ⟨a0, a1, a2, a3⟩ := S1.cells
  clear S0 S1 hG1 hO1 hK1 HH
  go_wp2
  rw [rounds_succ]
  go_wp2_with fail
  refine (gpush_any gb qb1 (sp ++ [x0]) x1 _ HS1.out.glob (by simp; omega)).mono ?_
  rintro e w2 ⟨rfl, qb2, hG2, hO2, hK2⟩
  have S2 := HS1.out.step hgl HQ.out hG2 hO2 hK2
  have HS2 : Hid (SpillSt w w2 gb qb qb2 (sp ++ [x0] ++ [x1]) x0 x1 x2) := S2
  clear a0 a1 a2 a3 HS1
  obtain ⟨a0, a1, a2, a3⟩ := S2.cells
  clear S2 hG2 hO2 hK2
  go_wp2
  rw [rounds_succ]
  go_wp2_with fail
  refine (gpush_any gb qb2 (sp ++ [x0] ++ [x1]) x2 _ HS2.out.glob (by simp; omega)).mono ?_
  rintro e w3 ⟨rfl, qb3, hG3, hO3, hK3⟩
  have S3 := HS2.out.step hgl HQ.out hG3 hO3 hK3
  have HS3 : Hid (SpillSt w w3 gb qb qb3 (sp ++ [x0] ++ [x1] ++ [x2]) x0 x1 x2) := S3
  clear a0 a1 a2 a3 HS2
  obtain ⟨a0, a1, a2, a3⟩ := S3.cells
  clear S3 hG3 hO3 hK3
  go_wp2
  rw [rounds_succ]
  go_wp2
  go_end0
  have e3 : sp ++ [x0, x1, x2] = sp ++ [x0] ++ [x1] ++ [x2] := by simp
  refine ⟨rfl, qb3, by rw [e3]; exact HS3.out.glob, ?_, HS3.out.kept⟩
  rcases HS3.out.new with h | ⟨k, h, hk⟩
  · exact .inl h
  · exact .inr ⟨k, h, by omega⟩

theorem pushSpill_any (gb : Nat) (qb : Option Nat) (sp l : List Int) (w : World) (H : GlobIs w gb qb sp) (hl : l.length = 0 ∨ l.length = 3) (h44 : (sp.length + l.length) * 8 ≤ 140737488351232) :
    Calls Yaid.prog 19 #[.pointer (some ⟨gb, 0, none⟩), spV l] w fun e w' => e = .returned (.tuple #[]) ∧ ∃ qb', GlobIs w' gb qb' (sp ++ l) ∧ OldOrNew w qb qb' ∧ Kept w w' (fun k => k = gb ∨ qb = some k) := by
  rcases hl with hl | hl
  · obtain rfl : l = [] := List.eq_nil_of_length_eq_zero hl
    refine (pushSpill_nil gb w).mono ?_
    rintro e w' ⟨rfl, hb⟩
    exact ⟨rfl, qb, by rw [List.append_nil]; exact H.of_kept (p := fun _ => False) (kept_below hb) (fun h => h) (fun _ _ h => h), .inl rfl, kept_below hb⟩
  · match l, hl with
    | [x0, x1, x2], _ => exact pushSpill_three gb qb sp x0 x1 x2 w H h44
end Go.Proofs.Ygdaig
