/-
  THE STATE THAT law.RingIsListOf's LOOP KEEPS: ring, model and global queue hold the same; each owns its blocks.
-/
import Derived.Test.YgdaigModelSteal
namespace Go.Proofs.Ygdaig
open Go.RowKit
set_option linter.unusedVariables false

theorem putSp_len (b : Bool) (g nx : Int) (xs : List Int) (h4 : xs.length ≤ 4) : (putSp b g nx xs).length = 0 ∨ (putSp b g nx xs).length = 3 := by
  unfold putSp
  split
  · left; rfl
  · split
    · left; rfl
    · right
      rw [List.length_append, List.length_take]
      simp
      omega
theorem putSp_le (b : Bool) (g nx : Int) (xs : List Int) (h4 : xs.length ≤ 4) : (putSp b g nx xs).length ≤ xs.length := by
  unfold putSp
  split
  · simp
  · split
    · simp
    · rw [List.length_append, List.length_take]
      simp
      omega
theorem putXs_len (b : Bool) (g nx : Int) (xs : List Int) (h4 : xs.length ≤ 4) : (putXs b g nx xs).length ≤ 4 := by
  unfold putXs
  split
  · exact h4
  · split
    · simp; omega
    · rw [List.length_drop]; omega

def one (nx : Int) : Nat := if nx = -1 then 0 else 1

theorem put_count (b : Bool) (g nx : Int) (xs sp : List Int) (h4 : xs.length ≤ 4) (hg : g ≠ -1) :
    (sp ++ putSp b g nx xs).length + (putXs b g nx xs).length + one (putNx b g nx) ≤ sp.length + xs.length + one nx + 1 := by
  unfold putSp putXs putNx one
  by_cases hA : b = true ∧ nx = -1
  · rw [if_pos hA, if_pos hA]
    obtain ⟨rfl, rfl⟩ := hA
    simp [hg]
  · rw [if_neg hA, if_neg hA]
    by_cases hl : xs.length < 4
    · rw [if_pos hl, if_pos hl]
      cases b
      · simp; omega
      · have hn : nx ≠ -1 := fun e => hA ⟨rfl, e⟩
        simp [hg, hn]; omega
    · rw [if_neg hl, if_neg hl]
      rw [List.length_append, List.length_append, List.length_take, List.length_drop]
      cases b
      · simp; omega
      · have hn : nx ≠ -1 := fun e => hA ⟨rfl, e⟩
        simp [hg, hn]; omega
theorem get_count (nx : Int) (xs sp : List Int) : sp.length + (getXs xs nx).length + one (-1) ≤ sp.length + xs.length + one nx := by
  unfold getXs one
  split <;> simp <;> omega
theorem getXs_len (nx : Int) (xs : List Int) (h4 : xs.length ≤ 4) : (getXs xs nx).length ≤ 4 := by
  unfold getXs
  split
  · exact h4
  · simp; omega

structure RSt (w wr : World) (rb gb mb : Nat) (lb sb qb : Option Nat) (nx : Int) (xs sp : List Int) : Prop where
  model : ModelIs wr mb lb sb nx xs sp
  ring : RingIs wr rb xs nx
  glob : GlobIs wr gb qb sp
  len4 : xs.length ≤ 4
  dl : ∀ g, lb = some g → g ≠ rb ∧ g ≠ gb ∧ qb ≠ some g ∧ w.heap.size ≤ g
  ds : ∀ g, sb = some g → g ≠ rb ∧ g ≠ gb ∧ qb ≠ some g ∧ w.heap.size ≤ g
  dq : ∀ g, qb = some g → g ≠ rb ∧ g ≠ mb ∧ w.heap.size ≤ g
  ne : rb ≠ gb ∧ rb ≠ mb ∧ gb ≠ mb ∧ w.heap.size ≤ rb ∧ w.heap.size ≤ gb ∧ w.heap.size ≤ mb
  bel : Below w.heap.size w wr

section
variable {w wr w1 w2 w3 : World} {rb gb mb : Nat} {lb sb qb : Option Nat} {nx : Int} {xs sp : List Int}

/-- The ring's own block is written. -/
theorem RSt.ring1 (S : RSt w wr rb gb mb lb sb qb nx xs sp) (hg : wr.grownBy w1 (some rb)) : ModelIs w1 mb lb sb nx xs sp ∧ GlobIs w1 gb qb sp ∧ Below w.heap.size w w1 := by
  have hk : Kept wr w1 (fun k => k = rb) := kept_grown hg rfl
  refine ⟨S.model.of_kept hk (fun e => S.ne.2.1 e.symm) (fun g h e => (S.dl g h).1 e) (fun g h e => (S.ds g h).1 e), S.glob.of_kept hk (fun e => S.ne.1 e.symm) (fun g h e => (S.dq g h).1 e), ?_⟩
  exact Kept.toBelow S.bel hk S.bel.size (fun k e => by rw [e]; exact S.ne.2.2.2.1)

/-- .. then the global queue's. -/
theorem RSt.glob2 (S : RSt w wr rb gb mb lb sb qb nx xs sp) {xs' : List Int} {nx' : Int} (hg : wr.grownBy w1 (some rb)) (hR : RingIs w1 rb xs' nx') (hk : Kept w1 w2 (fun k => k = gb ∨ qb = some k)) :
    ModelIs w2 mb lb sb nx xs sp ∧ RingIs w2 rb xs' nx' ∧ Below w.heap.size w w2 := by
  obtain ⟨m1, g1, b1⟩ := S.ring1 hg
  refine ⟨m1.of_kept hk ?_ ?_ ?_, hR.of_block (hk.block _ hR.lt ?_), Kept.toBelow b1 hk b1.size ?_⟩
  · intro h; rcases h with h | h
    · exact S.ne.2.2.1 h.symm
    · exact (S.dq _ h).2.1 rfl
  · intro g hl h; rcases h with h | h
    · exact (S.dl g hl).2.1 h
    · exact (S.dl g hl).2.2.1 h
  · intro g hl h; rcases h with h | h
    · exact (S.ds g hl).2.1 h
    · exact (S.ds g hl).2.2.1 h
  · intro h; rcases h with h | h
    · exact S.ne.1 h
    · exact (S.dq _ h).1 rfl
  · intro k h; rcases h with h | h
    · rw [h]; exact S.ne.2.2.2.2.1
    · exact (S.dq _ h).2.2

/-- .. then the model's. -/
theorem RSt.put3 (S : RSt w wr rb gb mb lb sb qb nx xs sp) {xs' sp' : List Int} {nx' : Int} {lb' sb' qb' : Option Nat} (h4 : xs'.length ≤ 4) (hg : wr.grownBy w1 (some rb)) (hR : RingIs w1 rb xs' nx') (hk : Kept w1 w2 (fun k => k = gb ∨ qb = some k))
    (hG : GlobIs w2 gb qb' sp') (hO : OldOrNew w1 qb qb') (hM : ModelIs w3 mb lb' sb' nx' xs' sp') (hOl : OldOrNew w2 lb lb') (hOs : OldOrNew w2 sb sb') (hk3 : Kept w2 w3 (fun k => k = mb ∨ lb = some k ∨ sb = some k)) :
    RSt w w3 rb gb mb lb' sb' qb' nx' xs' sp' := by
  obtain ⟨m2, r2, b2⟩ := S.glob2 hg hR hk
  have hq' : ∀ g, qb' = some g → g ≠ rb ∧ g ≠ mb ∧ w.heap.size ≤ g ∧ (∀ l, lb = some l → l ≠ g) ∧ ∀ l, sb = some l → l ≠ g := fun g h => by
    rcases hO with h' | ⟨k, h', hk'⟩
    · rw [h'] at h
      exact ⟨(S.dq g h).1, (S.dq g h).2.1, (S.dq g h).2.2, fun l hl e => (S.dl l hl).2.2.1 (by rw [h, e]), fun l hl e => (S.ds l hl).2.2.1 (by rw [h, e])⟩
    · rw [h'] at h; cases h
      have s1 := hg.size
      have s2 := S.ring.lt
      have s3 := S.model.lt
      have s4 := S.bel.size
      exact ⟨by omega, by omega, by omega, fun l hl e => by have := S.model.llt.1 l hl; omega, fun l hl e => by have := S.model.llt.2 l hl; omega⟩
  have hql := hG.qlt
  have s5 := hG.lt
  have s6 := r2.lt
  have s7 := m2.lt
  have s8 := b2.size
  have hdl : ∀ g, lb' = some g → g ≠ rb ∧ g ≠ gb ∧ qb' ≠ some g ∧ w.heap.size ≤ g := fun g h => by
    rcases hOl with h' | ⟨k, h', hk'⟩
    · rw [h'] at h
      exact ⟨(S.dl g h).1, (S.dl g h).2.1, fun e => (hq' g e).2.2.2.1 g h rfl, (S.dl g h).2.2.2⟩
    · rw [h'] at h; cases h
      exact ⟨by omega, by omega, fun e => by have := (hql _ e).1; omega, by omega⟩
  have hds : ∀ g, sb' = some g → g ≠ rb ∧ g ≠ gb ∧ qb' ≠ some g ∧ w.heap.size ≤ g := fun g h => by
    rcases hOs with h' | ⟨k, h', hk'⟩
    · rw [h'] at h
      exact ⟨(S.ds g h).1, (S.ds g h).2.1, fun e => (hq' g e).2.2.2.2 g h rfl, (S.ds g h).2.2.2⟩
    · rw [h'] at h; cases h
      exact ⟨by omega, by omega, fun e => by have := (hql _ e).1; omega, by omega⟩
  refine ⟨hM, r2.of_block (hk3.block _ r2.lt ?_), hG.of_kept hk3 ?_ ?_, h4, hdl, hds, fun g h => ⟨(hq' g h).1, (hq' g h).2.1, (hq' g h).2.2.1⟩, S.ne, Kept.toBelow b2 hk3 b2.size ?_⟩
  · intro h; rcases h with h | h | h
    · exact S.ne.2.1 h
    · exact (S.dl _ h).1 rfl
    · exact (S.ds _ h).1 rfl
  · intro h; rcases h with h | h | h
    · exact S.ne.2.2.1 h
    · exact (S.dl _ h).2.1 rfl
    · exact (S.ds _ h).2.1 rfl
  · intro g hq h; rcases h with h | h | h
    · exact (hq' g hq).2.1 h
    · exact (hq' g hq).2.2.2.1 g h rfl
    · exact (hq' g hq).2.2.2.2 g h rfl
  · intro k h; rcases h with h | h | h
    · rw [h]; exact S.ne.2.2.2.2.2
    · exact (S.dl _ h).2.2.2
    · exact (S.ds _ h).2.2.2

/-- Ring and model each give one. -/
theorem RSt.get2 (S : RSt w wr rb gb mb lb sb qb nx xs sp) {xs' : List Int} {nx' : Int} (h4 : xs'.length ≤ 4) (hg : wr.grownBy w1 (some rb)) (hR : RingIs w1 rb xs' nx') (hM : ModelIs w2 mb lb sb nx' xs' sp) (hk : Kept w1 w2 (fun k => k = mb)) : RSt w w2 rb gb mb lb sb qb nx' xs' sp := by
  obtain ⟨m1, g1, b1⟩ := S.ring1 hg
  exact ⟨hM, hR.of_block (hk.block _ hR.lt S.ne.2.1), g1.of_kept hk S.ne.2.2.1 (fun g h e => (S.dq g h).2.1 e), h4, S.dl, S.ds, S.dq, S.ne, Kept.toBelow b1 hk b1.size (fun k e => by rw [e]; exact S.ne.2.2.2.2.2)⟩

/-- Half is stolen from both. -/
theorem RSt.steal1 (S : RSt w wr rb gb mb lb sb qb nx xs sp) {xs' : List Int} (h4 : xs'.length ≤ 4) (hM : ModelIs w1 mb lb sb nx xs' sp) (hR : RingIs w1 rb xs' nx) (hk : Kept wr w1 (fun k => k = mb ∨ k = rb)) : RSt w w1 rb gb mb lb sb qb nx xs' sp := by
  refine ⟨hM, hR, S.glob.of_kept hk ?_ ?_, h4, S.dl, S.ds, S.dq, S.ne, Kept.toBelow S.bel hk S.bel.size ?_⟩
  · intro h; rcases h with h | h
    · exact S.ne.2.2.1 h
    · exact S.ne.1 h.symm
  · intro g hq h; rcases h with h | h
    · exact (S.dq g hq).2.1 h
    · exact (S.dq g hq).1 h
  · intro k h; rcases h with h | h
    · rw [h]; exact S.ne.2.2.2.2.2
    · rw [h]; exact S.ne.2.2.2.1

theorem RSt.below (S : RSt w wr rb gb mb lb sb qb nx xs sp) (hb : Below wr.heap.size wr w1) : RSt w w1 rb gb mb lb sb qb nx xs sp :=
  ⟨S.model.below hb, S.ring.below hb, S.glob.below hb, S.len4, S.dl, S.ds, S.dq, S.ne, S.bel.trans (hb.mono S.bel.size)⟩
end

end Go.Proofs.Ygdaig
