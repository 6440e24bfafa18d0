/-
  A SLICE OF INTS OF THE CALL's OWN, WHEREVER IN ITS ROW IT BEGINS ('list[1:]' and its like), AND append ONTO IT: one law for both arms.
-/
import Derived.Test.YgdaigGlobSpill
import Derived.ArgAppend
import Derived.Deep.RegionLaw
namespace Go.Proofs.Ygdaig
open Go.RowKit
set_option linter.unusedVariables false

/-- The slice value v holds xs; its row is block b (none: nil). -/
def SlIs (w : World) (v : Value) (b : Option Nat) (xs : List Int) : Prop :=
  (b = none ∧ v = .slice none 0 0 ∧ xs = []) ∨
  ∃ g off cap, b = some g ∧ g < w.heap.size ∧ v = .slice (some ⟨g, off, none⟩) xs.length cap ∧ xs.length ≤ cap ∧ cap ≤ maxLen ∧ (∀ i, i < cap → (w.cell? ⟨g, off + i, none⟩).isSome = true) ∧
    (∀ i x, xs[i]? = some x → w.cell? ⟨g, off + i, none⟩ = some (.int .i64 x)) ∧ ∀ o, w.frozen? ⟨g, o, none⟩ = false

theorem SlIs.of_kept {w w' : World} {v : Value} {b : Option Nat} {xs : List Int} {p : Nat → Prop} (h : SlIs w v b xs) (k : Kept w w' p) (hp : ∀ g, b = some g → ¬ p g) : SlIs w' v b xs := by
  rcases h with h | ⟨g, off, cap, e1, e2, e3, e4, e5, c1, c2, fz⟩
  · exact .inl h
  · have e := k.block g e2 (hp g e1)
    have hc : ∀ o, w'.cell? ⟨g, o, none⟩ = w.cell? ⟨g, o, none⟩ := fun o => World.cell?_of_block (a := ⟨g, o, none⟩) e
    exact .inr ⟨g, off, cap, e1, Nat.lt_of_lt_of_le e2 k.size, e3, e4, e5, fun i hi => by rw [hc]; exact c1 i hi, fun i x hx => by rw [hc]; exact c2 i x hx, fun o => (World.frozen?_of_block (a := ⟨g, o, none⟩) e).trans (fz o)⟩
theorem SlIs.lt {w : World} {v : Value} {b : Option Nat} {xs : List Int} (h : SlIs w v b xs) : ∀ g, b = some g → g < w.heap.size := by
  rcases h with ⟨h, _⟩ | ⟨g, off, cap, e1, e2, _⟩
  · intro g hg; rw [h] at hg; cases hg
  · intro g' hg; rw [e1] at hg; cases hg; exact e2
theorem SlIs.form {w : World} {v : Value} {b : Option Nat} {xs : List Int} (h : SlIs w v b xs) : ∃ a cap, v = .slice a xs.length cap := by
  rcases h with ⟨_, h, rfl⟩ | ⟨g, off, cap, _, _, h, _⟩
  · exact ⟨none, 0, h⟩
  · exact ⟨_, cap, h⟩

theorem sl_of_owns {w : World} {base n : Nat} {v : Value} {zs : List Int} (h : w.ownsRow base 3 1 v n (zs.map (Value.int .i64))) (hn : n = zs.length) (h0 : 0 < n) : ∃ g, base ≤ g ∧ SlIs w v (some g) zs := by
  obtain ⟨_, h⟩ := h
  rcases h with ⟨_, h⟩ | ⟨g, cap, cur, hv, hb, hh, hc, hm, hs, ht⟩
  · omega
  · refine ⟨g, hb, .inr ⟨g, 0, cap, rfl, (Array.getElem?_eq_some_iff.1 hh).1, by rw [hv, hn], by omega, hm, fun i hi => ?_, fun i x hx => ?_, fun o => by simp [World.frozen?, hh]⟩⟩
    · simp only [World.cell?, hh, Nat.zero_add]
      simp
      omega
    · have hi : i < zs.length := by
        rcases Nat.lt_or_ge i zs.length with h | h
        · exact h
        · rw [List.getElem?_eq_none h] at hx; cases hx
      have e : (cur.toList.take (n * 1))[i]? = some (.int .i64 x) := by rw [ht, List.getElem?_map, hx]; rfl
      rw [List.getElem?_take, if_pos (by omega)] at e
      simp only [World.cell?, hh, Nat.zero_add]
      simpa using e

theorem kept_setCells (w : World) (g : Nat) : ∀ (vs : List Value) (o : Nat) (w0 : World), Kept w w0 (fun k => some g = some k) → Kept w (w0.setCells g o vs) (fun k => some g = some k)
  | [], _, _, h => h
  | v :: r, o, w0, h => kept_setCells w g r (o + 1) _ (h.set (.inl rfl) _ _)

/-- append, both arms. -/
theorem run_append_sl {w : World} {v : Value} {b : Option Nat} {xs ys : List Int} (ty : TypeId) (H : SlIs w v b xs) (a : Addr) (m c : Nat) (hm : m = ys.length) (h0 : 0 < m) (hy : ∀ j y, ys[j]? = some y → w.cell? (a.add j) = some (.int .i64 y))
    (h44 : (xs.length + m) * 8 ≤ 140737488355328) :
    ∃ v' w' b', (Builtin.append_ #[26, 26] ty #[v, .slice (some a) m c]).run Yaid.prog w = .ok v' w' ∧ SlIs w' v' b' (xs ++ ys) ∧ OldOrNew w b b' ∧ Kept w w' (fun k => b = some k) := by
  obtain ⟨i, hi, hz, hs, hby⟩ := info_parts info3
  have hnews : ∀ j u, (ys.map (Value.int .i64))[j]? = some u → w.cell? (a.add j) = some u := fun j u hu => by
    rw [List.getElem?_map] at hu
    cases e : ys[j]? with
    | none => rw [e] at hu; cases hu
    | some y => rw [e] at hu; cases hu; exact hy j y e
  have hone : ∀ u ∈ ys.map (Value.int .i64), u.oneCell' = true := fun u hu => by
    rw [List.mem_map] at hu
    obtain ⟨y, _, rfl⟩ := hu
    rfl
  have hnl : (ys.map (Value.int .i64)).length = m * 1 := by simp [hm]
  rcases H with ⟨rfl, rfl, rfl⟩ | ⟨g, off, cap, rfl, e2, rfl, e4, e5, c1, c2, fz⟩
  · obtain ⟨v', w', hrun, r1, r2, _⟩ := run_append_own (P := Yaid.prog) w w.heap.size 26 ty 3 i (.int .i64 0) 1 8 Yaid.underlying26 hi hz hs hby rfl (by decide) (.slice none 0 0) 0 [] (World.ownsRow_nil w _ 3 1) a m c (ys.map (Value.int .i64)) hnl hnews hone
      (by unfold maxLen; simp at h44; omega) (by simp at h44; omega) (Nat.le_refl _)
    simp only [List.nil_append, Nat.zero_add] at r1
    obtain ⟨g, hg, hsl⟩ := sl_of_owns r1 hm h0
    exact ⟨v', w', some g, hrun, hsl, .inr ⟨g, rfl, hg⟩, ⟨r2.os, r2.tape, r2.output, r2.size, fun k hk _ => r2.block k hk (by simp [Value.ownBlock])⟩⟩
  · by_cases hr : xs.length + m ≤ cap
    · have hrun := run_append_room_cells (P := Yaid.prog) w 26 ty 3 i Yaid.underlying26 hi g off xs.length cap a m c (ys.map (Value.int .i64)) (by rw [hs]; exact hnl) hnews hone hr
        (fun j hj => by rw [hs, Nat.mul_one, Nat.add_assoc]; simp at hj; exact c1 _ (by omega)) (fun j _ => fz _)
      rw [hs, Nat.mul_one] at hrun
      refine ⟨_, _, some g, hrun, .inr ⟨g, off, cap, rfl, ?_, by simp [hm], by simp; omega, e5, ?_, ?_, fun o => by rw [World.frozen?_setCells]; exact fz o⟩, .inl rfl, kept_setCells w g _ _ _ (kept_refl _ _)⟩
      · exact Nat.lt_of_lt_of_le e2 (kept_setCells w g (ys.map (Value.int .i64)) (off + xs.length) _ (kept_refl _ _)).size
      · intro j hj
        by_cases hin : xs.length ≤ j ∧ j < xs.length + m
        · have := World.cell?_setCells_in g (ys.map (Value.int .i64)) (off + xs.length) w (fun k hk => by rw [Nat.add_assoc]; simp at hk; exact c1 _ (by omega)) (j - xs.length) (by simp; omega)
          rw [show off + xs.length + (j - xs.length) = off + j by omega] at this
          rw [this]; rfl
        · rw [World.cell?_setCells_out g _ _ _ _ (fun _ _ => by simp; omega)]
          exact c1 j hj
      · intro j x hx
        by_cases hin : j < xs.length
        · rw [World.cell?_setCells_out g _ _ _ _ (fun _ _ => by simp; omega)]
          rw [List.getElem?_append_left hin] at hx
          exact c2 j x hx
        · rw [List.getElem?_append_right (by omega)] at hx
          have hj2 : j - xs.length < ys.length := by
            rcases Nat.lt_or_ge (j - xs.length) ys.length with h | h
            · exact h
            · rw [List.getElem?_eq_none h] at hx; cases hx
          have := World.cell?_setCells_in g (ys.map (Value.int .i64)) (off + xs.length) w (fun k hk => by rw [Nat.add_assoc]; simp at hk; exact c1 _ (by omega)) (j - xs.length) (by simp; omega)
          rw [show off + xs.length + (j - xs.length) = off + j by omega] at this
          rw [this]
          simp only [List.getElem_map]
          rw [List.getElem?_eq_getElem hj2] at hx
          cases hx
          rfl
    · obtain ⟨v', w', hrun, r1, r2⟩ := run_append_arg_grows (P := Yaid.prog) w 26 ty 3 i (.int .i64 0) 1 8 Yaid.underlying26 hi hz hs hby rfl (by decide) ⟨g, off, none⟩ xs.length cap (xs.map (Value.int .i64)) (by simp)
        (fun j u hu => by
          rw [List.getElem?_map] at hu
          cases e : xs[j]? with
          | none => rw [e] at hu; cases hu
          | some y => rw [e] at hu; cases hu; rw [Addr.add_lit]; exact c2 j y e) a m c (ys.map (Value.int .i64)) hnl hnews (by omega) (by unfold maxLen; omega) h44
      rw [← List.map_append] at r1
      obtain ⟨g', hg', hsl⟩ := sl_of_owns r1 (by simp [hm]) (by omega)
      exact ⟨v', w', some g', hrun, hsl, .inr ⟨g', rfl, hg'⟩, ⟨r2.os, r2.tape, r2.output, r2.size, fun k hk _ => r2.block k hk (by simp)⟩⟩

/-- .. for the walk. -/
theorem wpList_append_sl {w : World} {ops : Array Oper} {rest : List Oper} {o : Oper} {ac : Act} {Q : Exit → Act → World → Prop} {v : Value} {b : Option Nat} {xs ys : List Int} (hg : o.guard = none) (s x : Operand)
    (hop : o.op = Op.call { callee := Callee.builtin Builtin.append, args := #[s, x], argTypes := #[26, 26] }) (hs : ac.eval s = v) (H : SlIs w v b xs) (a : Addr) (m c : Nat) (hx : ac.eval x = .slice (some a) m c) (hm : m = ys.length) (h0 : 0 < m)
    (hy : ∀ j y, ys[j]? = some y → w.cell? (a.add j) = some (.int .i64 y)) (h44 : (xs.length + m) * 8 ≤ 140737488355328)
    (hK : ∀ v' w' b', SlIs w' v' b' (xs ++ ys) → OldOrNew w b b' → Kept w w' (fun k => b = some k) → wpList Yaid.prog ops Q rest (ac.put o.dst v') w') :
    wpList Yaid.prog ops Q (o :: rest) ac w := by
  refine wpList_plain hg fun K hK' => ?_
  obtain ⟨v', w', b', hrun, r1, r2, r3⟩ := run_append_sl o.type H a m c hm h0 hy h44
  unfold Oper.wp
  simp [execOp, hop, resolve, invoke, builtin, hs, hx, hrun, Result.andThen]
  exact hK' _ _ (hK v' w' b' r1 r2 r3)

/-- .. as one step of a region that draws its order. -/
theorem step_append_sl {w : World} {ops : Array Oper} {o : Oper} {ac : Act} {K : Act → World → Prop} {Q : Exit → Act → World → Prop} {E : Prop} {v : Value} {b : Option Nat} {xs ys : List Int} (hg : o.guard = none) (s x : Operand)
    (hop : o.op = Op.call { callee := Callee.builtin Builtin.append, args := #[s, x], argTypes := #[26, 26] }) (hs : ac.eval s = v) (H : SlIs w v b xs) (a : Addr) (m c : Nat) (hx : ac.eval x = .slice (some a) m c) (hm : m = ys.length) (h0 : 0 < m)
    (hy : ∀ j y, ys[j]? = some y → w.cell? (a.add j) = some (.int .i64 y)) (h44 : (xs.length + m) * 8 ≤ 140737488355328)
    (hK : ∀ v' w' b', SlIs w' v' b' (xs ++ ys) → OldOrNew w b b' → Kept w w' (fun k => b = some k) → K (ac.put o.dst v') w') :
    if Region.wanted o (yielded ops ac.tmps) = true then Oper.wp Yaid.prog o ac w K Q else E := by
  have hw : Region.wanted o (yielded ops ac.tmps) = true := by simp [Region.wanted, hg]
  rw [if_pos hw]
  obtain ⟨v', w', b', hrun, r1, r2, r3⟩ := run_append_sl o.type H a m c hm h0 hy h44
  unfold Oper.wp
  simp [execOp, hop, resolve, invoke, builtin, hs, hx, hrun, Result.andThen]
  exact hK v' w' b' r1 r2 r3

end Go.Proofs.Ygdaig
