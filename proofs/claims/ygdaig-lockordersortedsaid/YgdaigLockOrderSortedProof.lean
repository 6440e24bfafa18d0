/-
  THE PROOF OF 'Rows.LockOrderSortedSaid': the frame is the guide's own (proof-skeleton.mjs), turned to a slice of structs.
-/
import Derived.Test.YgdaigLockSortedWalk
import Derived.Test.YgdaigRows
import Derived.WalkKit
import Derived.ProofKit
import Derived.OpenShut
import Derived.ShutString
import Derived.ChangeOld
import Derived.Below
import Derived.Deep.Slices
import Derived.Deep.Strs
namespace Go.Proofs.Ygdaig.lockOrderSorted
open Go.ChangeShapes Go.WideShapes Go.ChangeAt Go.RowKit
open Go.ChangeMaps (open_string shut_string)
set_option linter.unusedVariables false

theorem own : ownKnob Yaid.prog.godebug = none := by kernel_rfl
theorem laidOut : laidOutB Yaid.prog = true := by kernel_rfl

/-- WHAT THE WALK IS TOLD OF THE SLICE OF CASES THAT CAME IN: it has no element, or it leads to a row of cases whose channels are 'c'. -/
def IsCases (w : World) (a : Option Addr) (len : Nat) (c : Nat → Int) : Prop :=
  0 < len → ∃ b off, a = some ⟨b, off, none⟩ ∧ CasesAt w b off len c

/-! ### THE WALK -/
theorem core (a0 : Option Addr) (len0 cap0 : Nat) (c : Nat → Int) (w : World) (w0 : IsCases w a0 len0 c) :
    Calls Yaid.prog 7 #[.func (.func 8) #[] #[], .slice a0 len0 cap0] w fun e w' => e = .returned (.bool true) ∧ Below w.heap.size w w' := by
  by_cases h : len0 < 1 ∨ 3 < len0
  · exact ls_out a0 len0 cap0 w h
  · obtain ⟨b, off, rfl, hc⟩ := w0 (by omega)
    exact ls_in b off len0 cap0 c w hc (by omega) (by omega)

set_option maxHeartbeats 400000 in
theorem walk (a0 : Option Addr) (len0 cap0 : Nat) (c : Nat → Int) (w : World) (w0 : IsCases w a0 len0 c) :
    Calls Yaid.prog 3 #[.slice a0 len0 cap0] w fun e w' => e = .returned (.bool true) ∧ Below w.heap.size w w' := by
  go_enter Yaid.func3, Yaid.ntmps3
  go_wp2_with (go_at_call 7; refine (core a0 len0 cap0 c _ w0).mono ?_; rintro e w' ⟨rfl, hq⟩)
  go_ret
  exact ⟨rfl, hq⟩

theorem cells3 : Yaid.prog.cellsOf 3 = 1 := by kernel_rfl
theorem cells49 : Yaid.prog.cellsOf 49 = 3 := by kernel_rfl

/-- A case's channel out of its reading. -/
theorem case_ch {H : Type} {enc : TypeId × Value → H} {w : World} {fuel : Nat} {cs : List Value} {x : DataW H × List MemPlace} (h : DataW.trod enc Yaid.prog w 0 (fun _ => true) true fuel 49 cs = some x) :
    ∃ c0 n c2, cs = [c0, .int .i64 n, c2] := by
  obtain ⟨y0, y1, y2, n, _, hl, _, t1, _⟩ := Go.Deep.trod_struct3 Yaid.underlying49 h
  rw [cells49] at hl
  obtain ⟨k, hk, _, _⟩ := DataW.trod_int Yaid.underlying3 t1
  match cs, hl with
  | [c0, c1, c2], _ =>
    have e : (List.drop 1 [c0, c1, c2]).take (Yaid.prog.cellsOf 3) = [Value.int .i64 k] := hk
    rw [cells3] at e
    simp at e
    exact ⟨c0, k, c2, by rw [e]⟩

theorem cases_of {H : Type} {enc : TypeId × Value → H} {w : World} {x : Addr} {len cap n : Nat} {D : Nat → DataW H} {Pl : Nat → List MemPlace} (hl : len ≤ cap)
    (h : ∀ i, i < cap → ∃ cs', w.cells? 0 (x.add (i * 3)) 3 = some cs' ∧ DataW.trod enc Yaid.prog w 0 (fun _ => true) true n 49 cs' = some (D i, Pl i)) :
    ∃ c, IsCases w (some x) len c := by
  have hch : ∀ i, i < cap → ∃ k : Int, w.cell? ((x.add (i * 3)).add 1) = some (.int .i64 k) := fun i hi => by
    obtain ⟨cs', h1, h2⟩ := h i hi
    obtain ⟨c0, k, c2, rfl⟩ := case_ch h2
    refine ⟨k, ?_⟩
    have e := h1
    simp only [World.cells?, Nat.zero_le, if_true] at e
    rw [show List.range 3 = [0, 1, 2] from rfl] at e
    simp only [List.mapM_cons, List.mapM_nil] at e
    cases e0 : w.cell? ((x.add (i * 3)).add 0) with
    | none => simp [e0] at e
    | some v0 =>
      cases e1 : w.cell? ((x.add (i * 3)).add 1) with
      | none => simp [e0, e1] at e
      | some v1 =>
        cases e2 : w.cell? ((x.add (i * 3)).add 2) with
        | none => simp [e0, e1, e2] at e
        | some v2 =>
          simp [e0, e1, e2] at e
          rw [e.2.1]
  obtain ⟨c, hc⟩ := Go.Deep.choose_lt (α := Int) (p := fun i k => w.cell? ((x.add (i * 3)).add 1) = some (.int .i64 k)) hch
  refine ⟨c, fun h0 => ?_⟩
  obtain ⟨b, off, spot⟩ := x
  have hspot : spot = none := by
    obtain ⟨cs', h1, h2⟩ := h 0 (by omega)
    simp only [World.cells?, Nat.zero_le, if_true] at h1
    rw [show List.range 3 = [0, 1, 2] from rfl] at h1
    simp only [List.mapM_cons, List.mapM_nil] at h1
    cases e0 : w.cell? (((⟨b, off, spot⟩ : Addr).add (0 * 3)).add 0) with
    | none => simp [e0] at h1
    | some v0 => simpa [Addr.add] using World.cell?_spot e0
  subst hspot
  refine ⟨b, off, rfl, ?_, fun j hj => ?_⟩
  · have := hc 0 (by omega)
    have := World.block_lt_of_cell? w _ this
    simpa [Addr.add] using this
  · have := hc j (by omega)
    rw [Go.WideShapes.add_plain, Go.WideShapes.add_plain] at this
    exact this

/-! ### THE ROW's STEP: WRITTEN OUT: LEAVE IT -/
set_option maxRecDepth 100000 in
theorem lifted (os : Os) (started : os.Started) (H : Type) (enc : TypeId × Value → H) :
    ReturnsInHanded {} Yaid.checked os 3 .any (Rows.lockOrderSortedSpec.pre6 enc Yaid.prog Yaid.f3 Rows.lockOrderSortedRow.domain false) (Rows.lockOrderSortedSpec.post enc Yaid.prog Yaid.f3 false true false false) := by
  refine returnsInHanded_of_change (C := Yaid.checked) own started (by kernel_rfl) Yaid.func3
    (ChangeSpec.witness6 (enc := enc) (C := Yaid.checked) false ⟨#[], #[.slice none 0 0], []⟩ 8 (by kernel_rfl) (by kernel_rfl) (by kernel_rfl) (by kernel_rfl)) ?_
  intro W base args ds gs before hval0 hW hcnd _
  have hval : ∀ (j : Nat) t v, Yaid.f3.params[j]? = some t → args[j]? = some v → Value.okWide Yaid.prog W .any base t v := hval0
  have hW' := hW
  obtain ⟨p, q, hA0, hV, rfl, hfz, hnd⟩ := hW
  have hA : DataW.TrodAll enc Yaid.prog W 0 (fun _ => true) true Yaid.f3.params.toList args.toList ds p := hA0
  rw [Yaid.params3] at hA hval
  obtain ⟨v0, vs0, d0, ds0, p0, q0, hargs, rfl, rfl, h0, r0⟩ := trodAll_cons hA
  obtain ⟨rfl, rfl, rfl⟩ := trodAll_nil r0
  obtain rfl : args = #[v0] := by cases args; simp_all
  obtain ⟨rfl, rfl⟩ := trodVars_none hV
  obtain ⟨a0, len0, cap0, rfl⟩ := okWide_slice Yaid.underlying22 (hval 0 22 v0 rfl rfl)
  have k0 := h0
  have lt0 : ∀ x ∈ p0, x.block < W.heap.size := by obtain ⟨m, hm⟩ := k0; exact DataW.trod_lt m _ _ _ hm
  obtain ⟨c0, w0⟩ : ∃ c, IsCases W a0 len0 c := by
    obtain ⟨fuel, hf⟩ := h0
    rcases Go.Deep.open_slice Yaid.underlying22 hf with ⟨hcs, _⟩ | ⟨x, l, cp, m, n, D, Pl, hcs, _, hl, _, hm, _, hcell⟩
    · simp [Value.cells] at hcs
      obtain ⟨rfl, rfl, rfl⟩ := hcs
      exact ⟨fun _ => 0, fun h => by omega⟩
    · simp [Value.cells] at hcs
      obtain ⟨rfl, rfl, rfl⟩ := hcs
      simp only [if_true] at hm
      subst hm
      rw [cells49] at hcell
      exact cases_of hl hcell
  clear hA0 hval0
  refine (walk a0 len0 cap0 c0 W w0).mono fun e W' ⟨he, bel⟩ => ?_
  subst he
  exact ⟨_, rfl, _, _, _, [], _, [], hW', trodAll_mk1 (shut_bool Yaid.underlying4 _), (trodAll_cons_mk (Below.trod laidOut (by kernel_rfl) (of_decide_eq_true (by kernel_rfl)) k0 bel lt0) trodAll_mk0), rfl, bel.frame _, fun h => by cases h⟩

theorem over : Rows.lockOrderSortedRow.holds Yaid.pinned (OpenSpec.ofChange Rows.lockOrderSortedSpec) :=
  OpenClaim.holds_of_wide 3 Yaid.f3 rfl rfl rfl rfl rfl rfl rfl ⟨rfl, rfl, rfl, rfl, rfl⟩ rfl rfl rfl rfl rfl (by kernel_rfl) Yaid.func3 (by kernel_rfl)
    (of_decide_eq_true (by kernel_rfl)) (by unfold Func.isWrapper; first | (rw [if_pos (by decide +kernel)]; kernel_rfl) | (rw [if_neg (by decide +kernel)]; exact ⟨rfl, rfl⟩))
    (fun os started H enc _ => lifted os started H enc)

/-- ████ THE STATEMENT ████ -/
theorem proved : Rows.LockOrderSortedSaid := over
end Go.Proofs.Ygdaig.lockOrderSorted
