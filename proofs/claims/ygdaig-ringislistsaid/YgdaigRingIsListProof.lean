/-
  THE PROOF OF 'Rows.RingIsListSaid': the frame is the guide's own (proof-skeleton.mjs), turned to the builder that hands on the form's own reach; the walk is filled.
-/
import Derived.Test.YgdaigRingIsListWalk
import Derived.Test.YgdaigRows
import Derived.WalkKit
import Derived.ProofKit
import Derived.OpenShut
import Derived.ShutString
import Derived.ChangeOld
import Derived.Below
import Derived.SizedLaws
namespace Go.Proofs.Ygdaig.ringIsList
open Go.ChangeShapes Go.WideShapes Go.ChangeAt Go.RowKit
open Go.ChangeMaps (open_string shut_string)
set_option linter.unusedVariables false

theorem own : ownKnob Yaid.prog.godebug = none := by kernel_rfl
theorem laidOut : laidOutB Yaid.prog = true := by kernel_rfl

/-- WHAT THE WALK IS TOLD OF A SLICE OF INTEGERS THAT CAME IN: it is nil; or it leads to a row of 'cap' cells, the numbers 'zs' (the first 'len' are its elements, the rest its spare room), each fitting its kind. -/
def IsRow (k : IntKind) (w : World) (a : Option Addr) (len cap : Nat) (zs : List Int) : Prop :=
  (a = none ∧ len = 0 ∧ cap = 0 ∧ zs = []) ∨
  ∃ x, a = some x ∧ len ≤ cap ∧ cap ≤ maxLen ∧ zs.length = cap ∧ (∀ i, i < zs.length → w.cell? (x.add i) = some (.int k (zs.getD i 0))) ∧ ∀ n ∈ zs, (Lit.int k n).wf = true

/-! ### THE WALK -/
theorem core (s : Nat) (a1 : Option Addr) (len1 cap1 : Nat) (z1 : List Int) (w : World) (hs : s < 256) (w1 : IsRow .i64 w a1 len1 cap1 z1) (h44 : len1 * 8 ≤ 140737488351232) :
    Calls Yaid.prog 11 #[.func (.func 12) #[] #[], .int .u8 s, .slice a1 len1 cap1] w fun e w' => e = .returned (.bool true) ∧ Below w.heap.size w w' := by
  refine ri_any a1 s len1 cap1 (fun j => z1.getD j 0) w hs h44 (fun h0 => ?_)
  rcases w1 with ⟨_, rfl, _⟩ | ⟨x, rfl, hl, _, hz, hcell, _⟩
  · omega
  · obtain ⟨b, off, rfl, hc⟩ := ints_at hcell (by omega)
    exact ⟨b, off, rfl, World.block_lt_of_cell? w _ (hc 0 (by omega)), fun j hj => hc j (by omega)⟩

set_option maxHeartbeats 400000 in
theorem walkN (s : Nat) (a1 : Option Addr) (len1 cap1 : Nat) (z1 : List Int) (w : World) (hs : s < 256) (w1 : IsRow .i64 w a1 len1 cap1 z1) (h44 : len1 * 8 ≤ 140737488351232) :
    Calls Yaid.prog 5 #[.int .u8 s, .slice a1 len1 cap1] w fun e w' => e = .returned (.bool true) ∧ Below w.heap.size w w' := by
  go_enter Yaid.func5, Yaid.ntmps5
  go_wp2_with (go_at_call 11; refine (core s a1 len1 cap1 z1 _ hs w1 h44).mono ?_; rintro e w' ⟨rfl, hq⟩)
  go_ret
  exact ⟨rfl, hq⟩

theorem walk (a0 : Int) (a1 : Option Addr) (len1 cap1 : Nat) (z1 : List Int) (w : World) (w0 : (Lit.int .u8 a0).wf = true) (w1 : IsRow .i64 w a1 len1 cap1 z1) (h44 : len1 * 8 ≤ 140737488351232) :
    Calls Yaid.prog 5 #[.int .u8 a0, .slice a1 len1 cap1] w fun e w' => e = .returned (.bool true) ∧ Below w.heap.size w w' := by
  have hb := bounds_u8 w0
  obtain ⟨s, rfl⟩ := Int.eq_ofNat_of_zero_le (a := a0) (by omega)
  exact walkN s a1 len1 cap1 z1 w (by omega) w1 h44

theorem bytes3 : Yaid.prog.bytesOf 3 = 8 := by kernel_rfl

/-! ### THE ROW's STEP: WRITTEN OUT: LEAVE IT -/
set_option maxRecDepth 100000 in
theorem lifted (os : Os) (started : os.Started) (H : Type) (enc : TypeId × Value → H) :
    ReturnsInHanded {} Yaid.checked os 5 .any (Rows.ringIsListSpec.pre6 enc Yaid.prog Yaid.f5 Rows.ringIsListRow.domain false) (Rows.ringIsListSpec.post enc Yaid.prog Yaid.f5 false true false false) := by
  refine returnsInHanded_of_change_sized (C := Yaid.checked) own started (by kernel_rfl) Yaid.func5
    (ChangeSpec.witness6 (enc := enc) (C := Yaid.checked) false ⟨#[], #[.int .u8 0, .slice none 0 0], []⟩ 8 (by kernel_rfl) (by kernel_rfl) (by kernel_rfl) (by kernel_rfl)) ?_
  intro W base args ds gs before hval0 hW hcnd hsz0 _
  have hsz : (DataW.weightsEach Yaid.prog (Yaid.f5.params.toList ++ Rows.ringIsListSpec.plain.varTypes Yaid.prog) (ds ++ gs)).all (· ≤ reachBytes) = true := hsz0
  clear hsz0
  have hval : ∀ (j : Nat) t v, Yaid.f5.params[j]? = some t → args[j]? = some v → Value.okWide Yaid.prog W .any base t v := hval0
  have hW' := hW
  obtain ⟨p, q, hA0, hV, rfl, hfz, hnd⟩ := hW
  have hA : DataW.TrodAll enc Yaid.prog W 0 (fun _ => true) true Yaid.f5.params.toList args.toList ds p := hA0
  rw [Yaid.params5] at hA hval hsz
  obtain ⟨v0, vs0, d0, ds0, p0, q0, hargs, rfl, rfl, h0, r0⟩ := trodAll_cons hA
  obtain ⟨v1, vs1, d1, ds1, p1, q1, rfl, rfl, rfl, h1, r1⟩ := trodAll_cons r0
  obtain ⟨rfl, rfl, rfl⟩ := trodAll_nil r1
  obtain rfl : args = #[v0, v1] := by cases args; simp_all
  obtain ⟨rfl, rfl⟩ := trodVars_none hV
  obtain ⟨a0, rfl, rfl, rfl, w0⟩ := open_int Yaid.underlying5 (hval 0 5 v0 rfl rfl) h0
  obtain ⟨a1, len1, cap1, rfl⟩ := okWide_slice Yaid.underlying26 (hval 1 26 v1 rfl rfl)
  have k1 := h1
  have lt1 : ∀ x ∈ p1, x.block < W.heap.size := by obtain ⟨m, hm⟩ := k1; exact DataW.trod_lt m _ _ _ hm
  obtain ⟨z1, w1, h44⟩ : ∃ zs, IsRow .i64 W a1 len1 cap1 zs ∧ len1 * 8 ≤ 140737488351232 := by
    obtain ⟨fuel, hf⟩ := h1
    rcases open_ints Yaid.underlying26 Yaid.underlying3 (by kernel_rfl) hf with ⟨hcs, _⟩ | ⟨x, l, c, zs, hcs, _, hl, hm, hz, hx, hcell, hwz⟩
    · simp [Value.cells] at hcs
      obtain ⟨rfl, rfl, rfl⟩ := hcs
      exact ⟨[], .inl ⟨rfl, rfl, rfl, rfl⟩, by omega⟩
    · simp [Value.cells] at hcs
      obtain ⟨rfl, rfl, rfl⟩ := hcs
      simp only [Prod.mk.injEq] at hx
      obtain ⟨hd1, _⟩ := hx
      have hre : len1 * 8 ≤ 140737488351232 := by
        rw [hd1] at hsz
        have := sized_slice hsz (j := 1) (t := 26) (e := 3) rfl rfl Yaid.underlying26
        rw [bytes3] at this
        simp only [if_true] at hz
        simp only [lits, List.length_map, List.length_take, List.length_drop, reachBytes] at this
        omega
      exact ⟨zs, .inr ⟨_, rfl, hl, hm, by simpa using hz, hcell, hwz⟩, hre⟩
  clear hA0 hval0
  refine (walk a0 a1 len1 cap1 z1 W w0 w1 h44).mono fun e W' ⟨he, bel⟩ => ?_
  subst he
  exact ⟨_, rfl, _, _, _, [], _, [], hW', trodAll_mk1 (shut_bool Yaid.underlying4 _), (trodAll_cons_mk (shut_int Yaid.underlying5 w0) (trodAll_cons_mk (Below.trod laidOut (by kernel_rfl) (of_decide_eq_true (by kernel_rfl)) k1 bel lt1) trodAll_mk0)), rfl, bel.frame _, fun h => by cases h⟩

theorem over : Rows.ringIsListRow.holds Yaid.pinned (OpenSpec.ofChange Rows.ringIsListSpec) :=
  OpenClaim.holds_of_wide 5 Yaid.f5 rfl rfl rfl rfl rfl rfl rfl ⟨rfl, rfl, rfl, rfl, rfl⟩ rfl rfl rfl rfl rfl (by kernel_rfl) Yaid.func5 (by kernel_rfl)
    (of_decide_eq_true (by kernel_rfl)) (by unfold Func.isWrapper; first | (rw [if_pos (by decide +kernel)]; kernel_rfl) | (rw [if_neg (by decide +kernel)]; exact ⟨rfl, rfl⟩))
    (fun os started H enc _ => lifted os started H enc)

/-- ████ THE STATEMENT ████ -/
theorem proved : Rows.RingIsListSaid := over
end Go.Proofs.Ygdaig.ringIsList
