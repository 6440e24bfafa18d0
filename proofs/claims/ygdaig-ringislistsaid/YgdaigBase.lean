/-
  SMALL LAWS ON WORLDS FOR THIS SEAT's WALKS: one block 'b' that a callee may write ('World.grownBy .. (some b)'), and a region that draws its order and calls what only makes new blocks ('Later').
-/
import Derived.Test.YgdaigRows
import Derived.WalkKit
import Derived.WalkSpells
import Derived.WalkLawsBesides
import Derived.Handy
import Derived.BigQuiet
namespace Go.Proofs.Ygdaig
open Go.RowKit

theorem grown_refl (w : World) (r : Option Nat) : w.grownBy w r := ⟨rfl, rfl, rfl, Nat.le_refl _, fun _ _ _ => rfl⟩
theorem grown_trans {a b c : World} {r : Option Nat} (h : a.grownBy b r) (k : b.grownBy c r) : a.grownBy c r :=
  ⟨k.os.trans h.os, k.tape.trans h.tape, k.output.trans h.output, Nat.le_trans h.size k.size,
   fun i hi hr => (k.block i (Nat.lt_of_lt_of_le hi h.size) hr).trans (h.block i hi hr)⟩
theorem grown_alloc {a w : World} {r : Option Nat} (h : a.grownBy w r) (o : Obj) : a.grownBy (w.alloc o) r :=
  grown_trans h (World.grownBy_alloc w o r)
theorem grown_drew {a w : World} {r : Option Nat} (h : a.grownBy w r) : a.grownBy w.drew r := ⟨h.os, h.tape, h.output, h.size, h.block⟩
theorem grown_setCell {a w : World} {b : Nat} (h : a.grownBy w (some b)) (o : Nat) (v : Value) : a.grownBy (w.setCell ⟨b, o, none⟩ v) (some b) :=
  grown_trans h ⟨rfl, rfl, rfl, by simp, fun k _ hk => Below.heap_setCell _ _ _ _ (fun e => hk (by rw [e]))⟩
/-- A store into a block that is newer than 'a'. -/
theorem grown_setNew {a w : World} {r : Option Nat} (h : a.grownBy w r) {p : Addr} (hp : a.heap.size ≤ p.block) (v : Value) : a.grownBy (w.setCell p v) r :=
  ⟨h.os, h.tape, h.output, by have := h.size; simp; omega, fun k hk hr => (Below.heap_setCell _ _ _ _ (by omega)).trans (h.block k hk hr)⟩
theorem grown_below {a w : World} (h : Below a.heap.size a w) (r : Option Nat) : a.grownBy w r := ⟨h.os, h.tape, h.output, h.size, fun k hk _ => h.block k hk⟩
theorem below_grown {a w : World} (h : a.grownBy w none) : Below a.heap.size a w := ⟨h.os, h.tape, h.output, h.size, fun k hk => h.block k hk (by simp)⟩
/-- What is written lies at or beyond B. -/
theorem below_of_grown {a w w' : World} {B b : Nat} (h : Below B a w) (k : w.grownBy w' (some b)) (hB : B ≤ w.heap.size) (hb : B ≤ b) : Below B a w' :=
  h.grown k hB (fun j hj => by cases hj; exact hb)
theorem grown_lt {a w : World} {r : Option Nat} (h : a.grownBy w r) {b : Nat} (hb : b < a.heap.size) : b < w.heap.size := Nat.lt_of_lt_of_le hb h.size

theorem cell_drew (w : World) (a : Addr) : w.drew.cell? a = w.cell? a := rfl
theorem cell_set_off {w : World} {b o o' : Nat} {v : Value} (h : o ≠ o') : (w.setCell ⟨b, o, none⟩ v).cell? ⟨b, o', none⟩ = w.cell? ⟨b, o', none⟩ :=
  World.cell?_setCell_other _ _ _ _ (fun e => h (by cases e; rfl))
theorem cell_set_block {w : World} {b b' o o' : Nat} {v : Value} (h : b ≠ b') : (w.setCell ⟨b, o, none⟩ v).cell? ⟨b', o', none⟩ = w.cell? ⟨b', o', none⟩ :=
  World.cell?_setCell_other _ _ _ _ (fun e => h (by cases e; rfl))

/-- A world in which all that 'w' holds stands as it stood. -/
structure Later (w : World) where
  val : World
  below : Below w.heap.size w val

theorem Later.cell {w : World} (s : Later w) (b o : Nat) (h : b < w.heap.size) : s.val.cell? ⟨b, o, none⟩ = w.cell? ⟨b, o, none⟩ := s.below.cell (p := ⟨b, o, none⟩) h
theorem Later.frozen {w : World} (s : Later w) (b o : Nat) (h : b < w.heap.size) : s.val.frozen? ⟨b, o, none⟩ = w.frozen? ⟨b, o, none⟩ := s.below.frozen (p := ⟨b, o, none⟩) h

theorem wpQuiet_mono {P : Program} {ops : Array Oper} {C : World → Prop} {Q Q' : Act → Prop} (h : ∀ a, Q a → Q' a) : ∀ (l : List Oper) (a : Act), wpQuiet P ops C Q l a → wpQuiet P ops C Q' l a
  | [], a, k => h a k
  | o :: l, a, k => by
    unfold wpQuiet at *
    split
    · rename_i hw; rw [if_pos hw] at k; exact Oper.quiet_mono (fun a' => wpQuiet_mono h l a') k
    · rename_i hw; rw [if_neg hw] at k; exact wpQuiet_mono h l _ k

theorem later_some (w : World) : Nonempty (Later w) := ⟨⟨w, Below.refl _ _⟩⟩

/-- A region that draws its order, whose own operations only read and whose callees write nothing that was there (they may make new blocks): one walk in the order of the text. -/
theorem wp_region_later {P : Program} {id : Nat} {Q : Exit → Act → World → Prop} {a : Act} {w : World} {l : List Oper} (hm : P.follows .mixedOrders = true) (hB : Region.lexB .any l.toArray = true)
    (h : wpQuiet P l.toArray (fun w' => ∃ s : Later w, w' = s.val) (fun a' => ∀ w', Below w.heap.size w w' → Q .normal a' w') l a) : (Code.region id l.toArray true).wp P Q a w :=
  wp_region_quiet (C := fun w' => ∃ s : Later w, w' = s.val) hm hB ⟨⟨w.drew, (Below.refl _ _).drew⟩, rfl⟩
    (wpQuiet_mono (fun _ h w' hw' => by obtain ⟨s, rfl⟩ := hw'; exact h _ s.below) _ _ (by simpa using h))

/-- A callee's contract at a world of the class. -/
theorem later_call {P : Program} {f : FuncId} {args : Array Value} {w : World} {s : Later w} {v : Value}
    (h : Calls P f args s.val fun e w' => e = .returned v ∧ Below s.val.heap.size s.val w') : Calls P f args s.val fun e w'' => e = .returned v ∧ ∃ s' : Later w, w'' = s'.val :=
  h.mono fun _ w' ⟨he, hb⟩ => ⟨he, ⟨w', s.below.trans (hb.mono s.below.size)⟩, rfl⟩

theorem ret_bool {a b : Bool} (h : a = b) : Ending.returned (.bool a) = .returned (.bool b) := by rw [h]
theorem ret_int {k : IntKind} {a b : Int} (h : a = b) : Ending.returned (.int k a) = .returned (.int k b) := by rw [h]

end Go.Proofs.Ygdaig
