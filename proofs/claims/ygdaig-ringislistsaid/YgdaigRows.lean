/-
  No cell of these rows narrows 'for every input' (looked for: loops, veiled, ifaces, maps, wideKeys, modest, calm, conditions, laid).
  DERIVED. THE GIVEN ROWS OF THIS SEAT. 4 by the template 'for every input the law returns true; each argument reads behind the call as it read before'; 0 by the template 'total and deterministic' (their statements: YgdaigTotals.lean).
  GIVEN WITH THE SEED: the statements are not yours to turn. If you find one false, say at which input.
  Laid BY PROGRAM, IN A SANDBOX (cutbox-rows.mjs): the forced cells as the released guide's own fill.sh prints them over the translation 551a66ea4fa4858d… (all of the seat's roots in one cut). By AI agents, Wed Nov 11 2026. No macro, syntax, notation, axiom, sorry.
-/
import Derived.Test.YgdaigChecked
import GoSem.Claim
import GoSem.ClaimJoined
import GoSem.ClaimMapViews
import Derived.JoinedTies
import Derived.KernelRfl
namespace Go.Proofs.Ygdaig
/- THE CELL 'sum', in the pinned program and in every row, IS THE sha256 OF THE DUMP (.gsa) THAT YgdaigProg.lean LOADS. Nothing in Lean hashes anything: it is a label: what it is worth is what the hold of that sum in a sandbox is worth. -/
noncomputable def Yaid.pinned : Pinned := { name := "ygdaig", sum := "551a66ea4fa4858de418032fb9bc99b553e19cc5b3177ce9d0f7d2880032204d", checked := Yaid.checked }
namespace Rows
def none {H : Type} : Left H := { results := [], args := [] }

/-- 'law.LockOrderSorted': WHATEVER THE INPUT: true; the input reads as it did. -/
def lockOrderSortedSpec : ChangeSpec := { name := "lockOrderSorted", fn := fun _ => fun
  | [d] => { results := [.lit (.bool true)], args := [d] }
  | _ => none }
def lockOrderSortedRow : OpenClaim := { program := "ygdaig", sum := "551a66ea4fa4858de418032fb9bc99b553e19cc5b3177ce9d0f7d2880032204d", func := "gosched/law.LockOrderSorted", spec := "lockOrderSorted", unfollowed := true, recurses := true, apart := false }
def LockOrderSortedSaid : Prop := lockOrderSortedRow.holds Yaid.pinned (OpenSpec.ofChange lockOrderSortedSpec)

/-- ITS FALSE NEIGHBOUR: 'it returns false'. Refute it at one input. -/
def lockOrderSortedWrong : ChangeSpec := { name := "lockOrderSorted", fn := fun _ => fun
  | [d] => { results := [.lit (.bool false)], args := [d] }
  | _ => none }
def LockOrderSortedWrongFalsely : Prop := lockOrderSortedRow.holds Yaid.pinned (OpenSpec.ofChange lockOrderSortedWrong)

/-- 'law.PollOrderPerm': WHATEVER THE INPUT: true; the input reads as it did. -/
def pollOrderPermSpec : ChangeSpec := { name := "pollOrderPerm", fn := fun _ => fun
  | [d1, d2] => { results := [.lit (.bool true)], args := [d1, d2] }
  | _ => none }
def pollOrderPermRow : OpenClaim := { program := "ygdaig", sum := "551a66ea4fa4858de418032fb9bc99b553e19cc5b3177ce9d0f7d2880032204d", func := "gosched/law.PollOrderPerm", spec := "pollOrderPerm", unfollowed := true, recurses := true, apart := false }
def PollOrderPermSaid : Prop := pollOrderPermRow.holds Yaid.pinned (OpenSpec.ofChange pollOrderPermSpec)

/-- ITS FALSE NEIGHBOUR: 'it returns false'. Refute it at one input. -/
def pollOrderPermWrong : ChangeSpec := { name := "pollOrderPerm", fn := fun _ => fun
  | [d1, d2] => { results := [.lit (.bool false)], args := [d1, d2] }
  | _ => none }
def PollOrderPermWrongFalsely : Prop := pollOrderPermRow.holds Yaid.pinned (OpenSpec.ofChange pollOrderPermWrong)

/-- 'law.RingIsList': WHATEVER THE INPUT: true; the input reads as it did. -/
def ringIsListSpec : ChangeSpec := { name := "ringIsList", fn := fun _ => fun
  | [d1, d2] => { results := [.lit (.bool true)], args := [d1, d2] }
  | _ => none }
def ringIsListRow : OpenClaim := { program := "ygdaig", sum := "551a66ea4fa4858de418032fb9bc99b553e19cc5b3177ce9d0f7d2880032204d", func := "gosched/law.RingIsList", spec := "ringIsList", unfollowed := true, recurses := true, apart := false }
def RingIsListSaid : Prop := ringIsListRow.holds Yaid.pinned (OpenSpec.ofChange ringIsListSpec)

/-- ITS FALSE NEIGHBOUR: 'it returns false'. Refute it at one input. -/
def ringIsListWrong : ChangeSpec := { name := "ringIsList", fn := fun _ => fun
  | [d1, d2] => { results := [.lit (.bool false)], args := [d1, d2] }
  | _ => none }
def RingIsListWrongFalsely : Prop := ringIsListRow.holds Yaid.pinned (OpenSpec.ofChange ringIsListWrong)

/-- 'law.HeapSorts': WHATEVER THE INPUT: true; the input reads as it did. -/
def heapSortsSpec : ChangeSpec := { name := "heapSorts", fn := fun _ => fun
  | [d] => { results := [.lit (.bool true)], args := [d] }
  | _ => none }
def heapSortsRow : OpenClaim := { program := "ygdaig", sum := "551a66ea4fa4858de418032fb9bc99b553e19cc5b3177ce9d0f7d2880032204d", func := "gosched/law.HeapSorts", spec := "heapSorts", unfollowed := true, recurses := true, apart := false }
def HeapSortsSaid : Prop := heapSortsRow.holds Yaid.pinned (OpenSpec.ofChange heapSortsSpec)

/-- ITS FALSE NEIGHBOUR: 'it returns false'. Refute it at one input. -/
def heapSortsWrong : ChangeSpec := { name := "heapSorts", fn := fun _ => fun
  | [d] => { results := [.lit (.bool false)], args := [d] }
  | _ => none }
def HeapSortsWrongFalsely : Prop := heapSortsRow.holds Yaid.pinned (OpenSpec.ofChange heapSortsWrong)

end Rows
end Go.Proofs.Ygdaig
