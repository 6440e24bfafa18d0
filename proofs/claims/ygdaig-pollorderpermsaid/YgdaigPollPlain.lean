/-
  THE PLAIN LAW OF sel.PollOrder: what comes of the numbers read; that each of the six orders of three arises from the law's 216 tapes. No Go in sight.
-/
import Derived.Test.YgdaigLockPlain
namespace Go.Proofs.Ygdaig

/-- Two cases, the number j read. -/
def poll2 (j : Nat) : Nat × Nat × Nat := if j = 0 then (1, 0, 0) else (0, 1, 0)
/-- Three cases: place 2 with place j2, then place 1 with place j1. -/
def poll3 (j2 j1 : Nat) : Nat × Nat × Nat :=
  if j1 = 0 then (if j2 = 0 then (1, 2, 0) else if j2 = 1 then (2, 0, 1) else (1, 0, 2))
  else (if j2 = 0 then (2, 1, 0) else if j2 = 1 then (0, 2, 1) else (0, 1, 2))

/-- Three cases behind the first exchange. -/
def mid3 (j2 : Nat) : Nat × Nat × Nat := if j2 = 0 then (2, 1, 0) else if j2 = 1 then (0, 2, 1) else (0, 1, 2)
theorem poll3_zero {j2 q0 q1 q2 : Nat} (h : mid3 j2 = (q0, q1, q2)) : poll3 j2 0 = (q1, q0, q2) := by
  unfold mid3 at h
  unfold poll3
  split at h
  · rename_i e; simp at h; simp [e]; omega
  · split at h
    · rename_i e e2; simp at h; simp [e2]; omega
    · rename_i e e2; simp at h; simp [e, e2]; omega
theorem poll3_one {j2 q0 q1 q2 : Nat} (h : mid3 j2 = (q0, q1, q2)) : poll3 j2 1 = (q0, q1, q2) := by
  unfold mid3 at h
  unfold poll3
  split at h
  · rename_i e; simp at h; simp [e]; omega
  · split at h
    · rename_i e e2; simp at h; simp [e2]; omega
    · rename_i e e2; simp at h; simp [e, e2]; omega

theorem poll2_perm (j : Nat) : PermQ (poll2 j) 2 := by
  apply perm2
  unfold poll2
  split <;> simp
theorem poll3_perm (j2 j1 : Nat) : PermQ (poll3 j2 j1) 3 := by
  apply perm3
  unfold poll3
  split <;> split <;> first | decide | (split <;> decide)

/-- The order of the law's tape number x. -/
def pollX (x : Nat) : Nat × Nat × Nat := poll3 (x / 36 % 3) (x / 6 % 6 % 2)
def keyX (x : Nat) : Nat := (pollX x).1 * 9 + (pollX x).2.1 * 3 + (pollX x).2.2

/-- The keys met among the first x tapes. -/
def seenX : Nat → List Nat
  | 0 => []
  | x + 1 => if (seenX x).contains (keyX x) then seenX x else keyX x :: seenX x

theorem seenX_le (x : Nat) : (seenX x).length ≤ x := by
  induction x with
  | zero => simp [seenX]
  | succ n ih =>
    unfold seenX
    split
    · omega
    · simp; omega

set_option maxRecDepth 100000 in
theorem seenX_all : (seenX 216).length = 6 := by decide +kernel

theorem pollX_lt (x : Nat) : (pollX x).1 < 3 ∧ (pollX x).2.1 < 3 ∧ (pollX x).2.2 < 3 := by
  unfold pollX poll3
  split <;> split <;> first | decide | (split <;> decide)

end Go.Proofs.Ygdaig
