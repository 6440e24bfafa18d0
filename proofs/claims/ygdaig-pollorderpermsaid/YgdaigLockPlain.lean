/-
  THE PLAIN LAW OF sel.LockOrder for one, two and three cases: its three places as a triple; no Go in sight.
-/
namespace Go.Proofs.Ygdaig

/-- Case a goes before case b: by channel, ties by index. -/
def ltB (c : Nat → Int) (a b : Nat) : Bool := if c a ≠ c b then decide (c a < c b) else decide (a < b)

/-- siftDown from place 0, over two places. -/
def sift2 (lt : Nat → Nat → Bool) (q : Nat × Nat × Nat) : Nat × Nat × Nat :=
  if lt q.1 q.2.1 = true then (q.2.1, q.1, q.2.2) else q
/-- siftDown from place 0, over three places. -/
def sift3 (lt : Nat → Nat → Bool) (q : Nat × Nat × Nat) : Nat × Nat × Nat :=
  if lt q.2.1 q.2.2 = true then (if lt q.1 q.2.2 = true then (q.2.2, q.2.1, q.1) else q)
  else if lt q.1 q.2.1 = true then (q.2.1, q.1, q.2.2) else q

def swap01 (q : Nat × Nat × Nat) : Nat × Nat × Nat := (q.2.1, q.1, q.2.2)
def swap02 (q : Nat × Nat × Nat) : Nat × Nat × Nat := (q.2.2, q.2.1, q.1)

def lock2 (lt : Nat → Nat → Bool) : Nat × Nat × Nat := swap01 (sift2 lt (0, 1, 0))
def lock3 (lt : Nat → Nat → Bool) : Nat × Nat × Nat := swap01 (sift2 lt (swap02 (sift3 lt (0, 1, 2))))

theorem ltB_iff (c : Nat → Int) (a b : Nat) : ltB c a b = true ↔ c a < c b ∨ (c a = c b ∧ a < b) := by
  unfold ltB
  split
  · rw [decide_eq_true_iff]; omega
  · rw [decide_eq_true_iff]; omega
theorem ltB_not (c : Nat → Int) (a b : Nat) : ltB c a b = false ↔ ¬ (c a < c b ∨ (c a = c b ∧ a < b)) := by
  rw [← ltB_iff]; simp

/-- The place i of a triple. -/
def place (q : Nat × Nat × Nat) (i : Nat) : Nat := if i = 0 then q.1 else if i = 1 then q.2.1 else q.2.2

/-- The first n places hold 0 .. n-1, each once. -/
def PermQ (q : Nat × Nat × Nat) (n : Nat) : Prop := (∀ i, i < n → place q i < n) ∧ ∀ i j, i < n → j < n → place q i = place q j → i = j
/-- .. in ascending order. -/
def SortedQ (c : Nat → Int) (q : Nat × Nat × Nat) (n : Nat) : Prop := ∀ i, 1 ≤ i → i < n → ltB c (place q (i - 1)) (place q i) = true

theorem perm1 (a b : Nat) : PermQ (0, a, b) 1 := by
  refine ⟨fun i hi => ?_, fun i j hi hj _ => by omega⟩
  obtain rfl : i = 0 := by omega
  simp [place]

theorem perm2 {q : Nat × Nat × Nat} (h : (q.1 = 0 ∧ q.2.1 = 1) ∨ (q.1 = 1 ∧ q.2.1 = 0)) : PermQ q 2 := by
  refine ⟨fun i hi => ?_, fun i j hi hj => ?_⟩
  · unfold place; split
    · omega
    · split <;> omega
  · unfold place
    intro e
    split at e
    · split at e
      · omega
      · split at e <;> omega
    · split at e
      · split at e
        · omega
        · split at e <;> omega
      · omega

theorem perm3 {q : Nat × Nat × Nat} (h : q.1 < 3 ∧ q.2.1 < 3 ∧ q.2.2 < 3 ∧ q.1 ≠ q.2.1 ∧ q.1 ≠ q.2.2 ∧ q.2.1 ≠ q.2.2) : PermQ q 3 := by
  refine ⟨fun i hi => ?_, fun i j hi hj => ?_⟩
  · unfold place; split
    · omega
    · split <;> omega
  · unfold place
    intro e
    split at e
    · split at e
      · omega
      · split at e <;> omega
    · split at e
      · split at e
        · omega
        · split at e <;> omega
      · split at e
        · omega
        · split at e <;> omega

theorem lock2_perm (c : Nat → Int) : PermQ (lock2 (ltB c)) 2 := by
  apply perm2
  unfold lock2 sift2 swap01
  split <;> simp

theorem lock2_sorted (c : Nat → Int) : SortedQ c (lock2 (ltB c)) 2 := by
  intro i h1 h2
  obtain rfl : i = 1 := by omega
  unfold lock2 sift2 swap01
  split
  · rename_i h; simpa [place] using h
  · rename_i h
    simp only [place] at *
    simp only [Bool.not_eq_true] at h
    rw [ltB_not] at h
    simp
    rw [ltB_iff]
    omega

theorem lock3_case (c : Nat → Int) : (PermQ (lock3 (ltB c)) 3 ∧ SortedQ c (lock3 (ltB c)) 3) := by
  have i01 := ltB_iff c 0 1
  have i10 := ltB_iff c 1 0
  have i02 := ltB_iff c 0 2
  have i20 := ltB_iff c 2 0
  have i12 := ltB_iff c 1 2
  have i21 := ltB_iff c 2 1
  have key : (lock3 (ltB c)).1 < 3 ∧ (lock3 (ltB c)).2.1 < 3 ∧ (lock3 (ltB c)).2.2 < 3 ∧ (lock3 (ltB c)).1 ≠ (lock3 (ltB c)).2.1 ∧ (lock3 (ltB c)).1 ≠ (lock3 (ltB c)).2.2 ∧ (lock3 (ltB c)).2.1 ≠ (lock3 (ltB c)).2.2 ∧
      ltB c (lock3 (ltB c)).1 (lock3 (ltB c)).2.1 = true ∧ ltB c (lock3 (ltB c)).2.1 (lock3 (ltB c)).2.2 = true := by
    cases h01 : ltB c 0 1 <;> cases h10 : ltB c 1 0 <;> cases h02 : ltB c 0 2 <;> cases h20 : ltB c 2 0 <;> cases h12 : ltB c 1 2 <;> cases h21 : ltB c 2 1 <;>
      simp only [h01, h10, h02, h20, h12, h21, Bool.false_eq_true, true_iff, false_iff] at i01 i10 i02 i20 i12 i21 <;>
      first
        | (exfalso; omega)
        | (simp [lock3, sift3, sift2, swap01, swap02, h01, h10, h02, h20, h12, h21])
  obtain ⟨k1, k2, k3, k4, k5, k6, k7, k8⟩ := key
  refine ⟨perm3 ⟨k1, k2, k3, k4, k5, k6⟩, fun i h1 h2 => ?_⟩
  have : i = 1 ∨ i = 2 := by omega
  rcases this with rfl | rfl
  · exact k7
  · exact k8

end Go.Proofs.Ygdaig
