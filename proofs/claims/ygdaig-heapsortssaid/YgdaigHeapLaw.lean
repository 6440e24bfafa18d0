/-
  WHAT THE LAW's SECOND LOOP KEEPS, in plain words: of the timers that are still in the heap each is whens' own, not seen yet, and no less than the one taken last.
-/
import Derived.Test.YgdaigHeapPlain
namespace Go.Proofs.Ygdaig

/-- The timer of goroutine g. -/
def tmOf (z : Nat → Int) (g : Nat) : Tm := ⟨z g, g, -1, 0⟩

def Left (z : Nat → Int) (len : Nat) (s : Nat → Bool) (p : Tm) (k : Nat) (L : List Tm) : Prop :=
  L.length + k = len ∧ (L.map Tm.g).Nodup ∧ ∀ t, t ∈ L → ∃ g : Nat, g < len ∧ t = tmOf z g ∧ s g = false ∧ (0 < k → p.le t)

theorem nodup_gs (z : Nat → Int) (len : Nat) : ((List.range len).map (Tm.g ∘ tmOf z)).Nodup := by
  induction len with
  | zero => simp
  | succ n ih =>
    rw [List.range_succ, List.map_append, List.nodup_append]
    refine ⟨ih, by simp, fun a ha b hb => ?_⟩
    rw [List.mem_map] at ha
    obtain ⟨i, hi, rfl⟩ := ha
    simp only [List.mem_range] at hi
    simp only [List.map_cons, List.map_nil, List.mem_singleton] at hb
    subst hb
    show (i : Int) ≠ (n : Int)
    omega

theorem left_start {z : Nat → Int} {len : Nat} {L : List Tm} (p : Tm) (h : L.Perm ((List.range len).map (tmOf z))) : Left z len (fun _ => false) p 0 L := by
  refine ⟨by simpa using h.length_eq, ?_, fun t ht => ?_⟩
  · rw [(h.map Tm.g).nodup_iff, List.map_map]
    exact nodup_gs z len
  · have := h.mem_iff.1 ht
    rw [List.mem_map] at this
    obtain ⟨g, hg, rfl⟩ := this
    exact ⟨g, by simpa using hg, rfl, rfl, fun h => absurd h (by omega)⟩

def mark (s : Nat → Bool) (g : Nat) : Nat → Bool := fun j => if j = g then true else s j

theorem left_step {z : Nat → Int} {len : Nat} {s : Nat → Bool} {p t : Tm} {k : Nat} {L L' : List Tm} (h : Left z len s p k L) (hp : L.Perm (t :: L')) (hmin : ∀ x, x ∈ L → t.le x) :
    ∃ g : Nat, g < len ∧ t = tmOf z g ∧ s g = false ∧ (0 < k → p.le t) ∧ Left z len (mark s g) t (k + 1) L' := by
  obtain ⟨h1, h2, h3⟩ := h
  have ht : t ∈ L := hp.mem_iff.2 (by simp)
  obtain ⟨g, hg, e, hs, hle⟩ := h3 t ht
  refine ⟨g, hg, e, hs, hle, ?_, ?_, ?_⟩
  · have := hp.length_eq
    simp at this
    omega
  · rw [(hp.map Tm.g).nodup_iff] at h2
    exact (List.nodup_cons.1 h2).2
  · intro x hx
    have hxL : x ∈ L := hp.mem_iff.2 (by simp [hx])
    obtain ⟨g', hg', e', hs', _⟩ := h3 x hxL
    refine ⟨g', hg', e', ?_, fun _ => hmin x hxL⟩
    unfold mark
    have hne : g' ≠ g := by
      intro e2
      rw [(hp.map Tm.g).nodup_iff, List.map_cons, List.nodup_cons] at h2
      apply h2.1
      rw [List.mem_map]
      exact ⟨x, hx, by rw [e, e', e2]⟩
    rw [if_neg hne]
    exact hs'

/-- In the heap's own words. -/
theorem left_del {z : Nat → Int} {len : Nat} {s : Nat → Bool} {p : Tm} {k n : Nat} {f f' : Nat → Tm} (h : Left z len s p k (content f (n + 1))) (hh : IsHp f (n + 1)) (hp : (content f (n + 1)).Perm (f 0 :: content f' n)) :
    ∃ g : Nat, g < len ∧ f 0 = tmOf z g ∧ s g = false ∧ (0 < k → p.le (f 0)) ∧ Left z len (mark s g) (f 0) (k + 1) (content f' n) :=
  left_step h hp fun x hx => by
    obtain ⟨i, hi, rfl⟩ := content_mem.1 hx
    exact hp_root hh i hi

end Go.Proofs.Ygdaig
