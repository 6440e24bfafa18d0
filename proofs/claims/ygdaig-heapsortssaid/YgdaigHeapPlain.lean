/-
  THE PLAIN LAW OF THE 4-ARY TIMER HEAP: no Go in sight. A heap's slots are a function 'f : Nat → Tm'; its content is the list of the first n.
-/
namespace Go.Proofs.Ygdaig

/-- A timer: when, goroutine, channel, value. -/
structure Tm where
  w : Int
  g : Int
  c : Int
  v : Int

theorem Tm.eta (a : Tm) : (⟨a.w, a.g, a.c, a.v⟩ : Tm) = a := rfl

def lessB (aw ag ac av bw bg bc bv : Int) : Bool :=
  if aw ≠ bw then decide (aw < bw) else if ag ≠ bg then decide (ag < bg) else if ac ≠ bc then decide (ac < bc) else decide (av < bv)

def Tm.less (a b : Tm) : Bool := lessB a.w a.g a.c a.v b.w b.g b.c b.v

def Tm.le (a b : Tm) : Prop := b.less a = false

theorem less_iff (a b : Tm) : a.less b = true ↔ a.w < b.w ∨ (a.w = b.w ∧ (a.g < b.g ∨ (a.g = b.g ∧ (a.c < b.c ∨ (a.c = b.c ∧ a.v < b.v))))) := by
  unfold Tm.less lessB
  split
  · rw [decide_eq_true_iff]; omega
  · split
    · rw [decide_eq_true_iff]; omega
    · split
      · rw [decide_eq_true_iff]; omega
      · rw [decide_eq_true_iff]; omega

theorem le_iff (a b : Tm) : a.le b ↔ ¬ (b.less a = true) := by unfold Tm.le; simp

theorem le_refl (a : Tm) : a.le a := by rw [le_iff, less_iff]; omega
theorem le_trans {a b c : Tm} (h : a.le b) (k : b.le c) : a.le c := by
  rw [le_iff, less_iff] at *; omega
theorem le_of_less {a b : Tm} (h : a.less b = true) : a.le b := by
  rw [le_iff]; rw [less_iff] at *; omega
theorem less_false_of_le {a b : Tm} (h : a.le b) : b.less a = false := h

def upd (f : Nat → Tm) (i : Nat) (x : Tm) : Nat → Tm := fun k => if k = i then x else f k
def swp (f : Nat → Tm) (i j : Nat) : Nat → Tm := upd (upd f i (f j)) j (f i)

theorem upd_same (f : Nat → Tm) (i : Nat) (x : Tm) : upd f i x i = x := by simp [upd]
theorem upd_other {f : Nat → Tm} {i k : Nat} (x : Tm) (h : k ≠ i) : upd f i x k = f k := by simp [upd, h]
theorem swp_left (f : Nat → Tm) (i j : Nat) : swp f i j i = f j := by
  unfold swp upd; by_cases h : i = j <;> simp [h]
theorem swp_right (f : Nat → Tm) (i j : Nat) : swp f i j j = f i := by simp [swp, upd]
theorem swp_other (f : Nat → Tm) (i j k : Nat) (h1 : k ≠ i) (h2 : k ≠ j) : swp f i j k = f k := by simp [swp, upd, h1, h2]

def content (f : Nat → Tm) (n : Nat) : List Tm := (List.range n).map f

theorem content_length (f : Nat → Tm) (n : Nat) : (content f n).length = n := by simp [content]
theorem content_succ (f : Nat → Tm) (n : Nat) : content f (n + 1) = content f n ++ [f n] := by simp [content, List.range_succ]
theorem content_mem {f : Nat → Tm} {n : Nat} {x : Tm} : x ∈ content f n ↔ ∃ i, i < n ∧ f i = x := by simp [content]
theorem content_congr {f f' : Nat → Tm} {n : Nat} (h : ∀ i, i < n → f i = f' i) : content f n = content f' n := by
  unfold content
  exact List.map_congr_left fun i hi => h i (by simpa using hi)

theorem content_swp (f : Nat → Tm) (n i j : Nat) (hi : i < n) (hj : j < n) : (content (swp f i j) n).Perm (content f n) := by
  have li : i < (content f n).length := by rw [content_length]; exact hi
  have lj : j < (content f n).length := by rw [content_length]; exact hj
  have e : content (swp f i j) n = ((content f n).set i (content f n)[j]).set j (content f n)[i] := by
    apply List.ext_getElem
    · simp [content]
    · intro k h1 h2
      simp only [content, List.getElem_map, List.getElem_range, List.getElem_set, swp, upd]
      by_cases a : k = j
      · subst a; simp
      · by_cases b : k = i
        · subst b; simp [a, Ne.symm a]
        · simp [a, b, Ne.symm a, Ne.symm b]
  rw [e]
  exact List.set_set_perm li lj

theorem content_upd_last (f : Nat → Tm) (n : Nat) (x : Tm) : content (upd f n x) (n + 1) = content f n ++ [x] := by
  rw [content_succ, upd_same, content_congr (f' := f) fun i hi => upd_other x (by omega)]

/-- Taking the root away: the last one is laid into slot 0. -/
theorem content_del (f : Nat → Tm) (n : Nat) : (content f (n + 1)).Perm (f 0 :: content (upd f 0 (f n)) n) := by
  cases n with
  | zero => simp [content]
  | succ m =>
    have e1 : content f (m + 1 + 1) = f 0 :: (((List.range m).map fun k => f (k + 1)) ++ [f (m + 1)]) := by
      rw [content_succ]
      simp only [content]
      rw [List.range_succ_eq_map]
      simp [Function.comp_def]
    have e2 : content (upd f 0 (f (m + 1))) (m + 1) = f (m + 1) :: ((List.range m).map fun k => f (k + 1)) := by
      simp only [content]
      rw [List.range_succ_eq_map]
      simp [Function.comp_def, upd]
    rw [e1, e2]
    exact List.Perm.cons _ List.perm_append_comm

/-- Every timer is no less than its parent. -/
def IsHp (f : Nat → Tm) (n : Nat) : Prop := ∀ c, 0 < c → c < n → (f ((c - 1) / 4)).le (f c)

theorem hp_root {f : Nat → Tm} {n : Nat} (h : IsHp f n) : ∀ k, k < n → (f 0).le (f k) := by
  intro k
  induction k using Nat.strongRecOn with
  | ind k ih =>
    intro hk
    by_cases h0 : k = 0
    · subst h0; exact le_refl _
    · exact le_trans (ih ((k - 1) / 4) (by omega) (by omega)) (h k (by omega) hk)

/-- While a timer rises from slot i. -/
def UpInv (f : Nat → Tm) (n i : Nat) : Prop :=
  (∀ c, 0 < c → c < n → c ≠ i → (f ((c - 1) / 4)).le (f c)) ∧
  (0 < i → ∀ c, 0 < c → c < n → (c - 1) / 4 = i → (f ((i - 1) / 4)).le (f c))

theorem up_start {f : Nat → Tm} {n : Nat} (x : Tm) (h : IsHp f n) : UpInv (upd f n x) (n + 1) n := by
  refine ⟨fun c h0 hc hne => ?_, fun h0 c hc0 hc hp => by omega⟩
  rw [upd_other x (by omega), upd_other x hne]
  exact h c h0 (by omega)

theorem up_done {f : Nat → Tm} {n i : Nat} (h : UpInv f n i) (k : i = 0 ∨ (f i).less (f ((i - 1) / 4)) = false) : IsHp f n := by
  intro c h0 hc
  by_cases e : c = i
  · subst e
    rcases k with k | k
    · omega
    · exact k
  · exact h.1 c h0 hc e

theorem up_step {f : Nat → Tm} {n i : Nat} (h : UpInv f n i) (hi : 0 < i) (hn : i < n) (hl : (f i).less (f ((i - 1) / 4)) = true) :
    UpInv (swp f i ((i - 1) / 4)) n ((i - 1) / 4) := by
  have hu : (i - 1) / 4 < i := by omega
  refine ⟨fun c h0 hc hne => ?_, fun h0 c hc0 hc hp => ?_⟩
  · by_cases e : c = i
    · subst e
      rw [swp_left, swp_right]
      exact le_of_less hl
    · rw [swp_other f i _ c e hne]
      by_cases e2 : (c - 1) / 4 = i
      · rw [e2, swp_left]
        exact h.2 hi c h0 hc e2
      · by_cases e3 : (c - 1) / 4 = (i - 1) / 4
        · rw [e3, swp_right]
          have := h.1 c h0 hc e
          rw [e3] at this
          exact le_trans (le_of_less hl) this
        · rw [swp_other f i _ _ e2 e3]
          exact h.1 c h0 hc e
  · have hpar : (f (((i - 1) / 4 - 1) / 4)).le (f ((i - 1) / 4)) := h.1 _ h0 (by omega) (by omega)
    rw [swp_other f i _ (((i - 1) / 4 - 1) / 4) (by omega) (by omega)]
    by_cases e : c = i
    · subst e; rw [swp_left]; exact hpar
    · rw [swp_other f i _ c e (by omega)]
      have := h.1 c hc0 hc e
      rw [hp] at this
      exact le_trans hpar this

/-- While a timer sinks from slot i. -/
def DnInv (f : Nat → Tm) (n i : Nat) : Prop :=
  (∀ c, 0 < c → c < n → (c - 1) / 4 ≠ i → (f ((c - 1) / 4)).le (f c)) ∧
  (0 < i → ∀ c, 0 < c → c < n → (c - 1) / 4 = i → (f ((i - 1) / 4)).le (f c))

theorem dn_start {f : Nat → Tm} {n : Nat} (x : Tm) (h : IsHp f (n + 1)) : DnInv (upd f 0 x) n 0 := by
  refine ⟨fun c h0 hc hne => ?_, fun h0 => by omega⟩
  rw [upd_other x (by omega), upd_other x (by omega)]
  exact h c h0 (by omega)

/-- 'l' is the least of slot i and its children below c. -/
def Least (f : Nat → Tm) (n i c l : Nat) : Prop :=
  (l = i ∨ (4 * i + 1 ≤ l ∧ l < c ∧ l < n)) ∧ (f l).le (f i) ∧ (∀ k, 4 * i + 1 ≤ k → k < c → (f l).le (f k))

theorem least_start (f : Nat → Tm) (n i : Nat) : Least f n i (4 * i + 1) i := ⟨.inl rfl, le_refl _, fun k _ _ => by omega⟩
theorem least_take {f : Nat → Tm} {n i c l : Nat} (h : Least f n i c l) (hc : c < n) (h4 : 4 * i + 1 ≤ c) (hl : (f c).less (f l) = true) : Least f n i (c + 1) c :=
  ⟨.inr ⟨h4, by omega, hc⟩, le_trans (le_of_less hl) h.2.1, fun k k1 k2 => by
    by_cases e : k = c
    · subst e; exact le_refl _
    · exact le_trans (le_of_less hl) (h.2.2 k k1 (by omega))⟩
theorem least_keep {f : Nat → Tm} {n i c l : Nat} (h : Least f n i c l) (hl : (f c).less (f l) = false) : Least f n i (c + 1) l :=
  ⟨by rcases h.1 with h | ⟨a, b, c⟩
      · exact .inl h
      · exact .inr ⟨a, by omega, c⟩, h.2.1, fun k k1 k2 => by
    by_cases e : k = c
    · subst e; exact hl
    · exact h.2.2 k k1 (by omega)⟩

theorem dn_done {f : Nat → Tm} {n i c : Nat} (h : DnInv f n i) (hl : Least f n i c i) (hc : 4 * i + 4 < c ∨ n ≤ c) : IsHp f n := by
  intro k h0 hk
  by_cases e : (k - 1) / 4 = i
  · rw [e]; exact hl.2.2 k (by omega) (by omega)
  · exact h.1 k h0 hk e

theorem dn_step {f : Nat → Tm} {n i c l : Nat} (h : DnInv f n i) (hl : Least f n i c l) (hc : 4 * i + 4 < c ∨ n ≤ c) (hc4 : c ≤ 4 * i + 5) (hne : l ≠ i) : DnInv (swp f i l) n l := by
  obtain ⟨h1, h2, h3⟩ := hl
  have hl4 : 4 * i + 1 ≤ l ∧ l < c ∧ l < n := by rcases h1 with h1 | h1; exact absurd h1 hne; exact h1
  have hp : (l - 1) / 4 = i := by omega
  refine ⟨fun k h0 hk hkl => ?_, fun h0 k hk0 hk hkp => ?_⟩
  · by_cases e : k = l
    · subst e; rw [hp, swp_left, swp_right]; exact h2
    · by_cases e2 : (k - 1) / 4 = i
      · rw [e2, swp_left, swp_other f i l k (by omega) e]
        exact h3 k (by omega) (by omega)
      · rw [swp_other f i l ((k - 1) / 4) e2 hkl]
        by_cases e3 : k = i
        · subst e3
          rw [swp_left]
          exact h.2 (by omega) l (by omega) hl4.2.2 hp
        · rw [swp_other f i l k e3 e]
          exact h.1 k h0 hk e2
  · rw [hp, swp_left, swp_other f i l k (by omega) (by omega)]
    have := h.1 k hk0 hk (by omega)
    rw [hkp] at this
    exact this

end Go.Proofs.Ygdaig
