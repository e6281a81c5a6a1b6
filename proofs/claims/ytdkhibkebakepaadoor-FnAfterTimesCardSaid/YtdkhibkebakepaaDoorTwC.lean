/- The plain law of words that are walked again and again. No program in sight. -/
import Derived.Test.YtdkhibkebakepaaDoorTwA
namespace Go.Proofs.YtdkhibkebakepaaDoor.Tw
set_option linter.unusedVariables false
set_option linter.unusedSimpArgs false

/-- A turtle after a word, so many times. -/
def times (l : List UInt8) : Nat → Tu → Tu
  | 0, t => t
  | n + 1, t => run (times l n t) l

theorem times_k (l : List UInt8) (n : Nat) (t : Tu) (h : 0 ≤ t.k ∧ t.k ≤ 3) : 0 ≤ (times l n t).k ∧ (times l n t).k ≤ 3 := by
  induction n with
  | zero => exact h
  | succ n ih => exact run_k l _ ih

theorem times_far (l : List UInt8) (n : Nat) (t : Tu) : (times l n t).x - t.x ≤ n * l.length ∧ t.x - (times l n t).x ≤ n * l.length ∧ (times l n t).y - t.y ≤ n * l.length ∧ t.y - (times l n t).y ≤ n * l.length := by
  induction n with
  | zero => simp [times]
  | succ n ih =>
    have h := run_far l (times l n t)
    simp only [times]
    have e : (((n + 1 : Nat) : Int)) * (l.length : Int) = (n : Int) * (l.length : Int) + l.length := by
      rw [Int.natCast_add, Int.add_mul]; simp
    omega

theorem home_k : 0 ≤ home.k ∧ home.k ≤ 3 := by simp [home]

/-- One more round, seen from the home of the first. -/
theorem times_succ' (l : List UInt8) (n : Nat) : times l (n + 1) home = put (times l n home).x (times l n home).y (times l n home).k (run home l) := by
  simp only [times]
  exact run_from _ l (times_k l n home home_k)

theorem times_look (l : List UInt8) (n : Nat) : (times l n home).k = ((n : Int) * (run home l).k) % 4 := by
  induction n with
  | zero => simp [times, home]
  | succ n ih =>
    rw [times_succ']
    simp only [put]
    rw [ih]
    have e : (((n + 1 : Nat) : Int)) * (run home l).k = (n : Int) * (run home l).k + (run home l).k := by
      rw [Int.natCast_add, Int.add_mul]; simp
    rw [e]; omega

/-- Four times come back to the same look; if the word turns, to the same place, too. -/
theorem four (l : List UInt8) (t : Tu) (h : 0 ≤ t.k ∧ t.k ≤ 3) :
    (run (run (run (run t l) l) l) l).k = t.k ∧ ((run home l).k ≠ 0 → run (run (run (run t l) l) l) l = t) := by
  have hk := run_k l home home_k
  obtain ⟨⟨a, b, j⟩, hh⟩ : ∃ r, run home l = r := ⟨_, rfl⟩
  rw [hh] at hk
  have step : ∀ s : Tu, 0 ≤ s.k ∧ s.k ≤ 3 → run s l = put s.x s.y s.k ⟨a, b, j⟩ := fun s hs => by rw [run_from s l hs, hh]
  have h1 := run_k l t h
  have h2 := run_k l _ h1
  have h3 := run_k l _ h2
  rw [step _ h3, step _ h2, step _ h1, step _ h, hh]
  obtain ⟨x, y, k⟩ := t
  simp only at h hk ⊢
  have hk' : k = 0 ∨ k = 1 ∨ k = 2 ∨ k = 3 := by omega
  have hj' : j = 0 ∨ j = 1 ∨ j = 2 ∨ j = 3 := by omega
  rcases hk' with rfl | rfl | rfl | rfl <;> rcases hj' with rfl | rfl | rfl | rfl <;> simp [put, rx, ry] <;> omega

/-- A word whose turns are no multiple of 4: it is back after 4 times, or after 2 where they are even; with a multiple of 4 it goes off, or stands. -/
theorem round1 (l : List UInt8) : times l 1 home = run home l := rfl
theorem eq_home (t : Tu) : t = home ↔ (t.x = 0 ∧ t.y = 0 ∧ t.k = 0) := by
  constructor
  · rintro rfl; exact ⟨rfl, rfl, rfl⟩
  · rintro ⟨h1, h2, h3⟩; exact tu_ext h1 h2 h3

def homeB (t : Tu) : Bool := decide (t.x = 0 ∧ t.y = 0 ∧ t.k = 0)
theorem homeB_iff (t : Tu) : homeB t = true ↔ t = home := by unfold homeB; rw [decide_eq_true_iff, eq_home]

/-- How many times, from 1 on, until it is back: 0 if never within four. -/
def rounds (l : List UInt8) : Int :=
  if homeB (times l 1 home) then 1 else if homeB (times l 2 home) then 2 else if homeB (times l 3 home) then 3 else if homeB (times l 4 home) then 4 else 0

theorem times_all (l : List UInt8) (a b j : Int) (hh : run home l = ⟨a, b, j⟩) :
    times l 1 home = ⟨a, b, j⟩ ∧ times l 2 home = put a b j ⟨a, b, j⟩ ∧ times l 3 home = put (put a b j ⟨a, b, j⟩).x (put a b j ⟨a, b, j⟩).y (put a b j ⟨a, b, j⟩).k ⟨a, b, j⟩ := by
  have h1 : times l 1 home = ⟨a, b, j⟩ := hh
  have h2 : times l 2 home = put a b j ⟨a, b, j⟩ := by rw [times_succ', h1, hh]
  exact ⟨h1, h2, by rw [times_succ', h2, hh]⟩

theorem rounds_by (l : List UInt8) : ((run home l).k = 0 → rounds l = if homeB (run home l) then 1 else 0) ∧ ((run home l).k = 2 → rounds l = 2) ∧
    ((run home l).k = 1 ∨ (run home l).k = 3 → rounds l = 4) := by
  have hk := run_k l home home_k
  obtain ⟨⟨a, b, j⟩, hh⟩ : ∃ r, run home l = r := ⟨_, rfl⟩
  rw [hh] at hk
  obtain ⟨h1, h2, h3⟩ := times_all l a b j hh
  have h4 : times l 4 home = put (times l 3 home).x (times l 3 home).y (times l 3 home).k ⟨a, b, j⟩ := by rw [times_succ', hh]
  unfold rounds
  rw [h4, h3, h2, h1, hh]
  refine ⟨?_, ?_, ?_⟩
  · intro hj
    simp only at hj; subst hj
    by_cases ha : a = 0 ∧ b = 0
    · obtain ⟨rfl, rfl⟩ := ha
      simp [homeB]
    · have n1 : homeB ⟨a, b, 0⟩ = false := by simp [homeB]; omega
      have n2 : homeB (put a b 0 ⟨a, b, 0⟩) = false := by simp [homeB, put, rx, ry]; omega
      have n3 : homeB (put (put a b 0 ⟨a, b, 0⟩).x (put a b 0 ⟨a, b, 0⟩).y (put a b 0 ⟨a, b, 0⟩).k ⟨a, b, 0⟩) = false := by simp [homeB, put, rx, ry]; omega
      have n4 : homeB (put (put (put a b 0 ⟨a, b, 0⟩).x (put a b 0 ⟨a, b, 0⟩).y (put a b 0 ⟨a, b, 0⟩).k ⟨a, b, 0⟩).x (put (put a b 0 ⟨a, b, 0⟩).x (put a b 0 ⟨a, b, 0⟩).y (put a b 0 ⟨a, b, 0⟩).k ⟨a, b, 0⟩).y (put (put a b 0 ⟨a, b, 0⟩).x (put a b 0 ⟨a, b, 0⟩).y (put a b 0 ⟨a, b, 0⟩).k ⟨a, b, 0⟩).k ⟨a, b, 0⟩) = false := by simp [homeB, put, rx, ry]; omega
      rw [n1, n2, n3, n4]; rfl
  · intro hj
    simp only at hj; subst hj
    have n1 : homeB ⟨a, b, 2⟩ = false := by simp [homeB]
    have n2 : homeB (put a b 2 ⟨a, b, 2⟩) = true := by simp [homeB, put, rx, ry]; omega
    rw [n1, n2]; rfl
  · intro hj
    simp only at hj
    have n1 : homeB ⟨a, b, j⟩ = false := by simp [homeB]; omega
    have n2 : homeB (put a b j ⟨a, b, j⟩) = false := by rcases hj with rfl | rfl <;> simp [homeB, put]
    have n3 : homeB (put (put a b j ⟨a, b, j⟩).x (put a b j ⟨a, b, j⟩).y (put a b j ⟨a, b, j⟩).k ⟨a, b, j⟩) = false := by rcases hj with rfl | rfl <;> simp [homeB, put]
    have n4 : homeB (put (put (put a b j ⟨a, b, j⟩).x (put a b j ⟨a, b, j⟩).y (put a b j ⟨a, b, j⟩).k ⟨a, b, j⟩).x (put (put a b j ⟨a, b, j⟩).x (put a b j ⟨a, b, j⟩).y (put a b j ⟨a, b, j⟩).k ⟨a, b, j⟩).y (put (put a b j ⟨a, b, j⟩).x (put a b j ⟨a, b, j⟩).y (put a b j ⟨a, b, j⟩).k ⟨a, b, j⟩).k ⟨a, b, j⟩) = true := by
      rcases hj with rfl | rfl <;> simp [homeB, put, rx, ry] <;> omega
    rw [n1, n2, n3, n4]; rfl

/-- A word that does not turn goes off: n times as far after n times. -/
theorem drift (l : List UInt8) (h : (run home l).k = 0) (n : Nat) : times l n home = ⟨n * (run home l).x, n * (run home l).y, 0⟩ := by
  induction n with
  | zero => simp [times, home]
  | succ n ih =>
    rw [times_succ', ih]
    have e : ∀ z : Int, (((n + 1 : Nat) : Int)) * z = (n : Int) * z + z := fun z => by
      rw [Int.natCast_add, Int.add_mul]; simp
    apply tu_ext <;> simp only [put, rx, ry, h, e] <;> simp

/-! How far at most. -/
def norm (t : Tu) : Int := nrm t.x + nrm t.y
theorem norm_far (t : Tu) : norm t = far t home := by simp [norm, far, home]
theorem norm_nonneg (t : Tu) : 0 ≤ norm t := by unfold norm nrm; repeat' split
                                                all_goals omega

/-- The farthest place on the way of a word from a turtle on, and at least m. -/
def most (m : Int) (t : Tu) : List UInt8 → Int
  | [] => m
  | c :: l => most (max m (norm (st t c))) (st t c) l
theorem most_append (l r : List UInt8) : ∀ m t, most m t (l ++ r) = most (most m t l) (run t l) r := by
  induction l with
  | nil => intro m t; rfl
  | cons c l ih => intro m t; simp only [List.cons_append, most]; rw [ih]; rfl
theorem most_ge (l : List UInt8) : ∀ m t, m ≤ most m t l := by
  induction l with
  | nil => intro m t; simp [most]
  | cons c l ih => intro m t; simp only [most]; have := ih (max m (norm (st t c))) (st t c); omega
/-- What bounds each place on the way bounds the farthest. -/
theorem most_le (B : Int) (l : List UInt8) : ∀ m t, m ≤ B → (∀ p r, l = p ++ r → p ≠ [] → norm (run t p) ≤ B) → most m t l ≤ B := by
  induction l with
  | nil => intro m t h _; simpa [most] using h
  | cons c l ih =>
    intro m t h hp
    simp only [most]
    have h1 := hp [c] l rfl (by simp)
    have h1' : norm (st t c) ≤ B := h1
    refine ih _ _ (by omega) (fun p r e hne => ?_)
    have := hp (c :: p) r (by rw [e]; rfl) (by simp)
    exact this
/-- Each place on the way is at most the farthest. -/
theorem most_at (l : List UInt8) : ∀ m t p r, l = p ++ r → p ≠ [] → norm (run t p) ≤ most m t l := by
  induction l with
  | nil => intro m t p r e hne; cases p <;> simp_all
  | cons c l ih =>
    intro m t p r e hne
    cases p with
    | nil => exact absurd rfl hne
    | cons d p =>
      simp only [List.cons_append, List.cons.injEq] at e
      obtain ⟨rfl, e⟩ := e
      simp only [most]
      cases p with
      | nil =>
        have := most_ge l (max m (norm (st t c))) (st t c)
        show norm (st t c) ≤ _
        omega
      | cons d' p => exact ih _ (st t c) (d' :: p) r e (by simp)

/-- A word so many times. -/
def rep (l : List UInt8) : Nat → List UInt8
  | 0 => []
  | n + 1 => rep l n ++ l
theorem run_rep (l : List UInt8) (n : Nat) (t : Tu) : run t (rep l n) = times l n t := by
  induction n with
  | zero => rfl
  | succ n ih => simp only [rep, times]; rw [run_append, ih]
theorem fs_rep (l : List UInt8) (n : Nat) : fs (rep l n) = n * fs l := by
  induction n with
  | zero => simp [rep, fs_nil]
  | succ n ih =>
    simp only [rep]; rw [fs_append, ih, Int.natCast_add, Int.add_mul]; simp

/-- On a closed way no place is farther than half the steps. -/
theorem half (l p r : List UInt8) (e : l = p ++ r) (hc : run home l = home) : 2 * norm (run home p) ≤ fs l := by
  have h1 := run_steps p home
  have h2 := run_steps r (run home p)
  rw [← run_append, ← e, hc] at h2
  rw [norm_far, e, fs_append]
  rw [far_comm] at h2
  omega
theorem most_half (l : List UInt8) (hc : run home l = home) : 2 * most 0 home l ≤ fs l := by
  have h0 := fs_nonneg l
  have h : most 0 home l ≤ fs l / 2 := by
    refine most_le (fs l / 2) l 0 home (by omega) (fun p r e _ => ?_)
    have := half l p r e hc
    omega
  omega

theorem still (l : List UInt8) : ∀ t, fs l = 0 → (run t l).x = t.x ∧ (run t l).y = t.y := by
  intro t h
  have h1 := run_steps l t
  unfold far nrm at h1
  rw [h] at h1
  constructor <;> (split at h1 <;> split at h1 <;> omega)

theorem most_zero (l : List UInt8) : most 0 home l = 0 ↔ fs l = 0 := by
  constructor
  · intro h
    -- the first step leads off
    have key : ∀ l : List UInt8, fs l ≠ 0 → ∃ p r, l = p ++ 70 :: r ∧ fs p = 0 := by
      intro l
      induction l with
      | nil => intro h; exact absurd fs_nil h
      | cons c l ih =>
        intro h
        by_cases hc : c = 70
        · exact ⟨[], l, by rw [hc]; rfl, fs_nil⟩
        · rw [fs_cons, if_neg hc] at h
          obtain ⟨p, r, e, hp⟩ := ih (by omega)
          exact ⟨c :: p, r, by rw [e]; rfl, by rw [fs_cons, if_neg hc, hp]; rfl⟩
    by_cases h0 : fs l = 0
    · exact h0
    · obtain ⟨p, r, e, hp⟩ := key l h0
      have h1 := still p home hp
      have hk := run_k p home home_k
      have h2 := most_at l 0 home (p ++ [70]) r (by rw [e]; simp) (by simp)
      rw [run_snoc, h] at h2
      exfalso
      have h3 : norm (st (run home p) 70) = 1 := by
        obtain ⟨⟨a, b, j⟩, hh⟩ : ∃ r, run home p = r := ⟨_, rfl⟩
        rw [hh] at h1 hk ⊢
        simp only [home] at h1
        obtain ⟨rfl, rfl⟩ := h1
        have hk' : j = 0 ∨ j = 1 ∨ j = 2 ∨ j = 3 := by simp only at hk; omega
        rcases hk' with rfl | rfl | rfl | rfl <;> decide
      omega
  · intro h
    have h1 := most_ge l 0 home
    have h2 : most 0 home l ≤ 0 := by
      refine most_le 0 l 0 home (by omega) (fun p r e _ => ?_)
      have hp : fs p = 0 := by
        rw [e, fs_append] at h
        have := fs_nonneg p
        have := fs_nonneg r
        omega
      have hs := still p home hp
      unfold norm
      rw [hs.1, hs.2]; decide
    omega
end Go.Proofs.YtdkhibkebakepaaDoor.Tw
