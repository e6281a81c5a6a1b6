/- The plain law of turtles: words, turns, rotation, the way back, rounds. No program in sight. -/
namespace Go.Proofs.YtminclapchnheaaDoor.Tw
set_option linter.unusedVariables false
set_option linter.unusedSimpArgs false

structure Tu where
  x : Int
  y : Int
  k : Int

def dx (k : Int) : Int := if k = 0 then 1 else if k = 2 then -1 else 0
def dy (k : Int) : Int := if k = 1 then 1 else if k = 3 then -1 else 0

/-- A turtle after one letter. -/
def st (t : Tu) (c : UInt8) : Tu :=
  if c = 70 then ⟨t.x + dx t.k, t.y + dy t.k, t.k⟩ else if c = 76 then ⟨t.x, t.y, (t.k + 1) % 4⟩ else ⟨t.x, t.y, (t.k + 3) % 4⟩

def run (t : Tu) (l : List UInt8) : Tu := l.foldl st t

def isW (c : UInt8) : Bool := c == 70 || c == 76 || c == 82
def wordB (l : List UInt8) : Bool := l.all isW && decide (l.length ≤ 256)
def tokB (t : Tu) : Bool := decide (-10000 ≤ t.x ∧ t.x ≤ 10000 ∧ -10000 ≤ t.y ∧ t.y ≤ 10000 ∧ 0 ≤ t.k ∧ t.k ≤ 3)
def home : Tu := ⟨0, 0, 0⟩

theorem run_nil (t : Tu) : run t [] = t := rfl
theorem run_cons (t : Tu) (c : UInt8) (l : List UInt8) : run t (c :: l) = run (st t c) l := rfl
theorem run_append (t : Tu) (a b : List UInt8) : run t (a ++ b) = run (run t a) b := by unfold run; rw [List.foldl_append]
theorem run_snoc (t : Tu) (a : List UInt8) (c : UInt8) : run t (a ++ [c]) = st (run t a) c := by rw [run_append]; rfl

theorem tu_ext {s t : Tu} (h1 : s.x = t.x) (h2 : s.y = t.y) (h3 : s.k = t.k) : s = t := by cases s; cases t; simp_all

theorem dx_bd (k : Int) : -1 ≤ dx k ∧ dx k ≤ 1 := by unfold dx; split <;> (try split) <;> omega
theorem dy_bd (k : Int) : -1 ≤ dy k ∧ dy k ≤ 1 := by unfold dy; split <;> (try split) <;> omega
theorem dxy_bd (k : Int) : (dx k = 0 ∧ dy k = 0) ∨ (dx k = 0 ∧ (dy k = 1 ∨ dy k = -1)) ∨ (dy k = 0 ∧ (dx k = 1 ∨ dx k = -1)) := by
  unfold dx dy; repeat' split
  all_goals omega

theorem st_k (t : Tu) (c : UInt8) (h : 0 ≤ t.k ∧ t.k ≤ 3) : 0 ≤ (st t c).k ∧ (st t c).k ≤ 3 := by
  unfold st; repeat' split
  all_goals (simp only; omega)
theorem run_k (l : List UInt8) : ∀ (t : Tu), 0 ≤ t.k ∧ t.k ≤ 3 → 0 ≤ (run t l).k ∧ (run t l).k ≤ 3 := by
  induction l with
  | nil => intro t h; exact h
  | cons c l ih => intro t h; rw [run_cons]; exact ih _ (st_k t c h)

theorem st_far (t : Tu) (c : UInt8) : (st t c).x - t.x ≤ 1 ∧ t.x - (st t c).x ≤ 1 ∧ (st t c).y - t.y ≤ 1 ∧ t.y - (st t c).y ≤ 1 := by
  have h1 := dx_bd t.k
  have h2 := dy_bd t.k
  unfold st; repeat' split
  all_goals (simp only; omega)
theorem run_far (l : List UInt8) : ∀ (t : Tu), (run t l).x - t.x ≤ l.length ∧ t.x - (run t l).x ≤ l.length ∧ (run t l).y - t.y ≤ l.length ∧ t.y - (run t l).y ≤ l.length := by
  induction l with
  | nil => intro t; simp [run]
  | cons c l ih =>
    intro t; rw [run_cons]
    have := ih (st t c)
    have := st_far t c
    simp only [List.length_cons]; omega

/-! The letters F of a word. -/
def fs (l : List UInt8) : Int := ((l.filter (· == 70)).length : Nat)
theorem fs_nil : fs [] = 0 := rfl
theorem fs_cons (c : UInt8) (l : List UInt8) : fs (c :: l) = (if c = 70 then 1 else 0) + fs l := by
  unfold fs; rw [List.filter_cons]; by_cases h : c = 70
  · simp [h]; omega
  · simp [h]
theorem fs_append (a b : List UInt8) : fs (a ++ b) = fs a + fs b := by unfold fs; simp
theorem fs_nonneg (l : List UInt8) : 0 ≤ fs l := by unfold fs; omega
theorem fs_le (l : List UInt8) : fs l ≤ l.length := by unfold fs; have := List.length_filter_le (· == (70 : UInt8)) l; omega

def nrm (n : Int) : Int := if 0 ≤ n then n else -n
theorem nrm_eq (n : Int) : nrm n = max n (-n) := by unfold nrm; split <;> omega
def far (t s : Tu) : Int := nrm (t.x - s.x) + nrm (t.y - s.y)

theorem st_steps (t : Tu) (c : UInt8) : far (st t c) t = if c = 70 then nrm (dx t.k) + nrm (dy t.k) else 0 := by
  unfold far st; repeat' split
  all_goals simp [nrm]
  all_goals omega
theorem st_steps_le (t : Tu) (c : UInt8) : far (st t c) t ≤ if c = 70 then 1 else 0 := by
  rw [st_steps]; split
  · have := dxy_bd t.k; unfold nrm; repeat' split
    all_goals omega
  · omega
theorem far_tri (a b c : Tu) : far a c ≤ far a b + far b c := by unfold far nrm; repeat' split
                                                                 all_goals omega
theorem far_comm (a b : Tu) : far a b = far b a := by unfold far nrm; repeat' split
                                                      all_goals omega
/-- The way is at most as long as its steps. -/
theorem run_steps (l : List UInt8) : ∀ t, far (run t l) t ≤ fs l := by
  induction l with
  | nil => intro t; simp [run, far, nrm, fs_nil]
  | cons c l ih =>
    intro t; rw [run_cons, fs_cons]
    have h1 := ih (st t c)
    have h2 := st_steps_le t c
    have h3 := far_tri (run (st t c) l) (st t c) t
    omega

theorem run_parity (l : List UInt8) : ∀ t, 0 ≤ t.k ∧ t.k ≤ 3 → ((run t l).x - t.x + ((run t l).y - t.y) - fs l) % 2 = 0 := by
  induction l with
  | nil => intro t _; simp [run, fs_nil]
  | cons c l ih =>
    intro t ht; rw [run_cons, fs_cons]
    have h1 := ih (st t c) (st_k t c ht)
    have h2 : ((st t c).x - t.x + ((st t c).y - t.y) - (if c = 70 then 1 else 0)) % 2 = 0 := by
      unfold st dx dy; repeat' split
      all_goals (simp only; omega)
    omega

/-! Turns. -/
def tn (c : UInt8) : Int := if c = 76 then 1 else if c = 82 then -1 else 0
def turns (l : List UInt8) : Int := l.foldl (fun n c => n + tn c) 0
theorem turns_from (l : List UInt8) : ∀ n : Int, l.foldl (fun n c => n + tn c) n = n + turns l := by
  unfold turns
  induction l with
  | nil => intro n; simp
  | cons c l ih => intro n; simp only [List.foldl_cons]; rw [ih, ih (0 + tn c)]; omega
theorem turns_nil : turns [] = 0 := rfl
theorem turns_cons (c : UInt8) (l : List UInt8) : turns (c :: l) = tn c + turns l := by
  show (c :: l).foldl (fun n c => n + tn c) 0 = _
  simp only [List.foldl_cons]; rw [turns_from]; omega
theorem turns_append (a b : List UInt8) : turns (a ++ b) = turns a + turns b := by
  induction a with
  | nil => simp [turns_nil]
  | cons c a ih => rw [List.cons_append, turns_cons, turns_cons, ih]; omega
theorem tn_bd (c : UInt8) : -1 ≤ tn c ∧ tn c ≤ 1 := by unfold tn; repeat' split
                                                       all_goals omega
theorem turns_bd (l : List UInt8) : -(l.length : Int) ≤ turns l ∧ turns l ≤ l.length := by
  induction l with
  | nil => simp [turns_nil]
  | cons c l ih => rw [turns_cons]; have := tn_bd c; simp only [List.length_cons]; omega

theorem run_look (l : List UInt8) : ∀ t, l.all isW = true → 0 ≤ t.k ∧ t.k ≤ 3 → (run t l).k = (t.k + turns l) % 4 := by
  induction l with
  | nil => intro t _ h; simp only [run_nil, turns_nil]; omega
  | cons c l ih =>
    intro t hw h
    rw [List.all_cons, Bool.and_eq_true] at hw
    rw [run_cons, turns_cons, ih (st t c) hw.2 (st_k t c h)]
    have hc := hw.1
    simp only [isW, Bool.or_eq_true, beq_iff_eq] at hc
    rcases hc with (rfl | rfl) | rfl
    · simp [st, tn]
    · simp [st, tn]; omega
    · simp [st, tn]; omega

/-! Rotation. -/
def rx (k x y : Int) : Int := if k = 0 then x else if k = 1 then -y else if k = 2 then -x else y
def ry (k x y : Int) : Int := if k = 0 then y else if k = 1 then x else if k = 2 then -y else -x
/-- t turned by k and laid at (x, y). -/
def put (x y k : Int) (t : Tu) : Tu := ⟨x + rx k t.x t.y, y + ry k t.x t.y, (k + t.k) % 4⟩
theorem st_put (x y k : Int) (t : Tu) (c : UInt8) (hk : 0 ≤ k ∧ k ≤ 3) (ht : 0 ≤ t.k ∧ t.k ≤ 3) : st (put x y k t) c = put x y k (st t c) := by
  obtain ⟨a, b, j⟩ := t
  have hk' : k = 0 ∨ k = 1 ∨ k = 2 ∨ k = 3 := by omega
  have hj' : j = 0 ∨ j = 1 ∨ j = 2 ∨ j = 3 := by simp only at ht; omega
  by_cases h1 : c = 70
  · subst h1
    rcases hk' with rfl | rfl | rfl | rfl <;> rcases hj' with rfl | rfl | rfl | rfl <;> (apply tu_ext <;> simp [st, put, rx, ry, dx, dy] <;> omega)
  · by_cases h2 : c = 76
    · subst h2
      apply tu_ext <;> simp [st, put] ; omega
    · apply tu_ext <;> simp [st, put, h1, h2] ; omega
theorem run_put (l : List UInt8) (x y k : Int) (hk : 0 ≤ k ∧ k ≤ 3) : ∀ t, 0 ≤ t.k ∧ t.k ≤ 3 → run (put x y k t) l = put x y k (run t l) := by
  induction l with
  | nil => intro t _; rfl
  | cons c l ih => intro t ht; rw [run_cons, run_cons, st_put x y k t c hk ht, ih _ (st_k t c ht)]
theorem put_home (t : Tu) (h : 0 ≤ t.k ∧ t.k ≤ 3) : put t.x t.y t.k home = t := by
  obtain ⟨x, y, k⟩ := t
  have hk' : k = 0 ∨ k = 1 ∨ k = 2 ∨ k = 3 := by simp only at h; omega
  rcases hk' with rfl | rfl | rfl | rfl <;> simp [put, home, rx, ry]
/-- A word leads as far from anywhere, turned by the direction. -/
theorem run_from (t : Tu) (l : List UInt8) (h : 0 ≤ t.k ∧ t.k ≤ 3) : run t l = put t.x t.y t.k (run home l) := by
  have := run_put l t.x t.y t.k h home (by simp [home])
  rw [put_home t h] at this; exact this

/-! The way back. -/
def swap (c : UInt8) : UInt8 := if c = 76 then 82 else if c = 82 then 76 else c
def back (l : List UInt8) : List UInt8 := [76, 76] ++ (l.reverse.map swap) ++ [76, 76]
def flip (t : Tu) : Tu := ⟨t.x, t.y, (t.k + 2) % 4⟩
theorem flip_is (t : Tu) : run t [76, 76] = flip t := by
  apply tu_ext <;> simp [run, st, flip]; omega
theorem flip_k (t : Tu) : 0 ≤ (flip t).k ∧ (flip t).k ≤ 3 := by simp [flip]; omega
theorem flip_flip (t : Tu) (h : 0 ≤ t.k ∧ t.k ≤ 3) : flip (flip t) = t := by
  apply tu_ext <;> simp [flip]; omega
theorem st_back (t : Tu) (c : UInt8) (hc : isW c = true) (h : 0 ≤ t.k ∧ t.k ≤ 3) : st (flip (st t c)) (swap c) = flip t := by
  obtain ⟨x, y, k⟩ := t
  simp only at h
  simp only [isW, Bool.or_eq_true, beq_iff_eq] at hc
  rcases hc with (rfl | rfl) | rfl
  · have hk' : k = 0 ∨ k = 1 ∨ k = 2 ∨ k = 3 := by omega
    rcases hk' with rfl | rfl | rfl | rfl <;> (apply tu_ext <;> simp [st, swap, flip, dx, dy] <;> omega)
  · apply tu_ext <;> simp [st, swap, flip]; omega
  · apply tu_ext <;> simp [st, swap, flip]; omega
theorem run_mid (l : List UInt8) : ∀ t, l.all isW = true → 0 ≤ t.k ∧ t.k ≤ 3 → run (flip (run t l)) (l.reverse.map swap) = flip t := by
  induction l with
  | nil => intro t _ _; rfl
  | cons c l ih =>
    intro t hw h
    rw [List.all_cons, Bool.and_eq_true] at hw
    rw [run_cons, List.reverse_cons, List.map_append, run_append, ih (st t c) hw.2 (st_k t c h)]
    exact st_back t c hw.1 h
theorem run_back (l : List UInt8) (t : Tu) (hw : l.all isW = true) (h : 0 ≤ t.k ∧ t.k ≤ 3) : run (run t l) (back l) = t := by
  unfold back
  rw [run_append, run_append, flip_is (run t l), run_mid l t hw h, flip_is, flip_flip t h]
theorem back_len (l : List UInt8) : (back l).length = l.length + 4 := by simp [back]
theorem swap_isW (c : UInt8) (h : isW c = true) : isW (swap c) = true := by
  simp only [isW, Bool.or_eq_true, beq_iff_eq] at h
  rcases h with (rfl | rfl) | rfl <;> rfl
theorem back_word (l : List UInt8) (hw : l.all isW = true) : (back l).all isW = true := by
  unfold back
  rw [List.all_append, List.all_append]
  have : (l.reverse.map swap).all isW = true := by
    rw [List.all_eq_true] at hw ⊢
    intro c hc
    rw [List.mem_map] at hc
    obtain ⟨d, hd, rfl⟩ := hc
    exact swap_isW d (hw d (by simpa using hd))
  rw [this]; rfl
theorem tn_swap (c : UInt8) : tn (swap c) = - tn c := by
  unfold tn swap; repeat' split
  all_goals simp_all
theorem turns_rev (l : List UInt8) : turns (l.reverse.map swap) = - turns l := by
  induction l with
  | nil => rfl
  | cons c l ih =>
    rw [List.reverse_cons, List.map_append, turns_append, ih, turns_cons]
    show _ + turns [swap c] = _
    rw [turns_cons, turns_nil, tn_swap]; omega
theorem turns_back (l : List UInt8) : turns (back l) = 4 - turns l := by
  unfold back
  rw [turns_append, turns_append, turns_rev]
  show turns [76, 76] + _ + turns [76, 76] = _
  have : turns [76, 76] = 2 := rfl
  omega
end Go.Proofs.YtminclapchnheaaDoor.Tw
