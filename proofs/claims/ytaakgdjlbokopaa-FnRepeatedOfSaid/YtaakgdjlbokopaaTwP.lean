/- The plain law of programs: rows of parts, their text, word, length, depth; a text is that of one row alone. No program in sight. -/
import Derived.Test.YtaakgdjlbokopaaTwA
namespace Go.Proofs.Ytaakgdjlbokopaa.Tw
set_option linter.unusedVariables false
set_option linter.unusedSimpArgs false

/-- A row of parts: a letter, or a digit and a row in brackets, ahead of the rest. -/
inductive Row where
  | nil : Row
  | letter : UInt8 → Row → Row
  | times : UInt8 → Row → Row → Row

namespace Row
def text : Row → List UInt8
  | nil => []
  | letter c r => c :: text r
  | times d i r => d :: 40 :: (text i ++ 41 :: text r)
def isD (d : UInt8) : Bool := decide (50 ≤ d.toNat ∧ d.toNat ≤ 57)
def wf : Row → Bool
  | nil => true
  | letter c r => isW c && wf r
  | times d i r => isD d && wf i && wf r
def app : Row → Row → Row
  | nil, q => q
  | letter c r, q => letter c (app r q)
  | times d i r, q => times d i (app r q)
def num (d : UInt8) : Nat := d.toNat - 48
/-- So many times a list. -/
def reps (l : List UInt8) : Nat → List UInt8
  | 0 => []
  | n + 1 => reps l n ++ l
def word : Row → List UInt8
  | nil => []
  | letter c r => c :: word r
  | times d i r => reps (word i) (num d) ++ word r
/-- How many letters the word has. -/
def size : Row → Nat
  | nil => 0
  | letter _ r => 1 + size r
  | times d i r => num d * size i + size r
def deep : Row → Nat
  | nil => 0
  | letter _ r => deep r
  | times _ i r => max (deep i + 1) (deep r)
/-- How many parts stand in it, one behind the other. -/
def parts : Row → Nat
  | nil => 0
  | letter _ r => 1 + parts r
  | times _ _ r => 1 + parts r

theorem app_nil (r : Row) : app r nil = r := by induction r <;> simp_all [app]
theorem app_assoc (a b c : Row) : app (app a b) c = app a (app b c) := by induction a <;> simp_all [app]
theorem text_app (a b : Row) : text (app a b) = text a ++ text b := by induction a <;> simp_all [app, text]
theorem wf_app (a b : Row) : wf (app a b) = (wf a && wf b) := by induction a <;> simp_all [app, wf, Bool.and_assoc]
theorem word_app (a b : Row) : word (app a b) = word a ++ word b := by induction a <;> simp_all [app, word]
theorem size_app (a b : Row) : size (app a b) = size a + size b := by induction a <;> simp_all [app, size] <;> omega
theorem deep_app (a b : Row) : deep (app a b) = max (deep a) (deep b) := by induction a <;> simp_all [app, deep] <;> omega
theorem parts_app (a b : Row) : parts (app a b) = parts a + parts b := by induction a <;> simp_all [app, parts] <;> omega
theorem reps_len (l : List UInt8) (n : Nat) : (reps l n).length = n * l.length := by
  induction n with
  | zero => simp [reps]
  | succ n ih => simp [reps, ih, Nat.succ_mul]
theorem word_len (r : Row) : (word r).length = size r := by
  induction r with
  | nil => rfl
  | letter c r ih => simp [word, size, ih]; omega
  | times d i r ih1 ih2 => simp [word, size, reps_len, ih1, ih2]
theorem reps_all (f : UInt8 → Bool) (l : List UInt8) (h : l.all f = true) (n : Nat) : (reps l n).all f = true := by
  induction n with
  | zero => rfl
  | succ n ih => simp only [reps, List.all_append, ih, h]; rfl
theorem word_all (r : Row) (h : wf r = true) : (word r).all isW = true := by
  induction r with
  | nil => rfl
  | letter c r ih => simp only [wf, Bool.and_eq_true] at h; simp only [word, List.all_cons, h.1, ih h.2]; rfl
  | times d i r ih1 ih2 =>
    simp only [wf, Bool.and_eq_true] at h
    simp only [word, List.all_append, reps_all _ _ (ih1 h.1.2), ih2 h.2]; rfl

/-- What may follow a row: nothing, or a closing bracket. -/
def Stop (l : List UInt8) : Prop := l = [] ∨ ∃ t, l = 41 :: t
theorem stop_nil : Stop [] := .inl rfl
theorem stop_close (t : List UInt8) : Stop (41 :: t) := .inr ⟨t, rfl⟩
theorem isW_close (c : UInt8) (h : isW c = true) : c ≠ 41 := by rintro rfl; simp [isW] at h
theorem isD_close (c : UInt8) (h : isD c = true) : c ≠ 41 := by rintro rfl; simp [isD] at h
theorem isW_isD (c : UInt8) (h : isW c = true) : isD c = false := by
  simp only [isW, Bool.or_eq_true, beq_iff_eq] at h
  rcases h with (rfl | rfl) | rfl <;> rfl

/-- A text has one reading: what has been read is the beginning of whatever row is there. -/
theorem strip : ∀ (p r : Row) (l rest : List UInt8), wf p = true → wf r = true → Stop rest → text p ++ l = text r ++ rest → ∃ q, r = app p q ∧ wf q = true ∧ l = text q ++ rest := by
  intro p
  induction p with
  | nil => intro r l rest _ hr _ e; exact ⟨r, rfl, hr, by simpa [text] using e⟩
  | letter c p ih =>
    intro r l rest hp hr hs e
    simp only [wf, Bool.and_eq_true] at hp
    cases r with
    | nil =>
      simp only [text, List.nil_append, List.cons_append] at e
      rcases hs with rfl | ⟨t, rfl⟩
      · cases e
      · injection e with e1 _; exact absurd e1 (isW_close c hp.1)
    | letter c' r =>
      simp only [wf, Bool.and_eq_true] at hr
      simp only [text, List.cons_append, List.cons.injEq] at e
      obtain ⟨rfl, e⟩ := e
      obtain ⟨q, rfl, hq, e'⟩ := ih r l rest hp.2 hr.2 hs e
      exact ⟨q, rfl, hq, e'⟩
    | times d i r =>
      simp only [wf, Bool.and_eq_true] at hr
      simp only [text, List.cons_append, List.cons.injEq] at e
      obtain ⟨rfl, _⟩ := e
      have := isW_isD c hp.1
      rw [hr.1.1] at this; cases this
  | times d i p ih1 ih2 =>
    intro r l rest hp hr hs e
    simp only [wf, Bool.and_eq_true] at hp
    cases r with
    | nil =>
      simp only [text, List.nil_append, List.cons_append] at e
      rcases hs with rfl | ⟨t, rfl⟩
      · cases e
      · injection e with e1 _; exact absurd e1 (isD_close d hp.1.1)
    | letter c' r =>
      simp only [wf, Bool.and_eq_true] at hr
      simp only [text, List.cons_append, List.cons.injEq] at e
      obtain ⟨rfl, _⟩ := e
      have := isW_isD d hr.1
      rw [hp.1.1] at this; cases this
    | times d' i' r =>
      simp only [wf, Bool.and_eq_true] at hr
      simp only [text, List.cons_append, List.append_assoc, List.cons.injEq, true_and] at e
      obtain ⟨rfl, e⟩ := e
      obtain ⟨q, rfl, hq, e1⟩ := ih1 i' (41 :: (text p ++ l)) (41 :: (text r ++ rest)) hp.1.2 hr.1.2 (stop_close _) e
      cases q with
      | nil =>
        simp only [text, List.nil_append, List.cons.injEq, true_and] at e1
        obtain ⟨q, rfl, hq, e2⟩ := ih2 r l rest hp.2 hr.2 hs e1
        exact ⟨q, by simp [app, app_nil], hq, e2⟩
      | letter c q =>
        simp only [wf, Bool.and_eq_true] at hq
        simp only [text, List.cons_append, List.cons.injEq] at e1
        exact absurd e1.1.symm (isW_close c hq.1)
      | times c j q =>
        simp only [wf, Bool.and_eq_true] at hq
        simp only [text, List.cons_append, List.cons.injEq] at e1
        exact absurd e1.1.symm (isD_close c hq.1.1)

/-- From l on stands the row r, and behind it rest. -/
def Rd (l : List UInt8) (r : Row) (rest : List UInt8) : Prop := wf r = true ∧ Stop rest ∧ l = text r ++ rest
/-- From l on stands no row. -/
def NoRd (l : List UInt8) : Prop := ∀ r rest, ¬ Rd l r rest

theorem rd_one {l : List UInt8} {r r' : Row} {t t' : List UInt8} (h : Rd l r t) (h' : Rd l r' t') : r = r' ∧ t = t' := by
  obtain ⟨q, rfl, hq, e⟩ := strip r r' t t' h.1 h'.1 h'.2.1 (h.2.2.symm.trans h'.2.2)
  cases q with
  | nil => exact ⟨(app_nil r).symm, by simpa [text] using e⟩
  | letter c q =>
    simp only [wf, Bool.and_eq_true] at hq
    simp only [text, List.cons_append] at e
    rcases h.2.1 with rfl | ⟨u, rfl⟩
    · cases e
    · injection e with e1 _; exact absurd e1.symm (isW_close c hq.1)
  | times d i q =>
    simp only [wf, Bool.and_eq_true] at hq
    simp only [text, List.cons_append] at e
    rcases h.2.1 with rfl | ⟨u, rfl⟩
    · cases e
    · injection e with e1 _; exact absurd e1.symm (isD_close d hq.1.1)

/-- What has been read stays read. -/
theorem rd_app {p : Row} {l : List UInt8} (hp : wf p = true) {r : Row} {rest : List UInt8} (h : Rd l r rest) : Rd (text p ++ l) (app p r) rest :=
  ⟨by rw [wf_app, hp, h.1]; rfl, h.2.1, by rw [text_app, h.2.2]; simp⟩
theorem noRd_app {p : Row} {l : List UInt8} (hp : wf p = true) (h : NoRd l) : NoRd (text p ++ l) := by
  intro r rest hr
  obtain ⟨q, _, hq, e⟩ := strip p r l rest hp hr.1 hr.2.1 hr.2.2
  exact h q rest ⟨hq, hr.2.1, e⟩

theorem rd_stop {l : List UInt8} (h : Stop l) : Rd l nil l := ⟨rfl, h, rfl⟩
/-- A first sign that is no letter, no digit and no closing bracket. -/
theorem noRd_sign {c : UInt8} {l : List UInt8} (h1 : isW c = false) (h2 : isD c = false) (h3 : c ≠ 41) : NoRd (c :: l) := by
  rintro r rest ⟨hr, hs, e⟩
  cases r with
  | nil =>
    simp only [text, List.nil_append] at e
    rcases hs with rfl | ⟨t, rfl⟩
    · cases e
    · injection e with e1 _; exact h3 e1
  | letter d r =>
    simp only [wf, Bool.and_eq_true] at hr
    simp only [text, List.cons_append, List.cons.injEq] at e
    rw [e.1, hr.1] at h1; cases h1
  | times d i r =>
    simp only [wf, Bool.and_eq_true] at hr
    simp only [text, List.cons_append, List.cons.injEq] at e
    rw [e.1, hr.1.1] at h2; cases h2
/-- A digit wants its bracket. -/
theorem noRd_digit {c : UInt8} {l : List UInt8} (h2 : isD c = true) (h : ∀ t, l ≠ 40 :: t) : NoRd (c :: l) := by
  rintro r rest ⟨hr, hs, e⟩
  cases r with
  | nil =>
    simp only [text, List.nil_append] at e
    rcases hs with rfl | ⟨t, rfl⟩
    · cases e
    · injection e with e1 _; exact isD_close c h2 e1
  | letter d r =>
    simp only [wf, Bool.and_eq_true] at hr
    simp only [text, List.cons_append, List.cons.injEq] at e
    have := isW_isD d hr.1
    rw [← e.1, h2] at this; cases this
  | times d i r =>
    simp only [text, List.cons_append, List.cons.injEq] at e
    exact h _ e.2
/-- What stands in brackets must be a row, and the bracket must close. -/
theorem noRd_inner {c : UInt8} {l : List UInt8} (h2 : isD c = true) (h : ∀ i t, ¬ Rd l i (41 :: t)) : NoRd (c :: 40 :: l) := by
  rintro r rest ⟨hr, hs, e⟩
  cases r with
  | nil =>
    simp only [text, List.nil_append] at e
    rcases hs with rfl | ⟨t, rfl⟩
    · cases e
    · injection e with e1 _; exact isD_close c h2 e1
  | letter d r =>
    simp only [wf, Bool.and_eq_true] at hr
    simp only [text, List.cons_append, List.cons.injEq] at e
    have := isW_isD d hr.1
    rw [← e.1, h2] at this; cases this
  | times d i r =>
    simp only [wf, Bool.and_eq_true] at hr
    simp only [text, List.cons_append, List.cons.injEq, List.append_assoc, true_and] at e
    exact h i (text r ++ rest) ⟨hr.1.2, stop_close _, e.2⟩
theorem noRd_bad {c : UInt8} {l : List UInt8} (h2 : isD c = true) (h : NoRd l) : NoRd (c :: 40 :: l) := noRd_inner h2 (fun i t => h i (41 :: t))
theorem noRd_open {c : UInt8} {l : List UInt8} {i : Row} (h2 : isD c = true) (h : Rd l i []) : NoRd (c :: 40 :: l) :=
  noRd_inner h2 (fun i' t h' => by have := (rd_one h h').2; cases this)

/-- A program's row, if it has one. -/
def Prog (l : List UInt8) (r : Row) : Prop := l.length ≤ 60 ∧ wf r = true ∧ l = text r
theorem prog_rd {l : List UInt8} {r : Row} (hl : l.length ≤ 60) (h : Rd l r []) : Prog l r := ⟨hl, h.1, by simpa using h.2.2⟩
theorem rd_prog {l : List UInt8} {r : Row} (h : Prog l r) : Rd l r [] := ⟨h.2.1, stop_nil, by simpa using h.2.2⟩
theorem prog_one {l : List UInt8} {r r' : Row} (h : Prog l r) (h' : Prog l r') : r = r' := (rd_one (rd_prog h) (rd_prog h')).1

/-! A word is a program of its own. -/
def ofWord : List UInt8 → Row
  | [] => nil
  | c :: l => letter c (ofWord l)
theorem ofWord_text (l : List UInt8) : text (ofWord l) = l := by induction l <;> simp_all [ofWord, text]
theorem ofWord_wf (l : List UInt8) : wf (ofWord l) = l.all isW := by induction l <;> simp_all [ofWord, wf]
theorem ofWord_word (l : List UInt8) : word (ofWord l) = l := by induction l <;> simp_all [ofWord, word]
theorem ofWord_deep (l : List UInt8) : deep (ofWord l) = 0 := by induction l <;> simp_all [ofWord, deep]
theorem ofWord_size (l : List UInt8) : size (ofWord l) = l.length := by induction l <;> simp_all [ofWord, size] <;> omega
theorem deep_zero (r : Row) (h : wf r = true) : deep r = 0 ↔ (text r).all isW = true := by
  induction r with
  | nil => simp [deep, text]
  | letter c r ih => simp only [wf, Bool.and_eq_true] at h; simp [deep, text, ih h.2, h.1]
  | times d i r ih1 ih2 =>
    simp only [wf, Bool.and_eq_true] at h
    have h1 : isW d = false := by
      cases hd : isW d
      · rfl
      · have := isW_isD d hd
        rw [h.1.1] at this; cases this
    simp [deep, text, h1]

/-! What the scan for brackets tells. -/
/-- Brackets open at the end, and the most that were open, from (d, m) on. -/
def scan (dm : Int × Int) (c : UInt8) : Int × Int :=
  let d := if c = 40 then dm.1 + 1 else if c = 41 then dm.1 - 1 else dm.1
  (d, max dm.2 d)
theorem scan_text (r : Row) : ∀ (d m : Int), wf r = true → d ≤ m → (text r).foldl scan (d, m) = (d, max m (d + deep r)) := by
  induction r with
  | nil => intro d m _ h; simp [text, deep]; omega
  | letter c r ih =>
    intro d m hw h
    simp only [wf, Bool.and_eq_true] at hw
    have h1 := isW_close c hw.1
    have h2 : c ≠ 40 := by rintro rfl; simp [isW] at hw
    have e : scan (d, m) c = (d, m) := by simp [scan, h1, h2]; omega
    simp only [text, List.foldl_cons, e, deep]
    exact ih d m hw.2 h
  | times x i r ih1 ih2 =>
    intro d m hw h
    simp only [wf, Bool.and_eq_true] at hw
    have h1 := isD_close x hw.1.1
    have h2 : x ≠ 40 := by rintro rfl; simp [isD] at hw
    have e : scan (d, m) x = (d, m) := by simp [scan, h1, h2]; omega
    have e2 : scan (d, m) 40 = (d + 1, max m (d + 1)) := by simp [scan]
    simp only [text, List.foldl_cons, List.foldl_append, e, e2]
    rw [ih1 (d + 1) (max m (d + 1)) hw.1.2 (by omega)]
    have e3 : scan (d + 1, max (max m (d + 1)) (d + 1 + (deep i : Int))) 41 = (d, max m (d + 1 + (deep i : Int))) := by simp [scan]; omega
    rw [e3, ih2 d _ hw.2 (by omega)]
    simp only [deep, Prod.mk.injEq, true_and]
    omega

/-! How long, up to a million. -/
def cap (n : Nat) : Nat := min n 1000000
theorem cap_add (a b : Nat) : cap (cap a + b) = cap (a + b) := by unfold cap; omega
theorem cap_add2 (a b : Nat) : cap (cap a + cap b) = cap (a + b) := by unfold cap; omega
theorem cap_mul (d n : Nat) (h : 1 ≤ d) : cap (d * cap n) = cap (d * n) := by
  unfold cap
  by_cases hn : n ≤ 1000000
  · rw [Nat.min_eq_left hn]
  · have e : min n 1000000 = 1000000 := by omega
    rw [e]
    have h1 : 1 * 1000000 ≤ d * 1000000 := Nat.mul_le_mul_right _ h
    have h2 : d * 1000000 ≤ d * n := Nat.mul_le_mul_left _ (by omega)
    omega
theorem num_ge (d : UInt8) (h : isD d = true) : 2 ≤ num d ∧ num d ≤ 9 := by
  unfold isD at h; rw [decide_eq_true_iff] at h; unfold num; omega
theorem text_len_size (r : Row) (h : wf r = true) : parts r ≤ (text r).length := by
  induction r with
  | nil => simp [parts]
  | letter c r ih => simp only [wf, Bool.and_eq_true] at h; simp [parts, text]; have := ih h.2; omega
  | times d i r _ ih => simp only [wf, Bool.and_eq_true] at h; simp [parts, text]; have := ih h.2; omega
end Row
end Go.Proofs.Ytaakgdjlbokopaa.Tw
