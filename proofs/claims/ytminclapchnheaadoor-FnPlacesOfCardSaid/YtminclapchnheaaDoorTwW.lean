/- The plain law of walks: places, closing, simple walks from anywhere and back. No program in sight. -/
import Derived.Test.YtminclapchnheaaDoorTwA
namespace Go.Proofs.YtminclapchnheaaDoor.Tw
set_option linter.unusedVariables false
set_option linter.unusedSimpArgs false

def dir (c : UInt8) : Int := if c = 101 then 0 else if c = 110 then 1 else if c = 119 then 2 else if c = 115 then 3 else -1
def walkB (l : List UInt8) : Bool := l.all (fun c => decide (0 ≤ dir c)) && decide (l.length ≤ 40)

theorem dir_bd (c : UInt8) : -1 ≤ dir c ∧ dir c ≤ 3 := by unfold dir; repeat' split
                                                          all_goals omega

structure Pl where
  x : Int
  y : Int
theorem pl_ext {s t : Pl} (h1 : s.x = t.x) (h2 : s.y = t.y) : s = t := by cases s; cases t; simp_all

def go (p : Pl) (c : UInt8) : Pl := ⟨p.x + dx (dir c), p.y + dy (dir c)⟩
def endw (p : Pl) (l : List UInt8) : Pl := l.foldl go p
def zero : Pl := ⟨0, 0⟩
theorem zx : zero.x = 0 := rfl
theorem zy : zero.y = 0 := rfl
theorem zero_of {p : Pl} (h1 : p.x = 0) (h2 : p.y = 0) : p = zero := pl_ext h1 h2
/-- The places of a walk, from p on. -/
def plc (p : Pl) : List UInt8 → List Pl
  | [] => [p]
  | c :: l => p :: plc (go p c) l

theorem endw_nil (p : Pl) : endw p [] = p := rfl
theorem endw_cons (p : Pl) (c : UInt8) (l : List UInt8) : endw p (c :: l) = endw (go p c) l := rfl
theorem endw_append (p : Pl) (a b : List UInt8) : endw p (a ++ b) = endw (endw p a) b := by unfold endw; rw [List.foldl_append]
theorem endw_snoc (p : Pl) (a : List UInt8) (c : UInt8) : endw p (a ++ [c]) = go (endw p a) c := by rw [endw_append]; rfl
theorem plc_len (l : List UInt8) : ∀ p, (plc p l).length = l.length + 1 := by
  induction l with
  | nil => intro p; rfl
  | cons c l ih => intro p; simp [plc, ih]
theorem plc_snoc (l : List UInt8) (c : UInt8) : ∀ p, plc p (l ++ [c]) = plc p l ++ [go (endw p l) c] := by
  induction l with
  | nil => intro p; rfl
  | cons d l ih => intro p; simp only [List.cons_append, plc]; rw [ih]; rfl
theorem plc_last (l : List UInt8) : ∀ p, (plc p l)[l.length]? = some (endw p l) := by
  induction l with
  | nil => intro p; rfl
  | cons c l ih => intro p; simp only [plc, List.length_cons, List.getElem?_cons_succ]; exact ih _
theorem plc_at (l : List UInt8) : ∀ p k, k ≤ l.length → (plc p l)[k]? = some (endw p (l.take k)) := by
  induction l with
  | nil => intro p k h; simp only [List.length_nil] at h; obtain rfl : k = 0 := by omega
           rfl
  | cons c l ih =>
    intro p k h
    cases k with
    | zero => rfl
    | succ k => simp only [plc, List.getElem?_cons_succ, List.take_succ_cons]; exact ih _ k (by simpa using h)

/-- How far a walk leads, from anywhere. -/
theorem endw_from (l : List UInt8) : ∀ p, endw p l = ⟨p.x + (endw zero l).x, p.y + (endw zero l).y⟩ := by
  have gen : ∀ (l : List UInt8) (p q : Pl), (endw p l).x - p.x = (endw q l).x - q.x ∧ (endw p l).y - p.y = (endw q l).y - q.y := by
    intro l
    induction l with
    | nil => intro p q; simp [endw]
    | cons c l ih =>
      intro p q
      rw [endw_cons, endw_cons]
      have := ih (go p c) (go q c)
      simp only [go] at this ⊢
      omega
  intro p
  have := gen l p zero
  apply pl_ext <;> simp only [zero] at this ⊢ <;> omega

theorem endw_far (l : List UInt8) : ∀ p, (endw p l).x - p.x ≤ l.length ∧ p.x - (endw p l).x ≤ l.length ∧ (endw p l).y - p.y ≤ l.length ∧ p.y - (endw p l).y ≤ l.length := by
  induction l with
  | nil => intro p; simp [endw]
  | cons c l ih =>
    intro p; rw [endw_cons]
    have h := ih (go p c)
    have h1 := dx_bd (dir c)
    have h2 := dy_bd (dir c)
    simp only [go, List.length_cons] at h ⊢
    omega

theorem one_step (c : UInt8) (h : 0 ≤ dir c) : dx (dir c) * dx (dir c) + dy (dir c) * dy (dir c) = 1 := by
  have h3 := dir_bd c
  have hk : dir c = 0 ∨ dir c = 1 ∨ dir c = 2 ∨ dir c = 3 := by omega
  rcases hk with e | e | e | e <;> rw [e] <;> decide
theorem one_par (c : UInt8) (h : 0 ≤ dir c) : (dx (dir c) + dy (dir c)) % 2 = 1 := by
  have h3 := dir_bd c
  have hk : dir c = 0 ∨ dir c = 1 ∨ dir c = 2 ∨ dir c = 3 := by omega
  rcases hk with e | e | e | e <;> rw [e] <;> decide

theorem endw_par (l : List UInt8) : ∀ p, l.all (fun c => decide (0 ≤ dir c)) = true → ((endw p l).x - p.x + ((endw p l).y - p.y) - l.length) % 2 = 0 := by
  induction l with
  | nil => intro p _; simp [endw]
  | cons c l ih =>
    intro p h
    rw [List.all_cons, Bool.and_eq_true, decide_eq_true_iff] at h
    rw [endw_cons]
    have h1 := ih (go p c) h.2
    have h2 := one_par c h.1
    simp only [go, List.length_cons] at h1 ⊢
    omega

def closedB (l : List UInt8) : Bool := walkB l && !l.isEmpty && decide ((endw zero l).x = 0 ∧ (endw zero l).y = 0)
theorem closedB_iff (l : List UInt8) : closedB l = true ↔ walkB l = true ∧ l ≠ [] ∧ endw zero l = zero := by
  unfold closedB
  rw [Bool.and_eq_true, Bool.and_eq_true, decide_eq_true_iff]
  constructor
  · rintro ⟨⟨h1, h2⟩, h3⟩; exact ⟨h1, by rintro rfl; simp at h2, pl_ext h3.1 h3.2⟩
  · rintro ⟨h1, h2, h3⟩; exact ⟨⟨h1, by cases l <;> simp_all⟩, by rw [h3]; exact ⟨rfl, rfl⟩⟩
theorem closed_even (l : List UInt8) (h : closedB l = true) : l.length % 2 = 0 := by
  rw [closedB_iff] at h
  obtain ⟨h1, _, h3⟩ := h
  unfold walkB at h1
  rw [Bool.and_eq_true] at h1
  have := endw_par l zero h1.1
  rw [h3] at this
  simp only [zero] at this
  omega

/-! Moved on. -/
def moved (l : List UInt8) (k : Nat) : List UInt8 := l.drop k ++ l.take k
theorem moved_len (l : List UInt8) (k : Nat) : (moved l k).length = l.length := by
  unfold moved; simp; omega
theorem moved_all (f : UInt8 → Bool) (l : List UInt8) (k : Nat) : (moved l k).all f = l.all f := by
  unfold moved
  rw [List.all_append, Bool.and_comm, ← List.all_append, List.take_append_drop]
theorem moved_walk (l : List UInt8) (k : Nat) : walkB (moved l k) = walkB l := by
  unfold walkB; rw [moved_all, moved_len]
theorem endw_add (a b : List UInt8) : (endw zero (a ++ b)).x = (endw zero a).x + (endw zero b).x ∧ (endw zero (a ++ b)).y = (endw zero a).y + (endw zero b).y := by
  rw [endw_append, endw_from b (endw zero a)]
  exact ⟨rfl, rfl⟩
theorem moved_end (l : List UInt8) (k : Nat) : endw zero (moved l k) = endw zero l := by
  have h1 := endw_add (l.drop k) (l.take k)
  have h2 := endw_add (l.take k) (l.drop k)
  rw [List.take_append_drop] at h2
  unfold moved
  exact pl_ext (by omega) (by omega)
theorem moved_closed (l : List UInt8) (k : Nat) (h : closedB l = true) : closedB (moved l k) = true := by
  rw [closedB_iff] at h ⊢
  refine ⟨by rw [moved_walk]; exact h.1, fun e => ?_, by rw [moved_end]; exact h.2.2⟩
  have := moved_len l k
  rw [e] at this
  exact h.2.1 (List.length_eq_zero_iff.1 this.symm)
theorem moved_back (l : List UInt8) (k : Nat) : moved (moved l k) (l.length - k) = l := by
  unfold moved
  have hd : (l.drop k).length = l.length - k := by simp
  rw [List.drop_append_of_le_length (by omega), List.take_append_of_le_length (by omega)]
  rw [← hd, List.drop_length, List.take_length]
  simp
theorem moved_zero (l : List UInt8) : moved l 0 = l := by simp [moved]

/-! Back. -/
def opp (c : UInt8) : UInt8 := if c = 101 then 119 else if c = 110 then 115 else if c = 119 then 101 else if c = 115 then 110 else c
def bwalk (l : List UInt8) : List UInt8 := l.reverse.map opp
theorem bwalk_len (l : List UInt8) : (bwalk l).length = l.length := by simp [bwalk]
theorem dir_cases (c : UInt8) (h : 0 ≤ dir c) : c = 101 ∨ c = 110 ∨ c = 119 ∨ c = 115 := by
  unfold dir at h
  by_cases h1 : c = 101
  · exact .inl h1
  by_cases h2 : c = 110
  · exact .inr (.inl h2)
  by_cases h3 : c = 119
  · exact .inr (.inr (.inl h3))
  by_cases h4 : c = 115
  · exact .inr (.inr (.inr h4))
  simp [h1, h2, h3, h4] at h
theorem opp_go (c : UInt8) (h : 0 ≤ dir c) (p : Pl) : go (go p c) (opp c) = p := by
  rcases dir_cases c h with rfl | rfl | rfl | rfl <;> (apply pl_ext <;> simp [go, opp, dir, dx, dy] <;> omega)
theorem opp_dir (c : UInt8) (h : 0 ≤ dir c) : 0 ≤ dir (opp c) := by
  rcases dir_cases c h with rfl | rfl | rfl | rfl <;> decide
theorem opp_opp (c : UInt8) (h : 0 ≤ dir c) : opp (opp c) = c := by
  rcases dir_cases c h with rfl | rfl | rfl | rfl <;> decide
theorem bwalk_walk (l : List UInt8) (h : walkB l = true) : walkB (bwalk l) = true := by
  unfold walkB at h ⊢
  rw [Bool.and_eq_true] at h ⊢
  refine ⟨?_, by rw [bwalk_len]; exact h.2⟩
  have h1 := h.1
  rw [List.all_eq_true] at h1 ⊢
  intro c hc
  unfold bwalk at hc
  rw [List.mem_map] at hc
  obtain ⟨d, hd, rfl⟩ := hc
  have := h1 d (by simpa using hd)
  rw [decide_eq_true_iff] at this ⊢
  exact opp_dir d this
theorem bwalk_end (l : List UInt8) : ∀ p, l.all (fun c => decide (0 ≤ dir c)) = true → endw (endw p l) (bwalk l) = p := by
  induction l with
  | nil => intro p _; rfl
  | cons c l ih =>
    intro p h
    rw [List.all_cons, Bool.and_eq_true, decide_eq_true_iff] at h
    rw [endw_cons]
    have e : bwalk (c :: l) = bwalk l ++ [opp c] := by simp [bwalk]
    rw [e, endw_snoc, ih (go p c) h.2, opp_go c h.1]
theorem both_closed (l : List UInt8) (h : walkB l = true) (hn : l ≠ []) (hs : 2 * l.length ≤ 40) : closedB (l ++ bwalk l) = true := by
  rw [closedB_iff]
  have hb := bwalk_walk l h
  unfold walkB at h hb
  rw [Bool.and_eq_true] at h hb
  refine ⟨?_, by simp [hn], by rw [endw_append]; exact bwalk_end l zero h.1⟩
  unfold walkB
  rw [Bool.and_eq_true, List.all_append, h.1, hb.1]
  refine ⟨rfl, ?_⟩
  rw [decide_eq_true_iff, List.length_append, bwalk_len]; omega
theorem bwalk_closed (l : List UInt8) (h : closedB l = true) : closedB (bwalk l) = true := by
  rw [closedB_iff] at h ⊢
  have h1 := h.1
  unfold walkB at h1
  rw [Bool.and_eq_true] at h1
  refine ⟨bwalk_walk l h.1, fun e => ?_, ?_⟩
  · have := bwalk_len l
    rw [e] at this
    exact h.2.1 (List.length_eq_zero_iff.1 this.symm)
  · have := bwalk_end l zero h1.1
    rw [h.2.2] at this; exact this

/-! Simple. Two different numbers of steps, but that at the end, lead to two different places. -/
def Simple (l : List UInt8) : Prop := ∀ i j, i < j → j < l.length → endw zero (l.take i) ≠ endw zero (l.take j)

/-- Between two places lies a piece of the walk: simple is 'no piece but the whole one leads back'. -/
def NoPiece (l : List UInt8) : Prop := ∀ a m b, l = a ++ m ++ b → m ≠ [] → m.length < l.length → endw zero m ≠ zero

theorem piece_iff (a m : List UInt8) : endw zero (a ++ m) = endw zero a ↔ endw zero m = zero := by
  have h := endw_add a m
  constructor
  · intro e; rw [e] at h; exact zero_of (by omega) (by omega)
  · intro e; rw [e, zx, zy] at h; exact pl_ext (by omega) (by omega)

theorem simple_iff (l : List UInt8) (hc : endw zero l = zero) : Simple l ↔ NoPiece l := by
  constructor
  · intro h a m b e hm hl hz
    have hlen : l.length = a.length + m.length + b.length := by rw [e]; simp; omega
    have hmp : 0 < m.length := List.length_pos_iff.2 hm
    by_cases hb : b = []
    · -- the rest of the walk leads back from the beginning to a
      subst hb
      have ha : 0 < a.length := by simp at hlen; omega
      refine h 0 a.length ha (by omega) ?_
      have e1 : l.take a.length = a := by rw [e]; simp
      rw [List.take_zero, e1, endw_nil]
      have h2 := endw_add a m
      rw [List.append_nil] at e
      rw [← e, hc, hz, zx, zy] at h2
      exact (zero_of (by omega) (by omega)).symm
    · have hbp : 0 < b.length := List.length_pos_iff.2 hb
      refine h a.length (a.length + m.length) (by omega) (by omega) ?_
      have e1 : l.take a.length = a := by rw [e, List.append_assoc]; simp
      have e2 : l.take (a.length + m.length) = a ++ m := by rw [e, ← List.length_append, List.take_left]
      rw [e1, e2]
      exact ((piece_iff a m).2 hz).symm
  · intro h i j hij hj e
    have hi : l.take j = l.take i ++ (l.drop i).take (j - i) := by
      rw [← List.take_add]; congr 1; omega
    have e1 : l = l.take i ++ (l.drop i).take (j - i) ++ l.drop j := by rw [← hi, List.take_append_drop]
    have hml : ((l.drop i).take (j - i)).length = j - i := by simp; omega
    refine h _ _ _ e1 (fun e2 => ?_) (by omega) ?_
    · rw [e2] at hml; simp at hml; omega
    · rw [hi] at e; exact (piece_iff _ _).1 e.symm

/-- A piece of the walk moved on is a piece of the walk, or the rest of one. -/
theorem moved_simple (l : List UInt8) (k : Nat) (hc : endw zero l = zero) (h : Simple l) : Simple (moved l k) := by
  rw [simple_iff l hc] at h
  rw [simple_iff _ (by rw [moved_end]; exact hc)]
  intro a m b e hm hl hz
  rw [moved_len] at hl
  have hmp : 0 < m.length := List.length_pos_iff.2 hm
  -- where the seam lies
  unfold moved at e
  by_cases h1 : (a ++ m).length ≤ (l.drop k).length
  · -- the piece lies in the first part
    have e1 : l.drop k = a ++ m ++ (l.drop k).drop (a ++ m).length := by
      have : (l.drop k).take (a ++ m).length = a ++ m := by
        have := congrArg (List.take (a ++ m).length) e
        rwa [List.take_append_of_le_length h1, List.take_left] at this
      conv => lhs; rw [← List.take_append_drop (a ++ m).length (l.drop k)]
      rw [this]
    refine h (l.take k ++ a) m ((l.drop k).drop (a ++ m).length) ?_ hm hl hz
    · have := List.take_append_drop k l
      rw [e1] at this
      exact this.symm.trans (by simp only [List.append_assoc])
  · by_cases h2 : (l.drop k).length ≤ a.length
    · -- it lies in the second
      have e1 : l.take k = a.drop (l.drop k).length ++ m ++ b := by
        have := congrArg (List.drop (l.drop k).length) e
        rw [List.drop_left, List.append_assoc, List.drop_append_of_le_length h2] at this
        rw [this]; simp
      refine h (a.drop (l.drop k).length) m (b ++ l.drop k) ?_ hm hl hz
      have := List.take_append_drop k l
      rw [e1] at this
      exact this.symm.trans (by simp only [List.append_assoc])
    · -- it goes over the seam: what is left is a piece of the walk, and leads back, too
      have ha : a.length < (l.drop k).length := by omega
      have e1 : a = (l.drop k).take a.length := by
        have := congrArg (List.take a.length) e
        rw [List.take_append_of_le_length (by omega), List.append_assoc, List.take_left] at this
        exact this.symm
      have hlk : (l.drop k).length + (l.take k).length = a.length + m.length + b.length := by
        have := congrArg List.length e
        simp only [List.length_append] at this ⊢
        omega
      have hab : (a ++ m).length = a.length + m.length := List.length_append
      have e2 : b = (l.take k).drop (a.length + m.length - (l.drop k).length) := by
        have := congrArg (List.drop (a ++ m).length) e
        rw [List.drop_left, List.drop_append, List.drop_eq_nil_of_le (by omega), List.nil_append, hab] at this
        exact this.symm
      -- l = (take k minus b) ++ (b ++ a) ++ (rest)
      let u := (l.take k).take (a.length + m.length - (l.drop k).length)
      let v := (l.drop k).drop a.length
      have hu : l.take k = u ++ b := by rw [e2]; exact (List.take_append_drop _ _).symm
      have hv : l.drop k = a ++ v := by
        conv => lhs; rw [← List.take_append_drop a.length (l.drop k)]
        rw [← e1]
      have hl2 : l = u ++ (b ++ a) ++ v := by
        have := List.take_append_drop k l
        rw [hu, hv] at this
        rw [← this]; simp
      have hm2 : m = v ++ u := by
        rw [hu, hv] at e
        have : a ++ (v ++ u) ++ b = a ++ m ++ b := by rw [← e]; simp
        exact (List.append_cancel_left (List.append_cancel_right this)).symm
      have hsum := endw_add (u ++ (b ++ a)) v
      have hsum2 := endw_add u (b ++ a)
      have hsum3 := endw_add v u
      rw [← hl2, hc] at hsum
      rw [← hm2, hz] at hsum3
      have hz2 : endw zero (b ++ a) = zero := by
        rw [zx, zy] at hsum hsum3
        exact zero_of (by omega) (by omega)
      by_cases hba : b ++ a = []
      · have := congrArg List.length hba
        simp only [List.length_append, List.length_nil] at this
        have h5 : (l.drop k).length + (l.take k).length = l.length := by simp; omega
        omega
      · refine h u (b ++ a) v hl2 hba ?_ hz2
        have h5 : (l.drop k).length + (l.take k).length = l.length := by simp; omega
        rw [List.length_append]; omega

theorem bwalk_append (a b : List UInt8) : bwalk (a ++ b) = bwalk b ++ bwalk a := by simp [bwalk]
theorem bwalk_bwalk (l : List UInt8) (h : l.all (fun c => decide (0 ≤ dir c)) = true) : bwalk (bwalk l) = l := by
  unfold bwalk
  rw [← List.map_reverse, List.reverse_reverse, List.map_map]
  rw [List.all_eq_true] at h
  conv => rhs; rw [← List.map_id l]
  apply List.map_congr_left
  intro c hc
  have := h c hc
  rw [decide_eq_true_iff] at this
  exact opp_opp c this
theorem bwalk_simple (l : List UInt8) (hw : l.all (fun c => decide (0 ≤ dir c)) = true) (hc : endw zero l = zero) (hb : endw zero (bwalk l) = zero) (h : Simple l) : Simple (bwalk l) := by
  rw [simple_iff l hc] at h
  rw [simple_iff _ hb]
  intro a m b e hm hl hz
  rw [bwalk_len] at hl
  have e1 := congrArg bwalk e
  rw [bwalk_bwalk l hw, bwalk_append, bwalk_append, ← List.append_assoc] at e1
  have hwm : m.all (fun c => decide (0 ≤ dir c)) = true := by
    have hb : (bwalk l).all (fun c => decide (0 ≤ dir c)) = true := by
      rw [List.all_eq_true] at hw ⊢
      intro c hc
      unfold bwalk at hc
      rw [List.mem_map] at hc
      obtain ⟨d, hd, rfl⟩ := hc
      have := hw d (by simpa using hd)
      rw [decide_eq_true_iff] at this ⊢
      exact opp_dir d this
    rw [e, List.all_append, List.all_append, Bool.and_eq_true, Bool.and_eq_true] at hb
    exact hb.1.2
  refine h (bwalk b) (bwalk m) (bwalk a) e1 (fun e2 => ?_) (by rw [bwalk_len]; exact hl) ?_
  · have := bwalk_len m
    rw [e2] at this
    exact hm (List.length_eq_zero_iff.1 this.symm)
  · have := bwalk_end m zero hwm
    rw [hz] at this; exact this
end Go.Proofs.YtminclapchnheaaDoor.Tw
