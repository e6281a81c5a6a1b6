/- FarthestOf of the program and of the reference; the law FnExactFarthestOf answers true. Condition: the table of directions holds what the program's text lays. -/
import Derived.Test.YtdkhibkebakepaaDoorRoundS
namespace Go.Proofs.YtdkhibkebakepaaDoor
open Go.RowKit
set_option linter.unusedVariables false
set_option linter.unusedSimpArgs false

theorem rep_len (l : List UInt8) (n : Nat) : (Tw.rep l n).length = n * l.length := by
  induction n with
  | zero => simp [Tw.rep]
  | succ n ih => simp only [Tw.rep, List.length_append, ih, Nat.add_mul, Nat.one_mul]
theorem rep_at (l : List UInt8) (n : Nat) : ∀ p, p < n * l.length → (Tw.rep l n)[p]? = l[p % l.length]? := by
  induction n with
  | zero => intro p h; simp at h
  | succ n ih =>
    intro p h
    simp only [Tw.rep]
    by_cases hp : p < n * l.length
    · rw [List.getElem?_append_left (by rw [rep_len]; exact hp), ih p hp]
    · rw [List.getElem?_append_right (by rw [rep_len]; omega), rep_len]
      have h' : p < n * l.length + l.length := by rw [Nat.add_mul, Nat.one_mul] at h; exact h
      have e : p % l.length = p - n * l.length := by
        have : p = (p - n * l.length) + l.length * n := by rw [Nat.mul_comm l.length n]; omega
        rw [this, Nat.add_mul_mod_self_left, Nat.mod_eq_of_lt (by omega)]
        rw [Nat.mul_comm l.length n]; omega
      rw [e]
/-- Where the turtle is, and how far it was at most, after p letters of the word, so many times. -/
def wl (s : ByteArray) (R p : Nat) : Tw.Tu := Tw.run ⟨0, 0, 0⟩ ((Tw.rep s.data.toList R).take p)
def fl (s : ByteArray) (R p : Nat) : Int := Tw.most 0 ⟨0, 0, 0⟩ ((Tw.rep s.data.toList R).take p)
theorem wl_zero (s : ByteArray) (R : Nat) : wl s R 0 = ⟨0, 0, 0⟩ := by simp [wl, Tw.run]
theorem fl_zero (s : ByteArray) (R : Nat) : fl s R 0 = 0 := by simp [fl, Tw.most]
theorem take_step (s : ByteArray) (R p : Nat) (hp : p < R * s.size) (hi : p % s.size < s.size) : (Tw.rep s.data.toList R).take (p + 1) = (Tw.rep s.data.toList R).take p ++ [s[p % s.size]] := by
  have hl : p < (Tw.rep s.data.toList R).length := by rw [rep_len, bytes_len]; exact hp
  rw [List.take_succ_eq_append_getElem hl]
  have h := rep_at s.data.toList R p (by rw [bytes_len]; exact hp)
  rw [bytes_len, List.getElem?_eq_getElem hl, List.getElem?_eq_getElem (by rw [bytes_len]; exact hi)] at h
  have h2 := Option.some.inj h
  rw [h2]; rfl
theorem wl_step (s : ByteArray) (R p : Nat) (hp : p < R * s.size) (hi : p % s.size < s.size) : wl s R (p + 1) = Tw.st (wl s R p) s[p % s.size] := by
  unfold wl; rw [take_step s R p hp hi, Tw.run_snoc]
theorem fl_step (s : ByteArray) (R p : Nat) (hp : p < R * s.size) (hi : p % s.size < s.size) : fl s R (p + 1) = max (fl s R p) (Tw.norm (wl s R (p + 1))) := by
  rw [wl_step s R p hp hi]
  unfold fl wl; rw [take_step s R p hp hi, Tw.most_append]; rfl
theorem wl_near (s : ByteArray) (R p : Nat) : Near (wl s R p) p := by
  have n0 : Near ⟨0, 0, 0⟩ 0 := by unfold Near; simp only; omega
  refine (n0.run _).mono ?_
  have := List.length_take_le p (Tw.rep s.data.toList R)
  omega
theorem norm_near {t : Tw.Tu} {n : Int} (h : Near t n) : 0 ≤ Tw.norm t ∧ Tw.norm t ≤ 2 * n := by
  unfold Near at h; unfold Tw.norm Tw.nrm
  constructor <;> (repeat' split) <;> omega
theorem fl_near (s : ByteArray) (R p : Nat) : 0 ≤ fl s R p ∧ fl s R p ≤ 2 * p := by
  constructor
  · exact Tw.most_ge _ _ _
  · refine Tw.most_le _ _ _ _ (by omega) (fun q r e _ => ?_)
    have n0 : Near ⟨0, 0, 0⟩ 0 := by unfold Near; simp only; omega
    have hq : q.length ≤ p := by
      have h1 : q.length ≤ ((Tw.rep s.data.toList R).take p).length := by rw [e, List.length_append]; omega
      have := List.length_take_le p (Tw.rep s.data.toList R)
      omega
    exact (norm_near ((n0.run q).mono (m := p) (by omega))).2
theorem nrm_max (x : Int) : max x (-x) = Tw.nrm x := by unfold Tw.nrm; split <;> omega
/-- What FarthestOf tells. -/
def farN (s : ByteArray) : Int := if roundsB s then Tw.most 0 ⟨0, 0, 0⟩ (Tw.rep s.data.toList (Tw.rounds s.data.toList).toNat) else -1
theorem fl_all (s : ByteArray) (R : Nat) : fl s R (R * s.size) = Tw.most 0 ⟨0, 0, 0⟩ (Tw.rep s.data.toList R) := by
  unfold fl
  rw [List.take_of_length_le (by rw [rep_len, bytes_len]; exact Nat.le_refl _)]
theorem rounds_le (l : List UInt8) : 0 ≤ Tw.rounds l ∧ Tw.rounds l ≤ 4 := by
  unfold Tw.rounds; constructor <;> (repeat' split) <;> omega
theorem rounds_of {s : ByteArray} (h : roundsB s = true) : ∃ R : Nat, 1 ≤ R ∧ R ≤ 4 ∧ Tw.rounds s.data.toList = R ∧ roundsN s = R ∧ farN s = fl s R (R * s.size) ∧ Tw.wordB s.data.toList = true ∧ s.size ≤ 64 := by
  have h' := h
  unfold roundsB at h'
  rw [Bool.and_eq_true, decide_eq_true_iff] at h'
  have hr := rounds_le s.data.toList
  have hw := twB_word h'.1
  refine ⟨(Tw.rounds s.data.toList).toNat, by omega, by omega, by omega, by unfold roundsN; rw [h]; simp; omega, ?_, hw.1, hw.2⟩
  rw [fl_all]; unfold farN; rw [h]; rfl

theorem withoutSign_any (x : Int) (w : World) (h0 : -1000000 ≤ x) (h1 : x ≤ 1000000) : Calls Tryd.prog 38 #[.int .i64 x] w fun e w' => e = .returned (.int .i64 (Tw.nrm x)) ∧ w = w' := by
  have hm := nrm_max x
  rw [← hm]; clear hm
  go_enter Tryd.func38, Tryd.ntmps38
  go_wp2
  all_goals
    go_ret
    exact ⟨ret_int (by omega), rfl⟩
theorem withoutSign_same (x : Int) (w : World) (h0 : -1000000 ≤ x) (h1 : x ≤ 1000000) : Calls Tryd.prog 38 #[.int .i64 x] w fun e w' => e = .returned (.int .i64 (Tw.nrm x)) ∧ w' = w :=
  (withoutSign_any x w h0 h1).mono fun _ _ ⟨a, b⟩ => ⟨a, b.symm⟩
set_option maxRecDepth 100000 in
set_option maxHeartbeats 2000000 in
theorem farthestOf_impl (s : ByteArray) (w : World) (hd : Dirs w) (hs : s.size ≤ maxLen) :
    Calls Tryd.prog 22 #[.string s] w fun e w' => e = .returned (.tuple #[.int .i64 (farN s), .bool (roundsB s)]) ∧ Below w.heap.size w w' := by
  have hr := roundsOf_impl s w hd hs
  unfold roundsV at hr
  cases hb : roundsB s
  · have e1 : farN s = -1 := by unfold farN; rw [hb]; rfl
    have e2 : roundsN s = -1 := by unfold roundsN; rw [hb]; rfl
    rw [e1]
    rw [e2, hb] at hr
    have HR := Lib.hid hr; clear hr hb hd
    go_enter Tryd.func22, Tryd.ntmps22
    go_wp2_with (go_at_call 16; refine HR.out.mono ?_; rintro e w1 ⟨rfl, hb1⟩)
    go_ret2
    exact ⟨rfl, hb1⟩
  · obtain ⟨R, hR0, hR4, e1, e2, e3, hw, hl⟩ := rounds_of hb
    rw [e3]
    rw [e2, hb] at hr
    have HR := Lib.hid hr; clear hr hb e1 e2 e3
    have HD := Lib.hid hd; clear hd
    have ha := wordB_all hw
    have HA := Lib.hid ha; clear ha hw
    go_enter Tryd.func22, Tryd.ntmps22
    go_wp2_with (go_at_call 16; refine HR.out.mono ?_; rintro e w1 ⟨rfl, hb1⟩)
    have hB1 := hb1.alloc hb1.size (.cells #[.int .i64 0, .int .i64 0, .int .i64 0] 23)
    have hT1 : TCell (w1.alloc (.cells #[.int .i64 0, .int .i64 0, .int .i64 0] 23)) w1.heap.size (wl s R 0) := by rw [wl_zero]; exact Cells3.new w1 _ _ _ _
    have hz := hb1.size
    generalize w1.heap.size = b at hB1 hT1 hz ⊢
    generalize w1.alloc (.cells #[.int .i64 0, .int .i64 0, .int .i64 0] 23) = W0 at hB1 hT1 ⊢
    go_loopw [6, 18] (fun f r wr => ∃ k : Nat, k ≤ R ∧ r = .int .i64 (k : Int) ∧ f = .int .i64 (fl s R (k * s.size)) ∧ TCell wr b (wl s R (k * s.size)) ∧ Below w.heap.size w wr) (fun _ r _ => R - (intOf r).toNat)
    case atStart =>
      exact ⟨0, by omega, rfl, by rw [Nat.zero_mul, fl_zero], by rw [Nat.zero_mul]; exact hT1, hB1⟩
    case round =>
      obtain ⟨k, hk, rfl, rfl, hT, hB⟩ := hrel
      by_cases hkR : k < R
      · go_wp2_with fail
        go_loopw [6, 8] (fun f i wr => ∃ j : Nat, j ≤ s.size ∧ i = .int .i64 (j : Int) ∧ f = .int .i64 (fl s R (k * s.size + j)) ∧ TCell wr b (wl s R (k * s.size + j)) ∧ Below w.heap.size w wr) (fun _ i _ => s.size - (intOf i).toNat)
        case atStart => exact ⟨0, by omega, rfl, rfl, hT, hB⟩
        case round =>
          obtain ⟨j, hj, rfl, rfl, hT, hB⟩ := hrel
          by_cases hjs : j < s.size
          · have hks : k * s.size + s.size ≤ R * s.size := by
              have : (k + 1) * s.size ≤ R * s.size := Nat.mul_le_mul_right _ (by omega)
              rwa [Nat.add_mul, Nat.one_mul] at this
            have hRs : R * s.size ≤ 4 * 64 := Nat.mul_le_mul hR4 hl
            have hmod : (k * s.size + j) % s.size = j := by rw [Nat.add_comm, Nat.add_mul_mod_self_right, Nat.mod_eq_of_lt hjs]
            have hst := wl_step s R (k * s.size + j) (by omega) (by omega)
            have hfl := fl_step s R (k * s.size + j) (by omega) (by omega)
            simp only [hmod] at hst
            have n0 : Near (wl s R (k * s.size + j)) 2000000 := (wl_near s R _).mono (by omega)
            have n1 : Near (wl s R (k * s.size + j + 1)) 300 := (wl_near s R _).mono (by omega)
            have nf : 0 ≤ fl s R (k * s.size + j) ∧ fl s R (k * s.size + j) ≤ 1000 := by have := fl_near s R (k * s.size + j); omega
            have nn := norm_near n1
            rw [hst] at hfl n1 nn
            unfold Tw.norm at hfl nn
            have hDr := Dirs.below hB HD.out.lt HD.out
            have HDr := Lib.hid hDr; clear hDr
            have HN := Lib.hid n0; clear n0
            have HT := Lib.hid hT
            have hlt := Cells3.lt hT
            have hi2 := List.all_eq_true.1 HA.out _ (byte_mem s j hjs)
            have HI := Lib.hid hi2; clear hi2
            have HS := Lib.hid hst; clear hst
            have HF := Lib.hid hfl; clear hfl
            have hzB := hB.size
            obtain ⟨⟨ta, tb, tc⟩, td, te, tf⟩ := hT
            generalize wl s R (k * s.size + j) = T at *
            generalize fl s R (k * s.size + j) = f at *
            obtain ⟨x0, x1, y0, y1, k0, k1⟩ := n1
            go_wp2_with fail
            go_still_tail 4, (by kernel_rfl)
            go_wp2_with (go_at_call 37; refine (after_go T s[j] _ (by exact HDr.out) HN.out HI.out).mono ?_; rintro e w2 ⟨rfl, hb2⟩; obtain ⟨⟨ta1, tb1, tc1⟩, td1, te1, tf1⟩ := Cells3.below (by exact HT.out) hb2 (by exact hlt))
            have q1 : Cells3 w2 b (.int .i64 T.x) (.int .i64 T.y) (.int .i64 T.k) := ⟨⟨ta1, tb1, tc1⟩, td1, te1, tf1⟩
            have hB2 : Below w.heap.size w w2 := Below.up (by exact hB.drew) (by exact hzB) hb2
            go_quiet (first | (go_at_call 38; refine Calls.quiet_of_same (withoutSign_same _ _ (by omega) (by omega))))
            have hmx : (if f < Tw.nrm (Tw.st T s[j]).x + Tw.nrm (Tw.st T s[j]).y then Tw.nrm (Tw.st T s[j]).x + Tw.nrm (Tw.st T s[j]).y else f) = fl s R (k * s.size + j + 1) := by
              rw [HF.out]; split <;> omega
            rw [hmx]
            go_wp2_with fail
            refine ⟨⟨j + 1, by omega, by go_num, by rw [Nat.add_assoc], ?_, ?_⟩, by simp [intOf]; omega⟩
            · have q2 := q1.store (.int .i64 (Tw.st T s[j]).x) (.int .i64 (Tw.st T s[j]).y) (.int .i64 (Tw.st T s[j]).k)
              rw [← Nat.add_assoc, HS.out]
              exact Cells3.below q2 (below_drewN (Below.refl _ _) _) (Cells3.lt q2)
            · exact below_drewN (((hB2.setCell (p := ⟨b, 0, none⟩) (by exact hz) _).setCell (p := ⟨b, 1, none⟩) (by exact hz) _).setCell (p := ⟨b, 2, none⟩) (by exact hz) _) _
          · have e : j = s.size := by omega
            subst e
            go_wp2_with fail
            exact ⟨⟨k + 1, by omega, by go_num, by rw [Nat.add_mul, Nat.one_mul], by rw [Nat.add_mul, Nat.one_mul]; exact hT, hB⟩, by simp [intOf]; omega⟩
      · have e : k = R := by omega
        subst e
        go_wp2_with fail
        go_ret2
        exact ⟨rfl, hB⟩
theorem one_list (s : ByteArray) (m : Nat) (h : m < s.size) : (s.extract m (m + 1)).data.toList = [s[m]] := by
  have hl : m < s.data.size := h
  have : (s.extract m (m + 1)).data = #[s[m]] := by
    rw [ByteArray.data_extract]
    apply Array.ext
    · simp; omega
    · intro i h1 h2
      have : i = 0 := by simp at h2; omega
      subst this
      simp; rfl
  rw [this]
theorem l1Walk_one (t : Tw.Tu) (s : ByteArray) (m : Nat) (w : World) (hn : Near t 1000000) (hm : m < s.size) (ha : s.data.toList.all Tw.isW = true) :
    Calls Tryd.prog 32 #[.agg #[.int .i64 t.x, .int .i64 t.y, .int .i64 t.k], .string (s.extract m (m + 1))] w fun e w' => e = .returned (.agg #[.int .i64 (Tw.st t s[m]).x, .int .i64 (Tw.st t s[m]).y, .int .i64 (Tw.st t s[m]).k]) ∧ Below w.heap.size w w' := by
  have h1 := one_list s m hm
  have hi := List.all_eq_true.1 ha _ (byte_mem s m hm)
  have hz : (s.extract m (m + 1)).size ≤ 1000 := by rw [← bytes_len, h1]; simp
  have h := l1Walk_any t (s.extract m (m + 1)) w hn (by rw [h1]; simp [hi]) hz
  rw [h1] at h
  exact h
set_option maxRecDepth 100000 in
set_option maxHeartbeats 2000000 in
theorem farthestOf_spec (s : ByteArray) (w : World) (hs : s.size ≤ maxLen) :
    Calls Tryd.prog 21 #[.string s] w fun e w' => e = .returned (.tuple #[.int .i64 (farN s), .bool (roundsB s)]) ∧ Below w.heap.size w w' := by
  have hr := roundsOf_spec s w hs
  unfold roundsV at hr
  unfold maxLen at hs
  cases hb : roundsB s
  · have e1 : farN s = -1 := by unfold farN; rw [hb]; rfl
    have e2 : roundsN s = -1 := by unfold roundsN; rw [hb]; rfl
    rw [e1]
    rw [e2, hb] at hr
    have HR := Lib.hid hr; clear hr hb
    go_enter Tryd.func21, Tryd.ntmps21
    go_wp2_with (go_at_call 15; refine HR.out.mono ?_; rintro e w1 ⟨rfl, hb1⟩)
    go_loopw [6, 8] (fun f i wr => i = .int .i64 0 ∧ Below w.heap.size w wr) (fun _ _ _ => 0)
    case atStart => exact ⟨rfl, hb1.alloc hb1.size _⟩
    case round =>
      obtain ⟨rfl, hB⟩ := hrel
      clear hb1
      go_wp2_with fail
      go_ret2
      exact ⟨rfl, hB⟩
  · obtain ⟨R, hR0, hR4, e1, e2, e3, hw, hl⟩ := rounds_of hb
    rw [e3]
    rw [e2, hb] at hr
    have HR := Lib.hid hr; clear hr hb e1 e2 e3
    have ha := wordB_all hw
    have HA := Lib.hid ha; clear ha hw
    go_enter Tryd.func21, Tryd.ntmps21
    go_wp2_with (go_at_call 15; refine HR.out.mono ?_; rintro e w1 ⟨rfl, hb1⟩)
    have hB1 := hb1.alloc hb1.size (.cells #[.int .i64 0, .int .i64 0, .int .i64 0] 23)
    have hT1 : TCell (w1.alloc (.cells #[.int .i64 0, .int .i64 0, .int .i64 0] 23)) w1.heap.size (wl s R 0) := by rw [wl_zero]; exact Cells3.new w1 _ _ _ _
    have hz := hb1.size
    generalize w1.heap.size = b at hB1 hT1 hz ⊢
    generalize w1.alloc (.cells #[.int .i64 0, .int .i64 0, .int .i64 0] 23) = W0 at hB1 hT1 ⊢
    go_loopw [6, 8] (fun f i wr => ∃ p : Nat, p ≤ R * s.size ∧ i = .int .i64 (p : Int) ∧ f = .int .i64 (fl s R p) ∧ TCell wr b (wl s R p) ∧ Below w.heap.size w wr) (fun _ i _ => R * s.size - (intOf i).toNat)
    case atStart =>
      exact ⟨0, by omega, rfl, by rw [fl_zero], hT1, hB1⟩
    case round =>
      obtain ⟨p, hp, rfl, rfl, hT, hB⟩ := hrel
      have hRs : R * s.size ≤ 4 * 64 := Nat.mul_le_mul hR4 hl
      by_cases hpR : p < R * s.size
      · have hs0 : 0 < s.size := by rcases Nat.eq_zero_or_pos s.size with h | h; · rw [h] at hpR; omega
                                    · exact h
        have hmod := Nat.mod_lt p hs0
        have hmi : (p : Int) % (s.size : Int) = ((p % s.size : Nat) : Int) := (Int.natCast_emod _ _).symm
        go_wp2_with fail
        rw [hmi]
        have hst := wl_step s R p hpR hmod
        have hfl := fl_step s R p hpR hmod
        have n0 : Near (wl s R p) 1000000 := (wl_near s R _).mono (by omega)
        have n1 : Near (wl s R (p + 1)) 300 := (wl_near s R _).mono (by omega)
        have nf : 0 ≤ fl s R p ∧ fl s R p ≤ 1000 := by have := fl_near s R p; omega
        have nn := norm_near n1
        have hl1 := fun w => l1Walk_one (wl s R p) s (p % s.size) w n0 hmod HA.out
        rw [← hst] at hl1
        unfold Tw.norm at hfl nn
        have HL := Lib.hid hl1; clear hl1 hst n0
        have HT := Lib.hid hT
        have hlt := Cells3.lt hT
        have HF := Lib.hid hfl; clear hfl
        have hzB := hB.size
        obtain ⟨⟨ta, tb, tc⟩, td, te, tf⟩ := hT
        generalize wl s R p = T at *
        generalize hT' : wl s R (p + 1) = T' at *
        generalize fl s R p = f at *
        generalize p % s.size = m at *
        obtain ⟨x0, x1, y0, y1, k0, k1⟩ := n1
        clear hmi
        have hm1 : (m : Int) + 1 ≤ (s.size : Int) := by omega
        have hm2 : (0 : Int) ≤ (m : Int) := by omega
        have hm3 : (m : Int) ≤ (m : Int) + 1 := by omega
        have hsl : ∀ wx, (Instr.slice 9 (.string s) (some (.int .i64 (m : Int))) (some (.int .i64 ((m : Int) + 1))) none).run Tryd.prog wx = .ok (.string (s.extract m (m + 1))) wx := fun wx => by
          have := run_slice_string (P := Tryd.prog) wx 9 s .i64 .i64 (m : Int) ((m : Int) + 1) Tryd.underlying9 hm2 hm3 hm1
          have e1 : ((m : Int) + 1).toNat = m + 1 := by omega
          rw [e1] at this
          simpa using this
        have hwr : IntKind.i64.wrap ((m : Int) + 1) = (m : Int) + 1 := IntWalk.i64_in _ (by omega)
        go_still_tail 6, (by kernel_rfl)
        go_wp2_with (go_at_call 32; refine (HL.out _).mono ?_; rintro e w2 ⟨rfl, hb2⟩; obtain ⟨⟨ta1, tb1, tc1⟩, td1, te1, tf1⟩ := Cells3.below (by exact HT.out) hb2 (by exact hlt))
        have q1 : Cells3 w2 b (.int .i64 T.x) (.int .i64 T.y) (.int .i64 T.k) := ⟨⟨ta1, tb1, tc1⟩, td1, te1, tf1⟩
        have hB2 : Below w.heap.size w w2 := Below.up (by exact hB.drew) (by exact hzB) hb2
        refine ⟨⟨p + 1, by omega, by go_num, ?_, ?_, ?_⟩, by simp [intOf]; omega⟩
        · rw [HF.out, ← nrm_max, ← nrm_max]
          refine congrArg (Value.int .i64) ?_
          (repeat' split) <;> omega
        · rw [hT']; exact q1.store _ _ _
        · exact ((hB2.setCell (p := ⟨b, 0, none⟩) (by exact hz) _).setCell (p := ⟨b, 1, none⟩) (by exact hz) _).setCell (p := ⟨b, 2, none⟩) (by exact hz) _
      · have e : p = R * s.size := by omega
        subst e
        go_wp2_with fail
        go_ret2
        exact ⟨rfl, hB⟩
set_option maxHeartbeats 1000000 in
theorem law_FnExactFarthestOf (s : ByteArray) (w : World) (hs : s.size ≤ maxLen) (hd : Dirs w) :
    Calls Tryd.prog 7 #[.string s] w fun e w' => e = .returned (.bool true) ∧ Below w.heap.size w w' := by
  have h1 := fun w => farthestOf_spec s w hs
  have h2 := fun w hd => farthestOf_impl s w hd hs
  generalize farN s = n at h1 h2
  generalize roundsB s = b at h1 h2
  have H1 := Lib.hid h1; clear h1
  have H2 := Lib.hid h2; clear h2
  have HD := Lib.hid hd; clear hd
  unfold maxLen at hs
  go_enter Tryd.func7, Tryd.ntmps7
  go_wp2_with fail
  · go_ret
    exact ⟨rfl, by go_grown⟩
  · refine (H1.out _).mono ?_
    rintro e w2 ⟨rfl, hb2⟩
    go_wp2_with fail
    refine (H2.out _ (Dirs.below hb2 HD.out.lt HD.out)).mono ?_
    rintro e w4 ⟨rfl, hb4⟩
    have hB4 := Below.up hb2 hb2.size hb4
    cases b
    all_goals
      go_wp2_with fail
      go_ret
      exact ⟨rfl, hB4⟩
end Go.Proofs.YtdkhibkebakepaaDoor
