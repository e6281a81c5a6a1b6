/- SimpleOk of the reference: no place twice. No condition. -/
import Derived.Test.YtminclapchnheaaDoorPl
namespace Go.Proofs.YtminclapchnheaaDoor
open Go.RowKit
set_option linter.unusedVariables false
set_option linter.unusedSimpArgs false

/-- No two of the places 1 .. n are one. -/
def Dist (s : ByteArray) (n : Nat) : Prop := ∀ j k, 1 ≤ j → j < k → k < n → pe s j ≠ pe s k
def DistTo (s : ByteArray) (k n : Nat) : Prop := ∀ j, 1 ≤ j → j < n → pe s j ≠ pe s k
noncomputable def simpV (s : ByteArray) : Bool := @decide (Tw.closedB s.data.toList = true ∧ Tw.Simple s.data.toList) (Classical.propDecidable _)
theorem simpV_iff (s : ByteArray) : simpV s = true ↔ Tw.closedB s.data.toList = true ∧ Tw.Simple s.data.toList := @decide_eq_true_iff _ (Classical.propDecidable _)
theorem simpV_no {s : ByteArray} (h : ¬(Tw.closedB s.data.toList = true ∧ Tw.Simple s.data.toList)) : simpV s = false := by
  rw [← simpV_iff] at h; simpa using h
theorem simpV_not {s : ByteArray} (h : Tw.closedB s.data.toList = false) : simpV s = false :=
  simpV_no (by rintro ⟨h1, -⟩; rw [h] at h1; cases h1)
theorem pe_end {s : ByteArray} (h : Tw.closedB s.data.toList = true) : pe s s.size = Tw.zero := by
  unfold pe; rw [take_all]; exact ((Tw.closedB_iff _).1 h).2.2
theorem pe_zero (s : ByteArray) : pe s 0 = Tw.zero := by unfold pe; rw [List.take_zero]; rfl
theorem dist_simple {s : ByteArray} (hc : Tw.closedB s.data.toList = true) : Dist s (s.size + 1) ↔ Tw.Simple s.data.toList := by
  have he := pe_end hc
  have hz := pe_zero s
  constructor
  · intro h i j hij hj
    rw [bytes_len] at hj
    show pe s i ≠ pe s j
    rcases Nat.eq_zero_or_pos i with h0 | h0
    · subst h0
      rw [hz, ← he]
      exact (h j s.size (by omega) (by omega) (by omega)).symm
    · exact h i j h0 hij (by omega)
  · intro h j k hj hjk hk
    rcases Nat.lt_or_ge k s.size with h1 | h1
    · exact h j k hjk (by rw [bytes_len]; omega)
    · obtain rfl : k = s.size := by omega
      rw [he, ← hz]
      exact (h 0 j (by omega) (by rw [bytes_len]; omega)).symm
theorem simpV_dist {s : ByteArray} (h : Dist s (s.size + 1)) : simpV s = Tw.closedB s.data.toList := by
  cases hc : Tw.closedB s.data.toList
  · exact simpV_not hc
  · exact (simpV_iff s).2 ⟨hc, (dist_simple hc).1 h⟩
theorem simpV_dup {s : ByteArray} {j k : Nat} (hj : 1 ≤ j) (hjk : j < k) (hk : k ≤ s.size) (h : pe s j = pe s k) : simpV s = false := by
  cases hc : Tw.closedB s.data.toList
  · exact simpV_not hc
  · refine simpV_no ?_
    rintro ⟨-, hs⟩
    exact (dist_simple hc).2 hs j k hj hjk (by omega) h
theorem Dist.next {s : ByteArray} {k : Nat} (h : Dist s k) (h2 : DistTo s k k) : Dist s (k + 1) := by
  intro i j hi hij hj
  rcases Nat.lt_or_ge j k with h1 | h1
  · exact h i j hi hij h1
  · obtain rfl : j = k := by omega
    exact h2 i hi hij
theorem DistTo.next {s : ByteArray} {k n : Nat} (h : DistTo s k n) (h2 : pe s n ≠ pe s k) : DistTo s k (n + 1) := by
  intro i hi hin
  rcases Nat.lt_or_ge i n with h1 | h1
  · exact h i hi h1
  · obtain rfl : i = n := by omega
    exact h2
theorem pk_at (s : ByteArray) (k : Nat) (h : k ≤ s.size) : (pk s s.size)[k]? = some (pe s k) := by
  unfold pk pe; rw [take_all, Tw.plc_at _ _ _ (by rw [bytes_len]; exact h)]
/-- Where the places lie. -/
def Pls (w : World) (g : Nat) (s : ByteArray) : Prop := ∀ k, k ≤ s.size → ∃ b, w.cell? ⟨g, k, none⟩ = some (.slice (some ⟨b, 0, none⟩) 2 2) ∧ w.cell? ⟨b, 0, none⟩ = some (.int .i64 (pe s k).x) ∧ w.cell? ⟨b, 1, none⟩ = some (.int .i64 (pe s k).y)
theorem Pls.below {A C : World} {g : Nat} {s : ByteArray} (h : Pls A g s) (hb : Below A.heap.size A C) : Pls C g s := by
  intro k hk
  obtain ⟨b, b0, b1, b2⟩ := h k hk
  exact ⟨b, ((bcell hb).1 g k (cell_lt b0)).trans b0, ((bcell hb).1 b 0 (cell_lt b1)).trans b1, ((bcell hb).1 b 1 (cell_lt b2)).trans b2⟩
theorem Pls.drewN {A : World} {g : Nat} {s : ByteArray} (h : Pls A g s) (n : Nat) : Pls (A.drewN n) g s := h.below (below_drewN (Below.refl _ _) _)
set_option maxHeartbeats 4000000 in
set_option maxRecDepth 100000 in
theorem simpleOk_spec (s : ByteArray) (w : World) (hs : s.size ≤ maxLen) :
    Calls Tryd.prog 16 #[.string s] w fun e w' => e = .returned (.bool (simpV s)) ∧ Below w.heap.size w w' := by
  have hc := placesOf_spec s w hs
  have hcl := fun w => closedOk_spec s w hs
  cases hb : Tw.walkB s.data.toList
  · rw [simpV_not (closedB_not hb)]
    have hz : plV s = [] := by unfold plV; rw [hb]; rfl
    rw [hz] at hc
    rw [closedB_not hb] at hcl
    have HC := Lib.hid hc; clear hc hb hz
    have HCl := Lib.hid hcl; clear hcl
    go_enter Tryd.func16, Tryd.ntmps16
    go_wp2_with fail
    refine HC.out.mono ?_
    rintro e w1 ⟨v, rfl, hP, hB⟩
    obtain ⟨q, cap, rfl⟩ := hP.nil
    clear hP
    go_wp2_with fail
    go_loopw [4] (fun k wr => k = .int .i64 1 ∧ wr = w1) (fun _ _ => 0)
    case atStart => exact ⟨rfl, rfl⟩
    case round =>
      obtain ⟨rfl, rfl⟩ := hrel
      go_wp2_with fail
      refine (HCl.out _).mono ?_
      rintro e w3 ⟨rfl, hB3⟩
      have hB4 := Below.up hB hB.size hB3
      go_wp2_with fail
      go_ret
      exact ⟨rfl, hB4⟩
  · have hz : plV s = pk s s.size := by unfold plV pk; rw [hb, take_all]; rfl
    rw [hz] at hc
    have hlen := walkB_len hb
    have HC := Lib.hid hc; clear hc hb hz
    have HCl := Lib.hid hcl; clear hcl
    unfold maxLen at hs
    go_enter Tryd.func16, Tryd.ntmps16
    go_wp2_with fail
    refine HC.out.mono ?_
    rintro e w1 ⟨v, rfl, hP, hB⟩
    have hpl := pk_len s s.size (Nat.le_refl _)
    obtain ⟨g, cap, rfl, hg, hcap, hcm⟩ := hP.form (by intro h; rw [h] at hpl; simp at hpl)
    have hat : Pls w1 g s := fun k hk => hP.at (pk_at s k hk)
    have HAT := Lib.hid hat; clear hat hP
    rw [hpl] at hcap ⊢
    go_wp2_with fail
    go_loopw [4] (fun k wr => ∃ n : Nat, 1 ≤ n ∧ n ≤ s.size + 1 ∧ k = .int .i64 n ∧ Hid (Dist s n) ∧ Hid (Pls wr g s) ∧ Below w.heap.size w wr) (fun k _ => s.size + 1 - (intOf k).toNat)
    case atStart => exact ⟨1, by omega, by omega, rfl, Lib.hid (by intro i j h1 h2 h3; omega), HAT, hB⟩
    case round =>
      clear HAT hB
      obtain ⟨n, hn1, hn, rfl, HD, HAT, hB⟩ := hrel
      by_cases hlt : n ≤ s.size
      · go_wp2_with fail
        go_loopw [5] (fun j wr' => ∃ m : Nat, 1 ≤ m ∧ m ≤ n ∧ j = .int .i64 m ∧ Hid (DistTo s n m) ∧ Hid (Pls wr' g s) ∧ Below w.heap.size w wr') (fun j _ => n - (intOf j).toNat)
        case atStart => exact ⟨1, by omega, by omega, rfl, Lib.hid (by intro i h1 h2; omega), HAT, hB⟩
        case round =>
          clear HAT hB
          obtain ⟨m, hm1, hm, rfl, HT, HAT, hB⟩ := hrel
          by_cases hmn : m < n
          · obtain ⟨a, a0, a1, a2⟩ := HAT.out n hlt
            obtain ⟨b, b0, b1, b2⟩ := HAT.out m (by omega)
            have hi1 : ((n : Int)) < ((s.size + 1 : Nat) : Int) := by omega
            have hi2 : ((m : Int)) < ((s.size + 1 : Nat) : Int) := by omega
            have hi3 : ((m : Int)) < (s.size : Int) + 1 := by omega
            have hi4 : ((n : Int)) < (s.size : Int) + 1 := by omega
            obtain ⟨p, hp⟩ : ∃ p, pe s n = p := ⟨_, rfl⟩
            obtain ⟨q, hq⟩ : ∃ q, pe s m = q := ⟨_, rfl⟩
            rw [hp] at a1 a2
            rw [hq] at b1 b2
            have HP := Lib.hid hp; clear hp
            have HQ := Lib.hid hq; clear hq
            by_cases hx : p.x = q.x
            · rw [hx] at a1
              by_cases hy : p.y = q.y
              · rw [hy] at a2
                go_wp2_with fail
                go_quiet (fail)
                go_wp2_with fail
                go_ret
                exact ⟨ret_bool (simpV_dup hm1 hmn hlt (by rw [HP.out, HQ.out]; exact Tw.pl_ext hx.symm hy.symm)).symm, below_drewN hB _⟩
              · go_wp2_with fail
                go_quiet (fail)
                go_wp2_with fail
                exact ⟨⟨m + 1, by omega, by omega, by go_num, Lib.hid (HT.out.next (by rw [HP.out, HQ.out]; rintro rfl; exact hy rfl)), Lib.hid (HAT.out.drewN _), below_drewN hB _⟩, by simp [intOf]; omega⟩
            · go_wp2_with fail
              obtain ⟨px, hpx⟩ : ∃ z, p.x = z := ⟨_, rfl⟩
              obtain ⟨qx, hqx⟩ : ∃ z, q.x = z := ⟨_, rfl⟩
              rw [hpx] at a1
              rw [hqx] at b1
              have HX := Lib.hid hx
              have hxx : ¬ px = qx := by rw [← hpx, ← hqx]; exact hx
              clear hx hpx hqx
              have hbe : (px == qx) = false := by simpa using hxx
              go_quiet (fail)
              go_wp2_with fail
              exact ⟨⟨m + 1, by omega, by omega, by go_num, Lib.hid (HT.out.next (by rw [HP.out, HQ.out]; rintro rfl; exact HX.out rfl)), Lib.hid (HAT.out.drewN _), below_drewN hB _⟩, by simp [intOf]; omega⟩
          · obtain rfl : m = n := by omega
            go_wp2_with fail
            exact ⟨⟨m + 1, by omega, by omega, by go_num, Lib.hid (HD.out.next HT.out), HAT, hB⟩, by simp [intOf]; omega⟩
      · obtain rfl : n = s.size + 1 := by omega
        have HS := Lib.hid (simpV_dist HD.out)
        clear HAT
        go_wp2_with fail
        refine (HCl.out _).mono ?_
        rintro e w3 ⟨rfl, hB3⟩
        have hB4 := Below.up hB hB.size hB3
        go_wp2_with fail
        go_ret
        exact ⟨ret_bool HS.out.symm, hB4⟩
end Go.Proofs.YtminclapchnheaaDoor
