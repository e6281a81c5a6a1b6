/- A number as a text: l1Number of the reference. No condition. -/
import Derived.Test.YtaakgdjlbokopaaPi
import Derived.Test.YtaakgdjlbokopaaPeel
import Derived.OwnWalk
import Derived.Laws.OwnMore
namespace Go.Proofs.Ytaakgdjlbokopaa
open Go.RowKit
open Tw (Row)
set_option linter.unusedVariables false
set_option linter.unusedSimpArgs false

/-- One byte as a text. -/
theorem conv_one {w : World} {g : Nat} {x : Int} (h : w.cell? ⟨g, 0, none⟩ = some (.int .u8 x)) : (convert 22 9 (.slice (some ⟨g, 0, none⟩) 1 1)).run Try.prog w = .ok (.string (strOfNums [x])) w := by
  have hc : ∀ i, i < 1 → w.cell? ⟨g, 0 + i, none⟩ = some (.int .u8 ([x].getD i 0)) := fun i hi => by
    obtain rfl : i = 0 := by omega
    simpa using h
  exact run_convert_bytes_arg (P := Try.prog) w 22 5 Try.underlying22 Try.underlying5 g 0 1 1 [x] rfl hc 9 Try.underlying9
theorem conv_new (w : World) (x : Int) : (convert 22 9 (.slice (some ⟨w.heap.size, 0, none⟩) 1 1)).run Try.prog (w.alloc (.cells #[.int .u8 x] 5)) = .ok (.string (strOfNums [x])) (w.alloc (.cells #[.int .u8 x] 5)) :=
  conv_one (by simp)
theorem nums_one (x : Int) (h0 : 0 ≤ x) (h1 : x ≤ 255) : strOfNums [x] = bs [UInt8.ofNat x.toNat] := by
  have := strOfNums_bytes [UInt8.ofNat x.toNat]
  have e : (((UInt8.ofNat x.toNat).toNat : Nat) : Int) = x := by
    rw [UInt8.toNat_ofNat']
    omega
  simp only [List.map_cons, List.map_nil, e] at this
  exact this
def NumPost (m : Nat) (w : World) (e : Ending) (w' : World) : Prop := ∃ t : ByteArray, e = .returned (.string t) ∧ t.size ≤ m ∧ Below w.heap.size w w'
theorem number_small (n : Int) (w : World) (h0 : 0 ≤ n) (h1 : n < 10) : Calls Try.prog 34 #[.int .i64 n] w fun e w' => e = .returned (.string (bs [UInt8.ofNat (48 + n).toNat])) ∧ Below w.heap.size w w' := by
  have hcv := fun w => conv_new w (48 + n)
  have hn := nums_one (48 + n) (by omega) (by omega)
  rw [hn] at hcv
  clear hn
  go_enter Try.func34, Try.ntmps34
  go_wp2_with fail
  go_ret
  exact ⟨rfl, by go_grown⟩
set_option maxHeartbeats 1000000 in
set_option maxRecDepth 100000 in
theorem number_step (n : Int) (m : Nat) (w : World) (h0 : 10 ≤ n) (h1 : n ≤ 9223372036854775807) (hm : m ≤ 40) (IH : ∀ w, Calls Try.prog 34 #[.int .i64 (n / 10)] w (NumPost m w)) : Calls Try.prog 34 #[.int .i64 n] w (NumPost (m + 1) w) := by
  have HI := Lib.hid IH; clear IH
  have hq : n.tdiv 10 = n / 10 := Int.tdiv_eq_ediv_of_nonneg (by omega)
  have hr : n.tmod 10 = n % 10 := Int.tmod_eq_emod_of_nonneg (by omega)
  have hwq : IntKind.i64.wrap (n / 10) = n / 10 := IntWalk.i64_in _ (by omega)
  have hwa : IntKind.i64.wrap (48 + n % 10) = 48 + n % 10 := IntWalk.i64_in _ (by omega)
  have hwb : IntKind.u8.wrap (48 + n % 10) = 48 + n % 10 := by rw [IntKind.wrap_u8]; omega
  go_enter Try.func34, Try.ntmps34
  go_wp2_with fail
  refine wp_region_peel (n := 10) (S := fun w' => True) (by kernel_rfl) (lasts_of (by kernel_rfl)) trivial (fun hHeld => ?_)
  refine wpAnyH_take (i := 0) (v := ?_) rfl (by kernel_rfl) (by kernel_rfl) (by kernel_rfl) (fun _ _ _ h => h) (Or.inl ⟨by rfl, ?_⟩) (by assumption) ?_
  rotate_left
  · intro w hSw; (try dsimp only at hSw); go_simp; try with_reducible rfl
  try simp only [Act.put, List.setIfInBounds_toArray, List.set_cons_zero, List.set_cons_succ, List.getElem_toArray, List.getElem_cons_zero, List.getElem_cons_succ]
  refine wpAnyH_take (i := 1) (v := ?_) rfl (by kernel_rfl) (by kernel_rfl) (by kernel_rfl) (fun _ _ _ h => h) (Or.inl ⟨by rfl, ?_⟩) (by assumption) ?_
  rotate_left
  · intro w hSw; (try dsimp only at hSw); go_simp; try with_reducible rfl
  try simp only [Act.put, List.setIfInBounds_toArray, List.set_cons_zero, List.set_cons_succ, List.getElem_toArray, List.getElem_cons_zero, List.getElem_cons_succ]
  refine wpAnyH_take (i := 3) (v := ?_) rfl (by kernel_rfl) (by kernel_rfl) (by kernel_rfl) (fun _ _ _ h => h) (Or.inl ⟨by rfl, ?_⟩) (by assumption) ?_
  rotate_left
  · intro w hSw; (try dsimp only at hSw); go_simp; try with_reducible rfl
  try simp only [Act.put, List.setIfInBounds_toArray, List.set_cons_zero, List.set_cons_succ, List.getElem_toArray, List.getElem_cons_zero, List.getElem_cons_succ]
  refine wpAnyH_take (i := 4) (v := ?_) rfl (by kernel_rfl) (by kernel_rfl) (by kernel_rfl) (fun _ _ _ h => h) (Or.inl ⟨by rfl, ?_⟩) (by assumption) ?_
  rotate_left
  · intro w hSw; (try dsimp only at hSw); go_simp; try with_reducible rfl
  try simp only [Act.put, List.setIfInBounds_toArray, List.set_cons_zero, List.set_cons_succ, List.getElem_toArray, List.getElem_cons_zero, List.getElem_cons_succ]
  refine wpAnyH_take (i := 5) (v := ?_) rfl (by kernel_rfl) (by kernel_rfl) (by kernel_rfl) (fun _ _ _ h => h) (Or.inl ⟨by rfl, ?_⟩) (by assumption) ?_
  rotate_left
  · intro w hSw; (try dsimp only at hSw); go_simp; try with_reducible rfl
  try simp only [Act.put, List.setIfInBounds_toArray, List.set_cons_zero, List.set_cons_succ, List.getElem_toArray, List.getElem_cons_zero, List.getElem_cons_succ]
  refine wpAnyH_take (i := 6) (v := ?_) rfl (by kernel_rfl) (by kernel_rfl) (by kernel_rfl) (fun _ _ _ h => h) (Or.inl ⟨by rfl, ?_⟩) (by assumption) ?_
  rotate_left
  · intro w hSw; (try dsimp only at hSw); go_simp; try with_reducible rfl
  try simp only [Act.put, List.setIfInBounds_toArray, List.set_cons_zero, List.set_cons_succ, List.getElem_toArray, List.getElem_cons_zero, List.getElem_cons_succ]
  have hx : 0 ≤ 48 + n % 10 ∧ 48 + n % 10 ≤ 255 := by omega
  generalize 48 + n % 10 = x at *
  clear hwa hwb hr hq hwq
  obtain ⟨dg, hdz, hcv⟩ : ∃ dg : ByteArray, dg.size = 1 ∧ ∀ (w : World) (g : Nat), w.cell? ⟨g, 0, none⟩ = some (.int .u8 x) → (convert 22 9 (.slice (some ⟨g, 0, none⟩) 1 1)).run Try.prog w = .ok (.string dg) w :=
    ⟨strOfNums [x], by rw [nums_one x hx.1 hx.2, bs_size]; rfl, fun w g h => conv_one h⟩
  have HCv := Lib.hid hcv; clear hcv
  refine wpAnyH_ready (rs := [2, 7]) (by kernel_rfl) (by simp) ?_
  refine AllReadyH.cons rfl (fun K hK => ?_) (AllReadyH.cons rfl (fun K hK => ?_) AllReadyH.nil)
  · go_simp
    refine (HI.out _).mono ?_
    rintro e w1 ⟨t, rfl, ht, hb1⟩
    try go_wp2_with fail
    have hb1' : Below w.heap.size w w1 := (Below.refl _ w).drew.trans hb1
    refine hK.out _ _ trivial (fun hHeld => ?_)
    clear hK K
    try simp only [Act.put, List.setIfInBounds_toArray, List.set_cons_zero, List.set_cons_succ]
    refine wpAnyH_ready (rs := [7]) (by kernel_rfl) (by simp) ?_
    refine AllReadyH.cons rfl (fun K hK => ?_) AllReadyH.nil
    go_simp
    have hcv := HCv.out (w1.alloc (.cells #[.int .u8 x] 5)) w1.heap.size (by simp)
    have hB : Below w.heap.size w (w1.alloc (.cells #[.int .u8 x] 5)) := hb1'.alloc hb1'.size _
    refine hK.out _ _ trivial (fun hHeld => ?_)
    clear hK K
    try simp only [Act.put, List.setIfInBounds_toArray, List.set_cons_zero, List.set_cons_succ]
    refine wpAnyH_ready (rs := [8]) (by kernel_rfl) (by simp) ?_
    refine AllReadyH.cons rfl (fun K hK => ?_) AllReadyH.nil
    go_simp
    refine hK.out _ _ trivial (fun hHeld => ?_)
    clear hK K
    try simp only [Act.put, List.setIfInBounds_toArray, List.set_cons_zero, List.set_cons_succ]
    have hcs : ¬ 9223372036854775807 < t.size + 1 := by omega
    refine wpAnyH_take (i := 9) (v := ?_) rfl (by kernel_rfl) (by kernel_rfl) (by kernel_rfl) (fun _ _ _ h => h) (Or.inl ⟨by rfl, ?_⟩) (by assumption) ?_
    rotate_left
    · intro w hSw; (try dsimp only at hSw); go_simp; try with_reducible rfl
    try simp only [Act.put, List.setIfInBounds_toArray, List.set_cons_zero, List.set_cons_succ, List.getElem_toArray, List.getElem_cons_zero, List.getElem_cons_succ]
    refine wpAnyH_done (by kernel_rfl) ?_ _
    refine peel_here ?_
    refine wpOp_step rfl (fun K hK => ?_)
    go_simp
    refine hK _ _ ?_
    go_wp2_with fail
    go_ret
    exact ⟨t ++ dg, rfl, by rw [ByteArray.size_append]; omega, hB⟩
  · go_simp
    have hba : Below w.heap.size w (w.alloc (.cells #[.int .u8 x] 5)).drew := ((Below.refl _ w).alloc (Nat.le_refl _) _).drew
    have hca : (w.alloc (.cells #[.int .u8 x] 5)).drew.cell? ⟨w.heap.size, 0, none⟩ = some (.int .u8 x) := World.cell?_alloc_new w _ _ _
    have hza : w.heap.size < (w.alloc (.cells #[.int .u8 x] 5)).drew.heap.size := by show w.heap.size < (w.alloc _).heap.size; rw [World.size_alloc]; exact Nat.lt_succ_self _
    refine hK.out _ _ trivial (fun hHeld => ?_)
    clear hK K
    try simp only [Act.put, List.setIfInBounds_toArray, List.set_cons_zero, List.set_cons_succ]
    generalize (w.alloc (.cells #[.int .u8 x] 5)).drew = wa at *
    refine wpAnyH_ready (rs := [2, 8]) (by kernel_rfl) (by simp) ?_
    refine AllReadyH.cons rfl (fun K hK => ?_) (AllReadyH.cons rfl (fun K hK => ?_) AllReadyH.nil)
    · go_simp
      refine (HI.out _).mono ?_
      rintro e w1 ⟨t, rfl, ht, hb1⟩
      try go_wp2_with fail
      have hB : Below w.heap.size w w1 := hba.trans (hb1.mono hba.size)
      have hcv := HCv.out w1 w.heap.size (((bcell hb1).1 w.heap.size 0 hza).trans hca)
      refine hK.out _ _ trivial (fun hHeld => ?_)
      clear hK K
      try simp only [Act.put, List.setIfInBounds_toArray, List.set_cons_zero, List.set_cons_succ]
      refine wpAnyH_ready (rs := [8]) (by kernel_rfl) (by simp) ?_
      refine AllReadyH.cons rfl (fun K hK => ?_) AllReadyH.nil
      go_simp
      refine hK.out _ _ trivial (fun hHeld => ?_)
      clear hK K
      try simp only [Act.put, List.setIfInBounds_toArray, List.set_cons_zero, List.set_cons_succ]
      have hcs : ¬ 9223372036854775807 < t.size + 1 := by omega
      refine wpAnyH_take (i := 9) (v := ?_) rfl (by kernel_rfl) (by kernel_rfl) (by kernel_rfl) (fun _ _ _ h => h) (Or.inl ⟨by rfl, ?_⟩) (by assumption) ?_
      rotate_left
      · intro w hSw; (try dsimp only at hSw); go_simp; try with_reducible rfl
      try simp only [Act.put, List.setIfInBounds_toArray, List.set_cons_zero, List.set_cons_succ, List.getElem_toArray, List.getElem_cons_zero, List.getElem_cons_succ]
      refine wpAnyH_done (by kernel_rfl) ?_ _
      refine peel_here ?_
      refine wpOp_step rfl (fun K hK => ?_)
      go_simp
      refine hK _ _ ?_
      go_wp2_with fail
      go_ret
      exact ⟨t ++ dg, rfl, by rw [ByteArray.size_append]; omega, hB⟩
    · have hcv := HCv.out wa w.heap.size hca
      go_simp
      refine hK.out _ _ trivial (fun hHeld => ?_)
      clear hK K
      try simp only [Act.put, List.setIfInBounds_toArray, List.set_cons_zero, List.set_cons_succ]
      refine wpAnyH_ready (rs := [2]) (by kernel_rfl) (by simp) ?_
      refine AllReadyH.cons rfl (fun K hK => ?_) AllReadyH.nil
      go_simp
      refine (HI.out _).mono ?_
      rintro e w1 ⟨t, rfl, ht, hb1⟩
      try go_wp2_with fail
      have hB : Below w.heap.size w w1 := hba.trans (hb1.mono hba.size)
      refine hK.out _ _ trivial (fun hHeld => ?_)
      clear hK K
      try simp only [Act.put, List.setIfInBounds_toArray, List.set_cons_zero, List.set_cons_succ]
      have hcs : ¬ 9223372036854775807 < t.size + 1 := by omega
      refine wpAnyH_take (i := 9) (v := ?_) rfl (by kernel_rfl) (by kernel_rfl) (by kernel_rfl) (fun _ _ _ h => h) (Or.inl ⟨by rfl, ?_⟩) (by assumption) ?_
      rotate_left
      · intro w hSw; (try dsimp only at hSw); go_simp; try with_reducible rfl
      try simp only [Act.put, List.setIfInBounds_toArray, List.set_cons_zero, List.set_cons_succ, List.getElem_toArray, List.getElem_cons_zero, List.getElem_cons_succ]
      refine wpAnyH_done (by kernel_rfl) ?_ _
      refine peel_here ?_
      refine wpOp_step rfl (fun K hK => ?_)
      go_simp
      refine hK _ _ ?_
      go_wp2_with fail
      go_ret
      exact ⟨t ++ dg, rfl, by rw [ByteArray.size_append]; omega, hB⟩
theorem number_pos : ∀ (d : Nat) (n : Int) (w : World), d ≤ 20 → 0 ≤ n → n < (10 ^ (d + 1) : Nat) → n ≤ 9223372036854775807 → Calls Try.prog 34 #[.int .i64 n] w (NumPost (d + 1) w) := by
  intro d
  induction d with
  | zero =>
    intro n w _ h0 h1 h2
    refine (number_small n w h0 (by simpa using h1)).mono ?_
    rintro e w' ⟨rfl, hb⟩
    exact ⟨_, rfl, by rw [bs_size]; simp, hb⟩
  | succ d ih =>
    intro n w hd h0 h1 h2
    by_cases h10 : n < 10
    · refine (number_small n w h0 h10).mono ?_
      rintro e w' ⟨rfl, hb⟩
      exact ⟨_, rfl, by rw [bs_size]; simp, hb⟩
    · refine number_step n (d + 1) w (by omega) h2 (by omega) (fun w => ih (n / 10) w (by omega) (by omega) ?_ (by omega))
      have e : (10 ^ (d + 1 + 1) : Nat) = 10 ^ (d + 1) * 10 := Nat.pow_succ ..
      rw [e] at h1
      omega
theorem number_any (n : Int) (w : World) (hn : (Lit.int .i64 n).wf = true) : Calls Try.prog 34 #[.int .i64 n] w (NumPost 20 w) := by
  have hb := bounds_i64 hn
  by_cases h0 : 0 ≤ n
  · refine (number_pos 18 n w (by omega) h0 (by omega) (by omega)).mono ?_
    rintro e w' ⟨t, rfl, ht, hb⟩
    exact ⟨t, rfl, by omega, hb⟩
  · by_cases hm : n = -9223372036854775808
    · subst hm
      have hw : wrap64 9223372036854775808 = -9223372036854775808 := by unfold wrap64; omega
      go_enter Try.func34, Try.ntmps34
      go_wp2_with fail
      go_ret
      exact ⟨_, rfl, by decide, Below.refl _ _⟩
    · have hp := Lib.hid (fun w => number_pos 18 (-n) w (by omega) (by omega) (by omega) (by omega))
      have hwn : IntKind.i64.wrap (-n) = -n := IntWalk.i64_in _ (by omega)
      have hne : ¬ n = -n := by omega
      have hne2 : (n == -n) = false := by simpa using hne
      clear hn
      go_enter Try.func34, Try.ntmps34
      go_wp2_with fail
      refine (hp.out _).mono ?_
      rintro e w' ⟨t, rfl, ht, hb⟩
      go_wp2_with fail
      go_ret
      exact ⟨_, rfl, by rw [ByteArray.size_append]; show 1 + t.size ≤ 20; omega, hb⟩
theorem nu_l1In_any (a b c : Int) (w : World) : Calls Try.prog 35 #[.int .i64 a, .int .i64 b, .int .i64 c] w fun e w' => e = .returned (.bool (decide (b ≤ a ∧ a ≤ c))) ∧ w = w' := by
  go_enter Try.func35, Try.ntmps35
  go_wp2
  all_goals (go_ret; exact ⟨ret_bool (by simp <;> omega), rfl⟩)
end Go.Proofs.Ytaakgdjlbokopaa
