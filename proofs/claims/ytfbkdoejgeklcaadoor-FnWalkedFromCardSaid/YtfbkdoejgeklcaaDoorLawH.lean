/- The law FnWalkedOf answers true. Condition: the table of directions holds what the program's text lays. -/
import Derived.Test.YtfbkdoejgeklcaaDoorLawG
namespace Go.Proofs.YtfbkdoejgeklcaaDoor
open Go.RowKit
set_option linter.unusedVariables false
set_option linter.unusedSimpArgs false

theorem fs_step (s : ByteArray) (k : Nat) (h : k < s.size) : Tw.fs (s.data.toList.take (k + 1)) = Tw.fs (s.data.toList.take k) + (if (s[k].toNat : Int) = 70 then 1 else 0) := by
  have e2 : s[k] = 70 ↔ (s[k].toNat : Int) = 70 := byte_eq s[k] 70 (by omega)
  rw [take_snoc s k h, Tw.fs_append, Tw.fs_cons, Tw.fs_nil]
  simp only [e2]; omega
theorem fs_bd (s : ByteArray) (k : Nat) : 0 ≤ Tw.fs (s.data.toList.take k) ∧ Tw.fs (s.data.toList.take k) ≤ k := by
  have h1 := Tw.fs_nonneg (s.data.toList.take k)
  have h2 := Tw.fs_le (s.data.toList.take k)
  have h3 := List.length_take_le k s.data.toList
  omega
theorem look_tmod (n : Int) (h0 : -1000 ≤ n) (h1 : n ≤ 1000) : (wrap64 (n.tmod 4 + 4)).tmod 4 = n % 4 := by
  have hw : ∀ m : Int, -1000 ≤ m → m ≤ 1000 → wrap64 m = m := fun m a b => by unfold wrap64; omega
  by_cases hn : 0 ≤ n
  · rw [Int.tmod_eq_emod_of_nonneg hn, hw _ (by omega) (by omega), Int.tmod_eq_emod_of_nonneg (by omega)]; omega
  · have e : n.tmod 4 = -((-n) % 4) := by
      have : n = -(-n) := by omega
      rw [this, Int.neg_tmod, Int.tmod_eq_emod_of_nonneg (by omega)]
      simp
    rw [e, hw _ (by omega) (by omega), Int.tmod_eq_emod_of_nonneg (by omega)]; omega
set_option maxRecDepth 100000 in
set_option maxHeartbeats 2000000 in
theorem law_FnWalkedOf (a : Option Addr) (len cap : Nat) (zs : List Int) (w : World) (h : IsRow w a len cap zs) (hd : Dirs w) : Calls Tryd.prog 5 #[.slice a len cap] w fun e w' => e = .returned (.bool true) ∧ Below w.heap.size w w' := by
  have hdr := drawWalkedOf h
  have HDR := Lib.hid hdr; clear hdr h
  have HD := Lib.hid hd; clear hd
  go_enter Tryd.func5, Tryd.ntmps5
  go_wp2_with (go_at_call 15; refine HDR.out.mono ?_; rintro e w1 hp; obtain ⟨s, rfl, hs, hB1⟩ := hp)
  · go_ret
    exact ⟨rfl, Below.refl _ _⟩
  · have hm : s.size ≤ maxLen := by unfold maxLen; omega
    have hd1 := Dirs.below hB1 HD.out.lt HD.out
    have c1 := walkedOf_impl s w1 hd1 hm
    have c2 := fun w => walkedOf_spec s w hm
    have c3 := fun w => turnsOf_impl s w hm
    clear hd1
    cases hb : Tw.wordB s.data.toList
    · have hw : wfB ⟨0, 0, 0⟩ s = false := by unfold wfB; rw [hb]; simp
      have hT : wfT ⟨0, 0, 0⟩ s = ⟨0, 0, 0⟩ := by unfold wfT; rw [hw]; rfl
      rw [hw, hT] at c1 c2
      have C1 := Lib.hid c1; clear c1
      have C2 := Lib.hid c2; clear c2 c3 hb hm hw hT
      refine C1.out.mono ?_
      rintro e w2 ⟨rfl, hb2⟩
      have hB2 := Below.up hB1 hB1.size hb2
      have t2 := Cells3.new w2 (.int .i64 0) (.int .i64 0) (.int .i64 0) 24
      go_wp2_with fail
      refine (C2.out _).mono ?_
      rintro e w3 ⟨rfl, hb3⟩
      have t3 := t2.below hb3 (by exact t2.lt)
      have hB3 := Below.up (hB2.alloc hB2.size (.cells #[.int .i64 0, .int .i64 0, .int .i64 0] 24)) (by have := hB2.size; simp; omega) hb3
      have hl3 := t3.lt
      clear hb3 t2 hB2 hb2
      obtain ⟨⟨ta, tb, tc⟩, td, te, tf⟩ := t3
      go_wp2_with (go_at_call 14; refine (alive_any _).mono ?_; rintro e w' ⟨rfl, rfl⟩)
      go_ret
      exact ⟨rfl, hB3.alloc hB3.size _⟩
    · have hall := wordB_all hb
      obtain ⟨T, hT⟩ : ∃ T, T = Tw.run ⟨0, 0, 0⟩ s.data.toList := ⟨_, rfl⟩
      have n0 : Near ⟨0, 0, 0⟩ 0 := by unfold Near; simp only; omega
      have nT : Near T 40 := by rw [hT]; exact (n0.run _).mono (by rw [bytes_len]; omega)
      have f1 := wf_told (t := ⟨0, 0, 0⟩) (s := s) (tok_of (n0.mono (by omega))) hb (by rw [← hT]; exact tok_of (nT.mono (by omega)))
      rw [← hT] at f1
      rw [f1.1, f1.2] at c1 c2
      rw [turnsV_word hb, hb] at c3
      have g1 := Tw.run_steps s.data.toList ⟨0, 0, 0⟩
      have g2 := Tw.run_parity s.data.toList ⟨0, 0, 0⟩ (by simp only; omega)
      have g3 := Tw.run_look s.data.toList ⟨0, 0, 0⟩ hall (by simp only; omega)
      rw [← hT] at g1 g2 g3
      have g4 := Tw.turns_bd s.data.toList
      rw [bytes_len] at g4
      have C1 := Lib.hid c1; clear c1
      have C2 := Lib.hid c2; clear c2
      have C3 := Lib.hid c3; clear c3 hb hm f1 hT n0
      obtain ⟨x0, x1, y0, y1, k0, k1⟩ := nT
      have G1 := Lib.hid g1; have G2 := Lib.hid g2; have G3 := Lib.hid g3
      clear g1 g2 g3
      refine C1.out.mono ?_
      rintro e w2 ⟨rfl, hb2⟩
      have hB2 := Below.up hB1 hB1.size hb2
      have t2 := Cells3.new w2 (.int .i64 T.x) (.int .i64 T.y) (.int .i64 T.k) 24
      go_wp2_with fail
      refine (C2.out _).mono ?_
      rintro e w3 ⟨rfl, hb3⟩
      have t3 := t2.below hb3 (by exact t2.lt)
      have hB3 := Below.up (hB2.alloc hB2.size (.cells #[.int .i64 T.x, .int .i64 T.y, .int .i64 T.k] 24)) (by have := hB2.size; simp; omega) hb3
      have hl3 := t3.lt
      clear hb3 t2 hB2 hb2
      obtain ⟨⟨ta, tb, tc⟩, td, te, tf⟩ := t3
      go_wp2_with fail
      go_loop [8, 9] (fun n i => ∃ k : Nat, k ≤ s.size ∧ i = .int .i64 k ∧ n = .int .i64 (Tw.fs (s.data.toList.take k))) (fun _ i => s.size - (intOf i).toNat)
      case atStart => exact ⟨0, Nat.zero_le _, rfl, rfl⟩
      case round =>
        obtain ⟨k, hk, rfl, rfl⟩ := hrel
        have hfb := fs_bd s k
        by_cases hlt : k < s.size
        · have hst := fs_step s k hlt
          have HS := Lib.hid hst; clear hst
          go_wp2_with fail
          all_goals exact ⟨⟨k + 1, by omega, by go_num, int_eq (by rw [HS.out]; simp only [bne_iff_ne, beq_iff_eq, bne_eq_false_iff_eq, beq_eq_false_iff_ne, ne_eq] at *; simp [*]; try omega)⟩, by simp [intOf]; omega⟩
        · obtain rfl : k = s.size := by omega
          rw [take_all] at hfb ⊢
          go_wp2_with (first
            | (go_at_call 18; refine (C3.out _).mono ?_; rintro e w' ⟨rfl, rfl⟩)
            | (go_at_call 14; refine (alive_any _).mono ?_; rintro e w' ⟨rfl, rfl⟩))
          all_goals
            go_ret
            first
              | exact ⟨rfl, hB3.alloc hB3.size _⟩
              | (exfalso
                 have g1 := G1.out
                 have g2 := G2.out
                 have g3 := G3.out
                 have g5 := look_tmod (Tw.turns s.data.toList) (by omega) (by omega)
                 unfold Tw.far Tw.nrm at g1
                 simp only at g1
                 split at g1 <;> split at g1 <;> omega)
end Go.Proofs.YtfbkdoejgeklcaaDoor
