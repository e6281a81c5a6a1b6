/- What is drawn: a walk. No condition. -/
import Derived.Test.YtminclapchnheaaDoorDrawK
namespace Go.Proofs.YtminclapchnheaaDoor
open Go.RowKit
set_option linter.unusedVariables false
set_option linter.unusedSimpArgs false

theorem at_in (j o n : Nat) (hj : j ≤ 8) (ho : o ≤ 4) (hn : 0 < n) : 0 ≤ (wrap64 (wrap64 ((j : Int) * (2 * (o : Int) + 1)) + (o : Int))).tmod (n : Int) ∧ (wrap64 (wrap64 ((j : Int) * (2 * (o : Int) + 1)) + (o : Int))).tmod (n : Int) < (n : Int) := by
  have hprod : j * (2 * o + 1) ≤ 8 * 9 := Nat.mul_le_mul hj (by omega)
  have e : ((j : Int) * (2 * (o : Int) + 1)) = ((j * (2 * o + 1) : Nat) : Int) := by push_cast; rfl
  rw [e]
  generalize j * (2 * o + 1) = P at hprod
  rw [wrap64_is (P : Int) (by omega) (by omega), wrap64_is ((P : Int) + (o : Int)) (by omega) (by omega)]
  exact ⟨Int.tmod_nonneg _ (by omega), Int.tmod_lt_of_pos _ (by omega)⟩
set_option maxRecDepth 100000 in
set_option maxHeartbeats 8000000 in
theorem walk_any (n : Int) {R : Nat} {a : Option Addr} {len cap : Nat} {zs : List Int} {p : Int} {w : World} (h : Reader w R a len cap zs p) (h0 : 0 ≤ p) (h1 : p ≤ 900) (hn : 1 ≤ n) (hn2 : n ≤ 1000000) :
    Calls Tryd.prog 47 #[.pointer (some ⟨R, 0, none⟩), .int .i64 n] w (WalkPost w R a len cap zs p 100 41) := by
  have hR := h.lt
  go_enter Tryd.func47, Tryd.ntmps47
  go_wp2_with fail
  refine (pick_any _ h h0 (by omega) (by omega) (by omega)).mono ?_
  rintro e w1 hp
  obtain ⟨v, v0, v1, rfl, hr1, hg1, hs1⟩ := hp
  have hR1 := hr1.lt
  clear h hR
  have hv : v = 0 ∨ v = 1 ∨ v = 2 ∨ 3 ≤ v := by omega
  rcases hv with rfl | rfl | rfl | hv3
  · go_wp2_with (go_at_call 50; refine (pick_any _ hr1 (by omega) (by omega) (by omega) (by omega)).mono ?_; rintro e w2 hp; obtain ⟨v2, v20, v21, rfl, hr2, hg2, hs2⟩ := hp)
    have hg2' := hg1.trans hg2
    clear hr1 hg1 hg2 hR1
    go_loopw [5, 6] (fun o i wr => ∃ (s : ByteArray) (k p' : Int), o = .string s ∧ i = .int .i64 k ∧ 0 ≤ k ∧ (s.size : Int) + k ≤ 11 ∧ p ≤ p' ∧ p' + k ≤ p + 20 ∧ Reader wr R a len cap zs p' ∧ w.grownBy wr (some R)) (fun _ i _ => (intOf i).toNat)
    case atStart => exact ⟨_, v2, p + 1 + 1, rfl, rfl, v20, by show ((0 : Nat) : Int) + v2 ≤ 11; omega, by omega, by omega, hr2, hg2'⟩
    case round =>
      obtain ⟨s, k, p', rfl, rfl, hk0, hsk, hp0, hp1, hrT, hgT⟩ := hrel
      have hRr := hrT.lt
      have hgs := hgT.size
      clear hr2 hg2'
      by_cases hk : 0 < k
      · go_wp2_with (go_at_call 50; refine (pick_any _ (hrT.alloc _) (by omega) (by omega) (by omega) (by omega)).mono ?_; rintro e w3 hp; obtain ⟨v3, v30, v31, rfl, hr3, hg3, hs3⟩ := hp; obtain ⟨t, ht, hts⟩ := lit_any [⟨#[101]⟩, ⟨#[110]⟩, ⟨#[119]⟩, ⟨#[115]⟩] 1 hg3 hRr v30 v31 (by decide))
        have hgw : w.grownBy w3 (some R) := (hgT.trans (World.grownBy_alloc _ _ _)).trans hg3
        exact ⟨⟨s ++ t, k - 1, p' + 1, rfl, rfl, by omega, by rw [ByteArray.size_append]; omega, by omega, by omega, hr3, hgw⟩, by simp [intOf]; omega⟩
      · have hs40 : s.size ≤ 40 := by omega
        go_wp2_with (first
          | (go_at_call 55; refine (odd_any _ hrT (by omega) (by omega) hn hn2).mono ?_; rintro e wa hp; obtain ⟨bo, rfl, hra, hga, hsa⟩ := hp)
          | (go_at_call 50; refine (pick_any _ (hra.alloc _) (by omega) (by omega) (by omega) (by omega)).mono ?_; rintro e wb hp; obtain ⟨vb, vb0, vb1, rfl, hrb, hgb, hsb⟩ := hp; obtain ⟨tb, htb, htbs⟩ := lit_any [⟨#[120]⟩, ⟨#[69]⟩] 1 hgb hra.lt vb0 vb1 (by decide)))
        · go_ret
          exact ⟨s ++ tb, p' + 1 + 1, rfl, by rw [ByteArray.size_append]; omega, by omega, by omega, hrb, ((hgT.trans hga).trans (World.grownBy_alloc _ _ _)).trans hgb⟩
        · go_ret
          exact ⟨s, p' + 1, rfl, by omega, by omega, by omega, hra, hgT.trans hga⟩
  · go_wp2_with fail
    refine (pick_any _ hr1 (by omega) (by omega) (by omega) (by omega)).mono ?_
    rintro e w2 hp
    obtain ⟨va, va0, va1, rfl, hr2, hg2, hs2⟩ := hp
    go_wp2_with fail
    refine (pick_any _ hr2 (by omega) (by omega) (by omega) (by omega)).mono ?_
    rintro e w3 hp
    obtain ⟨vb', vb0', vb1', rfl, hr3, hg3, hs3⟩ := hp
    have hg3' := (hg1.trans hg2).trans hg3
    clear hr1 hg1 hr2 hg2 hg3 hR1
    obtain ⟨x, rfl⟩ : ∃ x : Nat, va = x := ⟨va.toNat, by omega⟩
    obtain ⟨y, rfl⟩ : ∃ x : Nat, vb' = x := ⟨vb'.toNat, by omega⟩
    go_wp2_with fail
    go_loopw [5, 9] (fun o i wr => ∃ (s : ByteArray) (k : Nat), o = .string s ∧ i = .int .i64 (k : Int) ∧ s.size = k ∧ k ≤ 2 * ((1 + x) + (1 + y)) ∧ Reader wr R a len cap zs (p + 1 + 1 + 1) ∧ w.grownBy wr (some R)) (fun _ i _ => 2 * ((1 + x) + (1 + y)) - (intOf i).toNat)
    case atStart => exact ⟨⟨#[]⟩, 0, rfl, rfl, rfl, by omega, hr3, hg3'⟩
    case round =>
      obtain ⟨s, k, rfl, rfl, hsz, hk, hrT, hgT⟩ := hrel
      have hRr := hrT.lt
      have hgs := hgT.size
      clear hr3 hg3'
      by_cases hkk : k < 2 * ((1 + x) + (1 + y))
      · go_wp2_with fail
        · exact ⟨⟨_, k + 1, rfl, by go_num, by rw [ByteArray.size_append, hsz]; rfl, by omega, hrT, hgT⟩, by simp [intOf]; omega⟩
        · exact ⟨⟨_, k + 1, rfl, by go_num, by rw [ByteArray.size_append, hsz]; rfl, by omega, hrT, hgT⟩, by simp [intOf]; omega⟩
        · exact ⟨⟨_, k + 1, rfl, by go_num, by rw [ByteArray.size_append, hsz]; rfl, by omega, hrT, hgT⟩, by simp [intOf]; omega⟩
        · exact ⟨⟨_, k + 1, rfl, by go_num, by rw [ByteArray.size_append, hsz]; rfl, by omega, hrT, hgT⟩, by simp [intOf]; omega⟩
      · have hs40 : s.size ≤ 40 := by omega
        go_wp2_with (first
          | (go_at_call 55; refine (odd_any _ hrT (by omega) (by omega) hn hn2).mono ?_; rintro e wa hp; obtain ⟨bo, rfl, hra, hga, hsa⟩ := hp)
          | (go_at_call 50; refine (pick_any _ (hra.alloc _) (by omega) (by omega) (by omega) (by omega)).mono ?_; rintro e wb hp; obtain ⟨vb, vb0, vb1, rfl, hrb, hgb, hsb⟩ := hp; obtain ⟨tb, htb, htbs⟩ := lit_any [⟨#[120]⟩, ⟨#[69]⟩] 1 hgb hra.lt vb0 vb1 (by decide)))
        · go_ret
          exact ⟨s ++ tb, (p + 1 + 1 + 1) + 1 + 1, rfl, by rw [ByteArray.size_append]; omega, by omega, by omega, hrb, ((hgT.trans hga).trans (World.grownBy_alloc _ _ _)).trans hgb⟩
        · go_ret
          exact ⟨s, (p + 1 + 1 + 1) + 1, rfl, by omega, by omega, by omega, hra, hgT.trans hga⟩
  · go_wp2_with fail
    refine (grown_any (p := p + 1) hr1 (by omega) (by omega)).mono ?_
    rintro e w2 hp
    obtain ⟨s, p', rfl, hs40, hp0, hp1, hrT, hg2⟩ := hp
    have hgT := hg1.trans hg2
    clear hr1 hg1 hg2 hR1
    go_wp2_with (first
      | (go_at_call 55; refine (odd_any _ hrT (by omega) (by omega) hn hn2).mono ?_; rintro e wa hp; obtain ⟨bo, rfl, hra, hga, hsa⟩ := hp)
      | (go_at_call 50; refine (pick_any _ (hra.alloc _) (by omega) (by omega) (by omega) (by omega)).mono ?_; rintro e wb hp; obtain ⟨vb, vb0, vb1, rfl, hrb, hgb, hsb⟩ := hp; obtain ⟨tb, htb, htbs⟩ := lit_any [⟨#[120]⟩, ⟨#[69]⟩] 1 hgb hra.lt vb0 vb1 (by decide)))
    · go_ret
      exact ⟨s ++ tb, p' + 1 + 1, rfl, by rw [ByteArray.size_append]; omega, by omega, by omega, hrb, ((hgT.trans hga).trans (World.grownBy_alloc _ _ _)).trans hgb⟩
    · go_ret
      exact ⟨s, p' + 1, rfl, by omega, by omega, by omega, hra, hgT.trans hga⟩
  · go_wp2_with fail
    refine (pick_any _ hr1 (by omega) (by omega) (by omega) (by omega)).mono ?_
    rintro e w2 hp
    obtain ⟨v2, v20, v21, rfl, hr2, hg2, hs2⟩ := hp
    have hg2' := hg1.trans hg2
    clear hr1 hg1 hg2 hR1
    go_wp2_with fail
    go_loopw [10, 11] (fun o i wr => ∃ (s : ByteArray) (k p' : Int), o = .string s ∧ i = .int .i64 k ∧ 0 ≤ k ∧ (s.size : Int) + k ≤ 8 ∧ Hid (s.data.toList.all stepC = true) ∧ p ≤ p' ∧ p' + k ≤ p + 20 ∧ Reader wr R a len cap zs p' ∧ w.grownBy wr (some R)) (fun _ i _ => (intOf i).toNat)
    case atStart => exact ⟨⟨#[]⟩, 1 + v2, p + 1 + 1, rfl, rfl, by omega, by show ((0 : Nat) : Int) + (1 + v2) ≤ 8; omega, Lib.hid rfl, by omega, by omega, hr2, hg2'⟩
    case round =>
      obtain ⟨s, k, p', rfl, rfl, hk0, hsk, HS, hp0, hp1, hrL, hgL⟩ := hrel
      have hRr := hrL.lt
      have hgs := hgL.size
      clear hr2 hg2'
      by_cases hk : 0 < k
      · go_wp2_with (go_at_call 50; refine (pick_any _ (hrL.alloc _) (by omega) (by omega) (by omega) (by omega)).mono ?_; rintro e w3 hp; obtain ⟨v3, v30, v31, rfl, hr3, hg3, hs3⟩ := hp; obtain ⟨t, ht, hts, hta⟩ := lit_steps hg3 hRr v30 v31)
        have hgw : w.grownBy w3 (some R) := (hgL.trans (World.grownBy_alloc _ _ _)).trans hg3
        exact ⟨⟨s ++ t, k - 1, p' + 1, rfl, rfl, by omega, by rw [ByteArray.size_append]; omega, Lib.hid (by rw [app_list, List.all_append, HS.out, hta.out]; rfl), by omega, by omega, hr3, hgw⟩, by simp [intOf]; omega⟩
      · go_wp2_with fail
        refine (pick_any _ hrL (by omega) (by omega) (by omega) (by omega)).mono ?_
        rintro e w4 hp
        obtain ⟨vo, vo0, vo1, rfl, hr4, hg4, hs4⟩ := hp
        obtain ⟨o, rfl⟩ : ∃ x : Nat, vo = x := ⟨vo.toNat, by omega⟩
        have hg4' := hgL.trans hg4
        clear hrL hgL hg4
        go_wp2_with fail
        have hs8 : s.size ≤ 8 := by omega
        go_loopw [5, 13, 14, 15] (fun u i x y wr => ∃ (q : ByteArray) (j : Nat), u = .string q ∧ i = .int .i64 (j : Int) ∧ j ≤ s.size ∧ q.size = s.size + j ∧ Reader wr R a len cap zs (p' + 1) ∧ w.grownBy wr (some R)) (fun _ i _ _ _ => s.size - (intOf i).toNat)
        case atStart => exact ⟨s, 0, rfl, rfl, by omega, rfl, hr4, hg4'⟩
        case round =>
          obtain ⟨q, j, rfl, rfl, hj, hq, hrT, hgT⟩ := hrel
          have hRt := hrT.lt
          have hgt := hgT.size
          clear hr4 hg4'
          by_cases hjs : j < s.size
          · have HX : Hid (0 ≤ (wrap64 (wrap64 ((j : Int) * (2 * (o : Int) + 1)) + (o : Int))).tmod (s.size : Int) ∧ (wrap64 (wrap64 ((j : Int) * (2 * (o : Int) + 1)) + (o : Int))).tmod (s.size : Int) < (s.size : Int)) := by
              exact Lib.hid (at_in j o s.size (by omega) (by omega) (by omega))
            have HDD : Hid (∀ (i : Nat) (h : i < s.size), 0 ≤ Tw.dir s[i] ∧ Tw.dir s[i] ≤ 3) := Lib.hid (fun i h => ⟨step_dir HS.out h, (Tw.dir_bd s[i]).2⟩)
            have hnz : ¬ (s.size : Int) = 0 := by omega
            have hnq : ¬ (2 * (o : Int) + 1) = 0 := by omega
            go_wp2_with fail
            all_goals try (exact absurd HX.out (by assumption))
            all_goals
              refine (l4Look_any _ _).mono ?_
              rintro e w' ⟨rfl, rfl⟩
              generalize hd : Tw.dir _ = d
              have hdb : 0 ≤ d ∧ d ≤ 3 := by rw [← hd]; exact HDD.out _ _
              clear hd
              obtain ⟨tj, zj, hcj⟩ := cut_one ⟨#[101, 110, 119, 115]⟩ ((d + 2) % 4) (by omega) (by rw [enws4]; omega)
              go_wp2_with fail
              exact ⟨⟨_, j + 1, rfl, by go_num, by omega, by rw [ByteArray.size_append]; omega, hrT, hgT⟩, by simp [intOf]; omega⟩
          · have hs40 : q.size ≤ 40 := by omega
            go_wp2_with (first
              | (go_at_call 55; refine (odd_any _ hrT (by omega) (by omega) hn hn2).mono ?_; rintro e wa hp; obtain ⟨bo, rfl, hra, hga, hsa⟩ := hp)
              | (go_at_call 50; refine (pick_any _ (hra.alloc _) (by omega) (by omega) (by omega) (by omega)).mono ?_; rintro e wb hp; obtain ⟨vb, vb0, vb1, rfl, hrb, hgb, hsb⟩ := hp; obtain ⟨tb, htb, htbs⟩ := lit_any [⟨#[120]⟩, ⟨#[69]⟩] 1 hgb hra.lt vb0 vb1 (by decide)))
            · go_ret
              exact ⟨q ++ tb, (p' + 1) + 1 + 1, rfl, by rw [ByteArray.size_append]; omega, by omega, by omega, hrb, ((hgT.trans hga).trans (World.grownBy_alloc _ _ _)).trans hgb⟩
            · go_ret
              exact ⟨q, (p' + 1) + 1, rfl, by omega, by omega, by omega, hra, hgT.trans hga⟩
theorem drawClosedOk {a : Option Addr} {len cap : Nat} {zs : List Int} {w : World} (h : IsRow w a len cap zs) : Calls Tryd.prog 25 #[.slice a len cap] w (TextPost w 41) := by
  have ho := open_any h
  have HO := Lib.hid ho; clear ho h
  go_enter Tryd.func25, Tryd.ntmps25
  go_wp2_with (first
    | (go_at_call 48; refine HO.out.mono ?_; rintro e w1 hp; obtain ⟨R, a1, len1, cap1, rfl, hR, hr1, hB1⟩ := hp)
    | (go_at_call 47; refine (walk_any (p := 0) _ hr1 (by omega) (by omega) (by omega) (by omega)).mono ?_; rintro e w2 hp; obtain ⟨s, p', rfl, hs, hp0, hp1, hr2, hg2⟩ := hp))
  go_ret
  exact ⟨s, rfl, hs, below_drawn hB1 hR hg2⟩
theorem drawSimpleOk {a : Option Addr} {len cap : Nat} {zs : List Int} {w : World} (h : IsRow w a len cap zs) : Calls Tryd.prog 33 #[.slice a len cap] w (TextPost w 41) := by
  have ho := open_any h
  have HO := Lib.hid ho; clear ho h
  go_enter Tryd.func33, Tryd.ntmps33
  go_wp2_with (first
    | (go_at_call 48; refine HO.out.mono ?_; rintro e w1 hp; obtain ⟨R, a1, len1, cap1, rfl, hR, hr1, hB1⟩ := hp)
    | (go_at_call 47; refine (walk_any (p := 0) _ hr1 (by omega) (by omega) (by omega) (by omega)).mono ?_; rintro e w2 hp; obtain ⟨s, p', rfl, hs, hp0, hp1, hr2, hg2⟩ := hp))
  go_ret
  exact ⟨s, rfl, hs, below_drawn hB1 hR hg2⟩
theorem drawPlacesOf {a : Option Addr} {len cap : Nat} {zs : List Int} {w : World} (h : IsRow w a len cap zs) : Calls Tryd.prog 30 #[.slice a len cap] w (TextPost w 41) := by
  have ho := open_any h
  have HO := Lib.hid ho; clear ho h
  go_enter Tryd.func30, Tryd.ntmps30
  go_wp2_with (first
    | (go_at_call 48; refine HO.out.mono ?_; rintro e w1 hp; obtain ⟨R, a1, len1, cap1, rfl, hR, hr1, hB1⟩ := hp)
    | (go_at_call 47; refine (walk_any (p := 0) _ hr1 (by omega) (by omega) (by omega) (by omega)).mono ?_; rintro e w2 hp; obtain ⟨s, p', rfl, hs, hp0, hp1, hr2, hg2⟩ := hp))
  go_ret
  exact ⟨s, rfl, hs, below_drawn hB1 hR hg2⟩
end Go.Proofs.YtminclapchnheaaDoor
