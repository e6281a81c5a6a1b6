/- What is drawn: a walk, a closed walk that grew. No condition. -/
import Derived.Test.YtminclapchnheaaDoorDrawW
import Derived.Test.YtminclapchnheaaDoorSm
namespace Go.Proofs.YtminclapchnheaaDoor
open Go.RowKit
set_option linter.unusedVariables false
set_option linter.unusedSimpArgs false

theorem simpV_all {s : ByteArray} (h : simpV s = true) : s.data.toList.all stepC = true :=
  walkB_all ((Tw.closedB_iff _).1 ((simpV_iff s).1 h).1).1
/-- A walk has been drawn. -/
def WalkPost (w : World) (R : Nat) (a : Option Addr) (len cap : Nat) (zs : List Int) (p q : Int) (m : Nat) (e : Ending) (w' : World) : Prop :=
  ∃ (s : ByteArray) (p' : Int), e = .returned (.string s) ∧ s.size ≤ m ∧ p ≤ p' ∧ p' ≤ p + q ∧ Reader w' R a len cap zs p' ∧ w.grownBy w' (some R)
theorem ext_size (s : ByteArray) (a b : Nat) (h : a ≤ b) (h2 : b ≤ s.size) : (s.extract a b).size = b - a := by
  rw [ByteArray.size_extract]; omega
theorem lit_num {w w2 : World} {R : Nat} {T : TypeId} (x y v : Int) (hg : (w.alloc (.cells #[.int .i64 x, .int .i64 y] T)).grownBy w2 (some R)) (hR : R < w.heap.size) (h0 : 0 ≤ v) (h1 : v < 2) :
    ∃ z : Int, (z = x ∨ z = y) ∧ w2.cell? ⟨w.heap.size, v.toNat, none⟩ = some (.int .i64 z) := by
  have hv : v = 0 ∨ v = 1 := by omega
  rcases hv with rfl | rfl
  · exact ⟨x, .inl rfl, hg.cell (by rw [World.cell?_alloc_new]; simp) (by simp; omega)⟩
  · exact ⟨y, .inr rfl, hg.cell (by rw [World.cell?_alloc_new]; simp) (by simp; omega)⟩
theorem enws4 : ((⟨#[101, 110, 119, 115]⟩ : ByteArray).size : Int) = 4 := rfl
/-- Pieces of a text: what lies ahead of k, one byte, what lies from k on. -/
theorem cut_head (s : ByteArray) (k : Nat) (h : k ≤ s.size) : ∃ t : ByteArray, t.size = k ∧ ∀ wx, (Instr.slice 9 (.string s) none (some (.int .i64 (k : Int))) none).run Tryd.prog wx = .ok (.string t) wx :=
  ⟨s.extract 0 k, by rw [ext_size s 0 k (by omega) h]; omega, fun wx => by have := run_slice_string_h (P := Tryd.prog) wx 9 s Tryd.underlying9 .i64 (k : Int) (by omega) (by omega); simpa using this⟩
theorem cut_tail (s : ByteArray) (k : Int) (h0 : 0 ≤ k) (h : k ≤ s.size) : ∃ t : ByteArray, (t.size : Int) = s.size - k ∧ ∀ wx, (Instr.slice 9 (.string s) (some (.int .i64 k)) none none).run Tryd.prog wx = .ok (.string t) wx := by
  obtain ⟨k, rfl⟩ : ∃ n : Nat, k = n := ⟨k.toNat, by omega⟩
  exact ⟨s.extract k s.size, by rw [ext_size s k _ (by omega) (by omega)]; omega, fun wx => by have := run_slice_string_l (P := Tryd.prog) wx 9 s Tryd.underlying9 .i64 (k : Int) (by omega) (by omega); simpa using this⟩
theorem cut_one (s : ByteArray) (k : Int) (h0 : 0 ≤ k) (h : k + 1 ≤ s.size) : ∃ t : ByteArray, t.size = 1 ∧ ∀ wx, (Instr.slice 9 (.string s) (some (.int .i64 k)) (some (.int .i64 (k + 1))) none).run Tryd.prog wx = .ok (.string t) wx := by
  obtain ⟨k, rfl⟩ : ∃ n : Nat, k = n := ⟨k.toNat, by omega⟩
  refine ⟨s.extract k (k + 1), by rw [ext_size s k _ (by omega) (by omega)]; omega, fun wx => ?_⟩
  have := run_slice_string (P := Tryd.prog) wx 9 s .i64 .i64 (k : Int) ((k : Int) + 1) Tryd.underlying9 (by omega) (by omega) h
  have e1 : ((k : Int) + 1).toNat = k + 1 := by omega
  rw [e1] at this
  simpa using this
set_option maxRecDepth 100000 in
set_option maxHeartbeats 4000000 in
theorem grown_any {R : Nat} {a : Option Addr} {len cap : Nat} {zs : List Int} {p : Int} {w : World} (h : Reader w R a len cap zs p) (h0 : 0 ≤ p) (h1 : p ≤ 1000) :
    Calls Tryd.prog 54 #[.pointer (some ⟨R, 0, none⟩)] w (WalkPost w R a len cap zs p 24 40) := by
  have hR := h.lt
  go_enter Tryd.func54, Tryd.ntmps54
  go_wp2_with fail
  go_loopw [3, 4] (fun o i wr => ∃ (s : ByteArray) (t : Nat) (p' : Int), o = .string s ∧ i = .int .i64 (t : Int) ∧ t ≤ 12 ∧ 4 ≤ s.size ∧ s.size ≤ 40 ∧ Hid (s.data.toList.all stepC = true) ∧ p ≤ p' ∧ p' ≤ p + 2 * t ∧ Reader wr R a len cap zs p' ∧ w.grownBy wr (some R)) (fun _ i _ => 12 - (intOf i).toNat)
  case atStart => exact ⟨⟨#[101, 110, 119, 115]⟩, 0, p, rfl, rfl, by omega, by decide, by decide, Lib.hid (by decide), by omega, by omega, h, World.grownBy.refl _ _⟩
  case round =>
    obtain ⟨s, t, p', rfl, rfl, ht, hs4, hs40, HS, hp0, hp1, hr, hg⟩ := hrel
    have hRr := hr.lt
    have hgs := hg.size
    clear h hR
    by_cases hk : t < 12 ∧ s.size + 2 ≤ 40
    · obtain ⟨ht12, hs38⟩ := hk
      go_wp2_with (first
        | (go_at_call 50; refine (pick_any _ hr (by omega) (by omega) (by omega) (by omega)).mono ?_; rintro e w1 hp; obtain ⟨v, v0, v1, rfl, hr1, hg1, hs1⟩ := hp; obtain ⟨k, rfl⟩ : ∃ k : Nat, v = k := ⟨v.toNat, by omega⟩; have hks : k < s.size := by omega)
        | (go_at_call 40; refine (l4Look_any s[k] _).mono ?_; rintro e w' ⟨rfl, rfl⟩))
      have hd := Tw.dir_bd s[k]
      have hd0 := step_dir HS.out hks
      generalize Tw.dir s[k] = d at *
      refine (pick_any _ (hr1.alloc _) (by omega) (by omega) (by omega) (by omega)).mono ?_
      rintro e w2 hp
      obtain ⟨v2, v20, v21, rfl, hr2, hg2, hs2⟩ := hp
      obtain ⟨z, hz, hcz⟩ := lit_num 1 3 v2 hg2 hr1.lt v20 v21
      have hzb : 1 ≤ z ∧ z ≤ 3 := by omega
      have hgw : w.grownBy w2 (some R) := ((hg.trans hg1).trans (World.grownBy_alloc _ _ _)).trans hg2
      have hgz := hg2.size
      clear hz hg1 hg2 hr1
      go_wp2_with fail
      have ho : 0 ≤ (d + z) % 4 ∧ (d + z) % 4 ≤ 3 := by omega
      have hb : 0 ≤ ((d + z) % 4 + 2) % 4 ∧ ((d + z) % 4 + 2) % 4 ≤ 3 := by omega
      generalize ((d + z) % 4 + 2) % 4 = b at *
      generalize (d + z) % 4 = o at *
      obtain ⟨tA, zA, hA⟩ := cut_head s k (by omega)
      obtain ⟨tO, zO, hO⟩ := cut_one ⟨#[101, 110, 119, 115]⟩ o ho.1 (by rw [enws4]; omega)
      obtain ⟨tM, zM, hM⟩ := cut_one s (k : Int) (by omega) (by omega)
      obtain ⟨tB, zB, hBb⟩ := cut_one ⟨#[101, 110, 119, 115]⟩ b hb.1 (by rw [enws4]; omega)
      obtain ⟨tE, zE, hE⟩ := cut_tail s ((k : Int) + 1) (by omega) (by omega)
      have hwr : IntKind.i64.wrap ((k : Int) + 1) = (k : Int) + 1 := IntWalk.i64_in _ (by omega)
      go_quiet (fail)
      go_wp2_with fail
      have hT : (tA ++ tO ++ tM ++ tB ++ tE).size = s.size + 2 := by simp only [ByteArray.size_append]; omega
      clear hA hO hM hBb hE hcz
      generalize tA ++ tO ++ tM ++ tB ++ tE = T at *
      refine (simpleOk_spec T _ (by unfold maxLen; omega)).mono ?_
      rintro e w3 ⟨rfl, hb3⟩
      have hr3 : Reader w3 R a len cap zs (p' + 1 + 1) := (hr2.same (below_drewN (Below.refl _ _) _)).same hb3
      have hg3 : w.grownBy w3 (some R) := (hgw.trans (grownBy_of_below' (below_drewN (Below.refl _ _) _) _)).trans (grownBy_of_below' hb3 _)
      cases hsi : simpV T
      · go_wp2_with fail
        exact ⟨⟨s, t + 1, p' + 1 + 1, rfl, by go_num, by omega, by omega, by omega, HS, by omega, by omega, hr3, hg3⟩, by simp [intOf]; omega⟩
      · have HT := Lib.hid (simpV_all hsi)
        go_wp2_with fail
        exact ⟨⟨T, t + 1, p' + 1 + 1, rfl, by go_num, by omega, by omega, by omega, HT, by omega, by omega, hr3, hg3⟩, by simp [intOf]; omega⟩
    · by_cases ht12 : t < 12
      · have hs39 : 40 < s.size + 2 := by omega
        go_wp2_with fail
        go_ret
        exact ⟨s, p', rfl, by omega, by omega, by omega, hr, hg⟩
      · go_wp2_with fail
        go_ret
        exact ⟨s, p', rfl, by omega, by omega, by omega, hr, hg⟩
/-- A letter out of the four. -/
theorem lit_steps {w w2 : World} {R : Nat} {T : TypeId} {v : Int} (hg : (w.alloc (.cells #[.string ⟨#[101]⟩, .string ⟨#[110]⟩, .string ⟨#[119]⟩, .string ⟨#[115]⟩] T)).grownBy w2 (some R)) (hR : R < w.heap.size) (h0 : 0 ≤ v) (h1 : v < 4) :
    ∃ t : ByteArray, w2.cell? ⟨w.heap.size, v.toNat, none⟩ = some (.string t) ∧ t.size = 1 ∧ Hid (t.data.toList.all stepC = true) := by
  have hv : v = 0 ∨ v = 1 ∨ v = 2 ∨ v = 3 := by omega
  rcases hv with rfl | rfl | rfl | rfl
  · exact ⟨⟨#[101]⟩, hg.cell (by rw [World.cell?_alloc_new]; simp) (by simp; omega), rfl, Lib.hid (by decide)⟩
  · exact ⟨⟨#[110]⟩, hg.cell (by rw [World.cell?_alloc_new]; simp) (by simp; omega), rfl, Lib.hid (by decide)⟩
  · exact ⟨⟨#[119]⟩, hg.cell (by rw [World.cell?_alloc_new]; simp) (by simp; omega), rfl, Lib.hid (by decide)⟩
  · exact ⟨⟨#[115]⟩, hg.cell (by rw [World.cell?_alloc_new]; simp) (by simp; omega), rfl, Lib.hid (by decide)⟩
end Go.Proofs.YtminclapchnheaaDoor
