/- A set of places, as the program keeps it: are all places of a list different? Law about the program's function; no condition. -/
import Derived.Test.YtminclapchnheaaDoorPa
import Derived.Maps.OwnSet
import Derived.DeepKeys4
import Derived.WideKeyPair
namespace Go.Proofs.YtminclapchnheaaDoor
open Go.RowKit
open Go.Maps (Keyed setOf setOf_snoc size_setOf addKey)
set_option linter.unusedVariables false
set_option linter.unusedSimpArgs false

/-- The key of a place. -/
def kl (p : Tw.Pl) : Lit := .string (keyBytes [.int .i64 p.x, .int .i64 p.y])
theorem kl_key (p : Tw.Pl) : WideAt.IsKeyLit (kl p) := trivial
theorem ad_laidOut : laidOutB Tryd.prog = true := by kernel_rfl
theorem ad_law : WideMaps.KeyLaw Tryd.prog 40 := deep_law_laid ad_laidOut (m := 2) (by omega) (of_decide_eq_true (by kernel_rfl)) (by kernel_rfl) (by rw [Tryd.underlying40])
theorem ad_keyed : Keyed Tryd.prog 40 := Keyed.of_law ad_law
theorem ad_arr : WideMaps.ArrKey Tryd.prog 40 3 2 := ⟨Tryd.underlying40, by kernel_rfl, by kernel_rfl, by kernel_rfl⟩
def near (p : Tw.Pl) : Prop := -2000000 ≤ p.x ∧ p.x ≤ 2000000 ∧ -2000000 ≤ p.y ∧ p.y ≤ 2000000
theorem ad_wf {n : Int} (h0 : -2000000 ≤ n) (h1 : n ≤ 2000000) : (Lit.int .i64 n).wf = true := by
  simp [Lit.wf, IntKind.min, IntKind.max, IntKind.signed, IntKind.bits]
  omega
theorem kl_of {p : Tw.Pl} (h : near p) : keyOf Tryd.prog 40 (pv p) = some (kl p) :=
  WideMaps.keyOf_pair ad_arr Tryd.underlying3 ⟨Tryd.prog.types.size - 1, by kernel_rfl⟩ (ad_wf h.1 h.2.1) (ad_wf h.2.2.1 h.2.2.2)
theorem kl_inj {p q : Tw.Pl} (hp : near p) (hq : near q) (h : kl p = kl q) : p = q := by
  have e := ad_keyed.inj (kl_of hp) (by rw [h]; exact kl_of hq)
  unfold pv at e
  simp at e
  exact Tw.pl_ext e.1 e.2
/-! ### how many different ones there are -/
theorem addKey_in {acc : List Lit} {x : Lit} (hk : WideAt.IsKeyLit x) (h : x ∈ acc) : addKey acc x = acc := by
  unfold addKey
  have hh : (acc.any fun y => y.sameKey x) = true := List.any_eq_true.2 ⟨x, h, WideAt.sameKey_self hk⟩
  rw [if_pos hh]
theorem addKey_out {acc : List Lit} {x : Lit} (h : x ∉ acc) : addKey acc x = acc ++ [x] := by
  unfold addKey
  rw [if_neg]
  intro hh
  obtain ⟨y, hy, e⟩ := List.any_eq_true.1 hh
  exact h (WideAt.sameKey_eq e ▸ hy)
theorem fold_le : ∀ (xs acc : List Lit), (xs.foldl addKey acc).length ≤ acc.length + xs.length
  | [], acc => by simp
  | x :: r, acc => by
    have := fold_le r (addKey acc x)
    have h2 : (addKey acc x).length ≤ acc.length + 1 := by unfold addKey; split <;> simp
    simp only [List.foldl_cons, List.length_cons]
    omega
theorem fold_eq : ∀ (xs acc : List Lit), (∀ x ∈ xs, WideAt.IsKeyLit x) → ((xs.foldl addKey acc).length = acc.length + xs.length ↔ (∀ x ∈ xs, x ∉ acc) ∧ xs.Nodup)
  | [], acc, _ => by simp
  | x :: r, acc, hk => by
    have hkx := hk x (by simp)
    simp only [List.foldl_cons, List.length_cons]
    by_cases h : x ∈ acc
    · rw [addKey_in hkx h]
      have := fold_le r acc
      constructor
      · intro e; omega
      · rintro ⟨h1, -⟩; exact absurd h (h1 x (by simp))
    · rw [addKey_out h]
      have ih := fold_eq r (acc ++ [x]) (fun y hy => hk y (by simp [hy]))
      rw [List.length_append, List.length_singleton] at ih
      rw [show acc.length + (r.length + 1) = acc.length + 1 + r.length by omega, ih, List.nodup_cons]
      constructor
      · rintro ⟨h1, h2⟩
        refine ⟨fun y hy => ?_, fun hx => ?_, h2⟩
        · rcases List.mem_cons.1 hy with rfl | hy
          · exact h
          · exact fun hh => h1 y hy (List.mem_append_left _ hh)
        · exact h1 x hx (by simp)
      · rintro ⟨h1, h2, h3⟩
        refine ⟨fun y hy hh => ?_, h3⟩
        rcases List.mem_append.1 hh with hh | hh
        · exact h1 y (by simp [hy]) hh
        · simp at hh; subst hh; exact h2 hy
/-- The keys of the first n of a list of places. -/
def kls (f : Nat → Tw.Pl) (n : Nat) : List Lit := (List.range n).map fun i => kl (f i)
theorem kls_len (f : Nat → Tw.Pl) (n : Nat) : (kls f n).length = n := by simp [kls]
theorem kls_succ (f : Nat → Tw.Pl) (n : Nat) : kls f (n + 1) = kls f n ++ [kl (f n)] := by simp [kls, List.range_succ]
theorem kls_key (f : Nat → Tw.Pl) (n : Nat) : ∀ x ∈ kls f n, WideAt.IsKeyLit x := by
  intro x hx
  obtain ⟨i, -, rfl⟩ := List.mem_map.1 hx
  trivial
def Sd (f : Nat → Tw.Pl) (n : Nat) : DataW Unit := setOf (.agg []) (kls f n)
theorem Sd_zero (f : Nat → Tw.Pl) : Sd f 0 = .map [] := rfl
theorem Sd_succ (f : Nat → Tw.Pl) (n : Nat) : Sd f (n + 1) = (Sd f n).put (kl (f n)) (.agg []) := by unfold Sd; rw [kls_succ, setOf_snoc]
/-- All different. -/
def Diff (f : Nat → Tw.Pl) (n : Nat) : Prop := ∀ i j, i < j → j < n → f i ≠ f j
theorem Sd_size (f : Nat → Tw.Pl) (n : Nat) (hn : ∀ i, i < n → near (f i)) : Maps.size (Sd f n) = n ↔ Diff f n := by
  unfold Sd
  rw [size_setOf _ _ (kls_key f n)]
  have h := fold_eq (kls f n) [] (kls_key f n)
  rw [kls_len, List.length_nil, Nat.zero_add] at h
  rw [h]
  simp only [List.not_mem_nil, not_false_eq_true, implies_true, true_and]
  unfold kls List.Nodup
  rw [List.pairwise_map, List.pairwise_iff_getElem]
  constructor
  · intro h i j hij hj e
    have := h i j (by simp; omega) (by simpa using hj) hij
    simp [e] at this
  · intro h i j hi hj hij e
    simp at hi hj
    simp only [List.getElem_range] at e
    exact h i j hij hj (kl_inj (hn i hi) (hn j hj) e)
set_option maxHeartbeats 2000000 in
set_option maxRecDepth 100000 in
theorem allDifferent_any (f : Nat → Tw.Pl) (g n cap : Nat) (w : World) (hn : n ≤ 60) (hf : ∀ i, i < n → near (f i)) (hg : g < w.heap.size)
    (hc : ∀ i, i < n → w.cell? ⟨g, i * 2, none⟩ = some (.int .i64 (f i).x) ∧ w.cell? ⟨g, i * 2 + 1, none⟩ = some (.int .i64 (f i).y)) :
    Calls Tryd.prog 38 #[.slice (some ⟨g, 0, none⟩) n cap] w fun e w' => e = .returned (.bool ((Maps.size (Sd f n) : Int) == (n : Int))) ∧ Below w.heap.size w w' := by
  have hmm : ∀ wx, (Instr.makeMap 56 (some (.int .i64 (n : Int)))).run Tryd.prog wx = .ok (.map (some wx.heap.size)) (wx.alloc (.map #[] 0)) := fun wx => by
    simp [Instr.makeMap, run_underlying Tryd.underlying56]; rfl
  have HC := Lib.hid hc; clear hc
  have HF := Lib.hid hf; clear hf
  have hM0 : (w.alloc (.map #[] 0)).ownsMap Tryd.prog 40 (unitElem (H := Unit)) w.heap.size 0 (Sd f 0) := by rw [Sd_zero]; exact World.ownsMap_made _ _ _ _
  have hB0 : Below w.heap.size w (w.alloc (.map #[] 0)) := (Below.refl _ w).alloc (Nat.le_refl _) _
  have HM0 := Lib.hid hM0; clear hM0
  go_enter Tryd.func38, Tryd.ntmps38
  go_wp2_with fail
  clear hmm
  go_loopw [11] (fun i wr => ∃ k : Nat, k ≤ n ∧ i = .int .i64 (k : Int) ∧ Hid (wr.ownsMap Tryd.prog 40 (unitElem (H := Unit)) w.heap.size k (Sd f k)) ∧ Below w.heap.size w wr) (fun i _ => n - (intOf i).toNat)
  case atStart => exact ⟨0, by omega, rfl, HM0, hB0⟩
  case round =>
    clear HM0 hB0
    obtain ⟨k, hk, rfl, HM, hB⟩ := hrel
    have hz := hB.size
    have hbl : w.heap.size < wr.heap.size := HM.out.lt
    by_cases hlt : k < n
    · obtain ⟨hc0, hc1⟩ := HC.out k hlt
      have hb0 := ((bcell hB).1 g _ hg).trans hc0
      have hb1 := ((bcell hB).1 g _ hg).trans hc1
      have hkey := kl_of (HF.out k hlt)
      unfold pv at hkey
      have HS := Lib.hid (Sd_succ f k)
      clear hc0 hc1
      generalize f k = p at *
      generalize Sd f k = D at *
      have HKey := Lib.hid hkey; clear hkey
      obtain ⟨w1, hrun, hown1, hgrow1⟩ := (HM.out.alloc (.cells #[.int .i64 p.x, .int .i64 p.y] 40)).update ad_keyed Tryd.underlying56 (by unfold maxLen; omega) HKey.out unitElem_mk
      rw [← HS.out] at hown1
      have HO1 := Lib.hid hown1; clear hown1
      have hB1 : Below w.heap.size w w1 := (hB.alloc hz _).grown hgrow1 (hB.alloc hz _).size (fun j hj => by cases hj; exact Nat.le_refl _)
      clear hgrow1
      go_wp2_with fail
      exact ⟨⟨k + 1, by omega, by go_num, HO1, hB1⟩, by simp [intOf]; omega⟩
    · obtain rfl : k = n := by omega
      go_wp2_with (first
        | (at_len; refine wpList_len_own _ rfl _ 56 rfl 40 _ Tryd.underlying56 _ w.heap.size k _ rfl HM.out ?_)
        | go_in)
      go_ret
      exact ⟨rfl, hB⟩
end Go.Proofs.YtminclapchnheaaDoor
