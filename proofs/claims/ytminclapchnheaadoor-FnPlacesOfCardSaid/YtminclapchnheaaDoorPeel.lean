/- A statement whose order is open and whose last operation waits for all others: that one may be set apart and walked behind the rest. Law about the model's regions; no condition on a program. -/
import Derived.OrdersHeld
import Derived.Deep.RegionHeld3
import Derived.Tactics2
import Derived.StillTail
namespace Go.Proofs.YtminclapchnheaaDoor
open Go
set_option linter.unusedVariables false
set_option linter.unusedSimpArgs false
section
variable {P : Program} {ops : Array Oper} {Q : Exit → Act → World → Prop} {md : Region.Mode}

/-- What is asked behind all operations but number n: that n leads to Q. -/
def Peel (P : Program) (ops : Array Oper) (Q : Exit → Act → World → Prop) (n : Nat) : Exit → Act → World → Prop
  | .normal, a, w => wpOp P ops Q n (fun a' w' => Q .normal a' w') a w
  | e, a, w => Q e a w

theorem peel_here {n : Nat} {a : Act} {w : World} (h : wpOp P ops Q n (fun a' w' => Q .normal a' w') a w) : Peel P ops Q n .normal a w := h
theorem upon_peel {o : Oper} {a : Act} {next : Act → World → Prop} {n : Nat} (r : Result Next) (h : o.upon P a next (Peel P ops Q n) r) : o.upon P a next Q r := by
  cases r with
  | ok x w' => cases x <;> exact h
  | halt x w' => cases x <;> exact h
theorem wpOp_peel {n i : Nat} {K : Act → World → Prop} {a : Act} {w : World} (h : wpOp P ops (Peel P ops Q n) i K a w) : wpOp P ops Q i K a w := by
  unfold wpOp at *
  split at h
  · exact h
  · split at h
    · rename_i hw
      rw [if_pos hw]
      rcases h with h | ⟨ha, hl⟩
      · exact .inl (upon_peel _ h)
      · exact .inr ⟨ha, hl⟩
    · rename_i hw
      rw [if_neg hw]
      exact h

/-- Number n comes last: each other operation waits for none behind it, and n waits for all. -/
structure Lasts (md : Region.Mode) (ops : Array Oper) (n : Nat) : Prop where
  size : ops.size = n + 1
  down : ∀ (j : Nat) (oj : Oper), ops[j]? = some oj → ∀ e ∈ oj.after, Region.binds md e = true → e.on < j
  all : ∀ i, i < n → Region.waitsFor md ops n i = true

/-- Where nothing else may come up, all else has come up. -/
theorem all_listed {n : Nat} (L : Lasts md ops n) {listed : Array Bool} (hs : listed.size = ops.size) (hr : Region.ready md ops (listed.setIfInBounds n true) = []) :
    ∀ i, i < n → listed.getD i false = true := by
  intro i
  induction i using Nat.strongRecOn with
  | _ i ih =>
    intro hi
    cases hl : listed.getD i false with
    | true => rfl
    | false =>
      exfalso
      have hlt : i < ops.size := by rw [L.size]; omega
      have hun : listed.getD i true = false := by
        have h' : i < listed.size := by omega
        simp [h'] at hl ⊢; exact hl
      have : i ∈ Region.ready md ops (listed.setIfInBounds n true) := by
        rw [mem_ready]
        refine ⟨by rw [getD_set_ne true (by omega)]; exact hun, ops[i], by simp [hlt], fun e he hb => ?_⟩
        have hd := L.down i ops[i] (by simp [hlt]) e he hb
        exact getD_set_true (ih e.on hd (by omega))
      rw [hr] at this
      cases this

theorem ready_last {n : Nat} (L : Lasts md ops n) {listed : Array Bool} (hs : listed.size = ops.size) (hn : listed.getD n true = false) (h : ∀ i, i < n → listed.getD i false = true) :
    Region.ready md ops listed = [n] ∨ (n ∈ Region.ready md ops listed ∧ ∀ i ∈ Region.ready md ops listed, i = n) := by
  right
  have hlt : n < ops.size := by rw [L.size]; omega
  refine ⟨?_, fun i hi => ?_⟩
  · rw [mem_ready]
    refine ⟨hn, ops[n], by simp [hlt], fun e he hb => ?_⟩
    exact h _ (L.down n ops[n] (by simp [hlt]) e he hb)
  · rw [mem_ready] at hi
    obtain ⟨h0, o, ho, _⟩ := hi
    have hi' : i < ops.size := (Array.getElem?_eq_some_iff.1 ho).1
    rw [L.size] at hi'
    by_cases e : i = n
    · exact e
    · have h1 := h i (by omega)
      have hs' : i < listed.size := by rw [hs, L.size]; omega
      simp [hs'] at h0 h1
      rw [h0] at h1; cases h1

theorem wpAny_peel {n : Nat} (L : Lasts md ops n) : ∀ (f : Nat) (listed : Array Bool) (a : Act) (w : World), listed.size = ops.size → listed.getD n true = false →
    wpAny P md ops (Peel P ops Q n) f (listed.setIfInBounds n true) a w → wpAny P md ops Q (f + 1) listed a w := by
  have last : ∀ (f : Nat) (listed : Array Bool) (a : Act) (w : World), listed.size = ops.size → listed.getD n true = false → Region.ready md ops (listed.setIfInBounds n true) = [] →
      Peel P ops Q n .normal a w → wpAny P md ops Q (f + 1) listed a w := by
    intro f listed a w hs hn hr hq
    have hall := all_listed L hs hr
    rcases ready_last L hs hn hall with h1 | ⟨h1, h2⟩
    · refine ⟨fun h0 => (by rw [h1] at h0; cases h0), fun i hi => ?_⟩
      rw [h1] at hi
      obtain rfl : i = n := by simpa using hi
      refine wpOp_mono (fun a' w' hq' => ?_) hq
      cases f with
      | zero => exact ⟨hr, hq'⟩
      | succ f => exact ⟨fun _ => hq', fun j hj => (by rw [hr] at hj; cases hj)⟩
    · refine ⟨fun h0 => (by rw [h0] at h1; cases h1), fun i hi => ?_⟩
      obtain rfl : i = n := h2 i hi
      refine wpOp_mono (fun a' w' hq' => ?_) hq
      cases f with
      | zero => exact ⟨hr, hq'⟩
      | succ f => exact ⟨fun _ => hq', fun j hj => (by rw [hr] at hj; cases hj)⟩
  intro f
  induction f with
  | zero => intro listed a w hs hn H; exact last 0 listed a w hs hn H.1 H.2
  | succ f ih =>
    intro listed a w hs hn H
    by_cases hr : Region.ready md ops (listed.setIfInBounds n true) = []
    · exact last (f + 1) listed a w hs hn hr (H.1 hr)
    · have hnot : ∀ i ∈ Region.ready md ops listed, i ≠ n := by
        rintro i hi rfl
        apply hr
        rw [mem_ready] at hi
        obtain ⟨_, o, ho, hall⟩ := hi
        rw [List.eq_nil_iff_forall_not_mem]
        intro j hj
        rw [mem_ready] at hj
        obtain ⟨h0, oj, hoj, _⟩ := hj
        have hj' : j < ops.size := (Array.getElem?_eq_some_iff.1 hoj).1
        by_cases hji : j = i
        · subst hji
          have hs' : j < listed.size := by omega
          simp [hs'] at h0
        · rw [getD_set_ne true (fun e => hji e.symm)] at h0
          obtain ⟨o', ho', e, he, hb, hon⟩ := Region.waitsFor_spec (L.all j (by have := L.size; omega))
          obtain rfl : o = o' := Option.some.inj (ho.symm.trans ho')
          have h1 := hall e he hb
          rw [hon] at h1
          have hs' : j < listed.size := by omega
          simp [hs'] at h0 h1
          rw [h0] at h1; cases h1
      refine ⟨fun h0 => absurd ?_ hr, fun i hi => ?_⟩
      · rw [List.eq_nil_iff_forall_not_mem]
        intro j hj
        have hjn : j ≠ n := by
          rintro rfl
          rw [mem_ready] at hj
          have hs' : j < listed.size := by rw [hs, L.size]; omega
          have := hj.1
          simp [hs'] at this
        -- the least that has not come up may come up
        have key : ∀ j, j < n → listed.getD j true = false → ∃ k, k ∈ Region.ready md ops listed := by
          intro j
          induction j using Nat.strongRecOn with
          | _ j ihj =>
            intro hjlt hun
            have hlt : j < ops.size := by rw [L.size]; omega
            by_cases hx : ∀ e ∈ (ops[j]).after, Region.binds md e = true → listed.getD e.on false = true
            · exact ⟨j, by rw [mem_ready]; exact ⟨hun, ops[j], by simp [hlt], hx⟩⟩
            · simp only [Classical.not_forall] at hx
              obtain ⟨e, he, hb, hne⟩ := hx
              have hd := L.down j ops[j] (by simp [hlt]) e he hb
              refine ihj e.on hd (by omega) ?_
              have hs' : e.on < listed.size := by rw [hs, L.size]; omega
              simp [hs'] at hne ⊢; exact hne
        rw [mem_ready] at hj
        obtain ⟨h1, oj, hoj, _⟩ := hj
        have hj' : j < ops.size := (Array.getElem?_eq_some_iff.1 hoj).1
        rw [getD_set_ne true (fun e => hjn e.symm)] at h1
        obtain ⟨k, hk⟩ := key j (by have := L.size; omega) h1
        rw [h0] at hk; cases hk
      · have hin := hnot i hi
        have h1 := wpOp_peel (H.2 i (ready_mono hi hin))
        refine wpOp_mono (fun a' w' hk => ?_) h1
        refine ih (listed.setIfInBounds i true) a' w' (by simpa using hs) (by rw [getD_set_ne true hin]; exact hn) ?_
        rw [Array.setIfInBounds_comm _ _ hin]
        exact hk

/-- The beginning: the region's last operation is set apart; the rest is walked under S. -/
theorem wp_region_peel {id n : Nat} {a : Act} {w : World} {S : World → Prop} (hm : P.follows .mixedOrders = true) (L : Lasts .any ops n) (hS : S w.drew)
    (h : S w.drew → wpAnyH P .any ops (Peel P ops Q n) S n ((Array.replicate (n + 1) false).setIfInBounds n true) a w.drew) : (Code.region id ops true).wp P Q a w := by
  refine wp_region_any hm ?_
  rw [L.size]
  exact wpAny_peel L n _ a _ (by rw [L.size]; simp) (by simp) (wpAny_of_held _ _ _ _ (h hS))

/-- Lasts, as a closed fact. -/
def lastsB (md : Region.Mode) (ops : Array Oper) (n : Nat) : Bool :=
  decide (ops.size = n + 1) && (List.range ops.size).all (fun j => match ops[j]? with | some oj => oj.after.all (fun e => !Region.binds md e || decide (e.on < j)) | none => true) && (List.range n).all (fun i => Region.waitsFor md ops n i)
theorem lasts_of {n : Nat} (h : lastsB md ops n = true) : Lasts md ops n := by
  unfold lastsB at h
  rw [Bool.and_eq_true, Bool.and_eq_true, decide_eq_true_iff, List.all_eq_true, List.all_eq_true] at h
  obtain ⟨⟨h1, h2⟩, h3⟩ := h
  refine ⟨h1, fun j oj hj e he hb => ?_, fun i hi => h3 i (List.mem_range.2 hi)⟩
  have hlt : j < ops.size := (Array.getElem?_eq_some_iff.1 hj).1
  have := h2 j (List.mem_range.2 hlt)
  rw [hj] at this
  simp only [Array.all_eq_true'] at this
  have := this e he
  rw [hb] at this
  simpa using this
end
end Go.Proofs.YtminclapchnheaaDoor
