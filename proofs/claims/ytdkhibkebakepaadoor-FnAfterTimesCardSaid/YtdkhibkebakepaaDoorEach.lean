/- A law of its own for a range over an iterator that never ends by itself: the caller's body counts the rounds and leaves at one of them; the iterator keeps state of its own in cells. No condition. -/
import Derived.RangeFuncNested
import Derived.RangeFuncBound
import Derived.RangeFuncCalls
import Derived.RangeFuncLeaves
import Derived.Shelf.Abstract
import Derived.Shelf.RegionOpen
import Derived.WalkKit
import Derived.OwnWalkIn
import Derived.TacticsInMore
import Derived.LoopNIn
import Derived.LoopIn
import Derived.Test.YtdkhibkebakepaaDoorWalk
namespace Go.Proofs.YtdkhibkebakepaaDoor
open Go.RowKit Go.Shelf
set_option linter.unusedVariables false
set_option linter.unusedSimpArgs false
variable {F : Fence} {n : Nat} {P : Program}

/-- Whatever J says of a world it says behind steps that leave the blocks below B. -/
def Stays (B : Nat) (J : World → Prop) : Prop := ∀ A C, J A → Below B A C → J C

/-- An iterator that hands out enc 0, enc 1, .. until a round says no more, for every body that says so ahead of its Nth round's end. -/
def SeqCounts (F : Fence) (n : Nat) (P : Program) (g : Nat) (lb : Array Value) (enc : Nat → Array Value) (N : Nat) (w : World) : Prop :=
  ∀ (l : Nat) (J : Nat → World → Prop) (Jx : World → Prop) (W : World), w.heap.size ≤ l → l < W.heap.size → Below w.heap.size w W → (∀ k, Stays W.heap.size (J k)) → (∀ k W1, J k W1 → k < N) →
    (∀ k W1, J k W1 → YieldAt F (n - 1) P l (enc k) W1 fun e W' =>
      (e = .returned (.bool true) ∧ J (k + 1) W' ∧ W1.grownBy W' (some l)) ∨ (e = .returned (.bool false) ∧ Jx W')) →
    J 0 W →
    CallsIn F n P g (#[.func (.yield l) #[] #[]] ++ lb) W fun e W' => (∃ v, e = .returned v) ∧ Jx W'

/-- How the body of a round may be left. -/
def roundEnd (I : World → Prop) (Ix : Code → World → Prop) (W : World) : Exit → Act → World → Prop
  | .normal, _, W' => Below W.heap.size W W' ∧ I W'
  | .ret, _, W' => KeepsOthers W W' ∧ Ix .ret W'
  | .exit id, _, W' => KeepsOthers W W' ∧ Ix (.exit id) W'
  | .goto t, _, W' => KeepsOthers W W' ∧ Ix (.goto t) W'
  | .panic _, _, _ => False
  | .outgrown, _, _ => False

theorem grownBy_of_below {A C : World} (h : Below A.heap.size A C) (row : Option Nat) : A.grownBy C row := ⟨h.os, h.tape, h.output, h.size, fun k hk _ => h.block k hk⟩
theorem grownBy_next {A B C : World} {l : Nat} (h : A.grownBy B (some l)) (k : B.grownBy C (some l)) : A.grownBy C (some l) :=
  ⟨k.os.trans h.os, k.tape.trans h.tape, k.output.trans h.output, Nat.le_trans h.size k.size, fun j hj hne => (k.block j (Nat.lt_of_lt_of_le hj h.size) hne).trans (h.block j hj hne)⟩
theorem below_putObj {B : Nat} (W : World) (l : Nat) (o : Obj) (hB : B ≤ l) (hl : l < W.heap.size) : Below B W (W.putObj l o) :=
  (Below.refl B W).grown (grownBy_putObj' W l o) (by omega) (fun k e => by cases e; exact hB)

/-- The statement: the body's rounds, counted; each is walked from the assignments on. -/
theorem wpIn_rangeCounts {g : Operand} {ps : Array Tmp} {assign body : Code} {Q : Exit → Act → World → Prop} {a : Act} {w : World}
    (hro : F.round = none) (h1 : 1 ≤ n) {gf : Nat} {lb : Array Value} (hg : a.eval g = .func (.func gf) #[] lb) (hFg : F.fn gf) (eg : ∀ args w, (callFunc gf args).run P w = .ok (.enter gf args) w)
    {enc : Nat → Array Value} {N : Nat} (hseq : SeqCounts F (n - 1) P gf lb enc N w) (hps : ∀ k, (enc k).size = ps.size)
    (I : Nat → World → Prop) (Ix : Code → World → Prop) (hI : ∀ k, Stays w.heap.size (I k)) (hIx : ∀ c, Stays w.heap.size (Ix c)) (hN : ∀ k W, I k W → k < N) (h0 : I 0 w)
    (hround : ∀ (l k : Nat) (W : World), w.heap.size ≤ l → l < W.heap.size → I k W →
      assign.wpIn (F.inRound l) (n - 1 - 1) P (Exit.then (fun a' W' => Below W.heap.size W W' ∧ ∀ W3, W3.heap.size = W'.heap.size → W'.grownBy W3 (some l) → I k W3 →
          body.wpIn (F.inRound l) (n - 1 - 1) P (roundEnd (I (k + 1)) Ix W3) a' W3) (fun _ _ _ => False))
        { tmps := (ps.zip (enc k)).foldl (fun t (p, v) => t.setIfInBounds p v) a.tmps, defers := [] } W)
    (hstop : ∀ (D : Nat) (c : Code) (W : World), w.heap.size ≤ D → Ix c W → W.heap[D]? = some (.deferred (some [])) → c.wpIn F n P Q { a with defers := { target := .collected D, args := #[] } :: a.defers } W) :
    (Code.rangeFunc g ps assign body).wpIn F n P Q a w := by
  refine wpIn_rangeFunc ?_
  intro fn hfn
  rw [hro]
  obtain ⟨rec, hrec⟩ : ∃ rec : LoopState → Option Code → Loop, rec = fun st pe => { state := st, pending := pe, fn, tmps := a.tmps, params := ps, assign, body, defers := w.heap.size } := ⟨_, rfl⟩
  obtain ⟨W1, hW1⟩ : ∃ W1, (w.alloc (.deferred (some []))).alloc (.loop (rec .ready none)) = W1 := ⟨_, rfl⟩
  have hs1 : W1.heap.size = w.heap.size + 2 := by rw [← hW1]; simp
  have hb1 : Below w.heap.size w W1 := by
    rw [← hW1]; exact ((Below.refl _ w).alloc (Nat.le_refl _) _).alloc (by simp) _
  have hL1 : W1.heap[w.heap.size + 1]? = some (.loop (rec .ready none)) := by
    rw [← hW1]; have := World.alloc_heap_new (w.alloc (.deferred (some []))) (.loop (rec .ready none)); rwa [World.size_alloc] at this
  have hK1 : W1.heap[w.heap.size]? = some (.deferred (some [])) := by
    rw [← hW1]; exact (Below.heap_alloc _ _ _ (by simp)).trans (World.alloc_heap_new w _)
  have hpl : ∀ (W : World) (o : Obj), w.heap.size + 1 < W.heap.size → Below w.heap.size W (W.putObj (w.heap.size + 1) o) := fun W o h => below_putObj W _ o (by omega) h
  refine ⟨w.heap.size + 1, [{ target := .collected w.heap.size, args := #[] }], W1, { target := .fn (.func gf) lb, args := #[.func (.yield (w.heap.size + 1)) #[] #[]] }, W1, gf,
    #[.func (.yield (w.heap.size + 1)) #[] #[]] ++ lb, W1, ?_, ?_, ?_, ?_, fun _ => h1, ?_⟩
  · rw [← hW1, hrec]; exact run_enterLoop_outer _ _ _ _ _
  · simp only [resolve, hg]
    simp [go_sem]
  · intro f' hf'; simp [Target.leads] at hf'; subst hf'; exact hFg
  · simp [invoke, go_sem, eg]
  refine (hseq (w.heap.size + 1)
    (fun k W => I k W ∧ W.heap[w.heap.size + 1]? = some (.loop (rec .ready none)) ∧ W.heap[w.heap.size]? = some (.deferred (some [])))
    (fun W => ∃ c, Ix c W ∧ W.heap[w.heap.size + 1]? = some (.loop (rec .done (some c))) ∧ W.heap[w.heap.size]? = some (.deferred (some [])))
    W1 (by omega) (by omega) hb1 ?_ (fun k W h => hN k W h.1) ?_ ⟨hI 0 _ _ h0 hb1, hL1, hK1⟩).mono ?_
  · rintro k A C ⟨hi, hl, hk⟩ hb
    exact ⟨hI k A C hi (hb.mono (by omega)), (hb.block _ (by omega)).trans hl, (hb.block _ (by omega)).trans hk⟩
  · rintro k W ⟨hi, hl, hk⟩
    have hlt : w.heap.size + 1 < W.heap.size := (Array.getElem?_eq_some_iff.1 hl).1
    have hy := run_yield (P := P) (args := enc k) hl (by rw [hrec]; exact hps k)
    rw [hrec] at hy
    refine ⟨fn, _, assign, body, hy, roundIn_of_wpIn hfn (wpIn_mono (hround (w.heap.size + 1) k W (by omega) hlt hi) ?_)⟩
    rintro e a' W' hp
    cases e with
    | normal =>
      obtain ⟨hbW, hbody⟩ := hp
      have hlW : W'.heap[w.heap.size + 1]? = some (.loop (rec .ready none)) := (hbW.block _ hlt).trans hl
      have hkW : W'.heap[w.heap.size]? = some (.deferred (some [])) := (hbW.block _ (by omega)).trans hk
      have hlt' : w.heap.size + 1 < W'.heap.size := (Array.getElem?_eq_some_iff.1 hlW).1
      refine ⟨_, run_beginRound hlW (by rw [hrec]), ?_⟩
      have hl2 : (W'.putObj (w.heap.size + 1) (.loop { rec .ready none with state := .busy })).heap[w.heap.size + 1]? = some (.loop { rec .ready none with state := .busy }) := World.putObj_heap_same hlt'
      have hk2 : (W'.putObj (w.heap.size + 1) (.loop { rec .ready none with state := .busy })).heap[w.heap.size]? = some (.deferred (some [])) := (World.putObj_heap_other (by omega)).trans hkW
      have hg2 := grownBy_putObj' W' (w.heap.size + 1) (.loop { rec .ready none with state := .busy })
      have hs2 : (W'.putObj (w.heap.size + 1) (.loop { rec .ready none with state := .busy })).heap.size = W'.heap.size := World.putObj_size
      have hi2 := hI k _ _ hi ((hbW.mono (by omega)).trans (hpl W' (.loop { rec .ready none with state := .busy }) hlt'))
      generalize W'.putObj (w.heap.size + 1) (.loop { rec .ready none with state := .busy }) = W2 at hl2 hk2 hg2 hs2 hi2 ⊢
      refine wpIn_mono (hbody W2 hs2 hg2 hi2) ?_
      have fin : ∀ (jump : Option Code) (W3 : World), KeepsOthers W2 W3 →
          (Instr.endRound (w.heap.size + 1) jump).run P W3 = .ok (.bool jump.isNone) (W3.putObj (w.heap.size + 1) (.loop (rec (if jump.isNone then .ready else .done) jump))) ∧
          W3.heap[w.heap.size + 1]? = some (.loop { rec .ready none with state := .busy }) ∧
          (W3.putObj (w.heap.size + 1) (.loop (rec (if jump.isNone then .ready else .done) jump))).heap[w.heap.size + 1]? = some (.loop (rec (if jump.isNone then .ready else .done) jump)) ∧
          (W3.putObj (w.heap.size + 1) (.loop (rec (if jump.isNone then .ready else .done) jump))).heap[w.heap.size]? = some (.deferred (some [])) := fun jump W3 hk3 => by
        have hl3 := hk3.same _ _ hl2 rfl
        have := run_endRound (P := P) jump hl3
        rw [hrec] at this ⊢
        exact ⟨this, by rw [hrec] at hl3; exact hl3, World.putObj_heap_same (Array.getElem?_eq_some_iff.1 hl3).1, (World.putObj_heap_other (by omega)).trans (hk3.same _ _ hk2 rfl)⟩
      have leave : ∀ (c : Code) (W3 : World), KeepsOthers W2 W3 → Ix c W3 → ∃ v w', (Instr.endRound (w.heap.size + 1) (some c)).run P W3 = .ok v w' ∧
          Ending.returned v = .returned (.bool false) ∧ ∃ c, Ix c w' ∧ w'.heap[w.heap.size + 1]? = some (.loop (rec .done (some c))) ∧ w'.heap[w.heap.size]? = some (.deferred (some [])) := fun c W3 hk3 hx => by
        obtain ⟨hr, hl3, hl4, hk4⟩ := fin (some c) W3 hk3
        exact ⟨_, _, hr, rfl, c, hIx c _ _ hx (hpl W3 _ (Array.getElem?_eq_some_iff.1 hl3).1), hl4, hk4⟩
      rintro e a3 W3 hp
      cases e with
      | normal =>
        obtain ⟨hb3, hi3⟩ := hp
        obtain ⟨hr, hl3, hl4, hk4⟩ := fin none W3 ⟨hb3.size, fun j o hj _ => (hb3.block j (Array.getElem?_eq_some_iff.1 hj).1).trans hj⟩
        exact ⟨_, _, hr, .inl ⟨rfl, ⟨hI _ _ _ hi3 (hpl W3 _ (Array.getElem?_eq_some_iff.1 hl3).1), hl4, hk4⟩,
          grownBy_next (grownBy_next (grownBy_next (grownBy_of_below hbW _) hg2) (grownBy_of_below hb3 _)) (grownBy_putObj' _ _ _)⟩⟩
      | ret => exact let ⟨v, w', hr, h⟩ := leave _ _ hp.1 hp.2; ⟨v, w', hr, .inr h⟩
      | exit id => exact let ⟨v, w', hr, h⟩ := leave _ _ hp.1 hp.2; ⟨v, w', hr, .inr h⟩
      | goto t => exact let ⟨v, w', hr, h⟩ := leave _ _ hp.1 hp.2; ⟨v, w', hr, .inr h⟩
      | panic ch => exact hp.elim
      | outgrown => exact hp.elim
    | ret => exact hp.elim
    | exit id => exact hp.elim
    | goto t => exact hp.elim
    | panic ch => exact hp.elim
    | outgrown => exact hp.elim
  · rintro e W2 ⟨⟨v, rfl⟩, c, hi, hl, hk⟩
    exact ⟨some c, _, by have := run_endLoop (P := P) hl (by rw [hrec]; simp); rw [hrec] at this; exact this,
      hstop _ c _ (Nat.le_refl _) (hIx c _ _ hi (hpl W2 _ (Array.getElem?_eq_some_iff.1 hl).1)) ((World.putObj_heap_other (by omega)).trans hk)⟩
end Go.Proofs.YtdkhibkebakepaaDoor
