/- The program's reader of programs: readPart, readRow, readProgram, ProgramOk. No condition. -/
import Derived.Test.YtaakgdjlbokopaaPe
import Derived.Maps.AppendAt
import Derived.OwnWalk
namespace Go.Proofs.Ytaakgdjlbokopaa
open Go.RowKit
open Tw (Row)
set_option linter.unusedVariables false
set_option linter.unusedSimpArgs false

/-- The values us lie from the place p on, in a block that F allows. -/
def Vals (w : World) (F : Nat → Prop) (p : Option Addr) (us : List Value) : Prop := ∀ j u, us[j]? = some u → ∃ g, p = some ⟨g, 0, none⟩ ∧ F g ∧ w.cell? ⟨g, j, none⟩ = some u
theorem Vals.turn {w w' : World} {F F' : Nat → Prop} {p : Option Addr} {us : List Value} (h : Vals w F p us) (ht : ∀ b, b < w.heap.size → F b → w'.heap[b]? = w.heap[b]? ∧ F' b) : Vals w' F' p us := by
  intro j u hu
  obtain ⟨g, e, hF, hc⟩ := h j u hu
  obtain ⟨h1, h2⟩ := ht g (cell_lt hc) hF
  exact ⟨g, e, h2, (World.cell?_of_block (a := ⟨g, j, none⟩) h1).trans hc⟩
/-- The values us are the parts of the row r. -/
def PV (w : World) (F : Nat → Prop) : Row → List Value → Prop
  | .nil, us => us = []
  | .letter c r, us => ∃ us', us = .iface 69 (.int .u8 (c.toNat : Int)) :: us' ∧ PV w F r us'
  | .times d i r, us => ∃ us' p cap vs, us = .iface 71 (.agg #[.int .i64 (Row.num d : Int), .slice p vs.length cap]) :: us' ∧ Vals w F p vs ∧ PV w F i vs ∧ PV w F r us'
theorem PV.turn {w w' : World} {F F' : Nat → Prop} (ht : ∀ b, b < w.heap.size → F b → w'.heap[b]? = w.heap[b]? ∧ F' b) : ∀ (r : Row) (us : List Value), PV w F r us → PV w' F' r us := by
  intro r
  induction r with
  | nil => intro us h; exact h
  | letter c r ih => intro us h; obtain ⟨us', e, h⟩ := h; exact ⟨us', e, ih _ h⟩
  | times d i r ih1 ih2 => intro us h; obtain ⟨us', p, cap, vs, e, hv, hi, h⟩ := h; exact ⟨us', p, cap, vs, e, hv.turn ht, ih1 _ hi, ih2 _ h⟩
theorem PV.app {w : World} {F : Nat → Prop} {q : Row} {vs : List Value} (hq : PV w F q vs) : ∀ (p : Row) (us : List Value), PV w F p us → PV w F (Row.app p q) (us ++ vs) := by
  intro p
  induction p with
  | nil => intro us h; have : us = [] := h; subst this; exact hq
  | letter c r ih => intro us h; obtain ⟨us', rfl, h⟩ := h; exact ⟨_, rfl, ih _ h⟩
  | times d i r ih1 ih2 => intro us h; obtain ⟨us', p, cap, ws, rfl, hv, hi, h⟩ := h; exact ⟨_, p, cap, ws, rfl, hv, hi, ih2 _ h⟩
/-- The value v is the row r. -/
def RV (w : World) (F : Nat → Prop) (v : Value) (r : Row) : Prop := ∃ p cap us, v = .slice p us.length cap ∧ Vals w F p us ∧ PV w F r us
theorem RV.turn {w w' : World} {F F' : Nat → Prop} {v : Value} {r : Row} (h : RV w F v r) (ht : ∀ b, b < w.heap.size → F b → w'.heap[b]? = w.heap[b]? ∧ F' b) : RV w' F' v r := by
  obtain ⟨p, cap, us, e, hv, hp⟩ := h
  exact ⟨p, cap, us, e, hv.turn ht, PV.turn ht _ _ hp⟩
theorem Read.app {s : ByteArray} {a k m : Nat} {p q : Row} (h : Read s a k p) (hq : Read s k m q) : Read s a m (Row.app p q) :=
  ⟨hq.le, by rw [Row.wf_app, h.wf, hq.wf]; rfl, by rw [h.is, Row.text_app, hq.is, List.append_assoc]⟩
/-- What reading one part comes to. -/
def PartPost (s : ByteArray) (k : Nat) (w : World) (e : Ending) (w' : World) : Prop :=
  ((∃ m q u, Read s k m q ∧ k < m ∧ e = .returned (.tuple #[u, .int .i64 (m : Int), .bool true]) ∧ PV w' (fun b => w.heap.size ≤ b) q [u] ∧ ∃ T x, u = .iface T x) ∨
    (Row.NoRd (from_ s k) ∧ e = .returned (.tuple #[.nilIface, .int .i64 (k : Int), .bool false]))) ∧ Below w.heap.size w w'
/-- What reading a row comes to. -/
def RowPost (s : ByteArray) (a : Nat) (w : World) (e : Ending) (w' : World) : Prop :=
  ((∃ k r v, Read s a k r ∧ Row.Stop (from_ s k) ∧ e = .returned (.tuple #[v, .int .i64 (k : Int), .bool true]) ∧ RV w' (fun b => w.heap.size ≤ b) v r) ∨
    (Row.NoRd (from_ s a) ∧ ∃ n : Int, e = .returned (.tuple #[.slice none 0 0, .int .i64 n, .bool false]))) ∧ Below w.heap.size w w'
theorem num_int (d : UInt8) (h : Row.isD d = true) : (d.toNat : Int) - 48 = (Row.num d : Int) := by
  have := (isD_num d).1 h
  unfold Row.num; omega
set_option maxHeartbeats 4000000 in
set_option maxRecDepth 100000 in
theorem readPart_step (s : ByteArray) (k : Nat) (w : World) (hs : s.size ≤ 60) (hlt : k < s.size) (h41 : s[k] ≠ 41)
    (IH : ∀ b w, b ≤ s.size → k < b → Calls Try.prog 46 #[.string s, .int .i64 (b : Int)] w (RowPost s b w)) :
    Calls Try.prog 49 #[.string s, .int .i64 (k : Int)] w (PartPost s k w) := by
  have HI := Lib.hid IH; clear IH
  have hb := byte_le s[k]
  have HR : Hid (Read s k k .nil) := Lib.hid (Read.start (by omega))
  have H41 := Lib.hid h41; clear h41
  cases hW : Tw.isW s[k]
  · have hw := isW_not hW
    have h70 : ¬ (s[k].toNat : Int) = 70 := fun e => hw (.inl e)
    have h76 : ¬ (s[k].toNat : Int) = 76 := fun e => hw (.inr (.inl e))
    have h82 : ¬ (s[k].toNat : Int) = 82 := fun e => hw (.inr (.inr e))
    have g70 : ((s[k].toNat : Int) == 70) = false := by simpa using h70
    have g76 : ((s[k].toNat : Int) == 76) = false := by simpa using h76
    have g82 : ((s[k].toNat : Int) == 82) = false := by simpa using h82
    have HW := Lib.hid hW; clear hW hw
    cases hD : Row.isD s[k]
    · have HN := Lib.hid (no_sign hlt HW.out hD H41.out)
      have hd := isD_not hD
      clear hD
      by_cases h50 : (s[k].toNat : Int) < 50
      · have n50 : ¬ 50 ≤ (s[k].toNat : Int) := by omega
        clear hd
        go_enter Try.func49, Try.ntmps49
        go_wp2_with fail
        go_ret3
        exact ⟨.inr ⟨HN.out, rfl⟩, Below.refl _ _⟩
      · have y50 : 50 ≤ (s[k].toNat : Int) := by omega
        have n57 : ¬ (s[k].toNat : Int) ≤ 57 := by omega
        clear hd
        go_enter Try.func49, Try.ntmps49
        go_wp2_with fail
        go_ret3
        exact ⟨.inr ⟨HN.out, rfl⟩, Below.refl _ _⟩
    · have hd := (isD_num s[k]).1 hD
      have HD := Lib.hid hD; clear hD
      obtain ⟨h50, h57⟩ := hd
      by_cases hk1 : k + 1 < s.size
      · have nkl : (k : Int) + 1 < (s.size : Int) := by omega
        by_cases h40 : s[k + 1] = 40
        · have hc40 := (is40 _).1 h40
          have g40 : ((s[k + 1].toNat : Int) == 40) = true := by simpa using hc40
          have H40 := Lib.hid h40; clear h40
          have hI := fun w => HI.out (k + 2) w (by omega) (by omega)
          have HI2 := Lib.hid hI; clear hI
          have e2 : ((k + 2 : Nat) : Int) = (k : Int) + 2 := by omega
          rw [e2] at HI2
          have HN0 := Lib.hid (num_int s[k] HD.out)
          go_enter Try.func49, Try.ntmps49
          go_wp2_with fail
          refine (HI2.out _).mono ?_
          rintro e w1 ⟨hv, hB1⟩
          rcases hv with ⟨m, i, v, hi, hst, rfl, hrv⟩ | ⟨hn, n, rfl⟩
          · have hm := hi.le
            obtain ⟨p, cap, us, rfl, hvs, hpv⟩ := hrv
            by_cases hml : m < s.size
            · have hlen := hi.len (by omega)
              have HR2 := Lib.hid (HR.out.times hlt hk1 HD.out H40.out hi hml (stop_is hml hst))
              have HV := Lib.hid hvs; have HP := Lib.hid hpv
              clear hi hst hvs hpv
              go_wp2_with fail
              have e1 : ((m + 1 : Nat) : Int) = (k : Int) + 2 + ((Row.text i).length : Int) + 1 := by omega
              go_ret3
              refine ⟨.inl ⟨m + 1, _, .iface 71 (.agg #[.int .i64 (Row.num s[k] : Int), .slice p us.length cap]), HR2.out, by omega, by rw [← HN0.out, e1]; rfl, ⟨[], p, cap, us, rfl, HV.out, HP.out, rfl⟩, _, _, rfl⟩, hB1⟩
            · obtain rfl : m = s.size := by omega
              have HN := Lib.hid (no_close hlt hk1 HD.out H40.out hi)
              clear hi hst hvs hpv
              go_wp2_with fail
              go_ret3
              exact ⟨.inr ⟨HN.out, rfl⟩, hB1⟩
          · have HN := Lib.hid (no_inner hlt hk1 HD.out H40.out hn)
            clear hn
            go_wp2_with fail
            go_ret3
            exact ⟨.inr ⟨HN.out, rfl⟩, hB1⟩
        · have HN := Lib.hid (no_open hlt hk1 HD.out h40)
          have hc40 := fun e => h40 ((is40 _).2 e)
          have g40 : ((s[k + 1].toNat : Int) == 40) = false := by simpa using hc40
          clear h40
          go_enter Try.func49, Try.ntmps49
          go_wp2_with fail
          go_ret3
          exact ⟨.inr ⟨HN.out, rfl⟩, Below.refl _ _⟩
      · have HN := Lib.hid (no_last hlt (by omega) HD.out)
        have ykl : ¬ (k : Int) + 1 < (s.size : Int) := by omega
        go_enter Try.func49, Try.ntmps49
        go_wp2_with fail
        go_ret3
        exact ⟨.inr ⟨HN.out, rfl⟩, Below.refl _ _⟩
  · have HR2 := Lib.hid (HR.out.letter hlt hW)
    have hw := (isW_num s[k]).1 hW
    clear hW
    rcases hw with hc | hc | hc
    all_goals
      have hcc := hc
      go_enter Try.func49, Try.ntmps49
      go_wp2_with fail
      go_ret3
      refine ⟨.inl ⟨k + 1, _, .iface 69 (.int .u8 (s[k].toNat : Int)), HR2.out, by omega, by rw [hcc]; rfl, ⟨[], rfl, rfl⟩, _, _, rfl⟩, Below.refl _ _⟩
theorem Try.infoPart : (Try.prog.info? 58).map (fun i => (i.zero, i.size, i.bytes)) = some (some .nilIface, 1, 16) := by kernel_rfl
theorem rw_grown {A C : World} (h : Below A.heap.size A C) (row : Option Nat) : A.grownBy C row := ⟨h.os, h.tape, h.output, h.size, fun k hk _ => h.block k hk⟩
theorem own_below {A C : World} {base : Nat} {E : TypeId} {v : Value} {n : Nat} {us : List Value} (h : A.ownsRow base E 1 v n us) (hb : Below A.heap.size A C) : C.ownsRow base E 1 v n us := by
  refine h.kept (row := none) (rw_grown hb _) ?_
  cases v.ownBlock <;> simp
theorem own_rv {w : World} {base : Nat} {E : TypeId} {v : Value} {us : List Value} {F : Nat → Prop} {r : Row} (h : w.ownsRow base E 1 v us.length us) (hp : PV w F r us) (hF : ∀ b, F b → base ≤ b) : RV w (fun b => base ≤ b) v r := by
  have hp' : PV w (fun b => base ≤ b) r us := PV.turn (fun b _ hb => ⟨rfl, hF b hb⟩) _ _ hp
  have h' := h
  obtain ⟨hl, hv | ⟨g, cap, cur, hv, hg, hh, hnc, hm, hc, ht⟩⟩ := h'
  · obtain ⟨hv, h0⟩ := hv
    have : us = [] := List.length_eq_zero_iff.1 h0
    subst this
    exact ⟨none, 0, [], hv, fun j u hu => by simp at hu, hp'⟩
  · subst hv
    refine ⟨_, cap, us, rfl, fun j u hu => ?_, hp'⟩
    have hj : j < us.length := (List.getElem?_eq_some_iff.1 hu).1
    exact ⟨g, rfl, hg, (World.ownsRow.cellAt h j (by omega)).trans hu⟩
set_option maxHeartbeats 4000000 in
set_option maxRecDepth 100000 in
theorem readRow_step (s : ByteArray) (a : Nat) (w : World) (hs : s.size ≤ 60) (ha : a ≤ s.size)
    (IH : ∀ b w, b ≤ s.size → a < b → Calls Try.prog 46 #[.string s, .int .i64 (b : Int)] w (RowPost s b w)) :
    Calls Try.prog 46 #[.string s, .int .i64 (a : Int)] w (RowPost s a w) := by
  have hpart : ∀ k w (hlt : k < s.size), a ≤ k → s[k] ≠ 41 → Calls Try.prog 49 #[.string s, .int .i64 (k : Int)] w (PartPost s k w) :=
    fun k w hlt hak h41 => readPart_step s k w hs hlt h41 (fun b w hb hkb => IH b w hb (by omega))
  have HPt := Lib.hid hpart; clear hpart IH
  obtain ⟨i0, hi, hz0, hz1, hz2⟩ := info_parts Try.infoPart
  have HI := Lib.hid hi; clear hi
  have HZ0 := Lib.hid hz0; clear hz0
  have HZ1 := Lib.hid hz1; clear hz1
  have HZ2 := Lib.hid hz2; clear hz2
  go_enter Try.func46, Try.ntmps46
  go_wp2_with fail
  go_loopw [1, 7] (fun i v wr => ∃ (k : Nat) (p : Row) (us : List Value), i = .int .i64 (k : Int) ∧ a ≤ k ∧ k ≤ s.size ∧ us.length ≤ k ∧ Hid (Read s a k p) ∧ Hid (wr.ownsRow w.heap.size 58 1 v us.length us) ∧ Hid (PV wr (fun b => w.heap.size ≤ b ∧ v.ownBlock ≠ some b) p us) ∧ Below w.heap.size w wr) (fun i _ _ => s.size - (intOf i).toNat)
  case atStart => exact ⟨a, .nil, [], rfl, by omega, ha, by simp, Lib.hid (Read.start ha), Lib.hid ⟨by simp, .inl ⟨rfl, rfl⟩⟩, Lib.hid rfl, Below.refl _ _⟩
  case round =>
    obtain ⟨k, p, us, rfl, hak, hk, hul, HR, HO, HP, hB⟩ := hrel
    have hz := hB.size
    by_cases hlt : k < s.size
    · have hb := byte_le s[k]
      by_cases h41 : s[k] = 41
      · have HS := Lib.hid (stop_byte hlt h41)
        have hc := (is41 _).1 h41
        have g41 : ((s[k].toNat : Int) == 41) = true := by simpa using hc
        have HRV := Lib.hid (own_rv HO.out HP.out (fun b h => h.1))
        clear h41
        go_wp2_with fail
        all_goals
          go_ret3
          exact ⟨.inl ⟨k, p, _, HR.out, HS.out, rfl, HRV.out⟩, hB⟩
      · have hc41 := fun e => h41 ((is41 _).2 e)
        have g41 : ((s[k].toNat : Int) != 41) = true := by simpa using hc41
        have g41e : ((s[k].toNat : Int) == 41) = false := by simpa using hc41
        have HPt2 := Lib.hid (HPt.out k _ hlt hak h41 : Calls Try.prog 49 #[.string s, .int .i64 (k : Int)] wr (PartPost s k wr))
        clear h41 hc41
        go_wp2_with fail
        refine HPt2.out.mono ?_
        rintro e w1 ⟨hv, hB1⟩
        rcases hv with ⟨m, q, u, hq, hkm, rfl, hpq, T, x, rfl⟩ | ⟨hn, rfl⟩
        · have HRq := Lib.hid (HR.out.app hq)
          have hml := hq.le
          have hgb : ∀ g, u7.ownBlock = some g → w.heap.size ≤ g ∧ g < wr.heap.size := fun g hg => World.ownsRow.lt HO.out g hg
          have HO1 := Lib.hid (own_below HO.out hB1)
          have hP1 : PV w1 (fun b => w.heap.size ≤ b ∧ u7.ownBlock ≠ some b) (Row.app p q) (us ++ [.iface T x]) := by
            refine PV.app (PV.turn (fun b hb hF => ⟨rfl, ?_, ?_⟩) _ _ hpq) _ _ (PV.turn (fun b hb hF => ⟨hB1.block b hb, hF⟩) _ _ HP.out)
            · have h : wr.heap.size ≤ b := hF
              omega
            · intro e
              have h : wr.heap.size ≤ b := hF
              have := (hgb b e).2
              omega
          have hB2 := Below.up hB hB.size hB1
          have hz2 := hB2.size
          have HP1 := Lib.hid hP1
          clear hpq hq hP1
          have HP : True := trivial
          have HO : True := trivial
          have hul1 : (us ++ [Value.iface T x]).length ≤ m := by rw [List.length_append]; show us.length + 1 ≤ m; omega
          go_wp2_with (at_builtin; (refine wpList_append_own_at _ rfl (.tmp 31) (.tmp 33) 42 rfl w.heap.size 58 i0 .nilIface 1 16 Try.underlying42 HI.out HZ0.out HZ1.out HZ2.out rfl (by decide) _ us.length us rfl (own_below HO1.out ((Below.refl _ _).alloc (Nat.le_refl _) _)) ⟨w1.heap.size, 0, none⟩ 1 1 [.iface T x] rfl rfl (cell_one_new _ _ _) (fun y hy => by simp at hy; subst hy; rfl) (by unfold maxLen; omega) (by omega) (by simp; omega) ?_); intro v3 w3 hown3 hgrow3 _ hat3)
          have hat : v3.ownBlock = u7.ownBlock ∨ v3.ownBlock = some (w1.alloc (.cells #[.iface T x] 58)).heap.size := hat3
          have hg3 : (w1.alloc (.cells #[.iface T x] 58)).grownBy w3 u7.ownBlock := hgrow3
          have hsz : (w1.alloc (.cells #[.iface T x] 58)).heap.size = w1.heap.size + 1 := World.size_alloc _ _
          have hB3 : Below w.heap.size w w3 := (hB2.alloc hz2 _).grown hg3 (by omega) (fun j hj => (hgb j hj).1)
          have hP3 : PV w3 (fun b => w.heap.size ≤ b ∧ v3.ownBlock ≠ some b) (Row.app p q) (us ++ [.iface T x]) := by
            refine PV.turn (fun b hb hF => ⟨?_, hF.1, ?_⟩) _ _ HP1.out
            · rw [hg3.block b (by omega) hF.2.symm]
              exact Below.heap_alloc _ _ _ hb
            · rcases hat with h | h
              · rw [h]; exact hF.2
              · rw [h, hsz]; intro e; cases e; omega
          have hO3 : w3.ownsRow w.heap.size 58 1 v3 (us ++ [Value.iface T x]).length (us ++ [Value.iface T x]) := by
            rw [List.length_append]; exact hown3
          exact ⟨⟨m, _, _, rfl, by omega, by omega, hul1, HRq, Lib.hid hO3, Lib.hid hP3, hB3⟩, by simp [intOf]; omega⟩
        · have HN := Lib.hid (HR.out.no hn)
          clear hn
          have hB2 := Below.up hB hB.size hB1
          go_wp2_with fail
          go_ret3
          exact ⟨.inr ⟨HN.out, _, rfl⟩, hB2⟩
    · obtain rfl : k = s.size := by omega
      have HRV := Lib.hid (own_rv HO.out HP.out (fun b h => h.1))
      go_wp2_with fail
      go_ret3
      exact ⟨.inl ⟨_, p, _, HR.out, stop_end s, rfl, HRV.out⟩, hB⟩
theorem readRow_any (s : ByteArray) (hs : s.size ≤ 60) : ∀ (n a : Nat) (w : World), s.size - a ≤ n → a ≤ s.size → Calls Try.prog 46 #[.string s, .int .i64 (a : Int)] w (RowPost s a w) := by
  intro n
  induction n with
  | zero => intro a w hn ha; exact readRow_step s a w hs ha (fun b w hb hab => by omega)
  | succ n ih => intro a w hn ha; exact readRow_step s a w hs ha (fun b w hb hab => ih b w (by omega) hb)
/-- Is the text a program? -/
noncomputable def progV (s : ByteArray) : Bool := @decide (∃ r, Row.Prog s.data.toList r) (Classical.propDecidable _)
theorem progV_iff (s : ByteArray) : progV s = true ↔ ∃ r, Row.Prog s.data.toList r := @decide_eq_true_iff _ (Classical.propDecidable _)
theorem progV_no {s : ByteArray} (h : ¬ ∃ r, Row.Prog s.data.toList r) : progV s = false := by rw [← progV_iff] at h; simpa using h
theorem prog_of {s : ByteArray} {r : Row} (hs : s.size ≤ 60) (h : Read s 0 s.size r) : Row.Prog s.data.toList r := by
  have := h.done (stop_end s)
  rw [from_end, from_zero] at this
  exact Row.prog_rd (by rw [bytes_len]; exact hs) this
theorem no_prog {s : ByteArray} (h : Row.NoRd (from_ s 0)) : ¬ ∃ r, Row.Prog s.data.toList r := fun ⟨r, hr⟩ => h r [] (by rw [from_zero]; exact Row.rd_prog hr)
theorem no_prog_rest {s : ByteArray} {k : Nat} {r : Row} (h : Read s 0 k r) (hs : Row.Stop (from_ s k)) (hk : k < s.size) : ¬ ∃ r, Row.Prog s.data.toList r := fun ⟨r', hr⟩ => by
  have h1 := h.done hs
  rw [from_zero] at h1
  have := (Row.rd_one h1 (Row.rd_prog hr)).2
  rw [from_cons s k hk] at this
  cases this
theorem no_prog_long {s : ByteArray} (h : 60 < s.size) : ¬ ∃ r, Row.Prog s.data.toList r := fun ⟨r, hr⟩ => by have := hr.1; rw [bytes_len] at this; omega
/-- What reading a program comes to. -/
def ProgPost (s : ByteArray) (w : World) (e : Ending) (w' : World) : Prop :=
  ((∃ r v, Row.Prog s.data.toList r ∧ e = .returned (.tuple #[v, .bool true]) ∧ RV w' (fun b => w.heap.size ≤ b) v r) ∨
    ((¬ ∃ r, Row.Prog s.data.toList r) ∧ e = .returned (.tuple #[.slice none 0 0, .bool false]))) ∧ Below w.heap.size w w'
set_option maxHeartbeats 1000000 in
theorem readProgram_any (s : ByteArray) (w : World) (hs : s.size ≤ maxLen) : Calls Try.prog 36 #[.string s] w (ProgPost s w) := by
  unfold maxLen at hs
  by_cases h60 : s.size ≤ 60
  · have HR := Lib.hid (fun w => readRow_any s h60 s.size 0 w (by omega) (by omega))
    have e0 : ((0 : Nat) : Int) = 0 := rfl
    rw [e0] at HR
    go_enter Try.func36, Try.ntmps36
    go_wp2_with fail
    refine (HR.out _).mono ?_
    rintro e w1 ⟨hv, hB1⟩
    rcases hv with ⟨k, r, v, hr, hst, rfl, hrv⟩ | ⟨hn, n, rfl⟩
    · have hk := hr.le
      by_cases hks : k < s.size
      · have HN := Lib.hid (no_prog_rest hr hst hks)
        have gne : ((k : Int) == (s.size : Int)) = false := by simp; omega
        have hne : ¬ (k : Int) = (s.size : Int) := by omega
        clear hr hst hrv
        go_wp2_with fail
        go_ret2
        exact ⟨.inr ⟨HN.out, rfl⟩, hB1⟩
      · obtain rfl : k = s.size := by omega
        have HP := Lib.hid (prog_of h60 hr)
        have HV := Lib.hid hrv
        clear hr hst hrv
        go_wp2_with fail
        go_ret2
        exact ⟨.inl ⟨r, v, HP.out, rfl, HV.out⟩, hB1⟩
    · have HN := Lib.hid (no_prog hn)
      clear hn
      go_wp2_with fail
      go_ret2
      exact ⟨.inr ⟨HN.out, rfl⟩, hB1⟩
  · have HN := Lib.hid (no_prog_long (s := s) (by omega))
    go_enter Try.func36, Try.ntmps36
    go_wp2_with fail
    go_ret2
    exact ⟨.inr ⟨HN.out, rfl⟩, Below.refl _ _⟩
theorem programOk_impl (s : ByteArray) (w : World) (hs : s.size ≤ maxLen) : Calls Try.prog 18 #[.string s] w fun e w' => e = .returned (.bool (progV s)) ∧ Below w.heap.size w w' := by
  have HR := Lib.hid (readProgram_any s w hs)
  go_enter Try.func18, Try.ntmps18
  go_wp2_with fail
  refine HR.out.mono ?_
  rintro e w1 ⟨hv, hB1⟩
  rcases hv with ⟨r, v, hr, rfl, hrv⟩ | ⟨hn, rfl⟩
  · have HP := Lib.hid ((progV_iff s).2 ⟨r, hr⟩)
    clear hr hrv
    go_wp2_with fail
    go_ret
    exact ⟨ret_bool HP.out.symm, hB1⟩
  · have HP := Lib.hid (progV_no hn)
    clear hn
    go_wp2_with fail
    go_ret
    exact ⟨ret_bool HP.out.symm, hB1⟩
theorem l2End_any (s : ByteArray) (hs : s.size ≤ 60) : ∀ (n a : Nat) (w : World), s.size - a ≤ n → a ≤ s.size → Calls Try.prog 39 #[.string s, .int .i64 (a : Int)] w (EndPost s a w) := by
  intro n
  induction n with
  | zero => intro a w hn ha; exact l2End_step s a w hs ha (fun b w hb hab => by omega)
  | succ n ih => intro a w hn ha; exact l2End_step s a w hs ha (fun b w hb hab => ih b w (by omega) hb)
theorem programOk_spec (s : ByteArray) (w : World) (hs : s.size ≤ maxLen) : Calls Try.prog 19 #[.string s] w fun e w' => e = .returned (.bool (progV s)) ∧ w = w' := by
  unfold maxLen at hs
  by_cases h60 : s.size ≤ 60
  · have HR := Lib.hid (fun w => l2End_any s h60 s.size 0 w (by omega) (by omega))
    have e0 : ((0 : Nat) : Int) = 0 := rfl
    rw [e0] at HR
    go_enter Try.func19, Try.ntmps19
    go_wp2_with fail
    refine (HR.out _).mono ?_
    rintro e w1 ⟨⟨v, rfl, hv⟩, rfl⟩
    rcases hv with ⟨k, r, hr, hst, rfl⟩ | ⟨hn, rfl⟩
    · have hk := hr.le
      by_cases hks : k < s.size
      · have HP := Lib.hid (progV_no (no_prog_rest hr hst hks))
        have gne : ((k : Int) == (s.size : Int)) = false := by simp; omega
        have hne : ¬ (k : Int) = (s.size : Int) := by omega
        clear hr hst
        go_wp2_with fail
        go_ret
        exact ⟨ret_bool HP.out.symm, rfl⟩
      · obtain rfl : k = s.size := by omega
        have HP := Lib.hid ((progV_iff s).2 ⟨r, prog_of h60 hr⟩)
        clear hr hst
        go_wp2_with fail
        go_ret
        exact ⟨ret_bool HP.out.symm, rfl⟩
    · have HP := Lib.hid (progV_no (no_prog hn))
      have gne : ((-1 : Int) == (s.size : Int)) = false := by simp
      have hne : ¬ (-1 : Int) = (s.size : Int) := by omega
      clear hn
      go_wp2_with fail
      go_ret
      exact ⟨ret_bool HP.out.symm, rfl⟩
  · have HP := Lib.hid (progV_no (no_prog_long (s := s) (by omega)))
    go_enter Try.func19, Try.ntmps19
    go_wp2_with fail
    go_ret
    exact ⟨ret_bool HP.out.symm, rfl⟩
theorem law_FnExactProgramOk (s : ByteArray) (w : World) (hs : s.size ≤ maxLen) : Calls Try.prog 4 #[.string s] w fun e w' => e = .returned (.bool true) ∧ Below w.heap.size w w' := by
  have h1 := fun w => programOk_spec s w hs
  have h2 := fun w => programOk_impl s w hs
  generalize progV s = b at h1 h2
  have H1 := Lib.hid h1; clear h1
  have H2 := Lib.hid h2; clear h2
  unfold maxLen at hs
  go_enter Try.func4, Try.ntmps4
  go_wp2_with fail
  · go_ret
    exact ⟨rfl, Below.refl _ _⟩
  · refine (H1.out _).mono ?_
    rintro e w2 ⟨rfl, rfl⟩
    go_wp2_with fail
    refine (H2.out _).mono ?_
    rintro e w4 ⟨rfl, hb4⟩
    go_wp2_with fail
    all_goals
      go_ret
      exact ⟨rfl, hb4⟩
end Go.Proofs.Ytaakgdjlbokopaa
