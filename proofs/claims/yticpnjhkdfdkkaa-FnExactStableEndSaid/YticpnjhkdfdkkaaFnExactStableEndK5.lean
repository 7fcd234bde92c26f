/- FnExactStableEnd, part 6 of 6: merged by wip/tools/pack2.py out of the texts that the row reaches; the pure statement is the session's own. -/
import Derived.Test.YticpnjhkdfdkkaaRows
import Derived.WalkKit
import Derived.ProofKit
import Derived.OpenShut
import Derived.ShutString
import Derived.ChangeOld
import Derived.Below
import Derived.SizedLaws
import Derived.Test.YticpnjhkdfdkkaaFnExactStableEndK4
namespace Go.Proofs.Yticpnjhkdfdkkaa.Q
open Go.RowKit Go.Proofs.Yticpnjhkdfdkkaa.T Go.Proofs.YticpnjhkdfdkkaaW.PrintWords Go.Proofs.YticpnjhkdfdkkaaW.PrintLast
set_option linter.unusedVariables false
set_option linter.unusedSimpArgs false
abbrev Bt := S27
abbrev rb (l : List Bt) (i : Int) : Bt := rd_T27 l i
theorem rb_nat (l : List Bt) (j : Nat) (h : j < l.length) : rb l (j : Int) = l[j] := by
  unfold rb rd_T27
  rw [Int.toNat_natCast, List.getD_eq_getElem?_getD, List.getElem?_eq_getElem h]
  rfl
def smallBs (l : List Bt) : Prop := l.length ≤ 2000000 ∧ ∀ b ∈ l, smallRs b.f5
theorem smallBs_at {l : List Bt} (h : smallBs l) (j : Nat) (hj : j < l.length) : smallRs (rb l (j : Int)).f5 := by
  rw [rb_nat l j hj]
  exact h.2 _ (List.getElem_mem hj)
def fOff (b : Bt) : Int := (rr b.f5 0).f0
def lOff (b : Bt) : Int := (rr b.f5 ((b.f5.length : Int) - 1)).f0
def vB (b : Bt) : Prop := VB b.f1 b.f2 b.f3 b.f4 b.f5
theorem vB_pos {b : Bt} (h : vB b) : 1 ≤ b.f5.length ∧ b.f5.length ≤ 6 := h.2.1
theorem first_eq {b : Bt} (h : vB b) : impl_Batch_first.f b.f0 b.f1 b.f2 b.f3 b.f4 b.f5 = some (fOff b) := by
  have := vB_pos h
  unfold impl_Batch_first.f
  rw [if_pos (show 0 < (b.f5.length : Int) by omega)]
  rfl
theorem last_eq {b : Bt} (h : vB b) : impl_Batch_last.f b.f0 b.f1 b.f2 b.f3 b.f4 b.f5 = some (lOff b) := by
  have := vB_pos h
  have e : wrap64 ((b.f5.length : Int) - 1) = (b.f5.length : Int) - 1 := wrap_id (by omega) (by omega)
  unfold impl_Batch_last.f
  rw [e, if_pos (show 0 ≤ (b.f5.length : Int) - 1 by omega), if_pos (show (b.f5.length : Int) - 1 < (b.f5.length : Int) by omega)]
  rfl
theorem lastS_eq {b : Bt} (h : vB b) : spec_l12Last.f b.f0 b.f1 b.f2 b.f3 b.f4 b.f5 = some (lOff b) := by
  have := vB_pos h
  have e : wrap64 ((b.f5.length : Int) - 1) = (b.f5.length : Int) - 1 := wrap_id (by omega) (by omega)
  unfold spec_l12Last.f
  rw [e, if_pos (show 0 ≤ (b.f5.length : Int) - 1 by omega), if_pos (show (b.f5.length : Int) - 1 < (b.f5.length : Int) by omega)]
  rfl
theorem lOff_range {b : Bt} (h : vB b) : 0 ≤ lOff b ∧ lOff b ≤ 99999 := by
  have hp := vB_pos h
  have := (h.2.2.2 (b.f5.length - 1) (Nat.zero_le _) (by omega)).1
  unfold rv at this
  rw [Bool.and_eq_true, decide_eq_true_eq] at this
  rw [show ((b.f5.length - 1 : Nat) : Int) = (b.f5.length : Int) - 1 by omega] at this
  exact this.1.1
def LF (l : List Bt) (i : Nat) : Prop := ∀ j, i ≤ j → j < l.length → vB (rb l j) ∧ (0 < j → lOff (rb l ((j : Int) - 1)) < fOff (rb l j))
def VL (l : List Bt) : Prop := l.length ≤ 8 ∧ LF l 0
theorem LF_end {l : List Bt} {i : Nat} (h : l.length ≤ i) : LF l i := fun j h1 h2 => by omega
theorem LF_step {l : List Bt} {i : Nat} (h : i < l.length) : LF l i ↔ (vB (rb l i) ∧ (0 < i → lOff (rb l ((i : Int) - 1)) < fOff (rb l i))) ∧ LF l (i + 1) := by
  constructor
  · intro hl
    exact ⟨hl i (Nat.le_refl _) h, fun j h1 h2 => hl j (by omega) h2⟩
  · rintro ⟨h0, h1⟩ j hj1 hj2
    by_cases he : j = i
    · subst he; exact h0
    · exact h1 j (by omega) hj2
open Classical in
noncomputable def vl (l : List Bt) : Bool := decide (VL l)
theorem vl_iff (l : List Bt) : vl l = true ↔ VL l := by unfold vl; simp
theorem vl_of {b : Bool} {l : List Bt} (h : b = true ↔ VL l) : b = vl l := by
  rw [Bool.eq_iff_iff, h, vl_iff]
theorem vb_vB (b : Bt) : vb b.f1 b.f2 b.f3 b.f4 b.f5 = true ↔ vB b := vb_iff _ _ _ _ _
theorem implLog_loop (l : List Bt) (hl : smallBs l) : ∀ (d i : Nat), l.length - i = d → i ≤ l.length → (∀ j, j < i → vB (rb l (j : Int))) → Evs (fun k => impl_LogValid.l0 k l l (l.length : Int) (i : Int)) (fun b => b = true ↔ LF l i) := by
  have hs := hl.1
  intro d
  induction d with
  | zero =>
    intro i hd hi _
    refine Evs.succ ?_
    simp only [impl_LogValid.l0, if_neg (show ¬ (i : Int) < (l.length : Int) by omega)]
    exact Evs.done ⟨fun _ => LF_end (by omega), fun _ => rfl⟩
  | succ d ih =>
    intro i hd hi hv
    have hlt : i < l.length := by omega
    have e1 : wrap64 ((i : Int) + 1) = ((i + 1 : Nat) : Int) := by rw [wrap_id (by omega) (by omega)]; omega
    refine Evs.succ ?_
    simp only [impl_LogValid.l0, if_pos (show (i : Int) < (l.length : Int) by omega), if_pos (show (0 : Int) ≤ (i : Int) by omega), e1]
    refine Evs.bind (Evs.of (implB (rb l i).f0 (rb l i).f1 (rb l i).f2 (rb l i).f3 (rb l i).f4 (rb l i).f5 (smallBs_at hl i hlt)) rfl) ?_
    rintro _ rfl
    by_cases hb : vB (rb l i)
    · have hb2 := (vb_vB (rb l i)).2 hb
      simp only [if_pos hb2]
      have hv2 : ∀ j, j < i + 1 → vB (rb l (j : Int)) := fun j hj => by
        by_cases he : j = i
        · subst he; exact hb
        · exact hv j (by omega)
      by_cases h0 : i = 0
      · subst h0
        simp only [if_neg (show ¬ ((0 : Nat) : Int) > 0 by omega)]
        refine (ih 1 (by omega) (by omega) hv2).mono fun b hb3 => ?_
        rw [hb3, LF_step hlt]
        exact ⟨fun h => ⟨⟨hb, fun h => absurd h (by omega)⟩, h⟩, fun h => h.2⟩
      · have e2 : wrap64 ((i : Int) - 1) = (i : Int) - 1 := wrap_id (by omega) (by omega)
        have hp : vB (rb l ((i : Int) - 1)) := by have := hv (i - 1) (by omega); rwa [show ((i - 1 : Nat) : Int) = (i : Int) - 1 by omega] at this
        have f1 := last_eq hp
        have f2 := first_eq hb
        simp only [if_pos (show (i : Int) > 0 by omega), e2, if_pos (show 0 ≤ (i : Int) - 1 by omega), if_pos (show (i : Int) - 1 < (l.length : Int) by omega)]
        rw [show (rd_T27 l ((i : Int) - 1)) = rb l ((i : Int) - 1) from rfl, show (rd_T27 l (i : Int)) = rb l (i : Int) from rfl, f1, f2]
        simp only [bsome]
        by_cases hc : lOff (rb l ((i : Int) - 1)) ≥ fOff (rb l i)
        · simp only [if_pos hc]
          refine Evs.done ?_
          rw [LF_step hlt]
          simp only [Bool.false_eq_true, false_iff]
          intro h
          have := h.1.2 (by omega)
          omega
        · simp only [if_neg hc]
          refine (ih (i + 1) (by omega) (by omega) hv2).mono fun b hb3 => ?_
          rw [hb3, LF_step hlt]
          exact ⟨fun h => ⟨⟨hb, fun _ => by omega⟩, h⟩, fun h => h.2⟩
    · have hb2 : ¬ vb (rb l i).f1 (rb l i).f2 (rb l i).f3 (rb l i).f4 (rb l i).f5 = true := fun h => hb ((vb_vB (rb l i)).1 h)
      simp only [if_neg hb2]
      refine Evs.done ?_
      rw [LF_step hlt]
      simp only [Bool.false_eq_true, false_iff]
      exact fun h => hb h.1.1
theorem implLog (l : List Bt) (hl : smallBs l) : Ev (fun k => impl_LogValid.f k l) (vl l) := by
  have hs := hl.1
  unfold impl_LogValid.f
  by_cases h : (l.length : Int) > 8
  · simp only [if_pos h]
    have : vl l = false := by rw [← Bool.not_eq_true, vl_iff]; exact fun h2 => by have := h2.1; omega
    rw [this]
    exact ev_some _
  · simp only [if_neg h]
    obtain ⟨b, h1, h2⟩ := implLog_loop l hl l.length 0 (by omega) (by omega) (fun j hj => by omega)
    have : b = vl l := vl_of (h2.trans ⟨fun h3 => ⟨by omega, h3⟩, fun h3 => h3.2⟩)
    rw [← this]
    exact h1
theorem specLog_loop (l : List Bt) (hl : smallBs l) : ∀ (d i : Nat), l.length - i = d → i ≤ l.length → (∀ j, j < i → vB (rb l (j : Int))) → Evs (fun k => spec_LogValid.l0 k l (i : Int)) (fun b => b = true ↔ LF l i ∧ l.length ≤ 8) := by
  have hs := hl.1
  intro d
  induction d with
  | zero =>
    intro i hd hi _
    refine Evs.succ ?_
    simp only [spec_LogValid.l0, if_neg (show ¬ (i : Int) < (l.length : Int) by omega)]
    refine Evs.done ?_
    rw [decide_eq_true_eq]
    exact ⟨fun h => ⟨LF_end (by omega), by omega⟩, fun h => by omega⟩
  | succ d ih =>
    intro i hd hi hv
    have hlt : i < l.length := by omega
    have e1 : wrap64 ((i : Int) + 1) = ((i + 1 : Nat) : Int) := by rw [wrap_id (by omega) (by omega)]; omega
    refine Evs.succ ?_
    simp only [spec_LogValid.l0, if_pos (show (i : Int) < (l.length : Int) by omega), if_pos (show (0 : Int) ≤ (i : Int) by omega), e1]
    refine Evs.bind (Evs.of (specB (rb l i).f0 (rb l i).f1 (rb l i).f2 (rb l i).f3 (rb l i).f4 (rb l i).f5 (smallBs_at hl i hlt)) rfl) ?_
    rintro _ rfl
    by_cases hb : vB (rb l i)
    · have hb2 := (vb_vB (rb l i)).2 hb
      simp only [if_pos hb2]
      have hv2 : ∀ j, j < i + 1 → vB (rb l (j : Int)) := fun j hj => by
        by_cases he : j = i
        · subst he; exact hb
        · exact hv j (by omega)
      by_cases h0 : i = 0
      · subst h0
        simp only [if_neg (show ¬ ((0 : Nat) : Int) > 0 by omega)]
        refine (ih 1 (by omega) (by omega) hv2).mono fun b hb3 => ?_
        rw [hb3, LF_step hlt]
        exact ⟨fun h => ⟨⟨⟨hb, fun h => absurd h (by omega)⟩, h.1⟩, h.2⟩, fun h => ⟨h.1.2, h.2⟩⟩
      · have e2 : wrap64 ((i : Int) - 1) = (i : Int) - 1 := wrap_id (by omega) (by omega)
        have hp : vB (rb l ((i : Int) - 1)) := by have := hv (i - 1) (by omega); rwa [show ((i - 1 : Nat) : Int) = (i : Int) - 1 by omega] at this
        have f1 := lastS_eq hp
        have hpos := (vB_pos hb).1
        simp only [if_pos (show (i : Int) > 0 by omega), e2, if_pos (show 0 ≤ (i : Int) - 1 by omega), if_pos (show (i : Int) - 1 < (l.length : Int) by omega)]
        rw [show (rd_T27 l ((i : Int) - 1)) = rb l ((i : Int) - 1) from rfl, show (rd_T27 l (i : Int)) = rb l (i : Int) from rfl, f1]
        simp only [bsome, if_pos (show 0 < ((rb l (i : Int)).f5.length : Int) by omega)]
        by_cases hc : lOff (rb l ((i : Int) - 1)) ≥ fOff (rb l i)
        · simp only [if_pos (show lOff (rb l ((i : Int) - 1)) ≥ (rd_T34 (rb l (i : Int)).f5 0).f0 from hc)]
          refine Evs.done ?_
          rw [LF_step hlt]
          simp only [Bool.false_eq_true, false_iff]
          intro h
          have := h.1.1.2 (by omega)
          omega
        · simp only [if_neg (show ¬ lOff (rb l ((i : Int) - 1)) ≥ (rd_T34 (rb l (i : Int)).f5 0).f0 from hc)]
          refine (ih (i + 1) (by omega) (by omega) hv2).mono fun b hb3 => ?_
          rw [hb3, LF_step hlt]
          exact ⟨fun h => ⟨⟨⟨hb, fun _ => by omega⟩, h.1⟩, h.2⟩, fun h => ⟨h.1.2, h.2⟩⟩
    · have hb2 : ¬ vb (rb l i).f1 (rb l i).f2 (rb l i).f3 (rb l i).f4 (rb l i).f5 = true := fun h => hb ((vb_vB (rb l i)).1 h)
      simp only [if_neg hb2]
      refine Evs.done ?_
      rw [LF_step hlt]
      simp only [Bool.false_eq_true, false_iff]
      exact fun h => hb h.1.1.1
theorem specLog (l : List Bt) (hl : smallBs l) : Ev (fun k => spec_LogValid.f k l) (vl l) := by
  unfold spec_LogValid.f
  obtain ⟨b, h1, h2⟩ := specLog_loop l hl l.length 0 (by omega) (by omega) (fun j hj => by omega)
  have : b = vl l := vl_of (h2.trans ⟨fun h3 => ⟨h3.2, h3.1⟩, fun h3 => ⟨h3.2, h3.1⟩⟩)
  rw [← this]
  exact h1
theorem VL_at {l : List Bt} (h : VL l) (j : Nat) (hj : j < l.length) : vB (rb l (j : Int)) := (h.2 j (Nat.zero_le _) hj).1
end Go.Proofs.Yticpnjhkdfdkkaa.Q
namespace Go.Proofs.Yticpnjhkdfdkkaa.Q
open Go.RowKit Go.Proofs.Yticpnjhkdfdkkaa.T Go.Proofs.YticpnjhkdfdkkaaW.PrintWords Go.Proofs.YticpnjhkdfdkkaaW.PrintLast
set_option linter.unusedVariables false
set_option linter.unusedSimpArgs false
abbrev Lr := S120
abbrev Lb := S83
def toR (x : Lr) : Rc := ⟨x.f0, x.f1, x.f2, x.f3, x.f4, x.f5⟩
def toB (x : Lb) : Bt := ⟨x.f0, x.f1, x.f2, x.f3, x.f4, x.f5.map toR⟩
theorem rdLr (l : List Lr) (j : Nat) (h : j < l.length) : rd_T120 l (j : Int) = l[j] := by
  unfold rd_T120
  rw [Int.toNat_natCast, List.getD_eq_getElem?_getD, List.getElem?_eq_getElem h]
  rfl
theorem rdLb (l : List Lb) (j : Nat) (h : j < l.length) : rd_T83 l (j : Int) = l[j] := by
  unfold rd_T83
  rw [Int.toNat_natCast, List.getD_eq_getElem?_getD, List.getElem?_eq_getElem h]
  rfl
def sz (a : Int) (P : Prop) (r : Int) : Prop := r = -1 ∨ (0 ≤ r ∧ r ≤ a ∧ P)
theorem szInts (l : List Int) (hl : l.length ≤ 9223372036854775807) (a : Int) (h0 : 0 ≤ a) (h1 : a ≤ 1048576) : ∃ r, laws_szIntS.f l a = some r ∧ sz a (l.length ≤ 1048576) r := by
  have e : wrap64 (a - (l.length : Int)) = a - (l.length : Int) := wrap_id (by omega) (by omega)
  unfold laws_szIntS.f
  rw [e]
  by_cases h : a - (l.length : Int) < 0
  · rw [if_pos h]; exact ⟨_, rfl, Or.inl rfl⟩
  · rw [if_neg h]; exact ⟨_, rfl, Or.inr ⟨by omega, by omega, by omega⟩⟩
def okR (x : Lr) : Prop := x.f3.length ≤ 1048576 ∧ x.f5.length ≤ 1048576
def bigR (x : Lr) : Prop := x.f3.length ≤ 9223372036854775807 ∧ x.f5.length ≤ 9223372036854775807
theorem szRec (x : Lr) (hx : bigR x) (a : Int) (h0 : 0 ≤ a) (h1 : a ≤ 1048576) : ∃ r, laws_szRecord.f x.f0 x.f1 x.f2 x.f3 x.f4 x.f5 a = some r ∧ sz a (okR x) r := by
  obtain ⟨r1, e1, p1⟩ := szInts x.f3 hx.1 a h0 h1
  unfold laws_szRecord.f
  rw [e1]
  rw [bsome]
  rcases p1 with rfl | ⟨q0, q1, q2⟩
  · rw [if_pos (by omega)]; exact ⟨_, rfl, Or.inl rfl⟩
  · rw [if_neg (by omega)]
    obtain ⟨r2, e2, p2⟩ := szInts x.f5 hx.2 r1 q0 (by omega)
    rw [e2]
    rw [bsome]
    rcases p2 with rfl | ⟨s0, s1, s2⟩
    · rw [if_pos (by omega)]; exact ⟨_, rfl, Or.inl rfl⟩
    · rw [if_neg (by omega)]; exact ⟨_, rfl, Or.inr ⟨s0, by omega, q2, s2⟩⟩
theorem szRecs_loop (l : List Lr) (hl : l.length ≤ 1048576) (hx : ∀ x ∈ l, bigR x) : ∀ (d i : Nat) (a : Int), l.length - i = d → i ≤ l.length → 0 ≤ a → a ≤ 1048576 → Evs (fun k => laws_szRecordS.l0 k l a (i : Int)) (sz a (∀ j, i ≤ j → (h : j < l.length) → okR l[j])) := by
  intro d
  induction d with
  | zero =>
    intro i a hd hi h0 h1
    refine Evs.succ ?_
    simp only [laws_szRecordS.l0, if_neg (show ¬ (i : Int) < (l.length : Int) by omega)]
    exact Evs.done (Or.inr ⟨h0, Int.le_refl _, fun j hj h => by omega⟩)
  | succ d ih =>
    intro i a hd hi h0 h1
    have hlt : i < l.length := by omega
    have e1 : wrap64 ((i : Int) + 1) = ((i + 1 : Nat) : Int) := by rw [wrap_id (by omega) (by omega)]; omega
    refine Evs.succ ?_
    obtain ⟨r, er, pr⟩ := szRec l[i] (hx _ (List.getElem_mem hlt)) a h0 h1
    simp only [laws_szRecordS.l0, if_pos (show (i : Int) < (l.length : Int) by omega), if_pos (show (0 : Int) ≤ (i : Int) by omega), rdLr l i hlt, er, bsome, e1]
    rcases pr with rfl | ⟨q0, q1, q2⟩
    · simp only [if_pos (show (-1 : Int) < 0 by omega)]
      exact Evs.done (Or.inl rfl)
    · simp only [if_neg (show ¬ r < 0 by omega)]
      refine (ih (i + 1) r (by omega) (by omega) q0 (by omega)).mono fun r2 h2 => ?_
      rcases h2 with h2 | ⟨s0, s1, s2⟩
      · exact Or.inl h2
      · refine Or.inr ⟨s0, by omega, fun j hj h => ?_⟩
        by_cases he : j = i
        · subst he; exact q2
        · exact s2 j (by omega) h
theorem szRecs (l : List Lr) (hl : l.length ≤ 9223372036854775807) (hx : ∀ x ∈ l, bigR x) (a : Int) (h0 : 0 ≤ a) (h1 : a ≤ 1048576) : Evs (fun k => laws_szRecordS.f k l a) (sz a (l.length ≤ 1048576 ∧ ∀ x ∈ l, okR x)) := by
  have e : wrap64 (a - (l.length : Int)) = a - (l.length : Int) := wrap_id (by omega) (by omega)
  unfold laws_szRecordS.f
  simp only [e]
  by_cases h : a - (l.length : Int) < 0
  · simp only [if_pos h]; exact Evs.done (Or.inl rfl)
  · simp only [if_neg h]
    refine (szRecs_loop l (by omega) hx l.length 0 _ rfl (by omega) (by omega) (by omega)).mono fun r hr => ?_
    rcases hr with hr | ⟨s0, s1, s2⟩
    · exact Or.inl hr
    · refine Or.inr ⟨s0, by omega, by omega, fun x hx2 => ?_⟩
      obtain ⟨j, hj, rfl⟩ := List.getElem_of_mem hx2
      exact s2 j (Nat.zero_le _) hj
def okB (x : Lb) : Prop := x.f5.length ≤ 1048576 ∧ ∀ y ∈ x.f5, okR y
def bigB (x : Lb) : Prop := x.f5.length ≤ 9223372036854775807 ∧ ∀ y ∈ x.f5, bigR y
theorem szBat (x : Lb) (hx : bigB x) (a : Int) (h0 : 0 ≤ a) (h1 : a ≤ 1048576) : Evs (fun k => laws_szBatch.f k x.f0 x.f1 x.f2 x.f3 x.f4 x.f5 a) (sz a (okB x)) := by
  unfold laws_szBatch.f
  refine Evs.bind (szRecs x.f5 hx.1 hx.2 a h0 h1) ?_
  intro r hr
  rcases hr with rfl | ⟨s0, s1, s2⟩
  · simp only [if_pos (show (-1 : Int) < 0 by omega)]; exact Evs.done (Or.inl rfl)
  · simp only [if_neg (show ¬ r < 0 by omega)]; exact Evs.done (Or.inr ⟨s0, s1, s2⟩)
theorem szBats_loop (l : List Lb) (hl : l.length ≤ 1048576) (hx : ∀ x ∈ l, bigB x) : ∀ (d i : Nat) (a : Int), l.length - i = d → i ≤ l.length → 0 ≤ a → a ≤ 1048576 → Evs (fun k => laws_szBatchS.l0 k l a (i : Int)) (sz a (∀ j, i ≤ j → (h : j < l.length) → okB l[j])) := by
  intro d
  induction d with
  | zero =>
    intro i a hd hi h0 h1
    refine Evs.succ ?_
    simp only [laws_szBatchS.l0, if_neg (show ¬ (i : Int) < (l.length : Int) by omega)]
    exact Evs.done (Or.inr ⟨h0, Int.le_refl _, fun j hj h => by omega⟩)
  | succ d ih =>
    intro i a hd hi h0 h1
    have hlt : i < l.length := by omega
    have e1 : wrap64 ((i : Int) + 1) = ((i + 1 : Nat) : Int) := by rw [wrap_id (by omega) (by omega)]; omega
    refine Evs.succ ?_
    simp only [laws_szBatchS.l0, if_pos (show (i : Int) < (l.length : Int) by omega), if_pos (show (0 : Int) ≤ (i : Int) by omega), rdLb l i hlt, e1]
    refine Evs.bind (szBat l[i] (hx _ (List.getElem_mem hlt)) a h0 h1) ?_
    intro r pr
    rcases pr with rfl | ⟨q0, q1, q2⟩
    · simp only [if_pos (show (-1 : Int) < 0 by omega)]
      exact Evs.done (Or.inl rfl)
    · simp only [if_neg (show ¬ r < 0 by omega)]
      refine (ih (i + 1) r (by omega) (by omega) q0 (by omega)).mono fun r2 h2 => ?_
      rcases h2 with h2 | ⟨s0, s1, s2⟩
      · exact Or.inl h2
      · refine Or.inr ⟨s0, by omega, fun j hj h => ?_⟩
        by_cases he : j = i
        · subst he; exact q2
        · exact s2 j (by omega) h
theorem szBats (l : List Lb) (hl : l.length ≤ 9223372036854775807) (hx : ∀ x ∈ l, bigB x) (a : Int) (h0 : 0 ≤ a) (h1 : a ≤ 1048576) : Evs (fun k => laws_szBatchS.f k l a) (sz a (l.length ≤ 1048576 ∧ ∀ x ∈ l, okB x)) := by
  have e : wrap64 (a - (l.length : Int)) = a - (l.length : Int) := wrap_id (by omega) (by omega)
  unfold laws_szBatchS.f
  simp only [e]
  by_cases h : a - (l.length : Int) < 0
  · simp only [if_pos h]; exact Evs.done (Or.inl rfl)
  · simp only [if_neg h]
    refine (szBats_loop l (by omega) hx l.length 0 _ rfl (by omega) (by omega) (by omega)).mono fun r hr => ?_
    rcases hr with hr | ⟨s0, s1, s2⟩
    · exact Or.inl hr
    · refine Or.inr ⟨s0, by omega, by omega, fun x hx2 => ?_⟩
      obtain ⟨j, hj, rfl⟩ := List.getElem_of_mem hx2
      exact s2 j (Nat.zero_le _) hj
theorem set_mid {α : Type} (a : List α) (x y : α) (b : List α) (i : Nat) (h : i = a.length) : (a ++ x :: b).set i y = a ++ y :: b := by
  subst h
  simp
theorem fill_step {α : Type} (l : List α) (z : α) (i : Nat) (h : i < l.length) : (l.take i ++ List.replicate (l.length - i) z).set i l[i] = l.take (i + 1) ++ List.replicate (l.length - (i + 1)) z := by
  have e : l.length - i = (l.length - (i + 1)) + 1 := by omega
  rw [e, List.replicate_succ, set_mid _ _ _ _ _ (by rw [List.length_take]; omega)]
  have h2 : l.take (i + 1) = l.take i ++ [l[i]] := by simp
  rw [h2, List.append_assoc]
  rfl
theorem fill_len {α : Type} (l : List α) (z : α) (i : Nat) (h : i ≤ l.length) : (l.take i ++ List.replicate (l.length - i) z).length = l.length := by
  rw [List.length_append, List.length_take, List.length_replicate]
  omega
theorem toInts (l : List Int) (hl : l.length ≤ 1048576) : Ev (fun k => laws_toIntS.f k l) l := by
  have loop : ∀ (d i : Nat), l.length - i = d → i ≤ l.length → Ev (fun k => laws_toIntS.l0 k l (l.take i ++ List.replicate (l.length - i) 0) (i : Int)) l := by
    intro d
    induction d with
    | zero =>
      intro i hd hi
      refine ev_succ ?_
      simp only [laws_toIntS.l0, if_neg (show ¬ (i : Int) < (l.length : Int) by omega)]
      have : l.take i ++ List.replicate (l.length - i) 0 = l := by rw [List.take_of_length_le (by omega), hd]; simp
      rw [this]
      exact ev_some _
    | succ d ih =>
      intro i hd hi
      have hlt : i < l.length := by omega
      have e1 : wrap64 ((i : Int) + 1) = ((i + 1 : Nat) : Int) := by rw [wrap_id (by omega) (by omega)]; omega
      refine ev_succ ?_
      simp only [laws_toIntS.l0, if_pos (show (i : Int) < (l.length : Int) by omega), if_pos (show (0 : Int) ≤ (i : Int) by omega), fill_len l 0 i hi, e1, Int.toNat_natCast, rd_nat l i hlt, fill_step l 0 i hlt]
      exact ih (i + 1) (by omega) (by omega)
  unfold laws_toIntS.f
  simp only [if_pos (show 0 ≤ (l.length : Int) by omega), Int.toNat_natCast, if_pos (show l.length ≤ 35184372088832 by omega)]
  exact loop l.length 0 rfl (by omega)
theorem toRec (x : Lr) (hx : okR x) : Ev (fun k => laws_toRecord.f k x.f0 x.f1 x.f2 x.f3 x.f4 x.f5) (x.f0, x.f1, x.f2, x.f3, x.f4, x.f5) := by
  unfold laws_toRecord.f
  refine Ev.bind (toInts x.f3 hx.1) ?_
  exact Ev.bind (toInts x.f5 hx.2) (ev_some _)
theorem toRecs (l : List Lr) (hl : l.length ≤ 1048576) (hx : ∀ x ∈ l, okR x) : Ev (fun k => laws_toRecordS.f k l) (l.map toR) := by
  have hml : (l.map toR).length = l.length := List.length_map ..
  have loop : ∀ (d i : Nat), l.length - i = d → i ≤ l.length → Ev (fun k => laws_toRecordS.l0 k l ((l.map toR).take i ++ List.replicate ((l.map toR).length - i) z34) (i : Int)) (l.map toR) := by
    intro d
    induction d with
    | zero =>
      intro i hd hi
      refine ev_succ ?_
      simp only [laws_toRecordS.l0, if_neg (show ¬ (i : Int) < (l.length : Int) by omega)]
      have : (l.map toR).take i ++ List.replicate ((l.map toR).length - i) z34 = l.map toR := by rw [List.take_of_length_le (by omega), hml, hd]; simp
      rw [this]
      exact ev_some _
    | succ d ih =>
      intro i hd hi
      have hlt : i < l.length := by omega
      have e1 : wrap64 ((i : Int) + 1) = ((i + 1 : Nat) : Int) := by rw [wrap_id (by omega) (by omega)]; omega
      have hfs := fill_step (l.map toR) z34 i (by omega)
      have hfl := fill_len (l.map toR) z34 i (by omega)
      refine ev_succ ?_
      simp only [laws_toRecordS.l0, if_pos (show (i : Int) < (l.length : Int) by omega), if_pos (show (0 : Int) ≤ (i : Int) by omega), rdLr l i hlt, e1, hfl, Int.toNat_natCast]
      refine Ev.bind (toRec l[i] (hx _ (List.getElem_mem hlt))) ?_
      simp only [if_pos (show (i : Int) < ((l.map toR).length : Int) by omega)]
      have hg : (l.map toR)[i] = toR l[i] := by simp
      rw [hg] at hfs
      rw [show (⟨l[i].f0, l[i].f1, l[i].f2, l[i].f3, l[i].f4, l[i].f5⟩ : Rc) = toR l[i] from rfl, hfs]
      exact ih (i + 1) (by omega) (by omega)
  unfold laws_toRecordS.f
  simp only [if_pos (show 0 ≤ (l.length : Int) by omega), Int.toNat_natCast, if_pos (show l.length ≤ 3518437208883 by omega)]
  have := loop l.length 0 rfl (by omega)
  rw [hml] at this
  exact this
theorem toBat (x : Lb) (hx : okB x) : Ev (fun k => laws_toBatch.f k x.f0 x.f1 x.f2 x.f3 x.f4 x.f5) (x.f0, x.f1, x.f2, x.f3, x.f4, x.f5.map toR) := by
  unfold laws_toBatch.f
  exact Ev.bind (toRecs x.f5 hx.1 hx.2) (ev_some _)
theorem toBats (l : List Lb) (hl : l.length ≤ 1048576) (hx : ∀ x ∈ l, okB x) : Ev (fun k => laws_toBatchS.f k l) (l.map toB) := by
  have hml : (l.map toB).length = l.length := List.length_map ..
  have loop : ∀ (d i : Nat), l.length - i = d → i ≤ l.length → Ev (fun k => laws_toBatchS.l0 k l ((l.map toB).take i ++ List.replicate ((l.map toB).length - i) z27) (i : Int)) (l.map toB) := by
    intro d
    induction d with
    | zero =>
      intro i hd hi
      refine ev_succ ?_
      simp only [laws_toBatchS.l0, if_neg (show ¬ (i : Int) < (l.length : Int) by omega)]
      have : (l.map toB).take i ++ List.replicate ((l.map toB).length - i) z27 = l.map toB := by rw [List.take_of_length_le (by omega), hml, hd]; simp
      rw [this]
      exact ev_some _
    | succ d ih =>
      intro i hd hi
      have hlt : i < l.length := by omega
      have e1 : wrap64 ((i : Int) + 1) = ((i + 1 : Nat) : Int) := by rw [wrap_id (by omega) (by omega)]; omega
      have hfs := fill_step (l.map toB) z27 i (by omega)
      have hfl := fill_len (l.map toB) z27 i (by omega)
      refine ev_succ ?_
      simp only [laws_toBatchS.l0, if_pos (show (i : Int) < (l.length : Int) by omega), if_pos (show (0 : Int) ≤ (i : Int) by omega), rdLb l i hlt, e1, hfl, Int.toNat_natCast]
      refine Ev.bind (toBat l[i] (hx _ (List.getElem_mem hlt))) ?_
      simp only [if_pos (show (i : Int) < ((l.map toB).length : Int) by omega)]
      have hg : (l.map toB)[i] = toB l[i] := by simp
      rw [hg] at hfs
      rw [show (⟨l[i].f0, l[i].f1, l[i].f2, l[i].f3, l[i].f4, l[i].f5.map toR⟩ : Bt) = toB l[i] from rfl, hfs]
      exact ih (i + 1) (by omega) (by omega)
  unfold laws_toBatchS.f
  simp only [if_pos (show 0 ≤ (l.length : Int) by omega), Int.toNat_natCast, if_pos (show l.length ≤ 5026338869833 by omega)]
  have := loop l.length 0 rfl (by omega)
  rw [hml] at this
  exact this
theorem eqInts_self (a : List Int) (hs : a.length ≤ 1048576) : Ev (fun k => laws_eqIntS.f k a a) true := by
  have loop : ∀ (d i : Nat), a.length - i = d → i ≤ a.length → Ev (fun k => laws_eqIntS.l0 k a a (i : Int)) true := by
    intro d
    induction d with
    | zero =>
      intro i hd hi
      refine ev_succ ?_
      simp only [laws_eqIntS.l0, if_neg (show ¬ (i : Int) < (a.length : Int) by omega)]
      exact ev_some _
    | succ d ih =>
      intro i hd hi
      have e1 : wrap64 ((i : Int) + 1) = ((i + 1 : Nat) : Int) := by rw [wrap_id (by omega) (by omega)]; omega
      refine ev_succ ?_
      simp only [laws_eqIntS.l0, if_pos (show (i : Int) < (a.length : Int) by omega), if_pos (show (0 : Int) ≤ (i : Int) by omega), if_true, e1]
      exact ih (i + 1) (by omega) (by omega)
  unfold laws_eqIntS.f
  simp only [if_true]
  exact loop a.length 0 rfl (by omega)
def okRc (x : Rc) : Prop := x.f3.length ≤ 1048576 ∧ x.f5.length ≤ 1048576
theorem eqRec_self (x : Rc) (hx : okRc x) : Ev (fun k => laws_eqRecord.f k x.f0 x.f1 x.f2 x.f3 x.f4 x.f5 x.f0 x.f1 x.f2 x.f3 x.f4 x.f5) true := by
  unfold laws_eqRecord.f
  simp only [if_true, bne_self_eq_false, Bool.false_eq_true, if_false]
  refine Ev.bind (eqInts_self x.f3 hx.1) ?_
  simp only [if_true]
  refine Ev.bind (eqInts_self x.f5 hx.2) ?_
  simp only [if_true]
  exact ev_some _
theorem eqRecs_self (a : List Rc) (hs : a.length ≤ 1048576) (hx : ∀ x ∈ a, okRc x) : Ev (fun k => laws_eqRecordS.f k a a) true := by
  have loop : ∀ (d i : Nat), a.length - i = d → i ≤ a.length → Ev (fun k => laws_eqRecordS.l0 k a a (i : Int)) true := by
    intro d
    induction d with
    | zero =>
      intro i hd hi
      refine ev_succ ?_
      simp only [laws_eqRecordS.l0, if_neg (show ¬ (i : Int) < (a.length : Int) by omega)]
      exact ev_some _
    | succ d ih =>
      intro i hd hi
      have hlt : i < a.length := by omega
      have e1 : wrap64 ((i : Int) + 1) = ((i + 1 : Nat) : Int) := by rw [wrap_id (by omega) (by omega)]; omega
      refine ev_succ ?_
      simp only [laws_eqRecordS.l0, if_pos (show (i : Int) < (a.length : Int) by omega), if_pos (show (0 : Int) ≤ (i : Int) by omega), e1]
      refine Ev.bind (eqRec_self (rr a (i : Int)) (by rw [rr_nat a i hlt]; exact hx _ (List.getElem_mem hlt))) ?_
      simp only [if_true]
      exact ih (i + 1) (by omega) (by omega)
  unfold laws_eqRecordS.f
  simp only [if_true]
  exact loop a.length 0 rfl (by omega)
def okBt (x : Bt) : Prop := x.f5.length ≤ 1048576 ∧ ∀ y ∈ x.f5, okRc y
theorem eqBat_self (x : Bt) (hx : okBt x) : Ev (fun k => laws_eqBatch.f k x.f0 x.f1 x.f2 x.f3 x.f4 x.f5 x.f0 x.f1 x.f2 x.f3 x.f4 x.f5) true := by
  unfold laws_eqBatch.f
  simp only [if_true, bne_self_eq_false, Bool.false_eq_true, if_false]
  refine Ev.bind (eqRecs_self x.f5 hx.1 hx.2) ?_
  simp only [if_true]
  exact ev_some _
theorem eqBats_self (a : List Bt) (hs : a.length ≤ 1048576) (hx : ∀ x ∈ a, okBt x) : Ev (fun k => laws_eqBatchS.f k a a) true := by
  have loop : ∀ (d i : Nat), a.length - i = d → i ≤ a.length → Ev (fun k => laws_eqBatchS.l0 k a a (i : Int)) true := by
    intro d
    induction d with
    | zero =>
      intro i hd hi
      refine ev_succ ?_
      simp only [laws_eqBatchS.l0, if_neg (show ¬ (i : Int) < (a.length : Int) by omega)]
      exact ev_some _
    | succ d ih =>
      intro i hd hi
      have hlt : i < a.length := by omega
      have e1 : wrap64 ((i : Int) + 1) = ((i + 1 : Nat) : Int) := by rw [wrap_id (by omega) (by omega)]; omega
      refine ev_succ ?_
      simp only [laws_eqBatchS.l0, if_pos (show (i : Int) < (a.length : Int) by omega), if_pos (show (0 : Int) ≤ (i : Int) by omega), e1]
      refine Ev.bind (eqBat_self (rb a (i : Int)) (by rw [rb_nat a i hlt]; exact hx _ (List.getElem_mem hlt))) ?_
      simp only [if_true]
      exact ih (i + 1) (by omega) (by omega)
  unfold laws_eqBatchS.f
  simp only [if_true]
  exact loop a.length 0 rfl (by omega)
theorem okBt_of (x : Lb) (h : okB x) : okBt (toB x) := by
  refine ⟨by show (x.f5.map toR).length ≤ 1048576; rw [List.length_map]; exact h.1, fun y hy => ?_⟩
  obtain ⟨z, hz, rfl⟩ := List.mem_map.1 hy
  exact h.2 z hz
theorem smallRs_of (x : Lb) (h : okB x) : smallRs (toB x).f5 := by
  have h2 := okBt_of x h
  exact ⟨by have := h2.1; omega, fun y hy => ⟨by have := (h2.2 y hy).1; omega, by have := (h2.2 y hy).2; omega⟩⟩
theorem maxLen_le : maxLen ≤ 9223372036854775807 := by unfold maxLen; omega
theorem bigB_of {x : Lb} (h : WF83 x) : bigB x := by
  have hm := maxLen_le
  unfold WF83 at h
  have h5 := h.2.2.2.2.2
  refine ⟨Nat.le_trans h5.1 hm, fun y hy => ?_⟩
  have h6 := h5.2 y hy
  unfold WF120 at h6
  exact ⟨Nat.le_trans h6.2.2.2.1.1 hm, Nat.le_trans h6.2.2.2.2.2.1 hm⟩
end Go.Proofs.Yticpnjhkdfdkkaa.Q
namespace Go.Proofs.Yticpnjhkdfdkkaa.Q
open Go.RowKit Go.Proofs.Yticpnjhkdfdkkaa.T Go.Proofs.YticpnjhkdfdkkaaW.PrintWords Go.Proofs.YticpnjhkdfdkkaaW.PrintLast
set_option linter.unusedVariables false
set_option linter.unusedSimpArgs false
abbrev pr (l : List Bt) (i : Nat) : Int := (rb l (i : Int)).f2
abbrev mk (l : List Bt) (i : Nat) : Bool := (rb l (i : Int)).f1
def nm (l : List Bt) : Nat → Nat → Option Nat
  | 0, _ => none
  | k + 1, i => match nm l k i with
    | some j => some j
    | none => if i < k ∧ mk l k = true ∧ pr l k = pr l i then some k else none
theorem nm_succ_some {l : List Bt} {k i j : Nat} (h : nm l k i = some j) : nm l (k + 1) i = some j := by simp only [nm, h]
theorem nm_le {l : List Bt} {i j : Nat} : ∀ {k m : Nat}, nm l k i = some j → k ≤ m → nm l m i = some j := by
  intro k m h hk
  induction m with
  | zero => have : k = 0 := by omega
            subst this; exact h
  | succ m ih =>
    by_cases he : k = m + 1
    · subst he; exact h
    · exact nm_succ_some (ih (by omega))
theorem nm_self {l : List Bt} : ∀ {k i : Nat}, k ≤ i + 1 → nm l k i = none
  | 0, _, _ => rfl
  | k + 1, i, h => by
    simp only [nm, nm_self (show k ≤ i + 1 by omega)]
    rw [if_neg (by omega)]
def wAt (l : List Bt) (k i : Nat) : Int := if pr l i = 255 then 1 else if mk l i = true then 3 else match nm l k i with
  | none => 0
  | some j => if tellsP (rb l (j : Int)) = true then 1 else 2
def bAt (l : List Bt) (k i : Nat) : Int := if pr l i = 255 then -1 else if mk l i = true then -1 else match nm l k i with
  | none => -1
  | some j => (j : Int)
def opens (l : List Bt) (k i : Nat) : Bool := decide (pr l i ≠ 255) && (!mk l i && (nm l k i).isNone)
theorem fold_fin (l : List Bt) (i : Nat) : ∀ (xs : List Nat) (s : FSt), (∀ x ∈ xs, x < s.ws.length ∧ x < s.bs.length) →
    (xs.foldl (fin1 l i) s).op = s.op ++ xs.filter (fun x => decide (pr l x ≠ pr l i)) ∧
    (∀ y, (xs.foldl (fin1 l i) s).ws.getD y 0 = if y ∈ xs ∧ pr l y = pr l i then (if tellsP (rb l (i : Int)) = true then 1 else 2) else s.ws.getD y 0) ∧
    (∀ y, (xs.foldl (fin1 l i) s).bs.getD y 0 = if y ∈ xs ∧ pr l y = pr l i then (i : Int) else s.bs.getD y 0)
  | [], s, _ => by simp
  | x :: xs, s, h => by
    have hx := h x (by simp)
    by_cases hp : pr l x = pr l i
    · have hf : fin1 l i s x = ⟨s.ws.set x (if tellsP (rb l (i : Int)) = true then 1 else 2), s.bs.set x (i : Int), s.op⟩ := if_pos hp
      have ih := fold_fin l i xs (fin1 l i s x) (fun y hy => by rw [hf]; simpa using h y (by simp [hy]))
      rw [List.foldl_cons]
      rw [hf] at ih ⊢
      refine ⟨?_, fun y => ?_, fun y => ?_⟩
      · rw [ih.1]; simp [hp]
      · rw [ih.2.1 y]
        by_cases hy : y = x
        · subst hy
          simp [hp, List.getD_eq_getElem?_getD, List.getElem?_set_self hx.1]
        · simp [hy, List.getD_eq_getElem?_getD, List.getElem?_set_ne (Ne.symm hy)]
      · rw [ih.2.2 y]
        by_cases hy : y = x
        · subst hy
          simp [hp, List.getD_eq_getElem?_getD, List.getElem?_set_self hx.2]
        · simp [hy, List.getD_eq_getElem?_getD, List.getElem?_set_ne (Ne.symm hy)]
    · have hf : fin1 l i s x = ⟨s.ws, s.bs, s.op ++ [x]⟩ := if_neg hp
      have ih := fold_fin l i xs (fin1 l i s x) (fun y hy => by rw [hf]; exact h y (by simp [hy]))
      rw [List.foldl_cons]
      rw [hf] at ih ⊢
      refine ⟨?_, fun y => ?_, fun y => ?_⟩
      · rw [ih.1]; simp [hp]
      · rw [ih.2.1 y]
        by_cases hy : y = x
        · subst hy; simp [hp]
        · simp [hy]
      · rw [ih.2.2 y]
        by_cases hy : y = x
        · subst hy; simp [hp]
        · simp [hy]
structure FP (l : List Bt) (k : Nat) (s : FSt) : Prop where
  op : s.op = (List.range k).filter (opens l k)
  ws : ∀ i, i < k → s.ws.getD i 0 = wAt l k i
  wz : ∀ i, k ≤ i → s.ws.getD i 0 = 0
  bs : ∀ i, i < k → s.bs.getD i 0 = bAt l k i
theorem nm_step {l : List Bt} {k i : Nat} (h : ¬ (mk l k = true ∧ pr l k = pr l i)) : nm l (k + 1) i = nm l k i := by
  cases hn : nm l k i with
  | some j => exact nm_succ_some hn
  | none => simp only [nm, hn]; rw [if_neg (fun h2 => h h2.2)]
theorem FP_step {l : List Bt} {k : Nat} (hk : k < l.length) {s : FSt} (hok : FOk l.length k s) (h : FP l k s) : FP l (k + 1) (fstep l s k) := by
  have hlw := hok.lw
  have hlb := hok.lb
  have gs : ∀ (a : List Int) (i x : Nat) (v : Int), x < a.length → (a.set x v).getD i 0 = if i = x then v else a.getD i 0 := by
    intro a i x v hx
    by_cases hi : i = x
    · subst hi; simp [List.getD_eq_getElem?_getD, List.getElem?_set_self hx]
    · simp [hi, List.getD_eq_getElem?_getD, List.getElem?_set_ne (Ne.symm hi)]
  unfold fstep
  by_cases h255 : pr l k = 255
  · rw [if_pos h255]
    have same : ∀ i, pr l i ≠ 255 → nm l (k + 1) i = nm l k i := fun i hi => nm_step (fun h2 => hi (h2.2.symm.trans h255))
    refine ⟨?_, fun i hi => ?_, fun i hi => ?_, fun i hi => ?_⟩
    · dsimp only
      rw [h.op, List.range_succ, List.filter_append]
      have h1 : [k].filter (opens l (k + 1)) = [] := by simp [opens, h255]
      rw [h1, List.append_nil]
      refine List.filter_congr (fun i hi => ?_)
      unfold opens
      by_cases hp : pr l i = 255
      · simp [hp]
      · rw [same i hp]
    · dsimp only
      rw [gs _ _ _ _ (by omega)]
      by_cases he : i = k
      · rw [if_pos he, he]; unfold wAt; rw [if_pos h255]
      · rw [if_neg he, h.ws i (by omega)]
        unfold wAt
        by_cases hp : pr l i = 255
        · rw [if_pos hp, if_pos hp]
        · rw [if_neg hp, if_neg hp, same i hp]
    · dsimp only
      rw [gs _ _ _ _ (by omega), if_neg (by omega)]
      exact h.wz i (by omega)
    · dsimp only
      rw [gs _ _ _ _ (by omega)]
      by_cases he : i = k
      · rw [if_pos he, he]; unfold bAt; rw [if_pos h255]
      · rw [if_neg he, h.bs i (by omega)]
        unfold bAt
        by_cases hp : pr l i = 255
        · rw [if_pos hp, if_pos hp]
        · rw [if_neg hp, if_neg hp, same i hp]
  · rw [if_neg h255]
    by_cases hm : mk l k = false
    · rw [if_pos hm]
      have same : ∀ i, nm l (k + 1) i = nm l k i := fun i => nm_step (fun h2 => by rw [hm] at h2; cases h2.1)
      have hk0 : nm l (k + 1) k = none := nm_self (Nat.le_refl _)
      refine ⟨?_, fun i hi => ?_, fun i hi => ?_, fun i hi => ?_⟩
      · dsimp only
        rw [h.op, List.range_succ, List.filter_append]
        have h1 : [k].filter (opens l (k + 1)) = [k] := by simp [opens, h255, hm, hk0]
        rw [h1]
        congr 1
        refine List.filter_congr (fun i hi => ?_)
        unfold opens
        rw [same i]
      · dsimp only
        by_cases he : i = k
        · rw [he, h.wz k (Nat.le_refl _)]
          unfold wAt
          rw [if_neg h255, if_neg (by rw [hm]; simp), hk0]
        · rw [h.ws i (by omega)]
          unfold wAt
          rw [same i]
      · dsimp only
        exact h.wz i (by omega)
      · dsimp only
        rw [gs _ _ _ _ (by omega)]
        by_cases he : i = k
        · rw [if_pos he, he]; unfold bAt; rw [if_neg h255, if_neg (by rw [hm]; simp), hk0]
        · rw [if_neg he, h.bs i (by omega)]
          unfold bAt
          rw [same i]
    · have hm' : mk l k = true := by simpa using hm
      rw [if_neg hm]
      have hop : ∀ x, x ∈ s.op ↔ x < k ∧ pr l x ≠ 255 ∧ mk l x = false ∧ nm l k x = none := by
        intro x
        rw [h.op, List.mem_filter, List.mem_range]
        simp [opens]
      have hF := fold_fin l k s.op ⟨s.ws.set k 3, s.bs.set k (-1), []⟩ (fun x hx => by
        have := hok.op x hx
        simp only [List.length_set]
        omega)
      dsimp only at hF
      have hn : ∀ i, i < k → nm l (k + 1) i = match nm l k i with | some j => some j | none => if pr l k = pr l i then some k else none := by
        intro i hi
        simp only [nm]
        cases nm l k i with
        | some j => rfl
        | none => simp [hi, hm']
      refine ⟨?_, fun i hi => ?_, fun i hi => ?_, fun i hi => ?_⟩
      · rw [hF.1, List.nil_append, h.op, List.range_succ, List.filter_append, List.filter_filter]
        have h1 : [k].filter (opens l (k + 1)) = [] := by simp [opens, hm']
        rw [h1, List.append_nil]
        refine List.filter_congr (fun i hi => ?_)
        rw [List.mem_range] at hi
        unfold opens
        rw [hn i hi]
        cases hni : nm l k i with
        | some j => simp
        | none =>
          by_cases hp : pr l k = pr l i
          · simp [hp]
          · have hp2 : ¬ pr l i = pr l k := fun e => hp e.symm
            simp [hp, hp2]
      · rw [hF.2.1 i]
        by_cases he : i = k
        · subst he
          rw [if_neg (by rw [hop]; omega), gs _ _ _ _ (by omega), if_pos rfl]
          unfold wAt
          rw [if_neg h255, if_pos hm']
        · have hik : i < k := by omega
          rw [gs _ _ _ _ (by omega), if_neg he, h.ws i hik]
          unfold wAt
          by_cases hp : pr l i = 255
          · rw [if_neg (by rw [hop]; exact fun h2 => h2.1.2.1 hp), if_pos hp, if_pos hp]
          · rw [if_neg hp, if_neg hp]
            by_cases hmi : mk l i = true
            · rw [if_neg (by rw [hop]; intro h2; rw [hmi] at h2; cases h2.1.2.2.1), if_pos hmi, if_pos hmi]
            · rw [if_neg hmi, if_neg hmi, hn i hik]
              cases hni : nm l k i with
              | some j => rw [if_neg (by rw [hop, hni]; intro h2; cases h2.1.2.2.2)]
              | none =>
                by_cases hpk : pr l i = pr l k
                · rw [if_pos ⟨(hop i).2 ⟨hik, hp, by simpa using hmi, hni⟩, hpk⟩]
                  simp [hpk]
                · rw [if_neg (fun h2 => hpk h2.2)]
                  have hp2 : ¬ pr l k = pr l i := fun e => hpk e.symm
                  simp [hp2]
      · rw [hF.2.1 i, if_neg (by rw [hop]; omega), gs _ _ _ _ (by omega), if_neg (by omega)]
        exact h.wz i (by omega)
      · rw [hF.2.2 i]
        by_cases he : i = k
        · subst he
          rw [if_neg (by rw [hop]; omega), gs _ _ _ _ (by omega), if_pos rfl]
          unfold bAt
          rw [if_neg h255, if_pos hm']
        · have hik : i < k := by omega
          rw [gs _ _ _ _ (by omega), if_neg he, h.bs i hik]
          unfold bAt
          by_cases hp : pr l i = 255
          · rw [if_neg (by rw [hop]; exact fun h2 => h2.1.2.1 hp), if_pos hp, if_pos hp]
          · rw [if_neg hp, if_neg hp]
            by_cases hmi : mk l i = true
            · rw [if_neg (by rw [hop]; intro h2; rw [hmi] at h2; cases h2.1.2.2.1), if_pos hmi, if_pos hmi]
            · rw [if_neg hmi, if_neg hmi, hn i hik]
              cases hni : nm l k i with
              | some j => rw [if_neg (by rw [hop, hni]; intro h2; cases h2.1.2.2.2)]
              | none =>
                by_cases hpk : pr l i = pr l k
                · rw [if_pos ⟨(hop i).2 ⟨hik, hp, by simpa using hmi, hni⟩, hpk⟩]
                  simp [hpk]
                · rw [if_neg (fun h2 => hpk h2.2)]
                  have hp2 : ¬ pr l k = pr l i := fun e => hpk e.symm
                  simp [hp2]
theorem FP_all (l : List Bt) : ∀ k, k ≤ l.length → FP l k (fatesTo l k)
  | 0, _ => ⟨by simp [fatesTo, fates0], fun i h => by omega, fun i h => by simp [fatesTo, fates0, List.getD_eq_getElem?_getD, List.getElem?_replicate]; split <;> rfl, fun i h => by omega⟩
  | k + 1, h => by
    rw [fatesTo_succ]
    exact FP_step (by omega) (fates_ok l k (by omega)) (FP_all l k (by omega))
theorem fates_len (l : List Bt) : (fatesTo l l.length).ws.length = l.length ∧ (fatesTo l l.length).bs.length = l.length := ⟨(fates_ok l _ (Nat.le_refl _)).lw, (fates_ok l _ (Nat.le_refl _)).lb⟩
theorem fates_w (l : List Bt) (i : Nat) (h : i < l.length) : rd (fatesTo l l.length).ws (i : Int) = wAt l l.length i := by
  have := (FP_all l l.length (Nat.le_refl _)).ws i h
  unfold rd
  rwa [Int.toNat_natCast]
theorem fates_fit {l : List Bt} (h : VL l) : impl_fatesOf.f l = some ((fatesTo l l.length).ws, (fatesTo l l.length).bs) := by
  unfold impl_fatesOf.f
  rw [if_pos]
  unfold fatesFit
  rw [Bool.and_eq_true, decide_eq_true_eq, List.all_eq_true]
  refine ⟨by have := h.1; omega, fun b hb => ?_⟩
  obtain ⟨j, hj, rfl⟩ := List.getElem_of_mem hb
  have := (vB_pos (VL_at h j hj)).1
  rw [rb_nat l j hj] at this
  exact decide_eq_true (by omega)
end Go.Proofs.Yticpnjhkdfdkkaa.Q
namespace Go.Proofs.Yticpnjhkdfdkkaa.Q
open Go.RowKit Go.Proofs.Yticpnjhkdfdkkaa.T Go.Proofs.YticpnjhkdfdkkaaW.PrintWords Go.Proofs.YticpnjhkdfdkkaaW.PrintLast
set_option linter.unusedVariables false
set_option linter.unusedSimpArgs false
def nmI : Option Nat → Int
  | none => -1
  | some j => (j : Int)
theorem specMark_loop (l : List Bt) (hl : l.length ≤ 2000000) (i : Nat) (hi : i < l.length) : ∀ (d j : Nat), l.length - j = d → i < j → j ≤ l.length → nm l j i = none → Ev (fun k => spec_l22Mark.l0 k l (i : Int) (j : Int)) (nmI (nm l l.length i)) := by
  intro d
  induction d with
  | zero =>
    intro j hd h1 h2 hn
    have hj : j = l.length := by omega
    subst hj
    refine ev_succ ?_
    simp only [spec_l22Mark.l0, if_neg (show ¬ (l.length : Int) < (l.length : Int) by omega), hn]
    exact ev_some _
  | succ d ih =>
    intro j hd h1 h2 hn
    have e1 : wrap64 ((j : Int) + 1) = ((j + 1 : Nat) : Int) := by rw [wrap_id (by omega) (by omega)]; omega
    refine ev_succ ?_
    simp only [spec_l22Mark.l0, if_pos (show (j : Int) < (l.length : Int) by omega), if_pos (show (0 : Int) ≤ (j : Int) by omega), e1]
    have next : ¬ (mk l j = true ∧ pr l j = pr l i) → Ev (fun k => spec_l22Mark.l0 k l (i : Int) ((j + 1 : Nat) : Int)) (nmI (nm l l.length i)) := fun h => ih (j + 1) (by omega) (by omega) (by omega) (by rw [nm_step h]; exact hn)
    by_cases hm : mk l j = true
    · simp only [if_pos (show (rd_T27 l (j : Int)).f1 = true from hm), if_pos (show (0 : Int) ≤ (i : Int) by omega), if_pos (show (i : Int) < (l.length : Int) by omega)]
      by_cases hp : pr l j = pr l i
      · simp only [if_pos (show (rd_T27 l (j : Int)).f2 = (rd_T27 l (i : Int)).f2 from hp)]
        have h3 : nm l (j + 1) i = some j := by simp only [nm, hn]; rw [if_pos ⟨h1, hm, hp⟩]
        rw [nm_le h3 (by omega)]
        exact ev_some _
      · simp only [if_neg (show ¬ (rd_T27 l (j : Int)).f2 = (rd_T27 l (i : Int)).f2 from hp)]
        exact next (fun h => hp h.2)
    · simp only [if_neg (show ¬ (rd_T27 l (j : Int)).f1 = true from hm)]
      exact next (fun h => hm h.1)
theorem specMarkAt (l : List Bt) (hl : l.length ≤ 2000000) (i : Nat) (hi : i < l.length) : Ev (fun k => spec_l22Mark.f k l (i : Int)) (nmI (nm l l.length i)) := by
  unfold spec_l22Mark.f
  have e1 : wrap64 ((i : Int) + 1) = ((i + 1 : Nat) : Int) := by rw [wrap_id (by omega) (by omega)]; omega
  rw [e1]
  exact specMark_loop l hl i hi _ (i + 1) rfl (by omega) (by omega) (nm_self (Nat.le_refl _))
theorem ours_eq (b : Bt) : spec_l22Ours.f b.f0 b.f1 b.f2 b.f3 b.f4 b.f5 = some (decide (b.f2 ≠ 255) && !b.f1) := by
  unfold spec_l22Ours.f
  by_cases h : b.f2 = 255
  · rw [if_pos h]; simp [h]
  · rw [if_neg h]; simp [h]
theorem nmI_neg (o : Option Nat) : nmI o < 0 ↔ o = none := by
  cases o with
  | none => simp [nmI]
  | some j => simp only [nmI]; constructor
              · intro h; omega
              · intro h; cases h
theorem opens_iff (l : List Bt) (k i : Nat) : opens l k i = true ↔ pr l i ≠ 255 ∧ mk l i = false ∧ nm l k i = none := by
  unfold opens
  simp
theorem wAt_zero (l : List Bt) (k i : Nat) : wAt l k i = 0 ↔ opens l k i = true := by
  rw [opens_iff]
  unfold wAt
  by_cases h : pr l i = 255
  · simp [h]
  · by_cases h2 : mk l i = true
    · simp [h, h2]
    · cases h3 : nm l k i with
      | none => simp [h, h2]
      | some j => by_cases h4 : tellsP (rb l (j : Int)) = true <;> simp [h, h2, h4]
def tailP (l : List Bt) : Int := if l.length = 0 then 0 else lOff (rb l ((l.length : Int) - 1)) + 1
def EndP (l : List Bt) (r : Int) : Prop := (∃ i, i < l.length ∧ opens l l.length i = true ∧ (∀ j, j < i → opens l l.length j = false) ∧ r = fOff (rb l (i : Int))) ∨ ((∀ j, j < l.length → opens l l.length j = false) ∧ r = tailP l)
theorem EndP_unique {l : List Bt} {r r' : Int} (h : EndP l r) (h' : EndP l r') : r = r' := by
  rcases h with ⟨i, h1, h2, h3, h4⟩ | ⟨h1, h2⟩
  · rcases h' with ⟨i', h1', h2', h3', h4'⟩ | ⟨h1', h2'⟩
    · have : i = i' := by
        rcases Nat.lt_trichotomy i i' with h | h | h
        · have := h3' i h; rw [h2] at this; cases this
        · exact h
        · have := h3 i' h; rw [h2'] at this; cases this
      rw [h4, h4', this]
    · have := h1' i h1; rw [h2] at this; cases this
  · rcases h' with ⟨i', h1', h2', h3', h4'⟩ | ⟨h1', h2'⟩
    · have := h1 i' h1'; rw [h2'] at this; cases this
    · rw [h2, h2']
theorem VL_last {l : List Bt} (h : VL l) (h0 : l.length ≠ 0) : vB (rb l ((l.length : Int) - 1)) := by
  have := VL_at h (l.length - 1) (by omega)
  rwa [show ((l.length - 1 : Nat) : Int) = (l.length : Int) - 1 by omega] at this
def StP (l : List Bt) (r : Int) : Prop := (VL l ∧ EndP l r) ∨ (¬ VL l ∧ r = -1)
theorem StP_unique {l : List Bt} {r r' : Int} (h : StP l r) (h' : StP l r') : r = r' := by
  rcases h with ⟨h1, h2⟩ | ⟨h1, h2⟩
  · rcases h' with ⟨_, h2'⟩ | ⟨h1', _⟩
    · exact EndP_unique h2 h2'
    · exact absurd h1 h1'
  · rcases h' with ⟨h1', _⟩ | ⟨_, h2'⟩
    · exact absurd h1' h1
    · rw [h2, h2']
theorem vl_true {l : List Bt} (h : VL l) : vl l = true := (vl_iff l).2 h
theorem vl_false {l : List Bt} (h : ¬ VL l) : vl l = false := by rw [← Bool.not_eq_true, vl_iff]; exact h
theorem implEnd (l : List Bt) (hl : smallBs l) (h : VL l) : Ev (fun k => impl_ReadEnd.f k l) (tailP l) := by
  have hs := hl.1
  unfold impl_ReadEnd.f tailP
  refine Ev.bind (implLog l hl) ?_
  rw [vl_true h]
  simp only [if_true]
  by_cases h0 : l.length = 0
  · rw [if_pos h0]
    simp only [if_pos (show (l.length : Int) = 0 by omega)]
    exact ev_some _
  · have e : wrap64 ((l.length : Int) - 1) = (l.length : Int) - 1 := wrap_id (by omega) (by omega)
    have hv := VL_last h h0
    have hr := lOff_range hv
    have e2 : wrap64 (lOff (rb l ((l.length : Int) - 1)) + 1) = lOff (rb l ((l.length : Int) - 1)) + 1 := wrap_id (by omega) (by omega)
    have f := last_eq hv
    rw [if_neg h0]
    simp only [if_neg (show ¬ (l.length : Int) = 0 by omega), e, if_pos (show 0 ≤ (l.length : Int) - 1 by omega), if_pos (show (l.length : Int) - 1 < (l.length : Int) by omega)]
    rw [show (rd_T27 l ((l.length : Int) - 1)) = rb l ((l.length : Int) - 1) from rfl, f]
    simp only [bsome, e2]
    exact ev_some _
theorem implStable_loop (l : List Bt) (hl : smallBs l) (h : VL l) : ∀ (d i : Nat), l.length - i = d → i ≤ l.length → (∀ j, j < i → opens l l.length j = false) → Evs (fun k => impl_StableEnd.l0 k l (fatesTo l l.length).ws (l.length : Int) (i : Int)) (EndP l) := by
  have hs := hl.1
  have hw := (fates_len l).1
  intro d
  induction d with
  | zero =>
    intro i hd hi ho
    refine Evs.succ ?_
    simp only [impl_StableEnd.l0, if_neg (show ¬ (i : Int) < (l.length : Int) by omega)]
    refine Evs.bind (Evs.of (implEnd l hl h) rfl) ?_
    rintro _ rfl
    exact Evs.done (.inr ⟨fun j hj => ho j (by omega), rfl⟩)
  | succ d ih =>
    intro i hd hi ho
    have hlt : i < l.length := by omega
    have e1 : wrap64 ((i : Int) + 1) = ((i + 1 : Nat) : Int) := by rw [wrap_id (by omega) (by omega)]; omega
    refine Evs.succ ?_
    simp only [impl_StableEnd.l0, if_pos (show (i : Int) < (l.length : Int) by omega), if_pos (show (0 : Int) ≤ (i : Int) by omega), hw, e1, fates_w l i hlt]
    by_cases hz : opens l l.length i = true
    · simp only [if_pos ((wAt_zero l l.length i).2 hz)]
      have f := first_eq (VL_at h i hlt)
      rw [show (rd_T27 l (i : Int)) = rb l (i : Int) from rfl, f]
      simp only [bsome]
      exact Evs.done (.inl ⟨i, hlt, hz, ho, rfl⟩)
    · simp only [if_neg (fun h2 => hz ((wAt_zero l l.length i).1 h2))]
      refine ih (i + 1) (by omega) (by omega) (fun j hj => ?_)
      by_cases he : j = i
      · subst he; simpa using hz
      · exact ho j (by omega)
theorem implStable (l : List Bt) (hl : smallBs l) : Evs (fun k => impl_StableEnd.f k l) (StP l) := by
  unfold impl_StableEnd.f
  refine Evs.bind (Evs.of (implLog l hl) rfl) ?_
  rintro _ rfl
  by_cases h : VL l
  · rw [vl_true h]
    simp only [if_true, fates_fit h, bsome]
    have := implStable_loop l hl h l.length 0 (by omega) (by omega) (fun j hj => by omega)
    have h2 := (fates_len l).1
    simp only [h2]
    exact this.mono (fun r hr => Or.inl ⟨h, hr⟩)
  · rw [vl_false h]
    simp only [Bool.false_eq_true, if_false]
    exact Evs.done (.inr ⟨h, rfl⟩)
theorem specEnd_loop (l : List Bt) (hl : smallBs l) (h : VL l) : ∀ (d i : Nat), l.length - i = d → i ≤ l.length → (∀ j, j < i → opens l l.length j = false) → Evs (fun k => spec_l22End.l0 k l (i : Int)) (EndP l) := by
  have hs := hl.1
  intro d
  induction d with
  | zero =>
    intro i hd hi ho
    refine Evs.succ ?_
    simp only [spec_l22End.l0, if_neg (show ¬ (i : Int) < (l.length : Int) by omega)]
    by_cases h0 : l.length = 0
    · simp only [if_pos (show (l.length : Int) = 0 by omega)]
      exact Evs.done (.inr ⟨fun j hj => by omega, by unfold tailP; rw [if_pos h0]⟩)
    · have e : wrap64 ((l.length : Int) - 1) = (l.length : Int) - 1 := wrap_id (by omega) (by omega)
      have hv := VL_last h h0
      have hr := lOff_range hv
      have e2 : wrap64 (lOff (rb l ((l.length : Int) - 1)) + 1) = lOff (rb l ((l.length : Int) - 1)) + 1 := wrap_id (by omega) (by omega)
      have f := lastS_eq hv
      simp only [if_neg (show ¬ (l.length : Int) = 0 by omega), e, if_pos (show 0 ≤ (l.length : Int) - 1 by omega), if_pos (show (l.length : Int) - 1 < (l.length : Int) by omega)]
      rw [show (rd_T27 l ((l.length : Int) - 1)) = rb l ((l.length : Int) - 1) from rfl, f]
      simp only [bsome, e2]
      exact Evs.done (.inr ⟨fun j hj => ho j (by omega), by unfold tailP; rw [if_neg h0]⟩)
  | succ d ih =>
    intro i hd hi ho
    have hlt : i < l.length := by omega
    have e1 : wrap64 ((i : Int) + 1) = ((i + 1 : Nat) : Int) := by rw [wrap_id (by omega) (by omega)]; omega
    have next : opens l l.length i = false → Evs (fun k => spec_l22End.l0 k l ((i + 1 : Nat) : Int)) (EndP l) := fun hz => ih (i + 1) (by omega) (by omega) (fun j hj => by
      by_cases he : j = i
      · subst he; exact hz
      · exact ho j (by omega))
    refine Evs.succ ?_
    have f := ours_eq (rb l (i : Int))
    simp only [spec_l22End.l0, if_pos (show (i : Int) < (l.length : Int) by omega), if_pos (show (0 : Int) ≤ (i : Int) by omega), e1]
    rw [show (rd_T27 l (i : Int)) = rb l (i : Int) from rfl, f]
    simp only [bsome]
    by_cases hu : (decide ((rb l (i : Int)).f2 ≠ 255) && !(rb l (i : Int)).f1) = true
    · simp only [if_pos hu]
      refine Evs.bind (Evs.of (specMarkAt l hs i hlt) rfl) ?_
      rintro _ rfl
      have hu2 : pr l i ≠ 255 ∧ mk l i = false := by simpa using hu
      cases hn : nm l l.length i with
      | none =>
        have hpos := (vB_pos (VL_at h i hlt)).1
        simp only [if_pos ((nmI_neg none).2 rfl), if_pos (show 0 < ((rb l (i : Int)).f5.length : Int) by omega)]
        exact Evs.done (.inl ⟨i, hlt, (opens_iff _ _ _).2 ⟨hu2.1, hu2.2, hn⟩, ho, rfl⟩)
      | some j =>
        simp only [if_neg (show ¬ nmI (some j) < 0 from fun h2 => by have := (nmI_neg _).1 h2; cases this)]
        exact next (by rw [← Bool.not_eq_true, opens_iff, hn]; exact fun h2 => by cases h2.2.2)
    · simp only [if_neg hu]
      exact next (by rw [← Bool.not_eq_true, opens_iff]; exact fun h2 => hu (by simp [h2.1, h2.2.1]))
theorem specStable (l : List Bt) (hl : smallBs l) : Evs (fun k => spec_StableEnd.f k l) (StP l) := by
  unfold spec_StableEnd.f
  refine Evs.bind (Evs.of (specLog l hl) rfl) ?_
  rintro _ rfl
  by_cases h : VL l
  · rw [vl_true h]
    simp only [if_true]
    unfold spec_l22End.f
    refine Evs.bind (specEnd_loop l hl h l.length 0 (by omega) (by omega) (fun j hj => by omega)) ?_
    intro r hr
    exact Evs.done (.inl ⟨h, hr⟩)
  · rw [vl_false h]
    simp only [Bool.false_eq_true, if_false]
    exact Evs.done (.inr ⟨h, rfl⟩)
end Go.Proofs.Yticpnjhkdfdkkaa.Q
namespace Go.Proofs.Yticpnjhkdfdkkaa.Pure
open Go.RowKit Go.Proofs.Yticpnjhkdfdkkaa.T Go.Proofs.YticpnjhkdfdkkaaW.PrintWords Go.Proofs.YticpnjhkdfdkkaaW.PrintLast Go.Proofs.Yticpnjhkdfdkkaa.Q
set_option linter.unusedVariables false
set_option linter.unusedSimpArgs false
theorem FnExactStableEnd : ∀ (l0 : List (S83)), l0.length ≤ maxLen → (∀ v ∈ l0, WF83 v) → ∃ k, laws_FnExactStableEnd.f k l0 = some true := by
  intro l0 hl hw
  refine Ev.rounds ?_
  unfold laws_FnExactStableEnd.f
  obtain ⟨r, h1, p1⟩ := szBats l0 (Nat.le_trans hl maxLen_le) (fun x hx => bigB_of (hw x hx)) 1048576 (by omega) (by omega)
  refine Ev.bind h1 ?_
  rcases p1 with rfl | ⟨s0, s1, s2, s3⟩
  · simp only [if_pos (show (-1 : Int) < 0 by omega)]
    exact ev_some _
  · simp only [if_neg (show ¬ r < 0 by omega)]
    have ht := toBats l0 s2 s3
    have hml : (l0.map toB).length = l0.length := List.length_map ..
    have hs : smallBs (l0.map toB) := by
      refine ⟨by omega, fun b hb => ?_⟩
      obtain ⟨x, hx, rfl⟩ := List.mem_map.1 hb
      exact smallRs_of x (s3 x hx)
    obtain ⟨a, e1, q1⟩ := implStable (l0.map toB) hs
    obtain ⟨a', e2, q2⟩ := specStable (l0.map toB) hs
    obtain rfl := StP_unique q1 q2
    refine Ev.bind ht ?_
    refine Ev.bind e2 ?_
    refine Ev.bind ht ?_
    refine Ev.bind e1 ?_
    simp only [if_true]
    refine Ev.bind ht ?_
    refine Ev.bind (eqBats_self (l0.map toB) (by omega) (fun b hb => ?_)) ?_
    · obtain ⟨x, hx, rfl⟩ := List.mem_map.1 hb
      exact okBt_of x (s3 x hx)
    · simp only [if_true]
      exact ev_some _
end Go.Proofs.Yticpnjhkdfdkkaa.Pure
namespace Go.Proofs.Yticpnjhkdfdkkaa.fnExactStableEnd
open Go.ChangeShapes Go.WideShapes Go.ChangeAt Go.RowKit
open Go.ChangeMaps (open_string shut_string)
open Go.Proofs.YticpnjhkdfdkkaaW.PrintWords
set_option linter.unusedVariables false
theorem own : ownKnob Try.prog.godebug = none := by kernel_rfl
theorem laidOut : laidOutB Try.prog = true := by kernel_rfl
set_option maxRecDepth 100000 in
theorem lifted (os : Os) (started : os.Started) (H : Type) (enc : TypeId × Value → H) :
    ReturnsInHanded {} Try.checked os 13 .any (Rows.fnExactStableEndSpec.pre6 enc Try.prog Try.f13 Rows.fnExactStableEndRow.domain false) (Rows.fnExactStableEndSpec.post enc Try.prog Try.f13 false true false false) := by
  refine returnsInHanded_of_change_sized (C := Try.checked) own started (by kernel_rfl) Try.func13
    (ChangeSpec.witness6 (enc := enc) (C := Try.checked) false ⟨#[], #[.slice none 0 0], []⟩ 8 (by kernel_rfl) (by kernel_rfl) (by kernel_rfl) (by kernel_rfl)) ?_
  intro W base args ds gs before hval0 hW hcnd hsz0 _
  have hval : ∀ (j : Nat) t v, Try.f13.params[j]? = some t → args[j]? = some v → Value.okWide Try.prog W .any base t v := hval0
  have hW' := hW
  obtain ⟨p, q, hA0, hV, rfl, hfz, hnd⟩ := hW
  have hA : DataW.TrodAll enc Try.prog W 0 (fun _ => true) true Try.f13.params.toList args.toList ds p := hA0
  rw [Try.params13] at hA hval
  obtain ⟨v0, vs0, d0, ds0, p0, q0, hargs, rfl, rfl, h0, r0⟩ := trodAll_cons hA
  obtain ⟨rfl, rfl, rfl⟩ := trodAll_nil r0
  obtain rfl : args = #[v0] := by cases args; simp_all
  obtain ⟨rfl, rfl⟩ := trodVars_none hV
  obtain ⟨a0, len0, cap0, rfl⟩ := okWide_slice Try.underlying52 (hval 0 52 v0 rfl rfl)
  have k0 := h0
  have lt0 : ∀ x ∈ p0, x.block < W.heap.size := by obtain ⟨m, hm⟩ := k0; exact DataW.trod_lt m _ _ _ hm
  obtain ⟨fu0, hf0⟩ := h0
  obtain ⟨l0, ⟨A0, c0, hE0, hc0, hC0⟩, hm0, hw0⟩ := (Q.Opens.slice Try.underlying52 T.opens83 (by kernel_rfl)) _ enc W _ _ _ _ _ _ hf0
  replace hE0 : ([.slice a0 len0 cap0] : List Value) = [.slice A0 l0.length c0] := hE0
  simp only [List.cons.injEq, Value.slice.injEq, and_true] at hE0
  obtain ⟨rfl, rfl, rfl⟩ := hE0
  clear hA0 hval0 hsz0
  obtain ⟨k, h⟩ := Pure.FnExactStableEnd l0 hm0 hw0
  refine (T.laws_FnExactStableEnd.calls k _ _ l0 true W hC0 hc0 h).mono ?_
  rintro e W' ⟨rfl, bel⟩
  exact ⟨_, rfl, _, _, _, [], _, [], hW', trodAll_mk1 (shut_bool Try.underlying4 _), (trodAll_cons_mk (Below.trod laidOut (by kernel_rfl) (of_decide_eq_true (by kernel_rfl)) k0 bel lt0) trodAll_mk0), rfl, bel.frame _, fun h => by cases h⟩
theorem closed : joinedFacts Try.prog 13 Try.f13 Rows.fnExactStableEndSpec Rows.fnExactStableEndRow = true :=
  Head.closed_of _ _ _ _ _ (by kernel_rfl) (by kernel_rfl) (by kernel_rfl) (by kernel_rfl) (by kernel_rfl) (by kernel_rfl) (by kernel_rfl) (by kernel_rfl) (by kernel_rfl) (by kernel_rfl) (by kernel_rfl) (by kernel_rfl) (by kernel_rfl) (by kernel_rfl) (by kernel_rfl) (by kernel_rfl) (by kernel_rfl) (by kernel_rfl) (by kernel_rfl) (by kernel_rfl) (by kernel_rfl) (by kernel_rfl) (by kernel_rfl) (by kernel_rfl) (by kernel_rfl) Head.may_enter (by rw [Head.lifts_final]; kernel_rfl) (by rw [Head.make_is]; kernel_rfl) (by kernel_rfl) (by kernel_rfl) (by kernel_rfl) (by kernel_rfl)
theorem over : Rows.fnExactStableEndRow.holds Try.pinned (OpenSpec.ofChange Rows.fnExactStableEndSpec) :=
  OpenClaim.holds_of_wide 13 Try.f13 rfl rfl rfl rfl rfl rfl rfl ⟨rfl, rfl, rfl, rfl, rfl⟩ rfl rfl rfl rfl rfl (by kernel_rfl) Try.func13 closed
    (of_decide_eq_true (by kernel_rfl)) (by unfold Func.isWrapper; first | (rw [if_pos (by decide +kernel)]; kernel_rfl) | (rw [if_neg (by decide +kernel)]; exact ⟨rfl, rfl⟩))
    (fun os started H enc _ => lifted os started H enc)
theorem proved : Rows.FnExactStableEndSaid := over
end Go.Proofs.Yticpnjhkdfdkkaa.fnExactStableEnd
namespace Go.Proofs.Yticpnjhkdfdkkaa
theorem fnExactStableEnd_holds : Rows.FnExactStableEndSaid := fnExactStableEnd.proved
end Go.Proofs.Yticpnjhkdfdkkaa
