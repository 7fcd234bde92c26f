/- FnCheckGap, part 7 of 7: merged by wip/tools/pack.py out of the texts that the row reaches; the pure statement is the session's own. -/
import Derived.RowKit
import Derived.RegionTactic
import Derived.Test.YtkhmopmfbocokaaRows
import Derived.WalkKit
import Derived.ProofKit
import Derived.OpenShut
import Derived.ShutString
import Derived.ChangeOld
import Derived.Below
import Derived.SizedLaws
import Derived.Test.YtkhmopmfbocokaaFnCheckGapK5
namespace Go.Proofs.Ytkhmopmfbocokaa.Q
open Go.RowKit Go.Proofs.Ytkhmopmfbocokaa.T Go.Proofs.YtkhmopmfbocokaaW.PrintWords Go.Proofs.YtkhmopmfbocokaaW.PrintLast
set_option linter.unusedVariables false
set_option linter.unusedSimpArgs false
theorem rd_nat (l : List Int) (j : Nat) (h : j < l.length) : rd l (j : Int) = l[j] := by
  unfold rd
  rw [Int.toNat_natCast, List.getD_eq_getElem?_getD, List.getElem?_eq_getElem h]
  rfl
theorem drop_int {l : List Int} {i : Nat} (h : i < l.length) : l.drop i = rd l i :: l.drop (i + 1) := by
  rw [List.drop_eq_getElem_cons h, rd_nat l i h]
def ab (l : List Int) : Bool := decide (∀ x ∈ l, 0 ≤ x ∧ x ≤ 255)
theorem ab_cons (x : Int) (l : List Int) : ab (x :: l) = (decide (0 ≤ x ∧ x ≤ 255) && ab l) := by
  rw [Bool.eq_iff_iff]
  simp [ab, List.forall_mem_cons]
theorem ab_nil : ab [] = true := by simp [ab]
theorem isByte_eq (a : Int) : impl_isByte.f a = some (decide (0 ≤ a ∧ a ≤ 255)) := by
  unfold impl_isByte.f
  by_cases h : a ≥ 0
  · rw [if_pos h]
    have : (0 ≤ a ∧ a ≤ 255) ↔ a ≤ 255 := ⟨fun h => h.2, fun h' => ⟨h, h'⟩⟩
    simp [this]
  · rw [if_neg h]
    have : ¬ (0 ≤ a ∧ a ≤ 255) := fun h' => h h'.1
    simp [this]
theorem baseValid_eq (a b : Int) : impl_baseValid.f a b = some (decide ((0 ≤ a ∧ a ≤ 99999) ∧ (0 ≤ b ∧ b ≤ 99999))) := by
  unfold impl_baseValid.f
  rw [impl_within_eq, impl_within_eq]
  by_cases h : 0 ≤ a ∧ a ≤ 99999 <;> simp [h]
theorem idValid_eqB (a : Int) : impl_idValid.f a = some (decide (0 ≤ a ∧ a ≤ 254)) := by
  unfold impl_idValid.f
  rw [impl_within_eq]
  rfl
theorem implAll_loop (l : List Int) (hl : l.length ≤ 1000000000000000) : ∀ (d i : Nat), l.length - i = d → i ≤ l.length → Ev (fun k => impl_allBytes.l0 k l (l.length : Int) (i : Int)) (ab (l.drop i)) := by
  intro d
  induction d with
  | zero =>
    intro i hd hi
    rw [show l.drop i = [] from List.drop_eq_nil_of_le (by omega), ab_nil]
    refine ev_succ ?_
    simp only [impl_allBytes.l0, if_neg (show ¬ (i : Int) < (l.length : Int) by omega)]
    exact ev_some _
  | succ d ih =>
    intro i hd hi
    have e1 : wrap64 ((i : Int) + 1) = ((i + 1 : Nat) : Int) := by rw [wrap_id (by omega) (by omega)]; omega
    rw [drop_int (show i < l.length by omega), ab_cons]
    refine ev_succ ?_
    simp only [impl_allBytes.l0, if_pos (show (i : Int) < (l.length : Int) by omega), if_pos (show (0 : Int) ≤ i by omega), isByte_eq, bsome, decide_eq_true_eq, e1]
    by_cases h : 0 ≤ rd l (i : Int) ∧ rd l (i : Int) ≤ 255
    · simp only [if_pos h, decide_eq_true h, Bool.true_and]
      exact ih (i + 1) (by omega) (by omega)
    · simp only [if_neg h, decide_eq_false h, Bool.false_and]
      exact ev_some _
theorem implAll (l : List Int) (hl : l.length ≤ 1000000000000000) : Ev (fun k => impl_allBytes.f k l) (ab l) := by
  unfold impl_allBytes.f
  have := implAll_loop l hl l.length 0 (by omega) (by omega)
  simpa using this
theorem specAll_loop (l : List Int) (hl : l.length ≤ 1000000000000000) : ∀ (d i : Nat), l.length - i = d → i ≤ l.length → Ev (fun k => spec_l1Ok.l0 k l (i : Int)) (ab (l.drop i)) := by
  intro d
  induction d with
  | zero =>
    intro i hd hi
    rw [show l.drop i = [] from List.drop_eq_nil_of_le (by omega), ab_nil]
    refine ev_succ ?_
    simp only [spec_l1Ok.l0, if_neg (show ¬ (i : Int) < (l.length : Int) by omega)]
    exact ev_some _
  | succ d ih =>
    intro i hd hi
    have e1 : wrap64 ((i : Int) + 1) = ((i + 1 : Nat) : Int) := by rw [wrap_id (by omega) (by omega)]; omega
    rw [drop_int (show i < l.length by omega), ab_cons]
    refine ev_succ ?_
    simp only [spec_l1Ok.l0, if_pos (show (i : Int) < (l.length : Int) by omega), if_pos (show (0 : Int) ≤ i by omega), spec_l6In_eq, bsome, decide_eq_true_eq, e1]
    by_cases h : 0 ≤ rd l (i : Int) ∧ rd l (i : Int) ≤ 255
    · simp only [if_pos h, decide_eq_true h, Bool.true_and]
      exact ih (i + 1) (by omega) (by omega)
    · simp only [if_neg h, decide_eq_false h, Bool.false_and]
      exact ev_some _
theorem specAll (l : List Int) (hl : l.length ≤ 1000000000000000) : Ev (fun k => spec_l1Ok.f k l) (ab l) := by
  unfold spec_l1Ok.f
  have := specAll_loop l hl l.length 0 (by omega) (by omega)
  simpa using this
def pv (has : Bool) (l : List Int) : Bool := if has = true then decide (l.length ≤ 12) && ab l else decide (l.length = 0)
theorem implPart (has : Bool) (l : List Int) (hl : l.length ≤ 1000000000000000) : Ev (fun k => impl_partValid.f k has l) (pv has l) := by
  unfold impl_partValid.f pv
  cases has with
  | true =>
    simp only [if_true]
    by_cases h : (l.length : Int) ≤ 12
    · simp only [if_pos h, decide_eq_true (show l.length ≤ 12 by omega), Bool.true_and]
      exact Ev.bind (implAll l hl) (ev_some _)
    · simp only [if_neg h, decide_eq_false (show ¬ l.length ≤ 12 by omega), Bool.false_and]
      exact ev_some _
  | false =>
    simp only [Bool.false_eq_true, if_false]
    rw [show ((l.length : Int) == 0) = decide (l.length = 0) by rw [Bool.eq_iff_iff]; simp]
    exact ev_some _
theorem specPart (has : Bool) (l : List Int) (hl : l.length ≤ 1000000000000000) : Ev (fun k => spec_l3Part.f k has l) (pv has l) := by
  unfold spec_l3Part.f pv
  cases has with
  | true =>
    simp only [if_true]
    refine Ev.bind (specAll l hl) ?_
    by_cases h : ab l = true
    · simp only [if_pos h, h, Bool.and_true]
      rw [show decide ((l.length : Int) ≤ 12) = decide (l.length ≤ 12) by rw [decide_eq_decide]; omega]
      exact ev_some _
    · simp only [if_neg h, show ab l = false by simpa using h, Bool.and_false]
      exact ev_some _
  | false =>
    simp only [Bool.false_eq_true, if_false]
    by_cases h : l.length = 0
    · simp only [if_pos (show (l.length : Int) = 0 by omega), decide_eq_true h]
      refine Ev.bind (specAll l hl) ?_
      have hn : l = [] := List.length_eq_zero_iff.1 h
      subst hn
      simp only [ab_nil, if_true]
      exact ev_some _
    · simp only [if_neg (show ¬ (l.length : Int) = 0 by omega), decide_eq_false h]
      exact ev_some _
abbrev Rc := S79
abbrev rr (l : List Rc) (i : Int) : Rc := rd_T79 l i
theorem rr_nat (l : List Rc) (j : Nat) (h : j < l.length) : rr l (j : Int) = l[j] := by
  unfold rr rd_T79
  rw [Int.toNat_natCast, List.getD_eq_getElem?_getD, List.getElem?_eq_getElem h]
  rfl
def smallR (r : Rc) : Prop := r.f3.length ≤ 1000000000000000 ∧ r.f5.length ≤ 1000000000000000
def smallRs (l : List Rc) : Prop := l.length ≤ 1000000000000000 ∧ ∀ r ∈ l, smallR r
theorem smallRs_at {l : List Rc} (h : smallRs l) (j : Nat) (hj : j < l.length) : smallR (rr l (j : Int)) := by
  rw [rr_nat l j hj]
  exact h.2 _ (List.getElem_mem hj)
def rv (r : Rc) : Bool := decide ((0 ≤ r.f0 ∧ r.f0 ≤ 99999) ∧ (0 ≤ r.f1 ∧ r.f1 ≤ 99999)) && (pv r.f2 r.f3 && pv r.f4 r.f5)
theorem implRec (r : Rc) (h : smallR r) : Ev (fun k => impl_RecordValid.f k r.f0 r.f1 r.f2 r.f3 r.f4 r.f5) (rv r) := by
  unfold impl_RecordValid.f rv
  simp only [baseValid_eq, bsome, decide_eq_true_eq]
  by_cases h0 : (0 ≤ r.f0 ∧ r.f0 ≤ 99999) ∧ (0 ≤ r.f1 ∧ r.f1 ≤ 99999)
  · simp only [if_pos h0, decide_eq_true h0, Bool.true_and]
    refine Ev.bind (implPart _ _ h.1) ?_
    by_cases h1 : pv r.f2 r.f3 = true
    · simp only [if_pos h1, h1, Bool.true_and]
      exact Ev.bind (implPart _ _ h.2) (ev_some _)
    · simp only [if_neg h1, show pv r.f2 r.f3 = false by simpa using h1, Bool.false_and]
      exact ev_some _
  · simp only [if_neg h0, decide_eq_false h0, Bool.false_and]
    exact ev_some _
theorem specRec (r : Rc) (h : smallR r) : Ev (fun k => spec_RecordValid.f k r.f0 r.f1 r.f2 r.f3 r.f4 r.f5) (rv r) := by
  unfold spec_RecordValid.f rv
  simp only [spec_l6In_eq, bsome, decide_eq_true_eq]
  by_cases h0 : 0 ≤ r.f0 ∧ r.f0 ≤ 99999
  · by_cases h1 : 0 ≤ r.f1 ∧ r.f1 ≤ 99999
    · simp only [if_pos h0, if_pos h1, decide_eq_true (show (0 ≤ r.f0 ∧ r.f0 ≤ 99999) ∧ (0 ≤ r.f1 ∧ r.f1 ≤ 99999) from ⟨h0, h1⟩), Bool.true_and]
      refine Ev.bind (specPart _ _ h.1) ?_
      by_cases h2 : pv r.f2 r.f3 = true
      · simp only [if_pos h2, h2, Bool.true_and]
        exact Ev.bind (specPart _ _ h.2) (ev_some _)
      · simp only [if_neg h2, show pv r.f2 r.f3 = false by simpa using h2, Bool.false_and]
        exact ev_some _
    · simp only [if_pos h0, if_neg h1, decide_eq_false (show ¬ ((0 ≤ r.f0 ∧ r.f0 ≤ 99999) ∧ (0 ≤ r.f1 ∧ r.f1 ≤ 99999)) from fun h => h1 h.2), Bool.false_and]
      exact ev_some _
  · simp only [if_neg h0, decide_eq_false (show ¬ ((0 ≤ r.f0 ∧ r.f0 ≤ 99999) ∧ (0 ≤ r.f1 ∧ r.f1 ≤ 99999)) from fun h => h0 h.1), Bool.false_and]
    exact ev_some _
def RF (l : List Rc) (i : Nat) : Prop := ∀ j, i ≤ j → j < l.length → rv (rr l j) = true ∧ (0 < j → (rr l ((j : Int) - 1)).f0 < (rr l j).f0)
theorem RF_end {l : List Rc} {i : Nat} (h : l.length ≤ i) : RF l i := fun j h1 h2 => by omega
theorem RF_step {l : List Rc} {i : Nat} (h : i < l.length) : RF l i ↔ (rv (rr l i) = true ∧ (0 < i → (rr l ((i : Int) - 1)).f0 < (rr l i).f0)) ∧ RF l (i + 1) := by
  constructor
  · intro hv
    exact ⟨hv i (Nat.le_refl _) h, fun j h1 h2 => hv j (by omega) h2⟩
  · rintro ⟨h1, h2⟩ j h3 h4
    by_cases e : j = i
    · subst e; exact h1
    · exact h2 j (by omega) h4
theorem implRecs_loop (l : List Rc) (hl : smallRs l) (a0 a1 : Bool) (a2 a3 a4 : Int) : ∀ (d i : Nat), l.length - i = d → i ≤ l.length → Evs (fun k => impl_BatchValid.l0 k l (l.length : Int) (i : Int) a0 a1 a2 a3 a4 l) (fun b => b = true ↔ RF l i) := by
  intro d
  induction d with
  | zero =>
    intro i hd hi
    refine Evs.succ ?_
    simp only [impl_BatchValid.l0, if_neg (show ¬ (i : Int) < (l.length : Int) by omega)]
    exact Evs.done (by simp; exact RF_end (by omega))
  | succ d ih =>
    intro i hd hi
    have hll := hl.1
    have hn := ih (i + 1) (by omega) (by omega)
    have e1 : wrap64 ((i : Int) + 1) = ((i + 1 : Nat) : Int) := by rw [wrap_id (by omega) (by omega)]; omega
    have e2 : wrap64 ((i : Int) - 1) = (i : Int) - 1 := wrap_id (by omega) (by omega)
    rw [RF_step (show i < l.length by omega)]
    refine Evs.succ ?_
    simp only [impl_BatchValid.l0, if_pos (show (i : Int) < (l.length : Int) by omega), if_pos (show (0 : Int) ≤ i by omega), e1, e2]
    refine Evs.bind (Evs.of (implRec (rr l (i : Int)) (smallRs_at hl i (by omega))) rfl : Evs _ (fun x => x = rv (rr l (i : Int)))) ?_
    rintro _ rfl
    by_cases h1 : rv (rr l (i : Int)) = true
    · simp only [if_pos h1]
      by_cases h0 : (i : Int) > 0
      · simp only [if_pos h0, if_pos (show 0 ≤ (i : Int) - 1 by omega), if_pos (show (i : Int) - 1 < (l.length : Int) by omega)]
        by_cases h2 : (rr l ((i : Int) - 1)).f0 ≥ (rr l (i : Int)).f0
        · simp only [if_pos h2]
          refine Evs.done ?_
          simp only [Bool.false_eq_true, false_iff]
          rintro ⟨⟨_, h3⟩, _⟩
          have := h3 (by omega)
          omega
        · simp only [if_neg h2]
          refine hn.mono fun b hb => ?_
          rw [hb]
          exact ⟨fun h => ⟨⟨h1, fun _ => by omega⟩, h⟩, fun h => h.2⟩
      · simp only [if_neg h0]
        refine hn.mono fun b hb => ?_
        rw [hb]
        exact ⟨fun h => ⟨⟨h1, fun h' => absurd h' (by omega)⟩, h⟩, fun h => h.2⟩
    · simp only [if_neg h1]
      exact Evs.done (by simp only [Bool.false_eq_true, false_iff]; exact fun h => h1 h.1.1)
theorem specRecs_loop (l : List Rc) (hl : smallRs l) : ∀ (d i : Nat), l.length - i = d → i ≤ l.length → Evs (fun k => spec_l5Records.l0 k l (i : Int)) (fun b => b = true ↔ RF l i ∧ 1 ≤ l.length ∧ l.length ≤ 6) := by
  intro d
  induction d with
  | zero =>
    intro i hd hi
    refine Evs.succ ?_
    simp only [spec_l5Records.l0, if_neg (show ¬ (i : Int) < (l.length : Int) by omega), spec_l6In_eq, bsome]
    exact Evs.done (by simp only [decide_eq_true_eq]; exact ⟨fun h => ⟨RF_end (by omega), by omega, by omega⟩, fun h => by have := h.2; omega⟩)
  | succ d ih =>
    intro i hd hi
    have hll := hl.1
    have hn := ih (i + 1) (by omega) (by omega)
    have e1 : wrap64 ((i : Int) + 1) = ((i + 1 : Nat) : Int) := by rw [wrap_id (by omega) (by omega)]; omega
    have e2 : wrap64 ((i : Int) - 1) = (i : Int) - 1 := wrap_id (by omega) (by omega)
    rw [RF_step (show i < l.length by omega)]
    refine Evs.succ ?_
    simp only [spec_l5Records.l0, if_pos (show (i : Int) < (l.length : Int) by omega), if_pos (show (0 : Int) ≤ i by omega), e1, e2]
    refine Evs.bind (Evs.of (specRec (rr l (i : Int)) (smallRs_at hl i (by omega))) rfl : Evs _ (fun x => x = rv (rr l (i : Int)))) ?_
    rintro _ rfl
    by_cases h1 : rv (rr l (i : Int)) = true
    · simp only [if_pos h1]
      by_cases h0 : (i : Int) > 0
      · simp only [if_pos h0, if_pos (show 0 ≤ (i : Int) - 1 by omega), if_pos (show (i : Int) - 1 < (l.length : Int) by omega)]
        by_cases h2 : (rr l ((i : Int) - 1)).f0 ≥ (rr l (i : Int)).f0
        · simp only [if_pos h2]
          refine Evs.done ?_
          simp only [Bool.false_eq_true, false_iff]
          rintro ⟨⟨⟨_, h3⟩, _⟩, _⟩
          have := h3 (by omega)
          omega
        · simp only [if_neg h2]
          refine hn.mono fun b hb => ?_
          rw [hb]
          exact ⟨fun h => ⟨⟨⟨h1, fun _ => by omega⟩, h.1⟩, h.2⟩, fun h => ⟨h.1.2, h.2⟩⟩
      · simp only [if_neg h0]
        refine hn.mono fun b hb => ?_
        rw [hb]
        exact ⟨fun h => ⟨⟨⟨h1, fun h' => absurd h' (by omega)⟩, h.1⟩, h.2⟩, fun h => ⟨h.1.2, h.2⟩⟩
    · simp only [if_neg h1]
      exact Evs.done (by simp only [Bool.false_eq_true, false_iff]; exact fun h => h1 h.1.1.1)
def VB (a1 : Bool) (a2 a3 a4 : Int) (l : List Rc) : Prop :=
  (if a2 = 255 then a3 = 0 ∧ a4 = 0 ∧ a1 = false else (0 ≤ a2 ∧ a2 ≤ 254) ∧ (0 ≤ a3 ∧ a3 ≤ 99) ∧ (0 ≤ a4 ∧ a4 ≤ 9999)) ∧ (1 ≤ l.length ∧ l.length ≤ 6) ∧ (a1 = true → l.length = 1) ∧ RF l 0
theorem implB_j0 (a0 a1 : Bool) (a2 a3 a4 : Int) (l : List Rc) (hl : smallRs l) : Evs (fun k => impl_BatchValid.j0 k a0 a1 a2 a3 a4 l) (fun b => b = true ↔ (1 ≤ l.length ∧ l.length ≤ 6) ∧ (a1 = true → l.length = 1) ∧ RF l 0) := by
  have hr := implRecs_loop l hl a0 a1 a2 a3 a4 l.length 0 (by omega) (by omega)
  refine Evs.succ ?_
  simp only [impl_BatchValid.j0, impl_within_eq, bsome, decide_eq_true_eq]
  by_cases h : 1 ≤ (l.length : Int) ∧ (l.length : Int) ≤ 6
  · simp only [if_pos h]
    cases a1 with
    | true =>
      simp only [if_true]
      refine Evs.succ ?_
      by_cases h1 : l.length = 1
      · simp only [impl_BatchValid.j1, show ((l.length : Int) != 1) = false by rw [h1]; rfl, Bool.false_eq_true, if_false]
        refine hr.mono fun b hb => ?_
        rw [hb]
        exact ⟨fun h2 => ⟨by omega, fun _ => h1, h2⟩, fun h2 => h2.2.2⟩
      · simp only [impl_BatchValid.j1, show ((l.length : Int) != 1) = true by simp; omega, if_true]
        exact Evs.done (by simp only [Bool.false_eq_true, false_iff]; exact fun h2 => h1 (h2.2.1 trivial))
    | false =>
      simp only [Bool.false_eq_true, if_false]
      refine Evs.succ ?_
      simp only [impl_BatchValid.j1, Bool.false_eq_true, if_false]
      refine hr.mono fun b hb => ?_
      rw [hb]
      exact ⟨fun h2 => ⟨by omega, (fun h3 => h3.elim), h2⟩, fun h2 => h2.2.2⟩
  · simp only [if_neg h]
    refine Evs.succ ?_
    simp only [impl_BatchValid.j1, if_true]
    exact Evs.done (by simp only [Bool.false_eq_true, false_iff]; exact fun h2 => h ⟨by have := h2.1.1; omega, by have := h2.1.2; omega⟩)
theorem implB_evs (a0 a1 : Bool) (a2 a3 a4 : Int) (l : List Rc) (hl : smallRs l) : Evs (fun k => impl_BatchValid.f k a0 a1 a2 a3 a4 l) (fun b => b = true ↔ VB a1 a2 a3 a4 l) := by
  have hj := implB_j0 a0 a1 a2 a3 a4 l hl
  unfold impl_BatchValid.f VB
  by_cases h : a2 = 255
  · simp only [if_pos h]
    by_cases h3 : a3 = 0
    · simp only [if_pos h3]
      by_cases h4 : a4 = 0
      · simp only [if_pos h4]
        cases a1 with
        | true =>
          simp only [if_true]
          exact Evs.done (by simp)
        | false =>
          simp only [Bool.false_eq_true, if_false]
          refine hj.mono fun b hb => ?_
          rw [hb]
          exact ⟨fun h2 => ⟨⟨h3, h4, trivial⟩, h2.1, (fun h5 => h5.elim), h2.2.2⟩, fun h2 => ⟨h2.2.1, (fun h5 => by cases h5), h2.2.2.2⟩⟩
      · simp only [if_neg h4]
        exact Evs.done (by simp only [Bool.false_eq_true, false_iff]; exact fun h2 => h4 h2.1.2.1)
    · simp only [if_neg h3]
      exact Evs.done (by simp only [Bool.false_eq_true, false_iff]; exact fun h2 => h3 h2.1.1)
  · simp only [if_neg h, idValid_eqB, impl_within_eq, bsome, decide_eq_true_eq]
    by_cases h2 : 0 ≤ a2 ∧ a2 ≤ 254
    · simp only [if_pos h2]
      by_cases h3 : 0 ≤ a3 ∧ a3 ≤ 99
      · simp only [if_pos h3]
        by_cases h4 : 0 ≤ a4 ∧ a4 ≤ 9999
        · simp only [if_pos h4]
          refine hj.mono fun b hb => ?_
          rw [hb]
          exact ⟨fun h5 => ⟨⟨h2, h3, h4⟩, h5⟩, fun h5 => h5.2⟩
        · simp only [if_neg h4]
          exact Evs.done (by simp only [Bool.false_eq_true, false_iff]; exact fun h5 => h4 h5.1.2.2)
      · simp only [if_neg h3]
        exact Evs.done (by simp only [Bool.false_eq_true, false_iff]; exact fun h5 => h3 h5.1.2.1)
    · simp only [if_neg h2]
      exact Evs.done (by simp only [Bool.false_eq_true, false_iff]; exact fun h5 => h2 h5.1.1)
theorem specB_j0_true (a0 a1 : Bool) (a2 a3 a4 : Int) (l : List Rc) : Evs (fun k => spec_BatchValid.j0 k true a0 a1 a2 a3 a4 l) (fun b => b = false) := by
  refine Evs.succ ?_
  simp only [spec_BatchValid.j0, if_true]
  exact Evs.done rfl
theorem specB_evs (a0 a1 : Bool) (a2 a3 a4 : Int) (l : List Rc) (hl : smallRs l) : Evs (fun k => spec_BatchValid.f k a0 a1 a2 a3 a4 l) (fun b => b = true ↔ VB a1 a2 a3 a4 l) := by
  have hr := specRecs_loop l hl l.length 0 (by omega) (by omega)
  have no : ∀ {P : Prop}, ¬ P → ∀ b : Bool, b = false → (b = true ↔ P) := fun hP b hb => by rw [hb]; simp only [Bool.false_eq_true, false_iff]; exact hP
  unfold spec_BatchValid.f
  unfold spec_l5Records.f
  refine Evs.bind hr ?_
  intro t ht
  by_cases h : t = true
  · obtain ⟨hRF, hl1⟩ := ht.1 h
    simp only [if_pos h, spec_l6In_eq, bsome, decide_eq_true_eq]
    by_cases h2 : 0 ≤ a2 ∧ a2 ≤ 255
    · simp only [if_pos h2]
      by_cases h3 : 0 ≤ a3 ∧ a3 ≤ 99
      · simp only [if_pos h3]
        by_cases h4 : 0 ≤ a4 ∧ a4 ≤ 9999
        · simp only [decide_eq_true h4, Bool.not_true]
          refine Evs.succ ?_
          simp only [spec_BatchValid.j0, Bool.false_eq_true, if_false]
          unfold VB
          by_cases h5 : a2 = 255
          · simp only [if_pos h5]
            by_cases h6 : a3 = 0
            · simp only [if_pos h6]
              by_cases h7 : a4 = 0
              · simp only [if_pos h7]
                refine Evs.done ?_
                cases a1
                · simp; exact ⟨⟨h6, h7⟩, hl1, hRF⟩
                · simp
              · simp only [if_neg h7]
                exact Evs.done (no (fun h8 => h7 h8.1.2.1) _ rfl)
            · simp only [if_neg h6]
              exact Evs.done (no (fun h8 => h6 h8.1.1) _ rfl)
          · simp only [if_neg h5]
            cases a1 with
            | true =>
              simp only [if_true]
              refine Evs.done ?_
              simp only [beq_iff_eq]
              exact ⟨fun h8 => ⟨⟨by omega, h3, h4⟩, hl1, fun _ => by omega, hRF⟩, fun h8 => by have := h8.2.2.1 trivial; omega⟩
            | false =>
              simp only [Bool.false_eq_true, if_false]
              refine Evs.done ?_
              simp only [true_iff]
              exact ⟨⟨by omega, h3, h4⟩, hl1, (fun h8 => h8.elim), hRF⟩
        · simp only [decide_eq_false h4, Bool.not_false]
          refine (specB_j0_true a0 a1 a2 a3 a4 l).mono (no ?_)
          unfold VB
          split
          · rintro ⟨⟨_, h8, _⟩, _⟩
            exact h4 (by omega)
          · exact fun h8 => h4 h8.1.2.2
      · simp only [if_neg h3]
        refine (specB_j0_true a0 a1 a2 a3 a4 l).mono (no ?_)
        unfold VB
        split
        · rintro ⟨⟨h8, _, _⟩, _⟩
          exact h3 (by omega)
        · exact fun h8 => h3 h8.1.2.1
    · simp only [if_neg h2]
      refine (specB_j0_true a0 a1 a2 a3 a4 l).mono (no ?_)
      unfold VB
      split
      · rename_i h8
        exact fun _ => h2 (by omega)
      · exact fun h8 => h2 (by have := h8.1.1; omega)
  · simp only [if_neg h]
    refine (specB_j0_true a0 a1 a2 a3 a4 l).mono (no ?_)
    exact fun h8 => h (ht.2 ⟨h8.2.2.2, h8.2.1⟩)
open Classical in
noncomputable def vb (a1 : Bool) (a2 a3 a4 : Int) (l : List Rc) : Bool := decide (VB a1 a2 a3 a4 l)
theorem vb_iff (a1 : Bool) (a2 a3 a4 : Int) (l : List Rc) : vb a1 a2 a3 a4 l = true ↔ VB a1 a2 a3 a4 l := by unfold vb; simp
theorem implB (a0 a1 : Bool) (a2 a3 a4 : Int) (l : List Rc) (hl : smallRs l) : Ev (fun k => impl_BatchValid.f k a0 a1 a2 a3 a4 l) (vb a1 a2 a3 a4 l) := by
  obtain ⟨b, hb, h⟩ := implB_evs a0 a1 a2 a3 a4 l hl
  rw [show vb a1 a2 a3 a4 l = b by rw [Bool.eq_iff_iff, vb_iff, h]]
  exact hb
theorem specB (a0 a1 : Bool) (a2 a3 a4 : Int) (l : List Rc) (hl : smallRs l) : Ev (fun k => spec_BatchValid.f k a0 a1 a2 a3 a4 l) (vb a1 a2 a3 a4 l) := by
  obtain ⟨b, hb, h⟩ := specB_evs a0 a1 a2 a3 a4 l hl
  rw [show vb a1 a2 a3 a4 l = b by rw [Bool.eq_iff_iff, vb_iff, h]]
  exact hb
end Go.Proofs.Ytkhmopmfbocokaa.Q
namespace Go.Proofs.Ytkhmopmfbocokaa.Q
open Go.RowKit Go.Proofs.Ytkhmopmfbocokaa.T Go.Proofs.YtkhmopmfbocokaaW.PrintWords Go.Proofs.YtkhmopmfbocokaaW.PrintLast
set_option linter.unusedVariables false
set_option linter.unusedSimpArgs false
theorem bytes_of {l : List Int} (h : ∀ x ∈ l, (Lit.int .u8 x).wf = true) : Bytes l := by
  intro x hx
  have := h x hx
  simp [Lit.wf, IntKind.min, IntKind.max, IntKind.signed, IntKind.bits] at this
  omega
theorem open_ev (l : List Int) (h : Bytes l) : ∃ b, spec_l6Open.f l = some (b, 0) ∧ Bytes b ∧ b.length ≤ 2000 := by
  unfold spec_l6Open.f
  by_cases hc : (l.length : Int) > 2000
  · rw [if_pos hc, if_pos (by omega)]
    exact ⟨_, rfl, fun x hx => h x (List.mem_of_mem_take hx), by rw [List.length_take]; omega⟩
  · rw [if_neg hc]
    exact ⟨_, rfl, h, by omega⟩
end Go.Proofs.Ytkhmopmfbocokaa.Q
namespace Go.Proofs.Ytkhmopmfbocokaa.Q
open Go.RowKit Go.Proofs.Ytkhmopmfbocokaa.T Go.Proofs.YtkhmopmfbocokaaW.PrintWords Go.Proofs.YtkhmopmfbocokaaW.PrintLast
set_option linter.unusedVariables false
set_option linter.unusedSimpArgs false
theorem lim2 {n c : Nat} (h : n ≤ 2000) (hc : 2000 < c) : n < c := by omega
theorem part_loop (bs : List Int) (hb : Bytes bs) (hl : bs.length ≤ 2000) : ∀ (d : Nat) (l : List Int) (n i p : Int), n - i ≤ d → 0 ≤ i → (l.length : Int) ≤ i → (l.length : Int) ≤ 12 → n ≤ 12 → 0 ≤ p → p + 2 * d ≤ 900000000 →
    Evs (fun k => spec_l91Part.l0 k l n i bs p) (fun r => r.2.1.length ≤ 12 ∧ p ≤ r.2.2 ∧ r.2.2 ≤ p + 2 * d) := by
  intro d
  induction d with
  | zero =>
    intro l n i p hd hi hll h12 hn h0 h1
    refine Evs.succ ?_
    simp only [spec_l91Part.l0, if_neg (show ¬ i < n by omega)]
    exact Evs.done ⟨by dsimp only; omega, by dsimp only; omega, by dsimp only; omega⟩
  | succ d ih =>
    intro l n i p hd hi hll h12 hn h0 h1
    refine Evs.succ ?_
    by_cases hlt : i < n
    · have e1 : wrap64 (i + 1) = i + 1 := wrap_id (by omega) (by omega)
      simp only [spec_l91Part.l0, if_pos hlt, bsome, e1]
      refine Evs.bind (pick_evs bs p 256 hb hl h0 (by omega) (by omega)) ?_
      rintro ⟨u, _⟩ ⟨u0, u1, rfl⟩
      refine Evs.bind (pick_evs bs (p + 1) 4 hb hl (by omega) (by omega) (by omega)) ?_
      rintro ⟨v, _⟩ ⟨v0, v1, rfl⟩
      simp only [if_pos v0, if_pos (show v < (([1, 2, 3, u] : List Int).length : Int) from v1), if_pos (show l.length < 17592186044416 from lim2 (by omega) (by omega))]
      have h := ih (l ++ [rd [1, 2, 3, u] v]) n (i + 1) (p + 1 + 1) (by omega) (by omega) (by simp; omega) (by simp; omega) hn (by omega) (by omega)
      exact h.mono (fun r hr => ⟨hr.1, by have := hr.2.1; omega, by have := hr.2.2; omega⟩)
    · simp only [spec_l91Part.l0, if_neg hlt]
      exact Evs.done ⟨by dsimp only; omega, by dsimp only; omega, by dsimp only; omega⟩
theorem part_evs (bs : List Int) (hb : Bytes bs) (hl : bs.length ≤ 2000) (p : Int) (h0 : 0 ≤ p) (h1 : p ≤ 800000000) : Evs (fun k => spec_l91Part.f k bs p) (fun r => r.2.1.length ≤ 12 ∧ p ≤ r.2.2 ∧ r.2.2 ≤ p + 30) := by
  unfold spec_l91Part.f
  refine Evs.bind (pick_evs bs p 4 hb hl h0 (by omega) (by omega)) ?_
  rintro ⟨u, _⟩ ⟨u0, u1, rfl⟩
  by_cases hu : u = 0
  · simp only [if_pos hu]
    exact Evs.done ⟨by simp, by dsimp only; omega, by dsimp only; omega⟩
  · simp only [if_neg hu, bsome]
    refine Evs.bind (pick_evs bs (p + 1) 5 hb hl (by omega) (by omega) (by omega)) ?_
    rintro ⟨v, _⟩ ⟨v0, v1, rfl⟩
    refine Evs.bind (pick_evs bs (p + 1 + 1) 12 hb hl (by omega) (by omega) (by omega)) ?_
    rintro ⟨x, _⟩ ⟨x0, x1, rfl⟩
    by_cases hx : x = 0
    · simp only [if_pos hx]
      refine Evs.succ ?_
      simp only [spec_l91Part.j0]
      have h := part_loop bs hb hl 12 [] 12 0 (p + 1 + 1 + 1) (by omega) (by omega) (by simp) (by simp) (by omega) (by omega) (by omega)
      exact h.mono (fun r hr => ⟨hr.1, by have := hr.2.1; omega, by have := hr.2.2; omega⟩)
    · simp only [if_neg hx]
      refine Evs.succ ?_
      simp only [spec_l91Part.j0]
      have h := part_loop bs hb hl 12 [] v 0 (p + 1 + 1 + 1) (by omega) (by omega) (by simp) (by simp) (by omega) (by omega) (by omega)
      exact h.mono (fun r hr => ⟨hr.1, by have := hr.2.1; omega, by have := hr.2.2; omega⟩)
def drawnR (n : Nat) (l : List Rc) : Prop := l.length ≤ n ∧ ∀ r ∈ l, r.f3.length ≤ 12 ∧ r.f5.length ≤ 12
theorem drawnR_small {n : Nat} (hn : n ≤ 100000) {l : List Rc} (h : drawnR n l) : smallRs l := ⟨by have := h.1; omega, fun r hr => ⟨by have := (h.2 r hr).1; omega, by have := (h.2 r hr).2; omega⟩⟩
theorem drawnR_add {n : Nat} {l : List Rc} (h : drawnR n l) {r : Rc} (h3 : r.f3.length ≤ 12) (h5 : r.f5.length ≤ 12) : drawnR (n + 1) (l ++ [r]) := by
  refine ⟨by have := h.1; simp; omega, fun x hx => ?_⟩
  rcases List.mem_append.1 hx with hx | hx
  · exact h.2 x hx
  · rw [List.mem_singleton.1 hx]
    exact ⟨h3, h5⟩
theorem drawnR_mono {n m : Nat} {l : List Rc} (h : drawnR n l) (hm : n ≤ m) : drawnR m l := ⟨by have := h.1; omega, h.2⟩
theorem recs_loop (bs : List Int) (hb : Bytes bs) (hl : bs.length ≤ 2000) (n : Int) (hn : n ≤ 100) : ∀ (d : Nat) (o : Int) (l : List Rc) (t i p : Int), n - i ≤ d → 0 ≤ i → drawnR i.toNat l → (0 < i → 0 < l.length) → 0 ≤ p → p + 70 * d ≤ 700000000 →
    Evs (fun k => spec_l91Records.l0 k o l n t i bs p) (fun r => drawnR (max i n).toNat r.1 ∧ (0 < max i n → 0 < r.1.length) ∧ p ≤ r.2 ∧ r.2 ≤ p + 70 * d) := by
  intro d
  induction d with
  | zero =>
    intro o l t i p hd hi hll hpos h0 h1
    refine Evs.succ ?_
    simp only [spec_l91Records.l0, if_neg (show ¬ i < n by omega)]
    exact Evs.done ⟨by dsimp only; exact drawnR_mono hll (by omega), by dsimp only; intro h; exact hpos (by omega), by dsimp only; omega, by dsimp only; omega⟩
  | succ d ih =>
    intro o l t i p hd hi hll hpos h0 h1
    refine Evs.succ ?_
    by_cases hlt : i < n
    · have e1 : wrap64 (i + 1) = i + 1 := wrap_id (by omega) (by omega)
      have hlen := hll.1
      simp only [spec_l91Records.l0, if_pos hlt]
      refine Evs.bind (part_evs bs hb hl p h0 (by omega)) ?_
      rintro ⟨kh, kl, p1⟩ ⟨hk, q0, q1⟩
      dsimp only at hk q0 q1 ⊢
      refine Evs.bind (part_evs bs hb hl p1 (by omega) (by omega)) ?_
      rintro ⟨vh, vl, p2⟩ ⟨hv, q2, q3⟩
      dsimp only at hv q2 q3 ⊢
      have main : ∀ (c : Bool) (q : Int), 0 ≤ q → p ≤ q → q ≤ p2 + 1 → Evs (fun k => spec_l91Records.j1 k o l n t i vh vl c bs q o t kh kl false) (fun r => drawnR (max i n).toNat r.1 ∧ (0 < max i n → 0 < r.1.length) ∧ p ≤ r.2 ∧ r.2 ≤ p + 70 * (d + 1 : Nat)) := by
        intro c q hq0 hq1 hq2
        refine Evs.succ ?_
        have hlim : l.length < 1759218604441 := lim2 (by omega) (by omega)
        cases c with
        | true =>
          simp only [spec_l91Records.j1, if_true, if_pos hlim, e1]
          refine Evs.bind (pick_evs bs q 3 hb hl (by omega) (by omega) (by omega)) ?_
          rintro ⟨u, _⟩ ⟨u0, u1, rfl⟩
          refine Evs.bind (pick_evs bs (q + 1) 5 hb hl (by omega) (by omega) (by omega)) ?_
          rintro ⟨v, _⟩ ⟨v0, v1, rfl⟩
          refine Evs.bind (pick_evs bs (q + 1 + 1) 30 hb hl (by omega) (by omega) (by omega)) ?_
          rintro ⟨x, _⟩ ⟨x0, x1, rfl⟩
          have h := ih (wrap64 (wrap64 (o + 1) + wrap64 (Int.tdiv v 4))) (l ++ [⟨o, t, kh, [u], vh, vl⟩]) (mx (wrap64 (wrap64 (t + x) - 6)) 0) (i + 1) (q + 1 + 1 + 1) (by omega) (by omega) (drawnR_mono (drawnR_add hll (by simp) hv) (by omega)) (fun _ => by simp) (by omega) (by omega)
          rw [show max (i + 1) n = max i n by omega] at h
          exact h.mono (fun r hr => ⟨hr.1, hr.2.1, by have := hr.2.2.1; omega, by have := hr.2.2.2; omega⟩)
        | false =>
          simp only [spec_l91Records.j1, Bool.false_eq_true, if_false, if_pos hlim, e1]
          refine Evs.bind (pick_evs bs q 5 hb hl (by omega) (by omega) (by omega)) ?_
          rintro ⟨v, _⟩ ⟨v0, v1, rfl⟩
          refine Evs.bind (pick_evs bs (q + 1) 30 hb hl (by omega) (by omega) (by omega)) ?_
          rintro ⟨x, _⟩ ⟨x0, x1, rfl⟩
          have h := ih (wrap64 (wrap64 (o + 1) + wrap64 (Int.tdiv v 4))) (l ++ [⟨o, t, kh, kl, vh, vl⟩]) (mx (wrap64 (wrap64 (t + x) - 6)) 0) (i + 1) (q + 1 + 1) (by omega) (by omega) (drawnR_mono (drawnR_add hll hk hv) (by omega)) (fun _ => by simp) (by omega) (by omega)
          rw [show max (i + 1) n = max i n by omega] at h
          exact h.mono (fun r hr => ⟨hr.1, hr.2.1, by have := hr.2.2.1; omega, by have := hr.2.2.2; omega⟩)
      by_cases hkh : kh = true
      · simp only [if_pos hkh]
        refine Evs.bind (pick_evs bs p2 2 hb hl (by omega) (by omega) (by omega)) ?_
        rintro ⟨u, _⟩ ⟨u0, u1, rfl⟩
        exact main (u == 0) (p2 + 1) (by omega) (by omega) (by omega)
      · simp only [if_neg hkh]
        exact main false p2 (by omega) (by omega) (by omega)
    · simp only [spec_l91Records.l0, if_neg hlt]
      exact Evs.done ⟨by dsimp only; exact drawnR_mono hll (by omega), by dsimp only; intro h; exact hpos (by omega), by dsimp only; omega, by dsimp only; omega⟩
theorem recs_evs (bs : List Int) (hb : Bytes bs) (hl : bs.length ≤ 2000) (p o m : Int) (h0 : 0 ≤ p) (h1 : p ≤ 600000000) (hm : 1 ≤ m) (hm2 : m ≤ 10) : Evs (fun k => spec_l91Records.f k bs p o m) (fun r => drawnR m.toNat r.1 ∧ 0 < r.1.length ∧ p ≤ r.2 ∧ r.2 ≤ p + 800) := by
  unfold spec_l91Records.f
  refine Evs.bind (pick_evs bs p m hb hl h0 (by omega) hm) ?_
  rintro ⟨u, _⟩ ⟨u0, u1, rfl⟩
  refine Evs.bind (pick_evs bs (p + 1) 200 hb hl (by omega) (by omega) (by omega)) ?_
  rintro ⟨v, _⟩ ⟨v0, v1, rfl⟩
  simp only [show wrap64 (1 + u) = 1 + u from wrap_id (by omega) (by omega)]
  have h := recs_loop bs hb hl (1 + u) (by omega) 10 o [] v 0 (p + 1 + 1) (by omega) (by omega) ⟨by simp, fun r hr => by cases hr⟩ (fun h => by omega) (by omega) (by omega)
  exact h.mono (fun r hr => ⟨drawnR_mono hr.1 (by omega), hr.2.1 (by omega), by have := hr.2.2.1; omega, by have := hr.2.2.2; omega⟩)
def drawnB (p : Int) (c : Int) (r : Bool × Bool × Int × Int × Int × List Rc × Int) : Prop := drawnR 5 r.2.2.2.2.2.1 ∧ 0 < r.2.2.2.2.2.1.length ∧ p ≤ r.2.2.2.2.2.2 ∧ r.2.2.2.2.2.2 ≤ p + c ∧ 0 ≤ r.2.2.1
theorem batch_j0 (bs : List Int) (hb : Bytes bs) (hl : bs.length ≤ 2000) (p : Int) (h0 : 0 ≤ p) (h1 : p ≤ 600000000) (a0 a1 : Bool) (a2 a3 a4 : Int) (l : List Rc) (hd : drawnR 4 l) (hpos : 0 < l.length) (ha2 : 0 ≤ a2) : Evs (fun k => spec_l91Batch.j0 k bs p a0 a1 a2 a3 a4 l) (drawnB p 2) := by
  have hlen := hd.1
  refine Evs.succ ?_
  simp only [spec_l91Batch.j0]
  refine Evs.bind (pick_evs bs p 40 hb hl h0 (by omega) (by omega)) ?_
  rintro ⟨u, _⟩ ⟨u0, u1, rfl⟩
  by_cases hu : u = 0
  · simp only [if_pos hu, bsome]
    refine Evs.bind (pick_evs bs (p + 1) 3 hb hl (by omega) (by omega) (by omega)) ?_
    rintro ⟨v, _⟩ ⟨v0, v1, rfl⟩
    simp only [if_pos v0, if_pos (show v < (([(-1), 1, 100] : List Int).length : Int) from v1)]
    exact Evs.done ⟨drawnR_mono hd (by omega), hpos, by dsimp only; omega, by dsimp only; omega, ha2⟩
  · simp only [if_neg hu]
    by_cases hu1 : u = 1
    · simp only [if_pos hu1, if_pos (show 0 < (l.length : Int) by omega), if_pos (show l.length < 1759218604441 from lim2 (by omega) (by omega))]
      have h0m : rd_T79 l 0 ∈ l := by
        show rr l ((0 : Nat) : Int) ∈ l
        rw [rr_nat l 0 hpos]
        exact List.getElem_mem hpos
      exact Evs.done ⟨drawnR_add hd (hd.2 _ h0m).1 (hd.2 _ h0m).2, by simp, by dsimp only; omega, by dsimp only; omega, ha2⟩
    · simp only [if_neg hu1]
      by_cases hu2 : u = 2
      · simp only [if_pos hu2]
        exact Evs.done ⟨drawnR_mono hd (by omega), hpos, by dsimp only; omega, by dsimp only; omega, ha2⟩
      · simp only [if_neg hu2]
        exact Evs.done ⟨drawnR_mono hd (by omega), hpos, by dsimp only; omega, by dsimp only; omega, ha2⟩
theorem drawnB_mono {p q c c' : Int} {r : Bool × Bool × Int × Int × Int × List Rc × Int} (h : drawnB p c r) (h1 : q ≤ p) (h2 : p + c ≤ q + c') : drawnB q c' r := ⟨h.1, h.2.1, by have := h.2.2.1; omega, by have := h.2.2.2.1; omega, h.2.2.2.2⟩
theorem batch_evs (bs : List Int) (hb : Bytes bs) (hl : bs.length ≤ 2000) (p o : Int) (h0 : 0 ≤ p) (h1 : p ≤ 500000000) : Evs (fun k => spec_l91Batch.f k bs p o) (drawnB p 900) := by
  unfold spec_l91Batch.f
  refine Evs.bind (pick_evs bs p 2 hb hl h0 (by omega) (by omega)) ?_
  rintro ⟨u, _⟩ ⟨u0, u1, rfl⟩
  refine Evs.bind (recs_evs bs hb hl (p + 1) o 4 (by omega) (by omega) (by omega) (by omega)) ?_
  rintro ⟨l, q⟩ ⟨hd, hpos, q0, q1⟩
  dsimp only at hd hpos q0 q1 ⊢
  refine Evs.bind (pick_evs bs q 3 hb hl (by omega) (by omega) (by omega)) ?_
  rintro ⟨v, _⟩ ⟨v0, v1, rfl⟩
  by_cases hv : v = 0
  · simp only [if_pos hv]
    refine Evs.bind (pick_evs bs (q + 1) 3 hb hl (by omega) (by omega) (by omega)) ?_
    rintro ⟨x, _⟩ ⟨x0, x1, rfl⟩
    refine Evs.bind (pick_evs bs (q + 1 + 1) 3 hb hl (by omega) (by omega) (by omega)) ?_
    rintro ⟨y, _⟩ ⟨y0, y1, rfl⟩
    refine Evs.bind (pick_evs bs (q + 1 + 1 + 1) 5 hb hl (by omega) (by omega) (by omega)) ?_
    rintro ⟨z, _⟩ ⟨z0, z1, rfl⟩
    refine Evs.bind (pick_evs bs (q + 1 + 1 + 1 + 1) 3 hb hl (by omega) (by omega) (by omega)) ?_
    rintro ⟨s, _⟩ ⟨s0, s1, rfl⟩
    by_cases hs : s = 0
    · simp only [if_pos hs]
      refine Evs.bind (pick_evs bs (q + 1 + 1 + 1 + 1 + 1) 200 hb hl (by omega) (by omega) (by omega)) ?_
      rintro ⟨t, _⟩ ⟨t0, t1, rfl⟩
      refine Evs.bind (pick_evs bs (q + 1 + 1 + 1 + 1 + 1 + 1) 2 hb hl (by omega) (by omega) (by omega)) ?_
      rintro ⟨e, _⟩ ⟨e0, e1, rfl⟩
      refine (batch_j0 bs hb hl _ (by omega) (by omega) _ _ _ _ _ _ ⟨by simp, fun r hr => ?_⟩ (by simp) x0).mono (fun r hr => drawnB_mono hr (by omega) (by omega))
      rw [List.mem_singleton.1 hr]
      exact ⟨by simp, by simp⟩
    · simp only [if_neg hs]
      exact (batch_j0 bs hb hl _ (by omega) (by omega) _ _ _ _ _ _ hd hpos (by omega)).mono (fun r hr => drawnB_mono hr (by omega) (by omega))
  · simp only [if_neg hv]
    exact (batch_j0 bs hb hl _ (by omega) (by omega) _ _ _ _ _ _ hd hpos (by omega)).mono (fun r hr => drawnB_mono hr (by omega) (by omega))
end Go.Proofs.Ytkhmopmfbocokaa.Q
namespace Go.Proofs.Ytkhmopmfbocokaa.Q
set_option linter.unusedVariables false
set_option linter.unusedSimpArgs false
theorem pairwise_of_next {α : Type} {R : α → α → Prop} (tr : ∀ a b c, R a b → R b c → R a c) {l : List α} (h : ∀ j (h : j + 1 < l.length), R (l[j]'(by omega)) l[j + 1]) : l.Pairwise R := by
  rw [List.pairwise_iff_getElem]
  intro i j hi hj hij
  obtain ⟨d, rfl⟩ : ∃ d, j = i + 1 + d := ⟨j - i - 1, by omega⟩
  clear hij
  induction d with
  | zero => exact h i (by omega)
  | succ d ih => exact tr _ _ _ (ih (by omega)) (h (i + 1 + d) (by omega))
theorem next_of_pairwise {α : Type} {R : α → α → Prop} {l : List α} (h : l.Pairwise R) (j : Nat) (hj : j + 1 < l.length) : R (l[j]'(by omega)) l[j + 1] :=
  List.pairwise_iff_getElem.1 h j (j + 1) (by omega) hj (by omega)
end Go.Proofs.Ytkhmopmfbocokaa.Q
namespace Go.Proofs.Ytkhmopmfbocokaa.Q
open Go.RowKit Go.Proofs.Ytkhmopmfbocokaa.T Go.Proofs.YtkhmopmfbocokaaW.PrintWords Go.Proofs.YtkhmopmfbocokaaW.PrintLast
set_option linter.unusedVariables false
set_option linter.unusedSimpArgs false
abbrev Pr := S39
abbrev rp (l : List Pr) (i : Int) : Pr := rd_T39 l i
theorem rp_nat (l : List Pr) (j : Nat) (h : j < l.length) : rp l (j : Int) = l[j] := by
  unfold rp rd_T39
  rw [Int.toNat_natCast, List.getD_eq_getElem?_getD, List.getElem?_eq_getElem h]
  rfl
theorem Pr_ext {a b : Pr} (h0 : a.f0 = b.f0) (h1 : a.f1 = b.f1) (h2 : a.f2 = b.f2) : a = b := by
  cases a
  cases b
  simp at h0 h1 h2
  rw [h0, h1, h2]
instance : DecidableEq Pr := fun a b => decidable_of_iff (a.f0 = b.f0 ∧ a.f1 = b.f1 ∧ a.f2 = b.f2) ⟨fun h => Pr_ext h.1 h.2.1 h.2.2, fun h => by rw [h]; exact ⟨rfl, rfl, rfl⟩⟩
def okP (t : Pr) : Prop := (0 ≤ t.f0 ∧ t.f0 ≤ 254) ∧ (0 ≤ t.f1 ∧ t.f1 ≤ 99) ∧ (0 ≤ t.f2 ∧ t.f2 ≤ 99999)
def ltP (a b : Pr) : Prop := a.f0 < b.f0
def PF (l : List Pr) (i : Nat) : Prop := ∀ j, i ≤ j → j < l.length → okP (rp l j) ∧ (0 < j → ltP (rp l ((j : Int) - 1)) (rp l j))
def VP (l : List Pr) : Prop := l.length ≤ 20 ∧ PF l 0
open Classical in
noncomputable def vp (l : List Pr) : Bool := decide (VP l)
theorem vp_iff (l : List Pr) : vp l = true ↔ VP l := by unfold vp; simp
theorem prodsAll_vp (l : List Pr) : prodsAll l = vp l := by
  rw [Bool.eq_iff_iff, vp_iff]
  unfold prodsAll VP PF
  rw [Bool.and_eq_true, decide_eq_true_eq, decide_eq_true_eq]
  refine ⟨fun h => ⟨h.1, fun j _ hj => ?_⟩, fun h => ⟨h.1, fun j hj => ?_⟩⟩
  · have := h.2 j hj
    unfold prodAt at this
    rw [decide_eq_true_eq] at this
    exact this
  · unfold prodAt
    rw [decide_eq_true_eq]
    exact h.2 j (Nat.zero_le _) hj
theorem implPValid (l : List Pr) (hl : l.length ≤ 1000000000000) : Ev (fun k => impl_ProducersValid.f k l) (vp l) := by
  unfold impl_ProducersValid.f
  rw [prodsAll_vp]
  exact ev_some _
theorem specPValid (l : List Pr) (hl : l.length ≤ 1000000000000) : Ev (fun k => spec_ProducersValid.f k l) (vp l) := by
  unfold spec_ProducersValid.f
  rw [prodsAll_vp]
  exact ev_some _
theorem ltP_trans {a b c : Pr} (h : ltP a b) (h' : ltP b c) : ltP a c := Int.lt_trans h h'
theorem VP_iff (l : List Pr) : VP l ↔ l.length ≤ 20 ∧ (∀ t ∈ l, okP t) ∧ l.Pairwise ltP := by
  constructor
  · rintro ⟨h8, hv⟩
    refine ⟨h8, ?_, pairwise_of_next (R := ltP) (fun _ _ _ => ltP_trans) ?_⟩
    · intro t ht
      obtain ⟨j, hj, rfl⟩ := List.getElem_of_mem ht
      have := (hv j (Nat.zero_le _) hj).1
      rwa [rp_nat l j hj] at this
    · intro j hj
      have := (hv (j + 1) (Nat.zero_le _) hj).2 (by omega)
      rw [rp_nat l (j + 1) hj] at this
      rw [show ((j + 1 : Nat) : Int) - 1 = (j : Int) by omega, rp_nat l j (by omega)] at this
      exact this
  · rintro ⟨h8, hok, hp⟩
    refine ⟨h8, fun j _ hj => ⟨?_, fun h0 => ?_⟩⟩
    · rw [rp_nat l j hj]
      exact hok _ (List.getElem_mem hj)
    · obtain ⟨i, rfl⟩ : ∃ i, j = i + 1 := ⟨j - 1, by omega⟩
      rw [rp_nat l (i + 1) hj, show ((i + 1 : Nat) : Int) - 1 = (i : Int) by omega, rp_nat l i (by omega)]
      exact next_of_pairwise hp i hj
end Go.Proofs.Ytkhmopmfbocokaa.Q
namespace Go.Proofs.Ytkhmopmfbocokaa.Q
open Go.RowKit Go.Proofs.Ytkhmopmfbocokaa.T Go.Proofs.YtkhmopmfbocokaaW.PrintWords Go.Proofs.YtkhmopmfbocokaaW.PrintLast
set_option linter.unusedVariables false
set_option linter.unusedSimpArgs false
theorem lim {n c : Nat} (h : n ≤ 2000) (hc : 2000 < c) : n < c := by omega
theorem prods_end (bs : List Int) (hb : Bytes bs) (hl : bs.length ≤ 2000) (l : List Pr) (h4 : l.length ≤ 4) (f : Bool) (hf : f = true → 0 < l.length) (p : Int) (h0 : 0 ≤ p) (h1 : p ≤ 2000000) :
    Evs (fun k => spec_l92Producers.j1 k l f bs p) (fun r => r.1.length ≤ 4 ∧ p ≤ r.2 ∧ r.2 ≤ p + 2) := by
  refine Evs.succ ?_
  cases f with
  | false =>
    simp only [spec_l92Producers.j1, Bool.false_eq_true, if_false]
    exact Evs.done ⟨h4, by dsimp only; omega, by dsimp only; omega⟩
  | true =>
    have hpos := hf rfl
    simp only [spec_l92Producers.j1, if_true, bsome]
    refine Evs.bind (pick_evs bs p (l.length : Int) hb hl h0 (by omega) (by omega)) ?_
    rintro ⟨v, _⟩ ⟨v0, v1, rfl⟩
    refine Evs.bind (pick_evs bs (p + 1) 2 hb hl (by omega) (by omega) (by omega)) ?_
    rintro ⟨u, _⟩ ⟨u0, u1, rfl⟩
    simp only [if_pos u0, if_pos (show u < (([(-1), 100] : List Int).length : Int) from u1), if_pos v0, if_pos v1]
    exact Evs.done ⟨by dsimp only; rw [List.length_set]; exact h4, by dsimp only; omega, by dsimp only; omega⟩
theorem prods_loop (bs : List Int) (hb : Bytes bs) (hl : bs.length ≤ 2000) : ∀ (d : Nat) (l : List Pr) (i p : Int), 4 - i = d → 0 ≤ i → (l.length : Int) ≤ i → 0 ≤ p → p + 3 * d ≤ 1000000 →
    Evs (fun k => spec_l92Producers.l0 k l i bs p) (fun r => r.1.length ≤ 4 ∧ p ≤ r.2 ∧ r.2 ≤ p + 3 * d + 3) := by
  intro d
  induction d with
  | zero =>
    intro l i p hd hi hll h0 h1
    refine Evs.succ ?_
    simp only [spec_l92Producers.l0, if_neg (show ¬ i < 4 by omega)]
    by_cases hz : (l.length : Int) > 0
    · simp only [if_pos hz]
      refine Evs.bind (pick_evs bs p 24 hb hl h0 (by omega) (by omega)) ?_
      rintro ⟨v, _⟩ ⟨v0, v1, rfl⟩
      have h := prods_end bs hb hl l (by omega) (v == 0) (fun _ => by omega) (p + 1) (by omega) (by omega)
      exact h.mono (fun r hr => ⟨hr.1, by have := hr.2.1; omega, by have := hr.2.2; omega⟩)
    · simp only [if_neg hz]
      have h := prods_end bs hb hl l (by omega) false (fun h => by cases h) p (by omega) (by omega)
      exact h.mono (fun r hr => ⟨hr.1, by have := hr.2.1; omega, by have := hr.2.2; omega⟩)
  | succ d ih =>
    intro l i p hd hi hll h0 h1
    have e1 : wrap64 (i + 1) = i + 1 := wrap_id (by omega) (by omega)
    refine Evs.succ ?_
    simp only [spec_l92Producers.l0, if_pos (show i < 4 by omega), e1]
    refine Evs.bind (pick_evs bs p 3 hb hl h0 (by omega) (by omega)) ?_
    rintro ⟨v, _⟩ ⟨v0, v1, rfl⟩
    by_cases hv : v > 0
    · simp only [if_pos hv]
      refine Evs.bind (pick_evs bs (p + 1) 3 hb hl (by omega) (by omega) (by omega)) ?_
      rintro ⟨u, _⟩ ⟨u0, u1, rfl⟩
      refine Evs.bind (pick_evs bs (p + 1 + 1) 6 hb hl (by omega) (by omega) (by omega)) ?_
      rintro ⟨x, _⟩ ⟨x0, x1, rfl⟩
      simp only [if_pos (show l.length < 5864062014805 from lim (by omega) (by omega))]
      have h := ih (l ++ [⟨i, u, x⟩]) (i + 1) (p + 1 + 1 + 1) (by omega) (by omega) (by simp; omega) (by omega) (by omega)
      exact h.mono (fun r hr => ⟨hr.1, by have := hr.2.1; omega, by have := hr.2.2; omega⟩)
    · simp only [if_neg hv]
      have h := ih l (i + 1) (p + 1) (by omega) (by omega) (by omega) (by omega) (by omega)
      exact h.mono (fun r hr => ⟨hr.1, by have := hr.2.1; omega, by have := hr.2.2; omega⟩)
theorem prods_evs (bs : List Int) (hb : Bytes bs) (hl : bs.length ≤ 2000) (p : Int) (h0 : 0 ≤ p) (h1 : p ≤ 900000) : Evs (fun k => spec_l92Producers.f k bs p) (fun r => r.1.length ≤ 4 ∧ p ≤ r.2 ∧ r.2 ≤ p + 15) := by
  unfold spec_l92Producers.f
  have h := prods_loop bs hb hl 4 [] 0 p (by omega) (by omega) (by simp) h0 (by omega)
  refine Evs.mono h (fun r hr => ?_)
  exact ⟨hr.1, hr.2.1, by have := hr.2.2; omega⟩
end Go.Proofs.Ytkhmopmfbocokaa.Q
namespace Go.Proofs.Ytkhmopmfbocokaa.Q
open Go.RowKit Go.Proofs.Ytkhmopmfbocokaa.T Go.Proofs.YtkhmopmfbocokaaW.PrintWords Go.Proofs.YtkhmopmfbocokaaW.PrintLast
set_option linter.unusedVariables false
set_option linter.unusedSimpArgs false
def drawnN (r : List Pr × Bool × Bool × Int × Int × Int × List Rc × Int) : Prop := r.1.length ≤ 4 ∧ drawnR 5 r.2.2.2.2.2.2.1
theorem numbered_evs (bs : List Int) (hb : Bytes bs) (hl : bs.length ≤ 2000) (p : Int) (h0 : 0 ≤ p) (h1 : p ≤ 100000) : Evs (fun k => spec_l92Numbered.f k bs p) drawnN := by
  unfold spec_l92Numbered.f
  refine Evs.bind (prods_evs bs hb hl p h0 (by omega)) ?_
  rintro ⟨l, q⟩ ⟨h4, q0, q1⟩
  dsimp only at h4 q0 q1 ⊢
  refine Evs.bind (pick_evs bs q 40 hb hl (by omega) (by omega) (by omega)) ?_
  rintro ⟨u, _⟩ ⟨u0, u1, rfl⟩
  refine Evs.bind (batch_evs bs hb hl (q + 1) u (by omega) (by omega)) ?_
  rintro ⟨b0, b1, b2, b3, b4, rs, p2⟩ ⟨hd, hpos, p0, p1, _⟩
  dsimp only at hd hpos p0 p1 ⊢
  by_cases hz : (l.length : Int) > 0
  · simp only [if_pos hz]
    refine Evs.bind (pick_evs bs p2 4 hb hl (by omega) (by omega) (by omega)) ?_
    rintro ⟨v, _⟩ ⟨v0, v1, rfl⟩
    refine Evs.succ ?_
    by_cases hv : v > 0
    · simp only [spec_l92Numbered.j0, decide_eq_true hv, if_true]
      refine Evs.bind (pick_evs bs (p2 + 1) (l.length : Int) hb hl (by omega) (by omega) (by omega)) ?_
      rintro ⟨x, _⟩ ⟨x0, x1, rfl⟩
      simp only [if_pos x0, if_pos x1]
      refine Evs.bind (pick_evs bs (p2 + 1 + 1) 6 hb hl (by omega) (by omega) (by omega)) ?_
      rintro ⟨y, _⟩ ⟨y0, y1, rfl⟩
      by_cases hy : y = 0
      · simp only [if_pos hy]
        refine Evs.bind (pick_evs bs (p2 + 1 + 1 + 1) 5 hb hl (by omega) (by omega) (by omega)) ?_
        rintro ⟨z, _⟩ ⟨z0, z1, rfl⟩
        exact Evs.done ⟨h4, hd⟩
      · simp only [if_neg hy]
        by_cases hy1 : y = 1
        · simp only [if_pos hy1]
          refine Evs.bind (pick_evs bs (p2 + 1 + 1 + 1) 3 hb hl (by omega) (by omega) (by omega)) ?_
          rintro ⟨z, _⟩ ⟨z0, z1, rfl⟩
          refine Evs.bind (pick_evs bs (p2 + 1 + 1 + 1 + 1) 2 hb hl (by omega) (by omega) (by omega)) ?_
          rintro ⟨s, _⟩ ⟨s0, s1, rfl⟩
          exact Evs.done ⟨h4, hd⟩
        · simp only [if_neg hy1]
          exact Evs.done ⟨h4, hd⟩
    · simp only [spec_l92Numbered.j0, decide_eq_false hv, Bool.false_eq_true, if_false]
      exact Evs.done ⟨h4, hd⟩
  · simp only [if_neg hz]
    refine Evs.succ ?_
    simp only [spec_l92Numbered.j0, Bool.false_eq_true, if_false]
    exact Evs.done ⟨h4, hd⟩
end Go.Proofs.Ytkhmopmfbocokaa.Q
namespace Go.Proofs.Ytkhmopmfbocokaa.T
open Go.RowKit Go.Proofs.YtkhmopmfbocokaaW.PrintWords Go.Proofs.YtkhmopmfbocokaaW.PrintLast Go.Proofs.YtkhmopmfbocokaaW.PrintMore

set_option linter.unusedVariables false
set_option linter.unusedSimpArgs false
end Go.Proofs.Ytkhmopmfbocokaa.T
namespace Go.Proofs.Ytkhmopmfbocokaa.Q
open Go.RowKit Go.Proofs.Ytkhmopmfbocokaa.T Go.Proofs.YtkhmopmfbocokaaW.PrintWords Go.Proofs.YtkhmopmfbocokaaW.PrintLast
set_option linter.unusedVariables false
set_option linter.unusedSimpArgs false
def drawnC (r : List Pr × Bool × Bool × Int × Int × Int × List Rc) : Prop := r.1.length ≤ 4 ∧ smallRs r.2.2.2.2.2.2
theorem drawCheck {l0 : List Int} (hb : Bytes l0) : Evs (fun k => spec_DrawProducersCheck.f k l0) drawnC := by
  obtain ⟨b, ho, hb2, hbl⟩ := open_ev l0 hb
  unfold spec_DrawProducersCheck.f
  simp only [ho, bsome]
  refine Evs.bind (numbered_evs b hb2 hbl 0 (by omega) (by omega)) ?_
  rintro r ⟨h4, hd⟩
  exact Evs.done ⟨h4, drawnR_small (by omega) hd⟩
end Go.Proofs.Ytkhmopmfbocokaa.Q
namespace Go.Proofs.Ytkhmopmfbocokaa.T
open Go.RowKit Go.Proofs.YtkhmopmfbocokaaW.PrintWords Go.Proofs.YtkhmopmfbocokaaW.PrintLast Go.Proofs.YtkhmopmfbocokaaW.PrintMore

set_option linter.unusedVariables false
set_option linter.unusedSimpArgs false
end Go.Proofs.Ytkhmopmfbocokaa.T
namespace Go.Proofs.Ytkhmopmfbocokaa.T
open Go.RowKit Go.Proofs.YtkhmopmfbocokaaW.PrintWords Go.Proofs.YtkhmopmfbocokaaW.PrintLast Go.Proofs.YtkhmopmfbocokaaW.PrintMore

set_option linter.unusedVariables false
set_option linter.unusedSimpArgs false
end Go.Proofs.Ytkhmopmfbocokaa.T
namespace Go.Proofs.Ytkhmopmfbocokaa.T
open Go.RowKit Go.Proofs.YtkhmopmfbocokaaW.PrintWords Go.Proofs.YtkhmopmfbocokaaW.PrintLast Go.Proofs.YtkhmopmfbocokaaW.PrintMore

set_option linter.unusedVariables false
set_option linter.unusedSimpArgs false
theorem eqA39 (d : Nat) (w : World) (x0 y0 : Int) (x1 y1 : Int) (x2 y2 : Int) :
    (Op.equalIn (d + 2) 39 (.agg #[.int .i64 x0, .int .i64 x1, .int .i64 x2]) (.agg #[.int .i64 y0, .int .i64 y1, .int .i64 y2])).run Try.prog w = .ok (x0 == y0 && (x1 == y1 && (x2 == y2))) w := by
  refine eqA_of Try.underlying39 (by kernel_rfl) ?_
  refine eqf_cons (by rfl) (by go_simp; rfl) (by go_simp; rfl) (by go_simp) ?_
  refine eqf_cons (by rfl) (by go_simp; rfl) (by go_simp; rfl) (by go_simp) ?_
  exact eqf_last (by rfl) (by go_simp; rfl) (by go_simp; rfl) (by go_simp)
end Go.Proofs.Ytkhmopmfbocokaa.T
namespace Go.Proofs.Ytkhmopmfbocokaa.T
open Go.RowKit Go.Proofs.YtkhmopmfbocokaaW.PrintWords Go.Proofs.YtkhmopmfbocokaaW.PrintLast Go.Proofs.YtkhmopmfbocokaaW.PrintMore

set_option linter.unusedVariables false
set_option linter.unusedSimpArgs false
attribute [local go_sem high] eqA39
end Go.Proofs.Ytkhmopmfbocokaa.T
namespace Go.Proofs.Ytkhmopmfbocokaa.Q
open Go.RowKit Go.Proofs.Ytkhmopmfbocokaa.T Go.Proofs.YtkhmopmfbocokaaW.PrintWords Go.Proofs.YtkhmopmfbocokaaW.PrintLast
set_option linter.unusedVariables false
set_option linter.unusedSimpArgs false
theorem VP_mem {l : List Pr} (h : VP l) : ∀ t ∈ l, okP t := ((VP_iff l).1 h).2.1
theorem VP_sorted {l : List Pr} (h : VP l) : l.Pairwise ltP := ((VP_iff l).1 h).2.2
theorem VP_ids {l : List Pr} (h : VP l) : idsOk l = true := by
  unfold idsOk
  rw [List.all_eq_true]
  intro t ht
  have := (VP_mem h t ht).1
  simp
  omega
theorem VB_prod {a1 : Bool} {a2 a3 a4 : Int} {rs : List Rc} (h : VB a1 a2 a3 a4 rs) : 0 ≤ a2 ∧ a2 ≤ 255 := by
  have := h.1
  split at this
  · omega
  · omega
theorem prodOk_of {l : List Pr} (h : VP l) {a1 : Bool} {a2 a3 a4 : Int} {rs : List Rc} (hb : VB a1 a2 a3 a4 rs) : prodOk l a2 = true := by
  have := VB_prod hb
  unfold prodOk
  rw [VP_ids h]
  simp
  omega
def slotOf (t : Pr) : SlotV := ⟨true, t.f0, t.f1, t.f2⟩
theorem fold_not : ∀ (l : List Pr) (f : Nat → SlotV) (i : Nat), (∀ t ∈ l, t.f0.toNat ≠ i) → l.foldl slotPut f i = f i
  | [], f, i, h => rfl
  | a :: l, f, i, h => by
    rw [List.foldl_cons, fold_not l (slotPut f a) i (fun t ht => h t (List.mem_cons_of_mem _ ht))]
    unfold slotPut
    rw [if_neg (fun e => h a List.mem_cons_self e.symm)]
theorem fold_mem : ∀ (l : List Pr) (f : Nat → SlotV), l.Pairwise ltP → (∀ t ∈ l, 0 ≤ t.f0) → ∀ t ∈ l, l.foldl slotPut f t.f0.toNat = slotOf t
  | [], f, hs, h0, t, ht => by cases ht
  | a :: l, f, hs, h0, t, ht => by
    rw [List.foldl_cons]
    rw [List.pairwise_cons] at hs
    rcases List.mem_cons.1 ht with rfl | ht
    · rw [fold_not l _ _ (fun s hs' => by
        have h1 := hs.1 s hs'
        have h2 := h0 s (List.mem_cons_of_mem _ hs')
        have h3 := h0 t List.mem_cons_self
        unfold ltP at h1
        omega)]
      unfold slotPut slotOf
      rw [if_pos rfl]
    · exact fold_mem l _ hs.2 (fun s hs' => h0 s (List.mem_cons_of_mem _ hs')) t ht
theorem slotFn_mem {l : List Pr} (h : VP l) (t : Pr) (ht : t ∈ l) : slotFn l t.f0.toNat = slotOf t := fold_mem l _ (VP_sorted h) (fun s hs => (VP_mem h s hs).1.1) t ht
theorem slotFn_not {l : List Pr} (h : VP l) (i : Nat) (hi : ∀ t ∈ l, t.f0 ≠ (i : Int)) : slotFn l i = slot0 := by
  unfold slotFn
  rw [fold_not l _ i (fun t ht e => hi t ht (by have := (VP_mem h t ht).1.1; omega))]
def findP (l : List Pr) (p : Int) : Option Pr := l.find? (fun t => t.f0 == p)
theorem findP_some {l : List Pr} {p : Int} {t : Pr} (h : findP l p = some t) : t ∈ l ∧ t.f0 = p := by
  unfold findP at h
  exact ⟨List.mem_of_find?_eq_some h, by have := List.find?_some h; simpa using this⟩
theorem findP_none {l : List Pr} {p : Int} (h : findP l p = none) : ∀ t ∈ l, t.f0 ≠ p := by
  intro t ht
  have := List.find?_eq_none.1 h t ht
  simpa using this
def codeP (l : List Pr) (p e s : Int) : Int :=
  if p = 255 then 4 else match findP l p with
    | some t => if t.f1 > e then 3 else if t.f1 = e then seqCode s t.f2 else seqCode s 0
    | none => seqCode s 0
theorem codeAt_eq {l : List Pr} (h : VP l) (p e s : Int) (h0 : 0 ≤ p) : codeAt (slotFn l) p e s = codeP l p e s := by
  unfold codeAt codeP
  by_cases hp : p = 255
  · rw [if_pos hp, if_pos hp]
  · rw [if_neg hp, if_neg hp]
    cases hf : findP l p with
    | none =>
      rw [slotFn_not h p.toNat (fun t ht => by have := findP_none hf t ht; omega)]
      rfl
    | some t =>
      obtain ⟨h1, h2⟩ := findP_some hf
      subst h2
      rw [slotFn_mem h t h1]
      rfl
noncomputable def pcode (l : List Pr) (a1 : Bool) (a2 a3 a4 : Int) (rs : List Rc) : Int := if vp l = true then (if vb a1 a2 a3 a4 rs = true then codeP l a2 a3 a4 else 5) else 5
theorem implCheck (l : List Pr) (hl : l.length ≤ 1000000000000) (a0 a1 : Bool) (a2 a3 a4 : Int) (rs : List Rc) (hr : smallRs rs) : Ev (fun k => impl_ProducersCheck.f k l a0 a1 a2 a3 a4 rs) (pcode l a1 a2 a3 a4 rs) := by
  unfold impl_ProducersCheck.f pcode
  refine Ev.bind (implPValid l hl) ?_
  by_cases h : vp l = true
  · simp only [if_pos h]
    refine Ev.bind (implB a0 a1 a2 a3 a4 rs hr) ?_
    by_cases h2 : vb a1 a2 a3 a4 rs = true
    · have hV := (vp_iff l).1 h
      have hB := (vb_iff _ _ _ _ _).1 h2
      simp only [if_pos h2, if_pos (prodOk_of hV hB), codeAt_eq hV a2 a3 a4 (VB_prod hB).1]
      exact ev_some _
    · simp only [if_neg h2]
      exact ev_some _
  · simp only [if_neg h]
    exact ev_some _
def atP (l : List Pr) (x : Int) : Int := match l.findIdx? (fun t => t.f0 == x) with
  | some i => i
  | none => -1
theorem atP_cases (l : List Pr) (x : Int) : (atP l x = -1 ∧ findP l x = none ∧ ∀ j, j < l.length → (rp l (j : Int)).f0 ≠ x) ∨ ∃ i : Nat, i < l.length ∧ atP l x = i ∧ findP l x = some (rp l (i : Int)) ∧ (rp l (i : Int)).f0 = x ∧ ∀ j, j < i → (rp l (j : Int)).f0 ≠ x := by
  unfold atP findP
  cases h : l.findIdx? (fun t => t.f0 == x) with
  | none =>
    rw [List.findIdx?_eq_none_iff] at h
    refine .inl ⟨rfl, List.find?_eq_none.2 (fun t ht => by have := h t ht; simpa using this), fun j hj => ?_⟩
    have := h l[j] (List.getElem_mem hj)
    rw [rp_nat l j hj]
    simpa using this
  | some i =>
    rw [List.findIdx?_eq_some_iff_getElem] at h
    obtain ⟨hi, h1, h2⟩ := h
    refine .inr ⟨i, hi, rfl, ?_, ?_, fun j hj => ?_⟩
    · rw [rp_nat l i hi, List.find?_eq_some_iff_getElem]
      exact ⟨h1, i, hi, rfl, fun j hj => by have := h2 j hj; simpa using this⟩
    · rw [rp_nat l i hi]; simpa using h1
    · rw [rp_nat l j (by omega)]
      have := h2 j hj
      simpa using this
theorem specAtP_loop (l : List Pr) (x : Int) (hl : l.length ≤ 1000000000000) : ∀ (d i : Nat), l.length - i = d → i ≤ l.length → (∀ j, j < i → (rp l (j : Int)).f0 ≠ x) → Ev (fun k => spec_l21At.l0 k l x (i : Int)) (atP l x) := by
  intro d
  induction d with
  | zero =>
    intro i hd hi hn
    refine ev_succ ?_
    simp only [spec_l21At.l0, if_neg (show ¬ (i : Int) < (l.length : Int) by omega)]
    rcases atP_cases l x with ⟨h, _⟩ | ⟨j, hj, h, _, h1, _⟩
    · rw [h]; exact ev_some _
    · exact absurd h1 (hn j (by omega))
  | succ d ih =>
    intro i hd hi hn
    have e1 : wrap64 ((i : Int) + 1) = ((i + 1 : Nat) : Int) := by rw [wrap_id (by omega) (by omega)]; omega
    refine ev_succ ?_
    by_cases h : (rp l (i : Int)).f0 = x
    · simp only [spec_l21At.l0, if_pos (show (i : Int) < (l.length : Int) by omega), if_pos (show (0 : Int) ≤ i by omega), if_pos h]
      rcases atP_cases l x with ⟨_, _, h2⟩ | ⟨j, hj, h2, _, h3, h4⟩
      · exact absurd h (h2 i (by omega))
      · have : j = i := by
          rcases Nat.lt_trichotomy j i with h5 | h5 | h5
          · exact absurd h3 (hn j h5)
          · exact h5
          · exact absurd h (h4 i h5)
        rw [h2, this]
        exact ev_some _
    · simp only [spec_l21At.l0, if_pos (show (i : Int) < (l.length : Int) by omega), if_pos (show (0 : Int) ≤ i by omega), if_neg h, e1]
      refine ih (i + 1) (by omega) (by omega) (fun j hj => ?_)
      by_cases e : j = i
      · subst e; exact h
      · exact hn j (by omega)
theorem specAtP (l : List Pr) (x : Int) (hl : l.length ≤ 1000000000000) : Ev (fun k => spec_l21At.f k l x) (atP l x) := by
  unfold spec_l21At.f
  exact specAtP_loop l x hl l.length 0 (by omega) (by omega) (fun j hj => by omega)
theorem spec_seq (n : Int) (a0 a1 : Bool) (a2 a3 a4 : Int) (rs : List Rc) : Ev (fun k => spec_l21Check.j0 k n a0 a1 a2 a3 a4 rs) (seqCode a4 n) := by
  refine ev_succ ?_
  unfold seqCode
  simp only [spec_l21Check.j0]
  by_cases h : a4 < n
  · simp only [if_pos h]; exact ev_some _
  · simp only [if_neg h]
    by_cases h2 : a4 > n
    · simp only [if_pos h2]; exact ev_some _
    · simp only [if_neg h2]; exact ev_some _
theorem specCode (l : List Pr) (hl : l.length ≤ 1000000000000) (a0 a1 : Bool) (a2 a3 a4 : Int) (rs : List Rc) : Ev (fun k => spec_l21Check.f k l a0 a1 a2 a3 a4 rs) (codeP l a2 a3 a4) := by
  unfold spec_l21Check.f codeP
  by_cases hp : a2 = 255
  · simp only [if_pos hp]; exact ev_some _
  · simp only [if_neg hp]
    refine Ev.bind (specAtP l a2 hl) ?_
    rcases atP_cases l a2 with ⟨h, hf, _⟩ | ⟨i, hi, h, hf, h1, _⟩
    · rw [h, hf]
      simp only [if_neg (show ¬ ((-1 : Int) ≥ 0) by omega)]
      exact spec_seq _ _ _ _ _ _ _
    · rw [h, hf]
      simp only [if_pos (show (i : Int) ≥ 0 by omega), if_pos (show (0 : Int) ≤ i by omega), if_pos (show (i : Int) < (l.length : Int) by omega)]
      by_cases h2 : a3 < (rp l (i : Int)).f1
      · simp only [if_pos h2, if_pos (show (rp l (i : Int)).f1 > a3 from h2)]; exact ev_some _
      · simp only [if_neg h2, if_neg (show ¬ (rp l (i : Int)).f1 > a3 from h2)]
        by_cases h3 : a3 = (rp l (i : Int)).f1
        · simp only [if_pos h3, if_pos h3.symm]
          exact spec_seq _ _ _ _ _ _ _
        · simp only [if_neg h3, if_neg (fun h4 => h3 (Eq.symm h4))]
          exact spec_seq _ _ _ _ _ _ _
theorem specCheck (l : List Pr) (hl : l.length ≤ 1000000000000) (a0 a1 : Bool) (a2 a3 a4 : Int) (rs : List Rc) (hr : smallRs rs) : Ev (fun k => spec_ProducersCheck.f k l a0 a1 a2 a3 a4 rs) (pcode l a1 a2 a3 a4 rs) := by
  unfold spec_ProducersCheck.f pcode
  refine Ev.bind (specPValid l hl) ?_
  by_cases h : vp l = true
  · simp only [if_pos h]
    refine Ev.bind (specB a0 a1 a2 a3 a4 rs hr) ?_
    by_cases h2 : vb a1 a2 a3 a4 rs = true
    · simp only [if_pos h2]
      exact Ev.bind (specCode l hl a0 a1 a2 a3 a4 rs) (ev_some _)
    · simp only [if_neg h2]
      exact ev_some _
  · simp only [if_neg h]
    exact ev_some _
theorem seqCode_two {s n : Int} (h : seqCode s n = 2) : n < s := by
  unfold seqCode at h
  split at h
  · omega
  · split at h <;> omega
theorem seqCode_self (s : Int) : seqCode s s = 0 := by
  unfold seqCode
  rw [if_neg (by omega), if_neg (by omega)]
theorem pcode_cases (l : List Pr) (a1 : Bool) (a2 a3 a4 : Int) (rs : List Rc) (h : pcode l a1 a2 a3 a4 rs ≠ 5) : VP l ∧ VB a1 a2 a3 a4 rs ∧ pcode l a1 a2 a3 a4 rs = codeP l a2 a3 a4 := by
  unfold pcode at h ⊢
  by_cases h1 : vp l = true
  · by_cases h2 : vb a1 a2 a3 a4 rs = true
    · rw [if_pos h1, if_pos h2]
      exact ⟨(vp_iff l).1 h1, (vb_iff _ _ _ _ _).1 h2, rfl⟩
    · rw [if_pos h1, if_neg h2] at h
      exact absurd rfl h
  · rw [if_neg h1] at h
    exact absurd rfl h
theorem pcode_of {l : List Pr} (h : VP l) {a1 : Bool} {a2 a3 a4 : Int} {rs : List Rc} (hb : VB a1 a2 a3 a4 rs) : pcode l a1 a2 a3 a4 rs = codeP l a2 a3 a4 := by
  unfold pcode
  rw [if_pos ((vp_iff l).2 h), if_pos ((vb_iff _ _ _ _ _).2 hb)]
end Go.Proofs.Ytkhmopmfbocokaa.Q
namespace Go.Proofs.Ytkhmopmfbocokaa.Pure
open Go.RowKit Go.Proofs.Ytkhmopmfbocokaa.T Go.Proofs.YtkhmopmfbocokaaW.PrintWords Go.Proofs.YtkhmopmfbocokaaW.PrintLast Go.Proofs.Ytkhmopmfbocokaa.Q
set_option linter.unusedVariables false
set_option linter.unusedSimpArgs false
theorem VB_seq {a1 : Bool} {a2 a3 a4 : Int} {rs : List Rc} (h : VB a1 a2 a3 a4 rs) (h2 : a2 ≠ 255) (s : Int) (h0 : 0 ≤ s) (h1 : s ≤ 9999) : VB a1 a2 a3 s rs := by
  unfold VB at h ⊢
  rw [if_neg h2] at h ⊢
  exact ⟨⟨h.1.1, h.1.2.1, h0, h1⟩, h.2⟩
theorem gap_next {l : List Pr} (hV : VP l) {p e s : Int} (h : codeP l p e s = 2) : p ≠ 255 ∧ ∃ n, 0 ≤ n ∧ n < s ∧ ∀ s', codeP l p e s' = seqCode s' n := by
  have h255 : p ≠ 255 := by
    rintro rfl
    have : codeP l 255 e s = 4 := by unfold codeP; rw [if_pos rfl]
    omega
  refine ⟨h255, ?_⟩
  unfold codeP at h
  rw [if_neg h255] at h
  unfold codeP
  simp only [if_neg h255]
  cases hf : findP l p with
  | none =>
    rw [hf] at h
    exact ⟨0, by omega, seqCode_two h, fun _ => rfl⟩
  | some t =>
    rw [hf] at h
    dsimp only at h ⊢
    have ht := VP_mem hV t (findP_some hf).1
    by_cases h1 : t.f1 > e
    · rw [if_pos h1] at h; omega
    · rw [if_neg h1] at h
      simp only [if_neg h1]
      by_cases h2 : t.f1 = e
      · rw [if_pos h2] at h
        simp only [if_pos h2]
        exact ⟨t.f2, ht.2.2.1, seqCode_two h, fun _ => rfl⟩
      · rw [if_neg h2] at h
        simp only [if_neg h2]
        exact ⟨0, by omega, seqCode_two h, fun _ => rfl⟩
theorem gap_loop (l : List Pr) (hl : l.length ≤ 1000000000000) (hV : VP l) (a0 a1 : Bool) (a2 a3 a4 : Int) (rs : List Rc) (hrs : smallRs rs) (hB : VB a1 a2 a3 a4 rs) (h255 : a2 ≠ 255) (n : Int) (hn : 0 ≤ n) (hc : ∀ s', codeP l a2 a3 s' = seqCode s' n) :
    ∀ (d : Nat) (s x : Int), s - n = d → s ≤ 9999 → Ev (fun k => laws_FnCheckGap.l0 k l s a0 a1 a2 a3 x rs) true := by
  intro d
  induction d with
  | zero =>
    intro s x hd hs
    refine ev_succ ?_
    simp only [laws_FnCheckGap.l0, if_pos (show s ≥ 0 by omega)]
    have h := implCheck l hl a0 a1 a2 a3 s rs hrs
    rw [pcode_of hV (VB_seq hB h255 s (by omega) hs), hc, show s = n by omega, seqCode_self] at h
    rw [show s = n by omega]
    refine Ev.bind h ?_
    simp only [if_neg (show ¬ (0 : Int) = 2 by omega), beq_self_eq_true]
    exact ev_some _
  | succ d ih =>
    intro s x hd hs
    refine ev_succ ?_
    simp only [laws_FnCheckGap.l0, if_pos (show s ≥ 0 by omega), show wrap64 (s - 1) = s - 1 from wrap_id (by omega) (by omega)]
    have h := implCheck l hl a0 a1 a2 a3 s rs hrs
    rw [pcode_of hV (VB_seq hB h255 s (by omega) hs), hc, show seqCode s n = 2 by unfold seqCode; rw [if_neg (by omega), if_pos (by omega)]] at h
    refine Ev.bind h ?_
    simp only [if_true]
    exact ih (s - 1) s (by omega) (by omega)
theorem FnCheckGap : laws_FnCheckGap.Pure := by
  intro l0 _ _ hb0
  refine Ev.rounds ?_
  have hb := bytes_of hb0
  unfold laws_FnCheckGap.f
  by_cases h : (l0.length : Int) > 1048576
  · simp only [if_pos h]
    exact ev_some _
  · simp only [if_neg h]
    obtain ⟨⟨l, a0, a1, a2, a3, a4, rs⟩, hd, h4, hrs⟩ := drawCheck hb
    dsimp only at h4 hrs
    refine Ev.bind hd ?_
    refine Ev.bind (implCheck l (by omega) a0 a1 a2 a3 a4 rs hrs) ?_
    refine Ev.bind (specCheck l (by omega) a0 a1 a2 a3 a4 rs hrs) ?_
    simp only [if_true]
    by_cases hz : pcode l a1 a2 a3 a4 rs = 2
    · simp only [if_pos hz]
      refine ev_succ ?_
      by_cases h100 : a4 > 100
      · simp only [laws_FnCheckGap.j0, decide_eq_true h100, if_true, beq_self_eq_true]
        exact ev_some _
      · simp only [laws_FnCheckGap.j0, decide_eq_false h100, Bool.false_eq_true, if_false]
        obtain ⟨hV, hB, hc⟩ := pcode_cases l a1 a2 a3 a4 rs (by omega)
        rw [hz] at hc
        obtain ⟨h255, n, hn0, hn1, hn2⟩ := gap_next hV hc.symm
        rw [show wrap64 (a4 - 1) = a4 - 1 from wrap_id (by omega) (by omega)]
        exact gap_loop l (by omega) hV a0 a1 a2 a3 a4 rs hrs hB h255 n hn0 hn2 (a4 - 1 - n).toNat (a4 - 1) a4 (by omega) (by omega)
    · simp only [if_neg hz]
      refine ev_succ ?_
      simp only [laws_FnCheckGap.j0, if_true, beq_self_eq_true]
      exact ev_some _
end Go.Proofs.Ytkhmopmfbocokaa.Pure
namespace Go.Proofs.Ytkhmopmfbocokaa.fnCheckGap
open Go.ChangeShapes Go.WideShapes Go.ChangeAt Go.RowKit
open Go.ChangeMaps (open_string shut_string)
set_option linter.unusedVariables false
theorem own : ownKnob Try.prog.godebug = none := by kernel_rfl
theorem laidOut : laidOutB Try.prog = true := by kernel_rfl
def IsRow (k : IntKind) (w : World) (a : Option Addr) (len cap : Nat) (zs : List Int) : Prop :=
  (a = none ∧ len = 0 ∧ cap = 0 ∧ zs = []) ∨
  ∃ x, a = some x ∧ len ≤ cap ∧ cap ≤ maxLen ∧ zs.length = cap ∧ (∀ i, i < zs.length → w.cell? (x.add i) = some (.int k (zs.getD i 0))) ∧ ∀ n ∈ zs, (Lit.int k n).wf = true
set_option maxRecDepth 100000 in
theorem lifted (os : Os) (started : os.Started) (H : Type) (enc : TypeId × Value → H) :
    ReturnsInHanded {} Try.checked os 7 .any (Rows.fnCheckGapSpec.pre6 enc Try.prog Try.f7 Rows.fnCheckGapRow.domain false) (Rows.fnCheckGapSpec.post enc Try.prog Try.f7 false true false false) := by
  refine returnsInHanded_of_change_sized (C := Try.checked) own started (by kernel_rfl) Try.func7
    (ChangeSpec.witness6 (enc := enc) (C := Try.checked) false ⟨#[], #[.slice none 0 0], []⟩ 8 (by kernel_rfl) (by kernel_rfl) (by kernel_rfl) (by kernel_rfl)) ?_
  intro W base args ds gs before hval0 hW hcnd hsz0 _
  have hsz : (DataW.weightsEach Try.prog (Try.f7.params.toList ++ Rows.fnCheckGapSpec.plain.varTypes Try.prog) (ds ++ gs)).all (· ≤ reachBytes) = true := hsz0
  have hval : ∀ (j : Nat) t v, Try.f7.params[j]? = some t → args[j]? = some v → Value.okWide Try.prog W .any base t v := hval0
  have hW' := hW
  obtain ⟨p, q, hA0, hV, rfl, hfz, hnd⟩ := hW
  have hA : DataW.TrodAll enc Try.prog W 0 (fun _ => true) true Try.f7.params.toList args.toList ds p := hA0
  rw [Try.params7] at hA hval hsz
  obtain ⟨v0, vs0, d0, ds0, p0, q0, hargs, rfl, rfl, h0, r0⟩ := trodAll_cons hA
  obtain ⟨rfl, rfl, rfl⟩ := trodAll_nil r0
  obtain rfl : args = #[v0] := by cases args; simp_all
  obtain ⟨rfl, rfl⟩ := trodVars_none hV
  obtain ⟨a0, len0, cap0, rfl⟩ := okWide_slice Try.underlying22 (hval 0 22 v0 rfl rfl)
  have k0 := h0
  have lt0 : ∀ x ∈ p0, x.block < W.heap.size := by obtain ⟨m, hm⟩ := k0; exact DataW.trod_lt m _ _ _ hm
  obtain ⟨z0, w0⟩ : ∃ zs, IsRow .u8 W a0 len0 cap0 zs := by
    obtain ⟨fuel, hf⟩ := h0
    rcases open_ints Try.underlying22 Try.underlying5 (by kernel_rfl) hf with ⟨hcs, _⟩ | ⟨x, l, c, zs, hcs, _, hl, hm, hz, _, hcell, hwz⟩
    · simp [Value.cells] at hcs
      obtain ⟨rfl, rfl, rfl⟩ := hcs
      exact ⟨[], .inl ⟨rfl, rfl, rfl, rfl⟩⟩
    · simp [Value.cells] at hcs
      obtain ⟨rfl, rfl, rfl⟩ := hcs
      exact ⟨zs, .inr ⟨_, rfl, hl, hm, by simpa using hz, hcell, hwz⟩⟩
  have y0 : len0 * 1 ≤ 140737488351232 := Go.Proofs.YtkhmopmfbocokaaW.PrintWords.sized_ints hsz (j := 0) (t := 22) rfl rfl Try.underlying22 Try.underlying5 (by kernel_rfl) (by kernel_rfl) h0
  clear hA0 hval0 hsz0 hsz
  refine (T.laws_FnCheckGap.walk Pure.FnCheckGap a0 len0 cap0 z0 W w0 y0).mono fun e W' ⟨he, bel⟩ => ?_
  subst he
  exact ⟨_, rfl, _, _, _, [], _, [], hW', trodAll_mk1 (shut_bool Try.underlying4 _), (trodAll_cons_mk (Below.trod laidOut (by kernel_rfl) (of_decide_eq_true (by kernel_rfl)) k0 bel lt0) trodAll_mk0), rfl, bel.frame _, fun h => by cases h⟩
theorem closed : joinedFacts Try.prog 7 Try.f7 Rows.fnCheckGapSpec Rows.fnCheckGapRow = true :=
  Head.closed_of _ _ _ _ _ (by kernel_rfl) (by kernel_rfl) (by kernel_rfl) (by kernel_rfl) (by kernel_rfl) (by kernel_rfl) (by kernel_rfl) (by kernel_rfl) (by kernel_rfl) (by kernel_rfl) (by kernel_rfl) (by kernel_rfl) (by kernel_rfl) (by kernel_rfl) (by kernel_rfl) (by kernel_rfl) (by kernel_rfl) (by kernel_rfl) (by kernel_rfl) (by kernel_rfl) (by kernel_rfl) (by kernel_rfl) (by kernel_rfl) (by kernel_rfl) (by kernel_rfl) Head.may_enter (by rw [Head.lifts_final]; kernel_rfl) (by rw [Head.make_is]; kernel_rfl) (by kernel_rfl) (by kernel_rfl) (by kernel_rfl) (by kernel_rfl)
theorem over : Rows.fnCheckGapRow.holds Try.pinned (OpenSpec.ofChange Rows.fnCheckGapSpec) :=
  OpenClaim.holds_of_wide 7 Try.f7 rfl rfl rfl rfl rfl rfl rfl ⟨rfl, rfl, rfl, rfl, rfl⟩ rfl rfl rfl rfl rfl (by kernel_rfl) Try.func7 closed
    (of_decide_eq_true (by kernel_rfl)) (by unfold Func.isWrapper; first | (rw [if_pos (by decide +kernel)]; kernel_rfl) | (rw [if_neg (by decide +kernel)]; exact ⟨rfl, rfl⟩))
    (fun os started H enc _ => lifted os started H enc)
theorem proved : Rows.FnCheckGapSaid := over
end Go.Proofs.Ytkhmopmfbocokaa.fnCheckGap
namespace Go.Proofs.Ytkhmopmfbocokaa
theorem fnCheckGap_holds : Rows.FnCheckGapSaid := fnCheckGap.proved
end Go.Proofs.Ytkhmopmfbocokaa
