/- What TermsEnd answers, in plain words. -/
import Derived.Test.YtamncgpajkoiaaaQTerms3
import Derived.Test.YtamncgpajkoiaaaT12
import Derived.Test.YtamncgpajkoiaaaT11
namespace Go.Proofs.Ytamncgpajkoiaaa.Q
open Go.RowKit Go.Proofs.Ytamncgpajkoiaaa.T Go.Proofs.YtamncgpajkoiaaaW.PrintWords Go.Proofs.YtamncgpajkoiaaaW.PrintLast
set_option linter.unusedVariables false
set_option linter.unusedSimpArgs false

def lastT (l : List Tm) : Tm := rt l ((l.length : Int) - 1)
open Classical in
/-- Terms and an end are valid. -/
noncomputable def ve (l : List Tm) (e : Int) : Bool := vt l && decide (0 ≤ e ∧ e ≤ 100000 ∧ (l.length = 0 ∨ (lastT l).f1 < e))

theorem implEndValid (l : List Tm) (e : Int) (hl : l.length ≤ 1000000000000) : Ev (fun k => impl_endValid.f k l e) (ve l e) := by
  unfold impl_endValid.f ve
  refine Ev.bind (implValid l hl) ?_
  by_cases hv : vt l = true
  · have e2 : wrap64 ((l.length : Int) - 1) = (l.length : Int) - 1 := wrap_id (by omega) (by omega)
    simp only [if_pos hv, impl_within_eq, bsome, decide_eq_true_eq, hv, Bool.true_and]
    by_cases h1 : 0 ≤ e ∧ e ≤ 100000
    · simp only [if_pos h1]
      by_cases h0 : l.length = 0
      · simp only [if_pos (show (l.length : Int) = 0 by omega)]
        rw [decide_eq_true ⟨h1.1, h1.2, .inl h0⟩]
        exact ev_some _
      · simp only [if_neg (show ¬ (l.length : Int) = 0 by omega), e2, if_pos (show 0 ≤ (l.length : Int) - 1 by omega), if_pos (show (l.length : Int) - 1 < (l.length : Int) by omega)]
        have : decide (e > (rt l ((l.length : Int) - 1)).f1) = decide (0 ≤ e ∧ e ≤ 100000 ∧ (l.length = 0 ∨ (lastT l).f1 < e)) := by
          rw [decide_eq_decide]
          exact ⟨fun h => ⟨h1.1, h1.2, .inr h⟩, fun h => h.2.2.resolve_left h0⟩
        rw [← this]
        exact ev_some _
    · simp only [if_neg h1]
      rw [decide_eq_false (fun h => h1 ⟨h.1, h.2.1⟩)]
      exact ev_some _
  · have hv' : vt l = false := by simpa using hv
    simp only [if_neg hv, hv', Bool.false_and]
    exact ev_some _
theorem specOk (l : List Tm) (e : Int) (hl : l.length ≤ 1000000000000) : Ev (fun k => spec_l23Ok.f k l e) (ve l e) := by
  unfold spec_l23Ok.f ve
  refine Ev.bind (specValid l hl) ?_
  by_cases hv : vt l = true
  · have e2 : wrap64 ((l.length : Int) - 1) = (l.length : Int) - 1 := wrap_id (by omega) (by omega)
    simp only [if_pos hv, spec_l6In_eq, bsome, decide_eq_true_eq, hv, Bool.true_and]
    by_cases h1 : 0 ≤ e ∧ e ≤ 100000
    · simp only [if_pos h1]
      by_cases h0 : l.length = 0
      · simp only [if_pos (show (l.length : Int) = 0 by omega)]
        rw [decide_eq_true ⟨h1.1, h1.2, .inl h0⟩]
        exact ev_some _
      · simp only [if_neg (show ¬ (l.length : Int) = 0 by omega), e2, if_pos (show 0 ≤ (l.length : Int) - 1 by omega), if_pos (show (l.length : Int) - 1 < (l.length : Int) by omega)]
        have : decide ((rt l ((l.length : Int) - 1)).f1 < e) = decide (0 ≤ e ∧ e ≤ 100000 ∧ (l.length = 0 ∨ (lastT l).f1 < e)) := by
          rw [decide_eq_decide]
          exact ⟨fun h => ⟨h1.1, h1.2, .inr h⟩, fun h => h.2.2.resolve_left h0⟩
        rw [← this]
        exact ev_some _
    · simp only [if_neg h1]
      rw [decide_eq_false (fun h => h1 ⟨h.1, h.2.1⟩)]
      exact ev_some _
  · have hv' : vt l = false := by simpa using hv
    simp only [if_neg hv, hv', Bool.false_and]
    exact ev_some _
theorem ve_vt {l : List Tm} {e : Int} (h : ve l e = true) : VT l ∧ 0 ≤ e ∧ e ≤ 100000 ∧ (l.length = 0 ∨ (lastT l).f1 < e) := by
  unfold ve at h
  rw [Bool.and_eq_true, vt_iff] at h
  exact ⟨h.1, by simpa using h.2⟩

/-- The first place of a number, or -1. -/
def atT (l : List Tm) (x : Int) : Int := impl_findTerm l x
theorem atT_cases (l : List Tm) (x : Int) : (atT l x = -1 ∧ ∀ j, j < l.length → (rt l j).f0 ≠ x) ∨ ∃ i : Nat, i < l.length ∧ atT l x = i ∧ (rt l i).f0 = x ∧ ∀ j, j < i → (rt l j).f0 ≠ x := by
  unfold atT impl_findTerm
  cases h : l.findIdx? (fun t => t.f0 == x) with
  | none =>
    refine .inl ⟨rfl, fun j hj => ?_⟩
    rw [List.findIdx?_eq_none_iff] at h
    have := h l[j] (List.getElem_mem hj)
    rw [rt_nat l j hj]
    simpa using this
  | some i =>
    rw [List.findIdx?_eq_some_iff_getElem] at h
    obtain ⟨hi, h1, h2⟩ := h
    refine .inr ⟨i, hi, rfl, ?_, fun j hj => ?_⟩
    · rw [rt_nat l i hi]; simpa using h1
    · rw [rt_nat l j (by omega)]
      have := h2 j hj
      simpa using this
theorem specAt_loop (l : List Tm) (x : Int) (hl : l.length ≤ 1000000000000) : ∀ (d i : Nat), l.length - i = d → i ≤ l.length → (∀ j, j < i → (rt l j).f0 ≠ x) → Ev (fun k => spec_l23At.l0 k l x (i : Int)) (atT l x) := by
  intro d
  induction d with
  | zero =>
    intro i hd hi hn
    refine ev_succ ?_
    simp only [spec_l23At.l0, if_neg (show ¬ (i : Int) < (l.length : Int) by omega)]
    rcases atT_cases l x with ⟨h, _⟩ | ⟨j, hj, h, h1, _⟩
    · rw [h]; exact ev_some _
    · exact absurd h1 (hn j (by omega))
  | succ d ih =>
    intro i hd hi hn
    have e1 : wrap64 ((i : Int) + 1) = ((i + 1 : Nat) : Int) := by rw [wrap_id (by omega) (by omega)]; omega
    refine ev_succ ?_
    by_cases h : (rt l i).f0 = x
    · simp only [spec_l23At.l0, if_pos (show (i : Int) < (l.length : Int) by omega), if_pos (show (0 : Int) ≤ i by omega), if_pos h]
      rcases atT_cases l x with ⟨_, h2⟩ | ⟨j, hj, h2, h3, h4⟩
      · exact absurd h (h2 i (by omega))
      · have : j = i := by
          rcases Nat.lt_trichotomy j i with h5 | h5 | h5
          · exact absurd h3 (hn j h5)
          · exact h5
          · exact absurd h (h4 i h5)
        rw [h2, this]
        exact ev_some _
    · simp only [spec_l23At.l0, if_pos (show (i : Int) < (l.length : Int) by omega), if_pos (show (0 : Int) ≤ i by omega), if_neg h, e1]
      refine ih (i + 1) (by omega) (by omega) (fun j hj => ?_)
      by_cases e : j = i
      · subst e; exact h
      · exact hn j (by omega)
theorem specAt (l : List Tm) (x : Int) (hl : l.length ≤ 1000000000000) : Ev (fun k => spec_l23At.f k l x) (atT l x) := by
  unfold spec_l23At.f
  exact specAt_loop l x hl l.length 0 (by omega) (by omega) (fun j hj => by omega)

/-- Where the term at a place ends. -/
def endT (l : List Tm) (i : Int) (e : Int) : Int := if i + 1 < (l.length : Int) then (rt l (i + 1)).f1 else e
theorem implEndAt (l : List Tm) (i e : Int) (h0 : 0 ≤ i) (h1 : i ≤ 1000000000000) : impl_endAt.f l i e = some (endT l i e) := by
  unfold impl_endAt.f endT
  rw [wrap_id (by omega) (by omega)]
  by_cases h : i + 1 < (l.length : Int)
  · rw [if_pos h, if_pos (by omega), if_pos h]
  · rw [if_neg h, if_neg h]
theorem specEnd (l : List Tm) (i e : Int) (h0 : 0 ≤ i) (h1 : i ≤ 1000000000000) : spec_l23End.f l i e = some (endT l i e) := by
  unfold spec_l23End.f endT
  rw [wrap_id (by omega) (by omega)]
  by_cases h : i + 1 < (l.length : Int)
  · rw [if_pos h, if_pos (by omega), if_pos h]
  · rw [if_neg h, if_neg h]

noncomputable def tend (l : List Tm) (x e : Int) : Int := if ve l e = true then (if atT l x < 0 then -1 else endT l (atT l x) e) else -1
theorem implTermsEnd (l : List Tm) (x e : Int) (hl : l.length ≤ 1000000000000) : Ev (fun k => impl_TermsEnd.f k l x e) (tend l x e) := by
  unfold impl_TermsEnd.f tend
  refine Ev.bind (implEndValid l e hl) ?_
  by_cases hv : ve l e = true
  · simp only [if_pos hv]
    by_cases hn : atT l x < 0
    · simp only [if_pos hn, if_pos (show impl_findTerm l x < 0 from hn)]
      exact ev_some _
    · simp only [if_neg hn, if_neg (show ¬ impl_findTerm l x < 0 from hn)]
      refine ev_of_all fun k => ?_
      refine implEndAt l _ e (show 0 ≤ atT l x by omega) ?_
      rcases atT_cases l x with ⟨h, _⟩ | ⟨j, hj, h, _⟩
      · omega
      · show atT l x ≤ _
        omega
  · simp only [if_neg hv]
    exact ev_some _
theorem specTermsEnd (l : List Tm) (x e : Int) (hl : l.length ≤ 1000000000000) : Ev (fun k => spec_TermsEnd.f k l x e) (tend l x e) := by
  unfold spec_TermsEnd.f tend
  refine Ev.bind (specAt l x hl) ?_
  refine Ev.bind (specOk l e hl) ?_
  by_cases hv : ve l e = true
  · simp only [if_pos hv]
    by_cases hn : atT l x < 0
    · simp only [if_pos hn]
      exact ev_some _
    · simp only [if_neg hn]
      rw [specEnd l _ e (by omega) (by rcases atT_cases l x with ⟨h, _⟩ | ⟨j, hj, h, _⟩ <;> omega)]
      exact ev_of_all fun k => rfl
  · simp only [if_neg hv]
    exact ev_some _

end Go.Proofs.Ytamncgpajkoiaaa.Q
