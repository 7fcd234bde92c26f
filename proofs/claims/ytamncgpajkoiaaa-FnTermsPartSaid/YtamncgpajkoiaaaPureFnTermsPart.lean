/- Valid terms stay valid without any one term, and are invalid with it twice: for every pair of codes. -/
import Derived.Test.YtamncgpajkoiaaaT5
import Derived.Test.YtamncgpajkoiaaaQTerms2
namespace Go.Proofs.Ytamncgpajkoiaaa.Pure
open Go.RowKit Go.Proofs.Ytamncgpajkoiaaa.T Go.Proofs.YtamncgpajkoiaaaW.PrintWords Go.Proofs.YtamncgpajkoiaaaW.PrintLast Go.Proofs.Ytamncgpajkoiaaa.Q
set_option linter.unusedVariables false
set_option linter.unusedSimpArgs false

theorem part_ev (l : List Tm) (l1 : List Int) (h9 : l.length ≤ 9) (h1 : l1.length ≤ 1048576) : Ev (fun k => laws_FnTermsPart.j1 k l1 l (vt l) (vt l) (!vt l || decide (l.length = 0))) true := by
  refine ev_succ ?_
  by_cases hv : vt l = true
  · by_cases h0 : l.length = 0
    · have hf : (!vt l || decide (l.length = 0)) = true := by simp [h0]
      rw [hf]
      simp only [laws_FnTermsPart.j1, if_true, beq_self_eq_true]
      exact ev_some _
    · have hm0 : 0 ≤ (l1.length : Int) % (l.length : Int) := Int.emod_nonneg _ (by omega)
      have hm1 : (l1.length : Int) % (l.length : Int) < (l.length : Int) := Int.emod_lt_of_pos _ (by omega)
      obtain ⟨m, hm⟩ : ∃ m : Nat, (l1.length : Int) % (l.length : Int) = m := ⟨_, (Int.toNat_of_nonneg hm0).symm⟩
      rw [hm] at hm0 hm1
      have hV := (vt_iff l).1 hv
      have e1 : wrap64 ((m : Int) + 1) = ((m + 1 : Nat) : Int) := by rw [wrap_id (by omega) (by omega)]; omega
      have hf : (!vt l || decide (l.length = 0)) = false := by rw [hv]; simp [h0]
      rw [hf]
      simp only [laws_FnTermsPart.j1, Bool.false_eq_true, if_false, bsome, hm]
      have hx := implValid (l.take m ++ l.drop (m + 1)) (by simp; omega)
      have hy := implValid (l.take (m + 1) ++ l.drop m) (by simp; omega)
      rw [(vt_iff _).2 (VT_without hV m)] at hx
      have hy2 : vt (l.take (m + 1) ++ l.drop m) = false := by
        rw [Bool.eq_false_iff]
        exact fun h => VT_twice (by omega) ((vt_iff _).1 h)
      rw [hy2] at hy
      simp only [if_neg (show ¬ (l.length : Int) = 0 by omega), if_pos hm0, if_pos (show (m : Int) ≤ (l.length : Int) by omega), e1, Int.toNat_natCast, List.nil_append, List.length_nil, Nat.zero_add, if_pos (show (0 : Int) ≤ ((m + 1 : Nat) : Int) by omega), if_pos (show ((m + 1 : Nat) : Int) ≤ (l.length : Int) by omega)]
      simp only [if_pos (small (n := (l.take m).length) (by simp only [List.length_take, List.length_drop]; omega)), if_pos (small (n := (l.take m).length + (l.drop (m + 1)).length) (by simp only [List.length_take, List.length_drop]; omega)), if_pos (small (n := (l.take (m + 1)).length) (by simp only [List.length_take, List.length_drop]; omega)), if_pos (small (n := (l.take (m + 1)).length + (l.drop m).length) (by simp only [List.length_take, List.length_drop]; omega))]
      refine Ev.bind hx ?_
      simp only [if_true]
      refine Ev.bind hy ?_
      exact ev_some _
  · have hv' : vt l = false := by simpa using hv
    have hf : (!vt l || decide (l.length = 0)) = true := by rw [hv']; simp
    rw [hf]
    simp only [laws_FnTermsPart.j1, if_true, beq_self_eq_true]
    exact ev_some _

theorem FnTermsPart : laws_FnTermsPart.Pure := by
  intro l0 l1 _ _ hb0 _ _ _
  refine Ev.rounds ?_
  have hb := bytes_of hb0
  unfold laws_FnTermsPart.f
  by_cases h : (l0.length : Int) > 1048576
  · simp only [if_pos h]
    refine ev_succ ?_
    simp only [laws_FnTermsPart.j0, if_true]
    exact ev_some _
  · simp only [if_neg h]
    by_cases h1 : (l1.length : Int) > 1048576
    · refine ev_succ ?_
      simp only [laws_FnTermsPart.j0, decide_eq_true h1, if_true]
      exact ev_some _
    · refine ev_succ ?_
      simp only [laws_FnTermsPart.j0, decide_eq_false h1, Bool.false_eq_true, if_false]
      obtain ⟨b, ho, hb2, hbl⟩ := open_ev l0 hb
      obtain ⟨r, p', hr, h9, _, _⟩ := terms_ev b hb2 hbl 0 (by omega) (by omega)
      have hd : Ev (fun k => spec_DrawTermsValid.f k l0) r := by
        unfold spec_DrawTermsValid.f
        simp only [ho, bsome]
        exact Ev.bind hr (ev_some _)
      refine Ev.bind hd ?_
      refine Ev.bind (implValid r (by omega)) ?_
      refine Ev.bind (specValid r (by omega)) ?_
      have hp := part_ev r l1 h9 (by omega)
      simp only [bne_self_eq_false, Bool.false_eq_true, if_false]
      by_cases hv : vt r = true
      · simp only [if_pos hv]
        rw [hv] at hp ⊢
        have e : ((r.length : Int) == 0) = (!true || decide (r.length = 0)) := by
          rw [Bool.eq_iff_iff]
          simp
        rw [e]
        exact hp
      · have hv' : vt r = false := by simpa using hv
        simp only [if_neg hv]
        rw [hv'] at hp ⊢
        exact hp

end Go.Proofs.Ytamncgpajkoiaaa.Pure
