/- TermsCut leaves the terms ahead of an offset, which are the first ones, and the next one is not ahead: for every code. -/
import Derived.Test.YtamncgpajkoiaaaT7
import Derived.Test.YtamncgpajkoiaaaQTerms4
namespace Go.Proofs.Ytamncgpajkoiaaa.Pure
open Go.RowKit Go.Proofs.Ytamncgpajkoiaaa.T Go.Proofs.YtamncgpajkoiaaaW.PrintWords Go.Proofs.YtamncgpajkoiaaaW.PrintLast Go.Proofs.Ytamncgpajkoiaaa.Q
set_option linter.unusedVariables false
set_option linter.unusedSimpArgs false

theorem cut_j0 (l : List Tm) (o : Int) (h9 : l.length ≤ 9) : Ev (fun k => laws_FnTermsCut.j0 k l o (cutT l o) (vt l) (cutT l o) (vt l) (!vt l)) true := by
  refine ev_succ ?_
  have hcl := cutT_len l o
  by_cases hv : vt l = true
  · have hV := (vt_iff l).1 hv
    rw [hv]
    have hc : cutT l o = l.filter (aheadT o) := by simp [cutT, hv]
    obtain ⟨hf1, hf2⟩ := filter_prefix (p := aheadT o) (R := ltT) (fun a b hab hb => by simp [aheadT] at hb ⊢; have := hab.2; omega) ((VT_iff l).1 hV).2.2
    rw [hc] at hcl ⊢
    obtain ⟨m, hm⟩ : ∃ m, (l.filter (aheadT o)).length = m := ⟨_, rfl⟩
    simp only [laws_FnTermsCut.j0, Bool.not_true, Bool.false_eq_true, if_false]
    have hx := implValid (l.filter (aheadT o)) (by omega)
    rw [(vt_iff _).2 (cutT_valid o hV)] at hx
    refine Ev.bind hx ?_
    rw [hm] at hcl hf1 hf2
    simp only [if_true, hm, if_pos (show (m : Int) ≤ (l.length : Int) by omega), if_pos (show (0 : Int) ≤ (m : Int) by omega), Int.toNat_natCast]
    have hs := sameTerms (l.take m) (l.filter (aheadT o)) (by simp; omega)
    rw [decide_eq_true hf1.symm] at hs
    refine Ev.bind hs ?_
    simp only [if_true]
    have hlast : 0 < m → (rt (l.filter (aheadT o)) ((m : Int) - 1)).f1 < o := by
      intro h0
      obtain ⟨j, rfl⟩ : ∃ j, m = j + 1 := ⟨m - 1, by omega⟩
      rw [show ((j + 1 : Nat) : Int) - 1 = (j : Int) by omega, rt_nat _ j (by omega)]
      have := (List.mem_filter.1 (List.getElem_mem (l := l.filter (aheadT o)) (n := j) (by omega))).2
      simpa [aheadT] using this
    have hnext : (h : m < l.length) → (rt l (m : Int)).f1 ≥ o := by
      intro h
      have := hf2 h
      rw [rt_nat l m h]
      simpa [aheadT] using this
    by_cases h0 : m = 0
    · simp only [if_pos (show (m : Int) = 0 by omega)]
      by_cases he : m = l.length
      · simp only [if_pos (show (m : Int) = (l.length : Int) by omega)]
        exact ev_some _
      · have := hnext (by omega)
        simp only [if_neg (show ¬ (m : Int) = (l.length : Int) by omega), if_pos (show (m : Int) < (l.length : Int) by omega), decide_eq_true this]
        exact ev_some _
    · have e2 : wrap64 ((m : Int) - 1) = (m : Int) - 1 := wrap_id (by omega) (by omega)
      have h3 := hlast (by omega)
      simp only [if_neg (show ¬ (m : Int) = 0 by omega), e2, if_pos (show 0 ≤ (m : Int) - 1 by omega), if_pos (show (m : Int) - 1 < (m : Int) by omega), if_pos h3]
      by_cases he : m = l.length
      · simp only [if_pos (show (m : Int) = (l.length : Int) by omega)]
        exact ev_some _
      · have := hnext (by omega)
        simp only [if_neg (show ¬ (m : Int) = (l.length : Int) by omega), if_pos (show (m : Int) < (l.length : Int) by omega), decide_eq_true this]
        exact ev_some _
  · have hv' : vt l = false := by simpa using hv
    rw [hv']
    simp only [laws_FnTermsCut.j0, Bool.not_false, if_true, beq_self_eq_true]
    have hs := sameTerms (cutT l o) (cutT l o) (by omega)
    rw [decide_eq_true rfl] at hs
    exact Ev.bind hs (ev_some _)

theorem FnTermsCut : laws_FnTermsCut.Pure := by
  intro l0 _ _ hb0
  refine Ev.rounds ?_
  have hb := bytes_of hb0
  unfold laws_FnTermsCut.f
  by_cases h : (l0.length : Int) > 1048576
  · simp only [if_pos h]
    exact ev_some _
  · simp only [if_neg h]
    obtain ⟨r, o, hd, h9, o0, o1⟩ := drawCut hb
    refine Ev.bind hd ?_
    refine Ev.bind (implCut r o (by omega)) ?_
    refine Ev.bind (specCut r o (by omega)) ?_
    simp only [bne_self_eq_false, Bool.false_eq_true, if_false]
    have hs := sameTerms (cutT r o) (cutT r o) (by have := cutT_len r o; omega)
    rw [decide_eq_true rfl] at hs
    refine Ev.bind hs ?_
    simp only [if_true]
    exact cut_j0 r o h9

end Go.Proofs.Ytamncgpajkoiaaa.Pure
