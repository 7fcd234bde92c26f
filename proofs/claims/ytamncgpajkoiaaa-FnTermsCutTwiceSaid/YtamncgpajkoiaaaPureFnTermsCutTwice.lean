/- Cutting terms twice is cutting them once, and for an earlier offset no more terms stay: for every pair of codes. -/
import Derived.Test.YtamncgpajkoiaaaT8
import Derived.Test.YtamncgpajkoiaaaQTerms4
namespace Go.Proofs.Ytamncgpajkoiaaa.Pure
open Go.RowKit Go.Proofs.Ytamncgpajkoiaaa.T Go.Proofs.YtamncgpajkoiaaaW.PrintWords Go.Proofs.YtamncgpajkoiaaaW.PrintLast Go.Proofs.Ytamncgpajkoiaaa.Q
set_option linter.unusedVariables false
set_option linter.unusedSimpArgs false

theorem cut2_j1 (l1 : List Int) (l : List Tm) (o : Int) (h9 : l.length ≤ 9) (h0 : 0 ≤ o) (h1 : o < 30) : Ev (fun k => laws_FnTermsCutTwice.j1 k l1 l o (cutT l o) (vt l) (cutT l o) (vt l) (!vt l)) true := by
  refine ev_succ ?_
  have hcl := cutT_len l o
  by_cases hv : vt l = true
  · have hV := (vt_iff l).1 hv
    rw [hv]
    have hc : cutT l o = l.filter (aheadT o) := by simp [cutT, hv]
    rw [hc] at hcl ⊢
    simp only [laws_FnTermsCutTwice.j1, Bool.not_true, Bool.false_eq_true, if_false]
    have hvf : vt (l.filter (aheadT o)) = true := (vt_iff _).2 (cutT_valid o hV)
    have hx := implCut (l.filter (aheadT o)) o (by omega)
    have hcc : cutT (l.filter (aheadT o)) o = l.filter (aheadT o) := by simp [cutT, hvf, List.filter_filter]
    rw [hcc, hvf] at hx
    refine Ev.bind hx ?_
    have hm0 : 0 ≤ (l1.length : Int) % 9 := Int.emod_nonneg _ (by omega)
    have hm1 : (l1.length : Int) % 9 < 9 := Int.emod_lt_of_pos _ (by omega)
    obtain ⟨m, hm⟩ : ∃ m, (l1.length : Int) % 9 = m := ⟨_, rfl⟩
    rw [hm] at hm0 hm1
    simp only [hm, show wrap64 (o - m) = o - m from wrap_id (by omega) (by omega)]
    have hy := implCut l (o - m) (by omega)
    rw [hv] at hy
    refine Ev.bind hy ?_
    simp only [if_true]
    have hs := sameTerms (l.filter (aheadT o)) (l.filter (aheadT o)) (by omega)
    rw [decide_eq_true rfl] at hs
    refine Ev.bind hs ?_
    simp only [if_true]
    have hle : (cutT l (o - m)).length ≤ (l.filter (aheadT o)).length := by
      unfold cutT
      rw [if_pos hv]
      exact filter_length_le (fun a h => by simp [aheadT] at h ⊢; omega) l
    rw [decide_eq_true (by omega)]
    exact ev_some _
  · have hv' : vt l = false := by simpa using hv
    rw [hv']
    simp only [laws_FnTermsCutTwice.j1, Bool.not_false, if_true, beq_self_eq_true]
    have hs := sameTerms (cutT l o) (cutT l o) (by omega)
    rw [decide_eq_true rfl] at hs
    exact Ev.bind hs (ev_some _)

theorem FnTermsCutTwice : laws_FnTermsCutTwice.Pure := by
  intro l0 l1 _ _ hb0 _ _ _
  refine Ev.rounds ?_
  have hb := bytes_of hb0
  unfold laws_FnTermsCutTwice.f
  by_cases h : (l0.length : Int) > 1048576
  · simp only [if_pos h]
    refine ev_succ ?_
    simp only [laws_FnTermsCutTwice.j0, if_true]
    exact ev_some _
  · simp only [if_neg h]
    by_cases h1 : (l1.length : Int) > 1048576
    · refine ev_succ ?_
      simp only [laws_FnTermsCutTwice.j0, decide_eq_true h1, if_true]
      exact ev_some _
    · refine ev_succ ?_
      simp only [laws_FnTermsCutTwice.j0, decide_eq_false h1, Bool.false_eq_true, if_false]
      obtain ⟨r, o, hd, h9, o0, o1⟩ := drawCut hb
      refine Ev.bind hd ?_
      refine Ev.bind (implCut r o (by omega)) ?_
      refine Ev.bind (specCut r o (by omega)) ?_
      simp only [bne_self_eq_false, Bool.false_eq_true, if_false]
      have hs := sameTerms (cutT r o) (cutT r o) (by have := cutT_len r o; omega)
      rw [decide_eq_true rfl] at hs
      refine Ev.bind hs ?_
      simp only [if_true]
      exact cut2_j1 l1 r o h9 o0 o1

end Go.Proofs.Ytamncgpajkoiaaa.Pure
