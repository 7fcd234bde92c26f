/- TermsCut answers as the reference does, leaves its argument as it was, and hands back memory of its own: for all terms and offsets. -/
import Derived.Test.YtamncgpajkoiaaaT11
import Derived.Test.YtamncgpajkoiaaaQTermsM
import Derived.Test.YtamncgpajkoiaaaOpens
namespace Go.Proofs.Ytamncgpajkoiaaa.Pure
open Go.RowKit Go.Proofs.Ytamncgpajkoiaaa.T Go.Proofs.YtamncgpajkoiaaaW.PrintWords Go.Proofs.YtamncgpajkoiaaaW.PrintLast Go.Proofs.Ytamncgpajkoiaaa.Q
set_option linter.unusedVariables false
set_option linter.unusedSimpArgs false

theorem FnExactTermsCut (l0 : List Lm) (a1 : Int) (hm : l0.length ≤ maxLen) (_hw : ∀ v ∈ l0, WF44 v) (_ha : (Lit.int .i64 a1).wf = true) : ∃ k, laws_FnExactTermsCut.f k l0 a1 = some true := by
  refine Ev.rounds ?_
  unfold laws_FnExactTermsCut.f
  rcases szTerms l0 hm with ⟨hl, hs⟩ | ⟨hl, hs⟩
  · simp only [hs, bsome, if_neg (show ¬ (1048576 : Int) - (l0.length : Int) < 0 by omega)]
    have ht := toTerms l0 hl
    have hlen : (l0.map toT).length ≤ 1048576 := by simpa using hl
    have hcl := cutT_len (l0.map toT) a1
    refine Ev.bind ht ?_
    refine Ev.bind (specCut _ _ (by omega)) ?_
    refine Ev.bind ht ?_
    refine Ev.bind (implCut _ _ (by omega)) ?_
    refine Ev.bind (eqTerms_self (cutT (l0.map toT) a1) (by omega)) ?_
    simp only [if_true, bne_self_eq_false]
    refine ev_succ ?_
    simp only [laws_FnExactTermsCut.j0, Bool.false_eq_true, if_false]
    refine Ev.bind ht ?_
    refine Ev.bind (eqTerms_self _ hlen) ?_
    simp only [if_true]
    obtain ⟨ma, la, hma, hma0, _⟩ := markTerms (l0.map toT) hlen
    refine Ev.bind hma ?_
    simp only [if_neg (show ¬ ma < 0 by omega)]
    refine Ev.bind (eqTerms_self (cutT (l0.map toT) a1) (by omega)) ?_
    simp only [if_true, bne_self_eq_false]
    refine ev_succ ?_
    simp only [laws_FnExactTermsCut.j1, Bool.false_eq_true, if_false]
    obtain ⟨mb, lb, hmb, hmb0, hheld⟩ := markTerms (cutT (l0.map toT) a1) (by omega)
    refine Ev.bind hmb ?_
    refine Ev.bind hheld ?_
    simp only [if_neg (show ¬ mb < 0 by omega), if_true]
    refine Ev.bind ht ?_
    refine Ev.bind (implCut _ _ (by omega)) ?_
    refine Ev.bind (eqTerms_self (cutT (l0.map toT) a1) (by omega)) ?_
    simp only [if_true, bne_self_eq_false]
    refine ev_succ ?_
    simp only [laws_FnExactTermsCut.j2, Bool.false_eq_true, if_false]
    refine Ev.bind hheld ?_
    simp only [if_neg (show ¬ mb < 0 by omega), if_true]
    exact ev_some _
  · simp only [hs, bsome, if_pos (show (-1 : Int) < 0 by omega)]
    exact ev_some _

end Go.Proofs.Ytamncgpajkoiaaa.Pure
