/- TermsEnd answers as the reference does, and leaves its argument as it was: for all terms, numbers and ends. -/
import Derived.Test.YtamncgpajkoiaaaT12
import Derived.Test.YtamncgpajkoiaaaQTermsX
import Derived.Test.YtamncgpajkoiaaaQTermsE
import Derived.Test.YtamncgpajkoiaaaOpens
namespace Go.Proofs.Ytamncgpajkoiaaa.Pure
open Go.RowKit Go.Proofs.Ytamncgpajkoiaaa.T Go.Proofs.YtamncgpajkoiaaaW.PrintWords Go.Proofs.YtamncgpajkoiaaaW.PrintLast Go.Proofs.Ytamncgpajkoiaaa.Q
set_option linter.unusedVariables false
set_option linter.unusedSimpArgs false

theorem FnExactTermsEnd (l0 : List Lm) (a1 a2 : Int) (hm : l0.length ≤ maxLen) (_hw : ∀ v ∈ l0, WF44 v) (_h1 : (Lit.int .i64 a1).wf = true) (_h2 : (Lit.int .i64 a2).wf = true) : ∃ k, laws_FnExactTermsEnd.f k l0 a1 a2 = some true := by
  refine Ev.rounds ?_
  unfold laws_FnExactTermsEnd.f
  rcases szTerms l0 hm with ⟨hl, hs⟩ | ⟨hl, hs⟩
  · simp only [hs, bsome, if_neg (show ¬ (1048576 : Int) - (l0.length : Int) < 0 by omega)]
    have ht := toTerms l0 hl
    have hlen : (l0.map toT).length ≤ 1048576 := by simpa using hl
    refine Ev.bind ht ?_
    refine Ev.bind (specTermsEnd _ _ _ (by omega)) ?_
    refine Ev.bind ht ?_
    refine Ev.bind (implTermsEnd _ _ _ (by omega)) ?_
    simp only [if_true]
    refine Ev.bind ht ?_
    refine Ev.bind (eqTerms_self _ hlen) ?_
    simp only [if_true]
    exact ev_some _
  · simp only [hs, bsome, if_pos (show (-1 : Int) < 0 by omega)]
    exact ev_some _

end Go.Proofs.Ytamncgpajkoiaaa.Pure
