/- What the draw of TermsCut gives. -/
import Derived.Test.YtamncgpajkoiaaaQTerms3
import Derived.Test.YtamncgpajkoiaaaT6
namespace Go.Proofs.Ytamncgpajkoiaaa.Q
open Go.RowKit Go.Proofs.Ytamncgpajkoiaaa.T Go.Proofs.YtamncgpajkoiaaaW.PrintWords Go.Proofs.YtamncgpajkoiaaaW.PrintLast
set_option linter.unusedVariables false
set_option linter.unusedSimpArgs false

theorem drawCut {l0 : List Int} (hb : Bytes l0) : ∃ r o, Ev (fun k => spec_DrawTermsCut.f k l0) (r, o) ∧ r.length ≤ 9 ∧ 0 ≤ o ∧ o < 30 := by
  obtain ⟨b, ho, hb2, hbl⟩ := open_ev l0 hb
  obtain ⟨r, p', hr, h9, hp0, hp1⟩ := terms_ev b hb2 hbl 0 (by omega) (by omega)
  obtain ⟨v, hv, v0, v1⟩ := pick_ev b p' 30 hb2 hbl (by omega) (by omega) (by omega)
  refine ⟨r, v, ?_, h9, v0, v1⟩
  unfold spec_DrawTermsCut.f
  simp only [ho, bsome]
  refine Ev.bind hr ?_
  refine Ev.bind hv ?_
  exact ev_some _

end Go.Proofs.Ytamncgpajkoiaaa.Q
