/- Written for this seat by a program (wip/tools/gprint.py, over the printer): each Go function as a Lean function, and that the Go code comes to what it says; or a row out of these. -/
import Derived.Test.YtamncgpajkoiaaaQOpen
import Derived.Test.YtamncgpajkoiaaaT0
namespace Go.Proofs.Ytamncgpajkoiaaa.T
open Go.RowKit Go.Proofs.YtamncgpajkoiaaaW.PrintWords
set_option linter.unusedVariables false
def WF44 (x : S44) : Prop := (Lit.int .i64 x.f0).wf = true ∧ (Lit.int .i64 x.f1).wf = true
theorem opens44 : Q.Opens Try.prog k44 44 WF44 :=
  Q.Opens.iso (Q.Opens.struct Try.underlying44 (by kernel_rfl) (Q.OpensFs.cons rfl (by kernel_rfl) (Q.Opens.int Try.underlying3) (Q.OpensFs.one rfl (by kernel_rfl) (Q.Opens.int Try.underlying3)))) (fun p => ⟨p.1, p.2⟩) (fun _ => rfl)
end Go.Proofs.Ytamncgpajkoiaaa.T
