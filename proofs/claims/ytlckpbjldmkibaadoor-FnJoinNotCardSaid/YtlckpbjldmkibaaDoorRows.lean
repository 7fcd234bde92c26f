/-
  NARROWER THAN 'FOR EVERY INPUT', by the rows' own cells (each row's printed sentence says how): FnJoin: ifaces, laid · FnJoinNot: ifaces, laid.
  DERIVED. THE GIVEN ROWS OF THIS SEAT. 2 by the template 'for every input the law returns true; each argument reads behind the call as it read before'; 0 by the template 'total and deterministic' (their statements: YtlckpbjldmkibaaDoorTotals.lean).
  GIVEN WITH THE SEED: the statements are not yours to turn. If you find one false, say at which input.
  Laid BY PROGRAM, IN A SANDBOX (cutbox-rows.mjs): the forced cells as the released guide's own fill.sh prints them over the translation 31cac04060f1c513… (all of the seat's roots in one cut). By AI agents, Wed Nov 11 2026. No macro, syntax, notation, axiom, sorry.
-/
import Derived.Test.YtlckpbjldmkibaaDoorChecked
import GoSem.Claim
import GoSem.ClaimJoined
import GoSem.ClaimMapViews
import Derived.JoinedTies
import Derived.KernelRfl
namespace Go.Proofs.YtlckpbjldmkibaaDoor
/- THE CELL 'sum', in the pinned program and in every row, IS THE sha256 OF THE DUMP (.gsa) THAT YtlckpbjldmkibaaDoorProg.lean LOADS. Nothing in Lean hashes anything: it is a label: what it is worth is what the hold of that sum in a sandbox is worth. -/
noncomputable def Tryd.pinned : Pinned := { name := "ytlckpbjldmkibaadoor", sum := "31cac04060f1c51391ab8caad0530c0e0102630b2a991befe546152a2d629498", checked := Tryd.checked }
namespace Rows
def none {H : Type} : Left H := { results := [], args := [] }

/- WHAT THE LISTED PACKAGE-LEVEL VARIABLES READ AS WHEN THE CALL BEGINS. Each datum BY PROGRAM (the guide's laid-datum.mjs) off the statement by which the dump's own 'gosem.cut.vars' lays the variable. In a bare row this is a premise. The card (YtlckpbjldmkibaaDoorCards.lean) ties it to the program's text. -/
def laid_loop_example_recordbatches_impl_errNoJoin {H : Type} : DataW H := .iface "*errors.errorString" (.ptr (.agg [.lit (.string [110, 111, 32, 106, 111, 105, 110])]))

/-- 'laws.FnJoin': WHATEVER THE INPUT: true; the input reads as it did. -/
def fnJoinSpec : ChangeSpec := { name := "fnJoin", vars := ["loop.example/recordbatches/impl.errNoJoin"], fn := fun _ => fun
  | [d, g1] => { results := [.lit (.bool true)], args := [d], vars := [g1] }
  | _ => none }
def fnJoinRow : OpenClaim := { program := "ytlckpbjldmkibaadoor", sum := "31cac04060f1c51391ab8caad0530c0e0102630b2a991befe546152a2d629498", func := "loop.example/recordbatches/laws.FnJoin", spec := "fnJoin", inPlace := ["internal/reflectlite.TypeOf"], unfollowed := true, recurses := true, named := ["loop.example/recordbatches/impl.errNoJoin"], ifaces := true, apart := false, laid := [("loop.example/recordbatches/impl.errNoJoin", laid_loop_example_recordbatches_impl_errNoJoin)] }
def FnJoinSaid : Prop := fnJoinRow.holds Tryd.pinned (OpenSpec.ofChange fnJoinSpec)

/-- ITS FALSE NEIGHBOUR: 'it returns false'. Refute it at one input. -/
def fnJoinWrong : ChangeSpec := { name := "fnJoin", vars := ["loop.example/recordbatches/impl.errNoJoin"], fn := fun _ => fun
  | [d, g1] => { results := [.lit (.bool false)], args := [d], vars := [g1] }
  | _ => none }
def FnJoinWrongFalsely : Prop := fnJoinRow.holds Tryd.pinned (OpenSpec.ofChange fnJoinWrong)

/-- 'laws.FnJoinNot': WHATEVER THE INPUT: true; the input reads as it did. -/
def fnJoinNotSpec : ChangeSpec := { name := "fnJoinNot", vars := ["loop.example/recordbatches/impl.errNoJoin"], fn := fun _ => fun
  | [d, g1] => { results := [.lit (.bool true)], args := [d], vars := [g1] }
  | _ => none }
def fnJoinNotRow : OpenClaim := { program := "ytlckpbjldmkibaadoor", sum := "31cac04060f1c51391ab8caad0530c0e0102630b2a991befe546152a2d629498", func := "loop.example/recordbatches/laws.FnJoinNot", spec := "fnJoinNot", inPlace := ["internal/reflectlite.TypeOf"], unfollowed := true, recurses := true, named := ["loop.example/recordbatches/impl.errNoJoin"], ifaces := true, apart := false, laid := [("loop.example/recordbatches/impl.errNoJoin", laid_loop_example_recordbatches_impl_errNoJoin)] }
def FnJoinNotSaid : Prop := fnJoinNotRow.holds Tryd.pinned (OpenSpec.ofChange fnJoinNotSpec)

/-- ITS FALSE NEIGHBOUR: 'it returns false'. Refute it at one input. -/
def fnJoinNotWrong : ChangeSpec := { name := "fnJoinNot", vars := ["loop.example/recordbatches/impl.errNoJoin"], fn := fun _ => fun
  | [d, g1] => { results := [.lit (.bool false)], args := [d], vars := [g1] }
  | _ => none }
def FnJoinNotWrongFalsely : Prop := fnJoinNotRow.holds Tryd.pinned (OpenSpec.ofChange fnJoinNotWrong)

/- THE SECOND FORM. 'bulk': how many values and letters a reading holds, each counted each time it is reached (what is shared counts as often as it is met; a slice's spare places count too). A statement '..UptoSaid' is the law's where the arguments, and the package variables that the reading takes, are together of bulk at most 1048576: NARROWER than '..Said'. Prove '..Said' where nothing that the law and all that it calls make is longer than what came in: it says more and counts as full. Else prove '..UptoSaid'. A law counts once. -/
mutual
def uptoBulk {H : Type} : DataW H → Nat
  | .lit (.string bytes) => bytes.length + 1
  | .lit _ => 1
  | .nil => 1
  | .ptr d => uptoBulk d + 1
  | .slice elems spare => uptoBulkAll elems + uptoBulkAll spare + 1
  | .agg parts => uptoBulkAll parts + 1
  | .iface _ d => uptoBulk d + 1
  | .map entries => uptoBulkEntries entries + 1
  | .held _ => 1
def uptoBulkAll {H : Type} : List (DataW H) → Nat
  | [] => 0
  | d :: r => uptoBulk d + uptoBulkAll r
def uptoBulkEntries {H : Type} : List (Lit × DataW H) → Nat
  | [] => 0
  | x :: r => uptoBulkEntry x + uptoBulkEntries r
def uptoBulkEntry {H : Type} : Lit × DataW H → Nat
  | (.string bytes, d) => bytes.length + uptoBulk d + 1
  | (_, d) => uptoBulk d + 1
 end
def uptoSmall : (H : Type) → List (DataW H) → Bool := fun _ ds => decide (uptoBulkAll ds ≤ 1048576)
def OpenSpec.upto (s : _root_.Go.ChangeSpec) : _root_.Go.OpenSpec := { _root_.Go.OpenSpec.ofChange s with cond := some uptoSmall }

/-- 'laws.FnJoin', WHERE WHAT IT READS IS OF BULK AT MOST 1048576: true; the input reads as it did. -/
def fnJoinUptoRow : OpenClaim := { program := "ytlckpbjldmkibaadoor", sum := "31cac04060f1c51391ab8caad0530c0e0102630b2a991befe546152a2d629498", func := "loop.example/recordbatches/laws.FnJoin", spec := "fnJoin", inPlace := ["internal/reflectlite.TypeOf"], unfollowed := true, recurses := true, named := ["loop.example/recordbatches/impl.errNoJoin"], ifaces := true, apart := false, laid := [("loop.example/recordbatches/impl.errNoJoin", laid_loop_example_recordbatches_impl_errNoJoin)], narrowed := true }
def FnJoinUptoSaid : Prop := fnJoinUptoRow.holds Tryd.pinned (OpenSpec.upto fnJoinSpec)

/-- 'laws.FnJoinNot', WHERE WHAT IT READS IS OF BULK AT MOST 1048576: true; the input reads as it did. -/
def fnJoinNotUptoRow : OpenClaim := { program := "ytlckpbjldmkibaadoor", sum := "31cac04060f1c51391ab8caad0530c0e0102630b2a991befe546152a2d629498", func := "loop.example/recordbatches/laws.FnJoinNot", spec := "fnJoinNot", inPlace := ["internal/reflectlite.TypeOf"], unfollowed := true, recurses := true, named := ["loop.example/recordbatches/impl.errNoJoin"], ifaces := true, apart := false, laid := [("loop.example/recordbatches/impl.errNoJoin", laid_loop_example_recordbatches_impl_errNoJoin)], narrowed := true }
def FnJoinNotUptoSaid : Prop := fnJoinNotUptoRow.holds Tryd.pinned (OpenSpec.upto fnJoinNotSpec)

end Rows
end Go.Proofs.YtlckpbjldmkibaaDoor
