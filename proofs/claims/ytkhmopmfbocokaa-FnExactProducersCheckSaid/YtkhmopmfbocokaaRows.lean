/-
  No cell of these rows narrows 'for every input' (looked for: loops, veiled, ifaces, maps, wideKeys, modest, calm, conditions, laid).
  DERIVED. THE GIVEN ROWS OF THIS SEAT. 15 by the template 'for every input the law returns true; each argument reads behind the call as it read before'; 0 by the template 'total and deterministic' (their statements: YtkhmopmfbocokaaTotals.lean).
  GIVEN WITH THE SEED: the statements are not yours to turn. If you find one false, say at which input.
  Laid BY PROGRAM, IN A SANDBOX (cutbox-rows.mjs): the forced cells as the released guide's own fill.sh prints them over the translation 370f4b3182dc146c… (all of the seat's roots in one cut). By AI agents, Wed Nov 11 2026. No macro, syntax, notation, axiom, sorry.
-/
import Derived.Test.YtkhmopmfbocokaaChecked
import GoSem.Claim
import GoSem.ClaimJoined
import GoSem.ClaimMapViews
import Derived.JoinedTies
import Derived.KernelRfl
namespace Go.Proofs.Ytkhmopmfbocokaa
/- THE CELL 'sum', in the pinned program and in every row, IS THE sha256 OF THE DUMP (.gsa) THAT YtkhmopmfbocokaaProg.lean LOADS. Nothing in Lean hashes anything: it is a label: what it is worth is what the hold of that sum in a sandbox is worth. -/
noncomputable def Try.pinned : Pinned := { name := "ytkhmopmfbocokaa", sum := "370f4b3182dc146c9ad21bf58f26cf30b39493eaefdaa20e85ecc9d2f2f50f45", checked := Try.checked }
namespace Rows
def none {H : Type} : Left H := { results := [], args := [] }

/-- 'laws.FnProducersPart': WHATEVER THE INPUT: true; the input reads as it did. -/
def fnProducersPartSpec : ChangeSpec := { name := "fnProducersPart", fn := fun _ => fun
  | [d1, d2] => { results := [.lit (.bool true)], args := [d1, d2] }
  | _ => none }
def fnProducersPartRow : OpenClaim := { program := "ytkhmopmfbocokaa", sum := "370f4b3182dc146c9ad21bf58f26cf30b39493eaefdaa20e85ecc9d2f2f50f45", func := "loop.example/recordbatches/laws.FnProducersPart", spec := "fnProducersPart", apart := false }
def FnProducersPartSaid : Prop := fnProducersPartRow.holds Try.pinned (OpenSpec.ofChange fnProducersPartSpec)

/-- ITS FALSE NEIGHBOUR: 'it returns false'. Refute it at one input. -/
def fnProducersPartWrong : ChangeSpec := { name := "fnProducersPart", fn := fun _ => fun
  | [d1, d2] => { results := [.lit (.bool false)], args := [d1, d2] }
  | _ => none }
def FnProducersPartWrongFalsely : Prop := fnProducersPartRow.holds Try.pinned (OpenSpec.ofChange fnProducersPartWrong)

/-- 'laws.FnExactProducersValid': WHATEVER THE INPUT: true; the input reads as it did. -/
def fnExactProducersValidSpec : ChangeSpec := { name := "fnExactProducersValid", fn := fun _ => fun
  | [d] => { results := [.lit (.bool true)], args := [d] }
  | _ => none }
def fnExactProducersValidRow : OpenClaim := { program := "ytkhmopmfbocokaa", sum := "370f4b3182dc146c9ad21bf58f26cf30b39493eaefdaa20e85ecc9d2f2f50f45", func := "loop.example/recordbatches/laws.FnExactProducersValid", spec := "fnExactProducersValid", apart := false }
def FnExactProducersValidSaid : Prop := fnExactProducersValidRow.holds Try.pinned (OpenSpec.ofChange fnExactProducersValidSpec)

/-- ITS FALSE NEIGHBOUR: 'it returns false'. Refute it at one input. -/
def fnExactProducersValidWrong : ChangeSpec := { name := "fnExactProducersValid", fn := fun _ => fun
  | [d] => { results := [.lit (.bool false)], args := [d] }
  | _ => none }
def FnExactProducersValidWrongFalsely : Prop := fnExactProducersValidRow.holds Try.pinned (OpenSpec.ofChange fnExactProducersValidWrong)

/-- 'laws.FnCheck': WHATEVER THE INPUT: true; the input reads as it did. -/
def fnCheckSpec : ChangeSpec := { name := "fnCheck", fn := fun _ => fun
  | [d] => { results := [.lit (.bool true)], args := [d] }
  | _ => none }
def fnCheckRow : OpenClaim := { program := "ytkhmopmfbocokaa", sum := "370f4b3182dc146c9ad21bf58f26cf30b39493eaefdaa20e85ecc9d2f2f50f45", func := "loop.example/recordbatches/laws.FnCheck", spec := "fnCheck", apart := false }
def FnCheckSaid : Prop := fnCheckRow.holds Try.pinned (OpenSpec.ofChange fnCheckSpec)

/-- ITS FALSE NEIGHBOUR: 'it returns false'. Refute it at one input. -/
def fnCheckWrong : ChangeSpec := { name := "fnCheck", fn := fun _ => fun
  | [d] => { results := [.lit (.bool false)], args := [d] }
  | _ => none }
def FnCheckWrongFalsely : Prop := fnCheckRow.holds Try.pinned (OpenSpec.ofChange fnCheckWrong)

/-- 'laws.FnCheckFree': WHATEVER THE INPUT: true; the input reads as it did. -/
def fnCheckFreeSpec : ChangeSpec := { name := "fnCheckFree", fn := fun _ => fun
  | [d] => { results := [.lit (.bool true)], args := [d] }
  | _ => none }
def fnCheckFreeRow : OpenClaim := { program := "ytkhmopmfbocokaa", sum := "370f4b3182dc146c9ad21bf58f26cf30b39493eaefdaa20e85ecc9d2f2f50f45", func := "loop.example/recordbatches/laws.FnCheckFree", spec := "fnCheckFree", apart := false }
def FnCheckFreeSaid : Prop := fnCheckFreeRow.holds Try.pinned (OpenSpec.ofChange fnCheckFreeSpec)

/-- ITS FALSE NEIGHBOUR: 'it returns false'. Refute it at one input. -/
def fnCheckFreeWrong : ChangeSpec := { name := "fnCheckFree", fn := fun _ => fun
  | [d] => { results := [.lit (.bool false)], args := [d] }
  | _ => none }
def FnCheckFreeWrongFalsely : Prop := fnCheckFreeRow.holds Try.pinned (OpenSpec.ofChange fnCheckFreeWrong)

/-- 'laws.FnCheckGap': WHATEVER THE INPUT: true; the input reads as it did. -/
def fnCheckGapSpec : ChangeSpec := { name := "fnCheckGap", fn := fun _ => fun
  | [d] => { results := [.lit (.bool true)], args := [d] }
  | _ => none }
def fnCheckGapRow : OpenClaim := { program := "ytkhmopmfbocokaa", sum := "370f4b3182dc146c9ad21bf58f26cf30b39493eaefdaa20e85ecc9d2f2f50f45", func := "loop.example/recordbatches/laws.FnCheckGap", spec := "fnCheckGap", apart := false }
def FnCheckGapSaid : Prop := fnCheckGapRow.holds Try.pinned (OpenSpec.ofChange fnCheckGapSpec)

/-- ITS FALSE NEIGHBOUR: 'it returns false'. Refute it at one input. -/
def fnCheckGapWrong : ChangeSpec := { name := "fnCheckGap", fn := fun _ => fun
  | [d] => { results := [.lit (.bool false)], args := [d] }
  | _ => none }
def FnCheckGapWrongFalsely : Prop := fnCheckGapRow.holds Try.pinned (OpenSpec.ofChange fnCheckGapWrong)

/-- 'laws.FnCheckOld': WHATEVER THE INPUT: true; the input reads as it did. -/
def fnCheckOldSpec : ChangeSpec := { name := "fnCheckOld", fn := fun _ => fun
  | [d1, d2] => { results := [.lit (.bool true)], args := [d1, d2] }
  | _ => none }
def fnCheckOldRow : OpenClaim := { program := "ytkhmopmfbocokaa", sum := "370f4b3182dc146c9ad21bf58f26cf30b39493eaefdaa20e85ecc9d2f2f50f45", func := "loop.example/recordbatches/laws.FnCheckOld", spec := "fnCheckOld", apart := false }
def FnCheckOldSaid : Prop := fnCheckOldRow.holds Try.pinned (OpenSpec.ofChange fnCheckOldSpec)

/-- ITS FALSE NEIGHBOUR: 'it returns false'. Refute it at one input. -/
def fnCheckOldWrong : ChangeSpec := { name := "fnCheckOld", fn := fun _ => fun
  | [d1, d2] => { results := [.lit (.bool false)], args := [d1, d2] }
  | _ => none }
def FnCheckOldWrongFalsely : Prop := fnCheckOldRow.holds Try.pinned (OpenSpec.ofChange fnCheckOldWrong)

/-- 'laws.FnPutKeep': WHATEVER THE INPUT: true; the input reads as it did. -/
def fnPutKeepSpec : ChangeSpec := { name := "fnPutKeep", fn := fun _ => fun
  | [d] => { results := [.lit (.bool true)], args := [d] }
  | _ => none }
def fnPutKeepRow : OpenClaim := { program := "ytkhmopmfbocokaa", sum := "370f4b3182dc146c9ad21bf58f26cf30b39493eaefdaa20e85ecc9d2f2f50f45", func := "loop.example/recordbatches/laws.FnPutKeep", spec := "fnPutKeep", apart := false }
def FnPutKeepSaid : Prop := fnPutKeepRow.holds Try.pinned (OpenSpec.ofChange fnPutKeepSpec)

/-- ITS FALSE NEIGHBOUR: 'it returns false'. Refute it at one input. -/
def fnPutKeepWrong : ChangeSpec := { name := "fnPutKeep", fn := fun _ => fun
  | [d] => { results := [.lit (.bool false)], args := [d] }
  | _ => none }
def FnPutKeepWrongFalsely : Prop := fnPutKeepRow.holds Try.pinned (OpenSpec.ofChange fnPutKeepWrong)

/-- 'laws.FnPutOthers': WHATEVER THE INPUT: true; the input reads as it did. -/
def fnPutOthersSpec : ChangeSpec := { name := "fnPutOthers", fn := fun _ => fun
  | [d] => { results := [.lit (.bool true)], args := [d] }
  | _ => none }
def fnPutOthersRow : OpenClaim := { program := "ytkhmopmfbocokaa", sum := "370f4b3182dc146c9ad21bf58f26cf30b39493eaefdaa20e85ecc9d2f2f50f45", func := "loop.example/recordbatches/laws.FnPutOthers", spec := "fnPutOthers", apart := false }
def FnPutOthersSaid : Prop := fnPutOthersRow.holds Try.pinned (OpenSpec.ofChange fnPutOthersSpec)

/-- ITS FALSE NEIGHBOUR: 'it returns false'. Refute it at one input. -/
def fnPutOthersWrong : ChangeSpec := { name := "fnPutOthers", fn := fun _ => fun
  | [d] => { results := [.lit (.bool false)], args := [d] }
  | _ => none }
def FnPutOthersWrongFalsely : Prop := fnPutOthersRow.holds Try.pinned (OpenSpec.ofChange fnPutOthersWrong)

/-- 'laws.FnPutFine': WHATEVER THE INPUT: true; the input reads as it did. -/
def fnPutFineSpec : ChangeSpec := { name := "fnPutFine", fn := fun _ => fun
  | [d] => { results := [.lit (.bool true)], args := [d] }
  | _ => none }
def fnPutFineRow : OpenClaim := { program := "ytkhmopmfbocokaa", sum := "370f4b3182dc146c9ad21bf58f26cf30b39493eaefdaa20e85ecc9d2f2f50f45", func := "loop.example/recordbatches/laws.FnPutFine", spec := "fnPutFine", apart := false }
def FnPutFineSaid : Prop := fnPutFineRow.holds Try.pinned (OpenSpec.ofChange fnPutFineSpec)

/-- ITS FALSE NEIGHBOUR: 'it returns false'. Refute it at one input. -/
def fnPutFineWrong : ChangeSpec := { name := "fnPutFine", fn := fun _ => fun
  | [d] => { results := [.lit (.bool false)], args := [d] }
  | _ => none }
def FnPutFineWrongFalsely : Prop := fnPutFineRow.holds Try.pinned (OpenSpec.ofChange fnPutFineWrong)

/-- 'laws.FnPutNext': WHATEVER THE INPUT: true; the input reads as it did. -/
def fnPutNextSpec : ChangeSpec := { name := "fnPutNext", fn := fun _ => fun
  | [d] => { results := [.lit (.bool true)], args := [d] }
  | _ => none }
def fnPutNextRow : OpenClaim := { program := "ytkhmopmfbocokaa", sum := "370f4b3182dc146c9ad21bf58f26cf30b39493eaefdaa20e85ecc9d2f2f50f45", func := "loop.example/recordbatches/laws.FnPutNext", spec := "fnPutNext", apart := false }
def FnPutNextSaid : Prop := fnPutNextRow.holds Try.pinned (OpenSpec.ofChange fnPutNextSpec)

/-- ITS FALSE NEIGHBOUR: 'it returns false'. Refute it at one input. -/
def fnPutNextWrong : ChangeSpec := { name := "fnPutNext", fn := fun _ => fun
  | [d] => { results := [.lit (.bool false)], args := [d] }
  | _ => none }
def FnPutNextWrongFalsely : Prop := fnPutNextRow.holds Try.pinned (OpenSpec.ofChange fnPutNextWrong)

/-- 'laws.FnExactProducersCheck': WHATEVER THE INPUT: true; the input reads as it did. -/
def fnExactProducersCheckSpec : ChangeSpec := { name := "fnExactProducersCheck", fn := fun _ => fun
  | [d1, d2] => { results := [.lit (.bool true)], args := [d1, d2] }
  | _ => none }
def fnExactProducersCheckRow : OpenClaim := { program := "ytkhmopmfbocokaa", sum := "370f4b3182dc146c9ad21bf58f26cf30b39493eaefdaa20e85ecc9d2f2f50f45", func := "loop.example/recordbatches/laws.FnExactProducersCheck", spec := "fnExactProducersCheck", apart := false }
def FnExactProducersCheckSaid : Prop := fnExactProducersCheckRow.holds Try.pinned (OpenSpec.ofChange fnExactProducersCheckSpec)

/-- ITS FALSE NEIGHBOUR: 'it returns false'. Refute it at one input. -/
def fnExactProducersCheckWrong : ChangeSpec := { name := "fnExactProducersCheck", fn := fun _ => fun
  | [d1, d2] => { results := [.lit (.bool false)], args := [d1, d2] }
  | _ => none }
def FnExactProducersCheckWrongFalsely : Prop := fnExactProducersCheckRow.holds Try.pinned (OpenSpec.ofChange fnExactProducersCheckWrong)

/-- 'laws.FnRunProducers': WHATEVER THE INPUT: true; the input reads as it did. -/
def fnRunProducersSpec : ChangeSpec := { name := "fnRunProducers", fn := fun _ => fun
  | [d] => { results := [.lit (.bool true)], args := [d] }
  | _ => none }
def fnRunProducersRow : OpenClaim := { program := "ytkhmopmfbocokaa", sum := "370f4b3182dc146c9ad21bf58f26cf30b39493eaefdaa20e85ecc9d2f2f50f45", func := "loop.example/recordbatches/laws.FnRunProducers", spec := "fnRunProducers", apart := false }
def FnRunProducersSaid : Prop := fnRunProducersRow.holds Try.pinned (OpenSpec.ofChange fnRunProducersSpec)

/-- ITS FALSE NEIGHBOUR: 'it returns false'. Refute it at one input. -/
def fnRunProducersWrong : ChangeSpec := { name := "fnRunProducers", fn := fun _ => fun
  | [d] => { results := [.lit (.bool false)], args := [d] }
  | _ => none }
def FnRunProducersWrongFalsely : Prop := fnRunProducersRow.holds Try.pinned (OpenSpec.ofChange fnRunProducersWrong)

/-- 'laws.FnRunTwice': WHATEVER THE INPUT: true; the input reads as it did. -/
def fnRunTwiceSpec : ChangeSpec := { name := "fnRunTwice", fn := fun _ => fun
  | [d] => { results := [.lit (.bool true)], args := [d] }
  | _ => none }
def fnRunTwiceRow : OpenClaim := { program := "ytkhmopmfbocokaa", sum := "370f4b3182dc146c9ad21bf58f26cf30b39493eaefdaa20e85ecc9d2f2f50f45", func := "loop.example/recordbatches/laws.FnRunTwice", spec := "fnRunTwice", apart := false }
def FnRunTwiceSaid : Prop := fnRunTwiceRow.holds Try.pinned (OpenSpec.ofChange fnRunTwiceSpec)

/-- ITS FALSE NEIGHBOUR: 'it returns false'. Refute it at one input. -/
def fnRunTwiceWrong : ChangeSpec := { name := "fnRunTwice", fn := fun _ => fun
  | [d] => { results := [.lit (.bool false)], args := [d] }
  | _ => none }
def FnRunTwiceWrongFalsely : Prop := fnRunTwiceRow.holds Try.pinned (OpenSpec.ofChange fnRunTwiceWrong)

/-- 'laws.FnExactProducersPut': WHATEVER THE INPUT: true; the input reads as it did. -/
def fnExactProducersPutSpec : ChangeSpec := { name := "fnExactProducersPut", fn := fun _ => fun
  | [d1, d2] => { results := [.lit (.bool true)], args := [d1, d2] }
  | _ => none }
def fnExactProducersPutRow : OpenClaim := { program := "ytkhmopmfbocokaa", sum := "370f4b3182dc146c9ad21bf58f26cf30b39493eaefdaa20e85ecc9d2f2f50f45", func := "loop.example/recordbatches/laws.FnExactProducersPut", spec := "fnExactProducersPut", apart := false }
def FnExactProducersPutSaid : Prop := fnExactProducersPutRow.holds Try.pinned (OpenSpec.ofChange fnExactProducersPutSpec)

/-- ITS FALSE NEIGHBOUR: 'it returns false'. Refute it at one input. -/
def fnExactProducersPutWrong : ChangeSpec := { name := "fnExactProducersPut", fn := fun _ => fun
  | [d1, d2] => { results := [.lit (.bool false)], args := [d1, d2] }
  | _ => none }
def FnExactProducersPutWrongFalsely : Prop := fnExactProducersPutRow.holds Try.pinned (OpenSpec.ofChange fnExactProducersPutWrong)

/-- 'laws.FnExactProducersRun': WHATEVER THE INPUT: true; the input reads as it did. -/
def fnExactProducersRunSpec : ChangeSpec := { name := "fnExactProducersRun", fn := fun _ => fun
  | [d] => { results := [.lit (.bool true)], args := [d] }
  | _ => none }
def fnExactProducersRunRow : OpenClaim := { program := "ytkhmopmfbocokaa", sum := "370f4b3182dc146c9ad21bf58f26cf30b39493eaefdaa20e85ecc9d2f2f50f45", func := "loop.example/recordbatches/laws.FnExactProducersRun", spec := "fnExactProducersRun", apart := false }
def FnExactProducersRunSaid : Prop := fnExactProducersRunRow.holds Try.pinned (OpenSpec.ofChange fnExactProducersRunSpec)

/-- ITS FALSE NEIGHBOUR: 'it returns false'. Refute it at one input. -/
def fnExactProducersRunWrong : ChangeSpec := { name := "fnExactProducersRun", fn := fun _ => fun
  | [d] => { results := [.lit (.bool false)], args := [d] }
  | _ => none }
def FnExactProducersRunWrongFalsely : Prop := fnExactProducersRunRow.holds Try.pinned (OpenSpec.ofChange fnExactProducersRunWrong)

/- THE SECOND FORM. 'bulk': how many values and letters a reading holds, each counted each time it is reached (what is shared counts as often as it is met; a slice's spare places count too). A statement '..UptoSaid' is the law's where the arguments, and the package variables that the reading takes, are together of bulk at most 1048576: NARROWER than '..Said'. Prove '..Said' where nothing that the law and all that it calls make is longer than what came in: it says more and counts as full. Else prove '..UptoSaid'. A law counts once. -/
mutual
def uptoBulk {H : Type} : DataW H → Nat
  | .lit (.string bytes) => bytes.length + 1
  | .lit _ => 1
  | .nil => 1
  | .ptr d => uptoBulk d + 1
  | .slice elems spare => uptoBulkAll elems + uptoBulkAll spare + 1
  | .agg parts => uptoBulkAll parts + 1
  | .iface _ d => uptoBulk d + 1
  | .map entries => uptoBulkEntries entries + 1
  | .held _ => 1
def uptoBulkAll {H : Type} : List (DataW H) → Nat
  | [] => 0
  | d :: r => uptoBulk d + uptoBulkAll r
def uptoBulkEntries {H : Type} : List (Lit × DataW H) → Nat
  | [] => 0
  | x :: r => uptoBulkEntry x + uptoBulkEntries r
def uptoBulkEntry {H : Type} : Lit × DataW H → Nat
  | (.string bytes, d) => bytes.length + uptoBulk d + 1
  | (_, d) => uptoBulk d + 1
 end
def uptoSmall : (H : Type) → List (DataW H) → Bool := fun _ ds => decide (uptoBulkAll ds ≤ 1048576)
def OpenSpec.upto (s : _root_.Go.ChangeSpec) : _root_.Go.OpenSpec := { _root_.Go.OpenSpec.ofChange s with cond := some uptoSmall }

/-- 'laws.FnProducersPart', WHERE WHAT IT READS IS OF BULK AT MOST 1048576: true; the input reads as it did. -/
def fnProducersPartUptoRow : OpenClaim := { program := "ytkhmopmfbocokaa", sum := "370f4b3182dc146c9ad21bf58f26cf30b39493eaefdaa20e85ecc9d2f2f50f45", func := "loop.example/recordbatches/laws.FnProducersPart", spec := "fnProducersPart", apart := false, narrowed := true }
def FnProducersPartUptoSaid : Prop := fnProducersPartUptoRow.holds Try.pinned (OpenSpec.upto fnProducersPartSpec)

/-- 'laws.FnExactProducersValid', WHERE WHAT IT READS IS OF BULK AT MOST 1048576: true; the input reads as it did. -/
def fnExactProducersValidUptoRow : OpenClaim := { program := "ytkhmopmfbocokaa", sum := "370f4b3182dc146c9ad21bf58f26cf30b39493eaefdaa20e85ecc9d2f2f50f45", func := "loop.example/recordbatches/laws.FnExactProducersValid", spec := "fnExactProducersValid", apart := false, narrowed := true }
def FnExactProducersValidUptoSaid : Prop := fnExactProducersValidUptoRow.holds Try.pinned (OpenSpec.upto fnExactProducersValidSpec)

/-- 'laws.FnCheck', WHERE WHAT IT READS IS OF BULK AT MOST 1048576: true; the input reads as it did. -/
def fnCheckUptoRow : OpenClaim := { program := "ytkhmopmfbocokaa", sum := "370f4b3182dc146c9ad21bf58f26cf30b39493eaefdaa20e85ecc9d2f2f50f45", func := "loop.example/recordbatches/laws.FnCheck", spec := "fnCheck", apart := false, narrowed := true }
def FnCheckUptoSaid : Prop := fnCheckUptoRow.holds Try.pinned (OpenSpec.upto fnCheckSpec)

/-- 'laws.FnCheckFree', WHERE WHAT IT READS IS OF BULK AT MOST 1048576: true; the input reads as it did. -/
def fnCheckFreeUptoRow : OpenClaim := { program := "ytkhmopmfbocokaa", sum := "370f4b3182dc146c9ad21bf58f26cf30b39493eaefdaa20e85ecc9d2f2f50f45", func := "loop.example/recordbatches/laws.FnCheckFree", spec := "fnCheckFree", apart := false, narrowed := true }
def FnCheckFreeUptoSaid : Prop := fnCheckFreeUptoRow.holds Try.pinned (OpenSpec.upto fnCheckFreeSpec)

/-- 'laws.FnCheckGap', WHERE WHAT IT READS IS OF BULK AT MOST 1048576: true; the input reads as it did. -/
def fnCheckGapUptoRow : OpenClaim := { program := "ytkhmopmfbocokaa", sum := "370f4b3182dc146c9ad21bf58f26cf30b39493eaefdaa20e85ecc9d2f2f50f45", func := "loop.example/recordbatches/laws.FnCheckGap", spec := "fnCheckGap", apart := false, narrowed := true }
def FnCheckGapUptoSaid : Prop := fnCheckGapUptoRow.holds Try.pinned (OpenSpec.upto fnCheckGapSpec)

/-- 'laws.FnCheckOld', WHERE WHAT IT READS IS OF BULK AT MOST 1048576: true; the input reads as it did. -/
def fnCheckOldUptoRow : OpenClaim := { program := "ytkhmopmfbocokaa", sum := "370f4b3182dc146c9ad21bf58f26cf30b39493eaefdaa20e85ecc9d2f2f50f45", func := "loop.example/recordbatches/laws.FnCheckOld", spec := "fnCheckOld", apart := false, narrowed := true }
def FnCheckOldUptoSaid : Prop := fnCheckOldUptoRow.holds Try.pinned (OpenSpec.upto fnCheckOldSpec)

/-- 'laws.FnPutKeep', WHERE WHAT IT READS IS OF BULK AT MOST 1048576: true; the input reads as it did. -/
def fnPutKeepUptoRow : OpenClaim := { program := "ytkhmopmfbocokaa", sum := "370f4b3182dc146c9ad21bf58f26cf30b39493eaefdaa20e85ecc9d2f2f50f45", func := "loop.example/recordbatches/laws.FnPutKeep", spec := "fnPutKeep", apart := false, narrowed := true }
def FnPutKeepUptoSaid : Prop := fnPutKeepUptoRow.holds Try.pinned (OpenSpec.upto fnPutKeepSpec)

/-- 'laws.FnPutOthers', WHERE WHAT IT READS IS OF BULK AT MOST 1048576: true; the input reads as it did. -/
def fnPutOthersUptoRow : OpenClaim := { program := "ytkhmopmfbocokaa", sum := "370f4b3182dc146c9ad21bf58f26cf30b39493eaefdaa20e85ecc9d2f2f50f45", func := "loop.example/recordbatches/laws.FnPutOthers", spec := "fnPutOthers", apart := false, narrowed := true }
def FnPutOthersUptoSaid : Prop := fnPutOthersUptoRow.holds Try.pinned (OpenSpec.upto fnPutOthersSpec)

/-- 'laws.FnPutFine', WHERE WHAT IT READS IS OF BULK AT MOST 1048576: true; the input reads as it did. -/
def fnPutFineUptoRow : OpenClaim := { program := "ytkhmopmfbocokaa", sum := "370f4b3182dc146c9ad21bf58f26cf30b39493eaefdaa20e85ecc9d2f2f50f45", func := "loop.example/recordbatches/laws.FnPutFine", spec := "fnPutFine", apart := false, narrowed := true }
def FnPutFineUptoSaid : Prop := fnPutFineUptoRow.holds Try.pinned (OpenSpec.upto fnPutFineSpec)

/-- 'laws.FnPutNext', WHERE WHAT IT READS IS OF BULK AT MOST 1048576: true; the input reads as it did. -/
def fnPutNextUptoRow : OpenClaim := { program := "ytkhmopmfbocokaa", sum := "370f4b3182dc146c9ad21bf58f26cf30b39493eaefdaa20e85ecc9d2f2f50f45", func := "loop.example/recordbatches/laws.FnPutNext", spec := "fnPutNext", apart := false, narrowed := true }
def FnPutNextUptoSaid : Prop := fnPutNextUptoRow.holds Try.pinned (OpenSpec.upto fnPutNextSpec)

/-- 'laws.FnExactProducersCheck', WHERE WHAT IT READS IS OF BULK AT MOST 1048576: true; the input reads as it did. -/
def fnExactProducersCheckUptoRow : OpenClaim := { program := "ytkhmopmfbocokaa", sum := "370f4b3182dc146c9ad21bf58f26cf30b39493eaefdaa20e85ecc9d2f2f50f45", func := "loop.example/recordbatches/laws.FnExactProducersCheck", spec := "fnExactProducersCheck", apart := false, narrowed := true }
def FnExactProducersCheckUptoSaid : Prop := fnExactProducersCheckUptoRow.holds Try.pinned (OpenSpec.upto fnExactProducersCheckSpec)

/-- 'laws.FnRunProducers', WHERE WHAT IT READS IS OF BULK AT MOST 1048576: true; the input reads as it did. -/
def fnRunProducersUptoRow : OpenClaim := { program := "ytkhmopmfbocokaa", sum := "370f4b3182dc146c9ad21bf58f26cf30b39493eaefdaa20e85ecc9d2f2f50f45", func := "loop.example/recordbatches/laws.FnRunProducers", spec := "fnRunProducers", apart := false, narrowed := true }
def FnRunProducersUptoSaid : Prop := fnRunProducersUptoRow.holds Try.pinned (OpenSpec.upto fnRunProducersSpec)

/-- 'laws.FnRunTwice', WHERE WHAT IT READS IS OF BULK AT MOST 1048576: true; the input reads as it did. -/
def fnRunTwiceUptoRow : OpenClaim := { program := "ytkhmopmfbocokaa", sum := "370f4b3182dc146c9ad21bf58f26cf30b39493eaefdaa20e85ecc9d2f2f50f45", func := "loop.example/recordbatches/laws.FnRunTwice", spec := "fnRunTwice", apart := false, narrowed := true }
def FnRunTwiceUptoSaid : Prop := fnRunTwiceUptoRow.holds Try.pinned (OpenSpec.upto fnRunTwiceSpec)

/-- 'laws.FnExactProducersPut', WHERE WHAT IT READS IS OF BULK AT MOST 1048576: true; the input reads as it did. -/
def fnExactProducersPutUptoRow : OpenClaim := { program := "ytkhmopmfbocokaa", sum := "370f4b3182dc146c9ad21bf58f26cf30b39493eaefdaa20e85ecc9d2f2f50f45", func := "loop.example/recordbatches/laws.FnExactProducersPut", spec := "fnExactProducersPut", apart := false, narrowed := true }
def FnExactProducersPutUptoSaid : Prop := fnExactProducersPutUptoRow.holds Try.pinned (OpenSpec.upto fnExactProducersPutSpec)

/-- 'laws.FnExactProducersRun', WHERE WHAT IT READS IS OF BULK AT MOST 1048576: true; the input reads as it did. -/
def fnExactProducersRunUptoRow : OpenClaim := { program := "ytkhmopmfbocokaa", sum := "370f4b3182dc146c9ad21bf58f26cf30b39493eaefdaa20e85ecc9d2f2f50f45", func := "loop.example/recordbatches/laws.FnExactProducersRun", spec := "fnExactProducersRun", apart := false, narrowed := true }
def FnExactProducersRunUptoSaid : Prop := fnExactProducersRunUptoRow.holds Try.pinned (OpenSpec.upto fnExactProducersRunSpec)

end Rows
end Go.Proofs.Ytkhmopmfbocokaa
