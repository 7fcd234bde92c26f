/-
  No cell of these rows narrows 'for every input' (looked for: loops, veiled, ifaces, maps, wideKeys, modest, calm, conditions, laid).
  DERIVED. THE GIVEN ROWS OF THIS SEAT. 12 by the template 'for every input the law returns true; each argument reads behind the call as it read before'; 0 by the template 'total and deterministic' (their statements: YtkhjmhdgcmffaaaTotals.lean).
  GIVEN WITH THE SEED: the statements are not yours to turn. If you find one false, say at which input.
  Laid BY PROGRAM, IN A SANDBOX (cutbox-rows.mjs): the forced cells as the released guide's own fill.sh prints them over the translation 17cbb1db55cb4d0d… (all of the seat's roots in one cut). By AI agents, Wed Nov 11 2026. No macro, syntax, notation, axiom, sorry.
-/
import Derived.Test.YtkhjmhdgcmffaaaChecked
import GoSem.Claim
import GoSem.ClaimJoined
import GoSem.ClaimMapViews
import Derived.JoinedTies
import Derived.KernelRfl
namespace Go.Proofs.Ytkhjmhdgcmffaaa
/- THE CELL 'sum', in the pinned program and in every row, IS THE sha256 OF THE DUMP (.gsa) THAT YtkhjmhdgcmffaaaProg.lean LOADS. Nothing in Lean hashes anything: it is a label: what it is worth is what the hold of that sum in a sandbox is worth. -/
noncomputable def Try.pinned : Pinned := { name := "ytkhjmhdgcmffaaa", sum := "17cbb1db55cb4d0d9a51e8902b38bb05c38608821c953484ebd9a197c4f0b2bb", checked := Try.checked }
namespace Rows
def none {H : Type} : Left H := { results := [], args := [] }

/-- 'laws.FnState': WHATEVER THE INPUT: true; the input reads as it did. -/
def fnStateSpec : ChangeSpec := { name := "fnState", fn := fun _ => fun
  | [d] => { results := [.lit (.bool true)], args := [d] }
  | _ => none }
def fnStateRow : OpenClaim := { program := "ytkhjmhdgcmffaaa", sum := "17cbb1db55cb4d0d9a51e8902b38bb05c38608821c953484ebd9a197c4f0b2bb", func := "loop.example/recordbatches/laws.FnState", spec := "fnState", inPlace := ["internal/abi.NoEscape"], unfollowed := true, recurses := true, apart := false }
def FnStateSaid : Prop := fnStateRow.holds Try.pinned (OpenSpec.ofChange fnStateSpec)

/-- ITS FALSE NEIGHBOUR: 'it returns false'. Refute it at one input. -/
def fnStateWrong : ChangeSpec := { name := "fnState", fn := fun _ => fun
  | [d] => { results := [.lit (.bool false)], args := [d] }
  | _ => none }
def FnStateWrongFalsely : Prop := fnStateRow.holds Try.pinned (OpenSpec.ofChange fnStateWrong)

/-- 'laws.FnStateLast': WHATEVER THE INPUT: true; the input reads as it did. -/
def fnStateLastSpec : ChangeSpec := { name := "fnStateLast", fn := fun _ => fun
  | [d] => { results := [.lit (.bool true)], args := [d] }
  | _ => none }
def fnStateLastRow : OpenClaim := { program := "ytkhjmhdgcmffaaa", sum := "17cbb1db55cb4d0d9a51e8902b38bb05c38608821c953484ebd9a197c4f0b2bb", func := "loop.example/recordbatches/laws.FnStateLast", spec := "fnStateLast", inPlace := ["internal/abi.NoEscape"], unfollowed := true, recurses := true, apart := false }
def FnStateLastSaid : Prop := fnStateLastRow.holds Try.pinned (OpenSpec.ofChange fnStateLastSpec)

/-- ITS FALSE NEIGHBOUR: 'it returns false'. Refute it at one input. -/
def fnStateLastWrong : ChangeSpec := { name := "fnStateLast", fn := fun _ => fun
  | [d] => { results := [.lit (.bool false)], args := [d] }
  | _ => none }
def FnStateLastWrongFalsely : Prop := fnStateLastRow.holds Try.pinned (OpenSpec.ofChange fnStateLastWrong)

/-- 'laws.FnCompactLeft': WHATEVER THE INPUT: true; the input reads as it did. -/
def fnCompactLeftSpec : ChangeSpec := { name := "fnCompactLeft", fn := fun _ => fun
  | [d] => { results := [.lit (.bool true)], args := [d] }
  | _ => none }
def fnCompactLeftRow : OpenClaim := { program := "ytkhjmhdgcmffaaa", sum := "17cbb1db55cb4d0d9a51e8902b38bb05c38608821c953484ebd9a197c4f0b2bb", func := "loop.example/recordbatches/laws.FnCompactLeft", spec := "fnCompactLeft", inPlace := ["internal/abi.NoEscape"], unfollowed := true, recurses := true, apart := false }
def FnCompactLeftSaid : Prop := fnCompactLeftRow.holds Try.pinned (OpenSpec.ofChange fnCompactLeftSpec)

/-- ITS FALSE NEIGHBOUR: 'it returns false'. Refute it at one input. -/
def fnCompactLeftWrong : ChangeSpec := { name := "fnCompactLeft", fn := fun _ => fun
  | [d] => { results := [.lit (.bool false)], args := [d] }
  | _ => none }
def FnCompactLeftWrongFalsely : Prop := fnCompactLeftRow.holds Try.pinned (OpenSpec.ofChange fnCompactLeftWrong)

/-- 'laws.FnCompactGone': WHATEVER THE INPUT: true; the input reads as it did. -/
def fnCompactGoneSpec : ChangeSpec := { name := "fnCompactGone", fn := fun _ => fun
  | [d] => { results := [.lit (.bool true)], args := [d] }
  | _ => none }
def fnCompactGoneRow : OpenClaim := { program := "ytkhjmhdgcmffaaa", sum := "17cbb1db55cb4d0d9a51e8902b38bb05c38608821c953484ebd9a197c4f0b2bb", func := "loop.example/recordbatches/laws.FnCompactGone", spec := "fnCompactGone", inPlace := ["internal/abi.NoEscape"], unfollowed := true, recurses := true, apart := false }
def FnCompactGoneSaid : Prop := fnCompactGoneRow.holds Try.pinned (OpenSpec.ofChange fnCompactGoneSpec)

/-- ITS FALSE NEIGHBOUR: 'it returns false'. Refute it at one input. -/
def fnCompactGoneWrong : ChangeSpec := { name := "fnCompactGone", fn := fun _ => fun
  | [d] => { results := [.lit (.bool false)], args := [d] }
  | _ => none }
def FnCompactGoneWrongFalsely : Prop := fnCompactGoneRow.holds Try.pinned (OpenSpec.ofChange fnCompactGoneWrong)

/-- 'laws.FnCompactMarks': WHATEVER THE INPUT: true; the input reads as it did. -/
def fnCompactMarksSpec : ChangeSpec := { name := "fnCompactMarks", fn := fun _ => fun
  | [d] => { results := [.lit (.bool true)], args := [d] }
  | _ => none }
def fnCompactMarksRow : OpenClaim := { program := "ytkhjmhdgcmffaaa", sum := "17cbb1db55cb4d0d9a51e8902b38bb05c38608821c953484ebd9a197c4f0b2bb", func := "loop.example/recordbatches/laws.FnCompactMarks", spec := "fnCompactMarks", inPlace := ["internal/abi.NoEscape"], unfollowed := true, recurses := true, apart := false }
def FnCompactMarksSaid : Prop := fnCompactMarksRow.holds Try.pinned (OpenSpec.ofChange fnCompactMarksSpec)

/-- ITS FALSE NEIGHBOUR: 'it returns false'. Refute it at one input. -/
def fnCompactMarksWrong : ChangeSpec := { name := "fnCompactMarks", fn := fun _ => fun
  | [d] => { results := [.lit (.bool false)], args := [d] }
  | _ => none }
def FnCompactMarksWrongFalsely : Prop := fnCompactMarksRow.holds Try.pinned (OpenSpec.ofChange fnCompactMarksWrong)

/-- 'laws.FnCompactTwice': WHATEVER THE INPUT: true; the input reads as it did. -/
def fnCompactTwiceSpec : ChangeSpec := { name := "fnCompactTwice", fn := fun _ => fun
  | [d] => { results := [.lit (.bool true)], args := [d] }
  | _ => none }
def fnCompactTwiceRow : OpenClaim := { program := "ytkhjmhdgcmffaaa", sum := "17cbb1db55cb4d0d9a51e8902b38bb05c38608821c953484ebd9a197c4f0b2bb", func := "loop.example/recordbatches/laws.FnCompactTwice", spec := "fnCompactTwice", inPlace := ["internal/abi.NoEscape"], unfollowed := true, recurses := true, apart := false }
def FnCompactTwiceSaid : Prop := fnCompactTwiceRow.holds Try.pinned (OpenSpec.ofChange fnCompactTwiceSpec)

/-- ITS FALSE NEIGHBOUR: 'it returns false'. Refute it at one input. -/
def fnCompactTwiceWrong : ChangeSpec := { name := "fnCompactTwice", fn := fun _ => fun
  | [d] => { results := [.lit (.bool false)], args := [d] }
  | _ => none }
def FnCompactTwiceWrongFalsely : Prop := fnCompactTwiceRow.holds Try.pinned (OpenSpec.ofChange fnCompactTwiceWrong)

/-- 'laws.FnCompactKeep': WHATEVER THE INPUT: true; the input reads as it did. -/
def fnCompactKeepSpec : ChangeSpec := { name := "fnCompactKeep", fn := fun _ => fun
  | [d] => { results := [.lit (.bool true)], args := [d] }
  | _ => none }
def fnCompactKeepRow : OpenClaim := { program := "ytkhjmhdgcmffaaa", sum := "17cbb1db55cb4d0d9a51e8902b38bb05c38608821c953484ebd9a197c4f0b2bb", func := "loop.example/recordbatches/laws.FnCompactKeep", spec := "fnCompactKeep", inPlace := ["internal/abi.NoEscape"], unfollowed := true, recurses := true, apart := false }
def FnCompactKeepSaid : Prop := fnCompactKeepRow.holds Try.pinned (OpenSpec.ofChange fnCompactKeepSpec)

/-- ITS FALSE NEIGHBOUR: 'it returns false'. Refute it at one input. -/
def fnCompactKeepWrong : ChangeSpec := { name := "fnCompactKeep", fn := fun _ => fun
  | [d] => { results := [.lit (.bool false)], args := [d] }
  | _ => none }
def FnCompactKeepWrongFalsely : Prop := fnCompactKeepRow.holds Try.pinned (OpenSpec.ofChange fnCompactKeepWrong)

/-- 'laws.FnCompact': WHATEVER THE INPUT: true; the input reads as it did. -/
def fnCompactSpec : ChangeSpec := { name := "fnCompact", fn := fun _ => fun
  | [d] => { results := [.lit (.bool true)], args := [d] }
  | _ => none }
def fnCompactRow : OpenClaim := { program := "ytkhjmhdgcmffaaa", sum := "17cbb1db55cb4d0d9a51e8902b38bb05c38608821c953484ebd9a197c4f0b2bb", func := "loop.example/recordbatches/laws.FnCompact", spec := "fnCompact", inPlace := ["internal/abi.NoEscape"], unfollowed := true, recurses := true, apart := false }
def FnCompactSaid : Prop := fnCompactRow.holds Try.pinned (OpenSpec.ofChange fnCompactSpec)

/-- ITS FALSE NEIGHBOUR: 'it returns false'. Refute it at one input. -/
def fnCompactWrong : ChangeSpec := { name := "fnCompact", fn := fun _ => fun
  | [d] => { results := [.lit (.bool false)], args := [d] }
  | _ => none }
def FnCompactWrongFalsely : Prop := fnCompactRow.holds Try.pinned (OpenSpec.ofChange fnCompactWrong)

/-- 'laws.FnCompactState': WHATEVER THE INPUT: true; the input reads as it did. -/
def fnCompactStateSpec : ChangeSpec := { name := "fnCompactState", fn := fun _ => fun
  | [d] => { results := [.lit (.bool true)], args := [d] }
  | _ => none }
def fnCompactStateRow : OpenClaim := { program := "ytkhjmhdgcmffaaa", sum := "17cbb1db55cb4d0d9a51e8902b38bb05c38608821c953484ebd9a197c4f0b2bb", func := "loop.example/recordbatches/laws.FnCompactState", spec := "fnCompactState", inPlace := ["internal/abi.NoEscape"], unfollowed := true, recurses := true, apart := false }
def FnCompactStateSaid : Prop := fnCompactStateRow.holds Try.pinned (OpenSpec.ofChange fnCompactStateSpec)

/-- ITS FALSE NEIGHBOUR: 'it returns false'. Refute it at one input. -/
def fnCompactStateWrong : ChangeSpec := { name := "fnCompactState", fn := fun _ => fun
  | [d] => { results := [.lit (.bool false)], args := [d] }
  | _ => none }
def FnCompactStateWrongFalsely : Prop := fnCompactStateRow.holds Try.pinned (OpenSpec.ofChange fnCompactStateWrong)

/-- 'laws.FnExactCompactLeft': WHATEVER THE INPUT: true; the input reads as it did. -/
def fnExactCompactLeftSpec : ChangeSpec := { name := "fnExactCompactLeft", fn := fun _ => fun
  | [d1, d2] => { results := [.lit (.bool true)], args := [d1, d2] }
  | _ => none }
def fnExactCompactLeftRow : OpenClaim := { program := "ytkhjmhdgcmffaaa", sum := "17cbb1db55cb4d0d9a51e8902b38bb05c38608821c953484ebd9a197c4f0b2bb", func := "loop.example/recordbatches/laws.FnExactCompactLeft", spec := "fnExactCompactLeft", inPlace := ["internal/abi.NoEscape"], unfollowed := true, recurses := true, apart := false }
def FnExactCompactLeftSaid : Prop := fnExactCompactLeftRow.holds Try.pinned (OpenSpec.ofChange fnExactCompactLeftSpec)

/-- ITS FALSE NEIGHBOUR: 'it returns false'. Refute it at one input. -/
def fnExactCompactLeftWrong : ChangeSpec := { name := "fnExactCompactLeft", fn := fun _ => fun
  | [d1, d2] => { results := [.lit (.bool false)], args := [d1, d2] }
  | _ => none }
def FnExactCompactLeftWrongFalsely : Prop := fnExactCompactLeftRow.holds Try.pinned (OpenSpec.ofChange fnExactCompactLeftWrong)

/-- 'laws.FnExactStateOf': WHATEVER THE INPUT: true; the input reads as it did. -/
def fnExactStateOfSpec : ChangeSpec := { name := "fnExactStateOf", fn := fun _ => fun
  | [d] => { results := [.lit (.bool true)], args := [d] }
  | _ => none }
def fnExactStateOfRow : OpenClaim := { program := "ytkhjmhdgcmffaaa", sum := "17cbb1db55cb4d0d9a51e8902b38bb05c38608821c953484ebd9a197c4f0b2bb", func := "loop.example/recordbatches/laws.FnExactStateOf", spec := "fnExactStateOf", inPlace := ["internal/abi.NoEscape"], unfollowed := true, recurses := true, apart := false }
def FnExactStateOfSaid : Prop := fnExactStateOfRow.holds Try.pinned (OpenSpec.ofChange fnExactStateOfSpec)

/-- ITS FALSE NEIGHBOUR: 'it returns false'. Refute it at one input. -/
def fnExactStateOfWrong : ChangeSpec := { name := "fnExactStateOf", fn := fun _ => fun
  | [d] => { results := [.lit (.bool false)], args := [d] }
  | _ => none }
def FnExactStateOfWrongFalsely : Prop := fnExactStateOfRow.holds Try.pinned (OpenSpec.ofChange fnExactStateOfWrong)

/-- 'laws.FnExactCompactLog': WHATEVER THE INPUT: true; the input reads as it did. -/
def fnExactCompactLogSpec : ChangeSpec := { name := "fnExactCompactLog", fn := fun _ => fun
  | [d1, d2] => { results := [.lit (.bool true)], args := [d1, d2] }
  | _ => none }
def fnExactCompactLogRow : OpenClaim := { program := "ytkhjmhdgcmffaaa", sum := "17cbb1db55cb4d0d9a51e8902b38bb05c38608821c953484ebd9a197c4f0b2bb", func := "loop.example/recordbatches/laws.FnExactCompactLog", spec := "fnExactCompactLog", inPlace := ["internal/abi.NoEscape"], unfollowed := true, recurses := true, apart := false }
def FnExactCompactLogSaid : Prop := fnExactCompactLogRow.holds Try.pinned (OpenSpec.ofChange fnExactCompactLogSpec)

/-- ITS FALSE NEIGHBOUR: 'it returns false'. Refute it at one input. -/
def fnExactCompactLogWrong : ChangeSpec := { name := "fnExactCompactLog", fn := fun _ => fun
  | [d1, d2] => { results := [.lit (.bool false)], args := [d1, d2] }
  | _ => none }
def FnExactCompactLogWrongFalsely : Prop := fnExactCompactLogRow.holds Try.pinned (OpenSpec.ofChange fnExactCompactLogWrong)

/- THE SECOND FORM. 'bulk': how many values and letters a reading holds, each counted each time it is reached (what is shared counts as often as it is met; a slice's spare places count too). A statement '..UptoSaid' is the law's where the arguments, and the package variables that the reading takes, are together of bulk at most 1048576: NARROWER than '..Said'. Prove '..Said' where nothing that the law and all that it calls make is longer than what came in: it says more and counts as full. Else prove '..UptoSaid'. A law counts once. -/
mutual
def uptoBulk {H : Type} : DataW H → Nat
  | .lit (.string bytes) => bytes.length + 1
  | .lit _ => 1
  | .nil => 1
  | .ptr d => uptoBulk d + 1
  | .slice elems spare => uptoBulkAll elems + uptoBulkAll spare + 1
  | .agg parts => uptoBulkAll parts + 1
  | .iface _ d => uptoBulk d + 1
  | .map entries => uptoBulkEntries entries + 1
  | .held _ => 1
def uptoBulkAll {H : Type} : List (DataW H) → Nat
  | [] => 0
  | d :: r => uptoBulk d + uptoBulkAll r
def uptoBulkEntries {H : Type} : List (Lit × DataW H) → Nat
  | [] => 0
  | x :: r => uptoBulkEntry x + uptoBulkEntries r
def uptoBulkEntry {H : Type} : Lit × DataW H → Nat
  | (.string bytes, d) => bytes.length + uptoBulk d + 1
  | (_, d) => uptoBulk d + 1
 end
def uptoSmall : (H : Type) → List (DataW H) → Bool := fun _ ds => decide (uptoBulkAll ds ≤ 1048576)
def OpenSpec.upto (s : _root_.Go.ChangeSpec) : _root_.Go.OpenSpec := { _root_.Go.OpenSpec.ofChange s with cond := some uptoSmall }

/-- 'laws.FnState', WHERE WHAT IT READS IS OF BULK AT MOST 1048576: true; the input reads as it did. -/
def fnStateUptoRow : OpenClaim := { program := "ytkhjmhdgcmffaaa", sum := "17cbb1db55cb4d0d9a51e8902b38bb05c38608821c953484ebd9a197c4f0b2bb", func := "loop.example/recordbatches/laws.FnState", spec := "fnState", inPlace := ["internal/abi.NoEscape"], unfollowed := true, recurses := true, apart := false, narrowed := true }
def FnStateUptoSaid : Prop := fnStateUptoRow.holds Try.pinned (OpenSpec.upto fnStateSpec)

/-- 'laws.FnStateLast', WHERE WHAT IT READS IS OF BULK AT MOST 1048576: true; the input reads as it did. -/
def fnStateLastUptoRow : OpenClaim := { program := "ytkhjmhdgcmffaaa", sum := "17cbb1db55cb4d0d9a51e8902b38bb05c38608821c953484ebd9a197c4f0b2bb", func := "loop.example/recordbatches/laws.FnStateLast", spec := "fnStateLast", inPlace := ["internal/abi.NoEscape"], unfollowed := true, recurses := true, apart := false, narrowed := true }
def FnStateLastUptoSaid : Prop := fnStateLastUptoRow.holds Try.pinned (OpenSpec.upto fnStateLastSpec)

/-- 'laws.FnCompactLeft', WHERE WHAT IT READS IS OF BULK AT MOST 1048576: true; the input reads as it did. -/
def fnCompactLeftUptoRow : OpenClaim := { program := "ytkhjmhdgcmffaaa", sum := "17cbb1db55cb4d0d9a51e8902b38bb05c38608821c953484ebd9a197c4f0b2bb", func := "loop.example/recordbatches/laws.FnCompactLeft", spec := "fnCompactLeft", inPlace := ["internal/abi.NoEscape"], unfollowed := true, recurses := true, apart := false, narrowed := true }
def FnCompactLeftUptoSaid : Prop := fnCompactLeftUptoRow.holds Try.pinned (OpenSpec.upto fnCompactLeftSpec)

/-- 'laws.FnCompactGone', WHERE WHAT IT READS IS OF BULK AT MOST 1048576: true; the input reads as it did. -/
def fnCompactGoneUptoRow : OpenClaim := { program := "ytkhjmhdgcmffaaa", sum := "17cbb1db55cb4d0d9a51e8902b38bb05c38608821c953484ebd9a197c4f0b2bb", func := "loop.example/recordbatches/laws.FnCompactGone", spec := "fnCompactGone", inPlace := ["internal/abi.NoEscape"], unfollowed := true, recurses := true, apart := false, narrowed := true }
def FnCompactGoneUptoSaid : Prop := fnCompactGoneUptoRow.holds Try.pinned (OpenSpec.upto fnCompactGoneSpec)

/-- 'laws.FnCompactMarks', WHERE WHAT IT READS IS OF BULK AT MOST 1048576: true; the input reads as it did. -/
def fnCompactMarksUptoRow : OpenClaim := { program := "ytkhjmhdgcmffaaa", sum := "17cbb1db55cb4d0d9a51e8902b38bb05c38608821c953484ebd9a197c4f0b2bb", func := "loop.example/recordbatches/laws.FnCompactMarks", spec := "fnCompactMarks", inPlace := ["internal/abi.NoEscape"], unfollowed := true, recurses := true, apart := false, narrowed := true }
def FnCompactMarksUptoSaid : Prop := fnCompactMarksUptoRow.holds Try.pinned (OpenSpec.upto fnCompactMarksSpec)

/-- 'laws.FnCompactTwice', WHERE WHAT IT READS IS OF BULK AT MOST 1048576: true; the input reads as it did. -/
def fnCompactTwiceUptoRow : OpenClaim := { program := "ytkhjmhdgcmffaaa", sum := "17cbb1db55cb4d0d9a51e8902b38bb05c38608821c953484ebd9a197c4f0b2bb", func := "loop.example/recordbatches/laws.FnCompactTwice", spec := "fnCompactTwice", inPlace := ["internal/abi.NoEscape"], unfollowed := true, recurses := true, apart := false, narrowed := true }
def FnCompactTwiceUptoSaid : Prop := fnCompactTwiceUptoRow.holds Try.pinned (OpenSpec.upto fnCompactTwiceSpec)

/-- 'laws.FnCompactKeep', WHERE WHAT IT READS IS OF BULK AT MOST 1048576: true; the input reads as it did. -/
def fnCompactKeepUptoRow : OpenClaim := { program := "ytkhjmhdgcmffaaa", sum := "17cbb1db55cb4d0d9a51e8902b38bb05c38608821c953484ebd9a197c4f0b2bb", func := "loop.example/recordbatches/laws.FnCompactKeep", spec := "fnCompactKeep", inPlace := ["internal/abi.NoEscape"], unfollowed := true, recurses := true, apart := false, narrowed := true }
def FnCompactKeepUptoSaid : Prop := fnCompactKeepUptoRow.holds Try.pinned (OpenSpec.upto fnCompactKeepSpec)

/-- 'laws.FnCompact', WHERE WHAT IT READS IS OF BULK AT MOST 1048576: true; the input reads as it did. -/
def fnCompactUptoRow : OpenClaim := { program := "ytkhjmhdgcmffaaa", sum := "17cbb1db55cb4d0d9a51e8902b38bb05c38608821c953484ebd9a197c4f0b2bb", func := "loop.example/recordbatches/laws.FnCompact", spec := "fnCompact", inPlace := ["internal/abi.NoEscape"], unfollowed := true, recurses := true, apart := false, narrowed := true }
def FnCompactUptoSaid : Prop := fnCompactUptoRow.holds Try.pinned (OpenSpec.upto fnCompactSpec)

/-- 'laws.FnCompactState', WHERE WHAT IT READS IS OF BULK AT MOST 1048576: true; the input reads as it did. -/
def fnCompactStateUptoRow : OpenClaim := { program := "ytkhjmhdgcmffaaa", sum := "17cbb1db55cb4d0d9a51e8902b38bb05c38608821c953484ebd9a197c4f0b2bb", func := "loop.example/recordbatches/laws.FnCompactState", spec := "fnCompactState", inPlace := ["internal/abi.NoEscape"], unfollowed := true, recurses := true, apart := false, narrowed := true }
def FnCompactStateUptoSaid : Prop := fnCompactStateUptoRow.holds Try.pinned (OpenSpec.upto fnCompactStateSpec)

/-- 'laws.FnExactCompactLeft', WHERE WHAT IT READS IS OF BULK AT MOST 1048576: true; the input reads as it did. -/
def fnExactCompactLeftUptoRow : OpenClaim := { program := "ytkhjmhdgcmffaaa", sum := "17cbb1db55cb4d0d9a51e8902b38bb05c38608821c953484ebd9a197c4f0b2bb", func := "loop.example/recordbatches/laws.FnExactCompactLeft", spec := "fnExactCompactLeft", inPlace := ["internal/abi.NoEscape"], unfollowed := true, recurses := true, apart := false, narrowed := true }
def FnExactCompactLeftUptoSaid : Prop := fnExactCompactLeftUptoRow.holds Try.pinned (OpenSpec.upto fnExactCompactLeftSpec)

/-- 'laws.FnExactStateOf', WHERE WHAT IT READS IS OF BULK AT MOST 1048576: true; the input reads as it did. -/
def fnExactStateOfUptoRow : OpenClaim := { program := "ytkhjmhdgcmffaaa", sum := "17cbb1db55cb4d0d9a51e8902b38bb05c38608821c953484ebd9a197c4f0b2bb", func := "loop.example/recordbatches/laws.FnExactStateOf", spec := "fnExactStateOf", inPlace := ["internal/abi.NoEscape"], unfollowed := true, recurses := true, apart := false, narrowed := true }
def FnExactStateOfUptoSaid : Prop := fnExactStateOfUptoRow.holds Try.pinned (OpenSpec.upto fnExactStateOfSpec)

/-- 'laws.FnExactCompactLog', WHERE WHAT IT READS IS OF BULK AT MOST 1048576: true; the input reads as it did. -/
def fnExactCompactLogUptoRow : OpenClaim := { program := "ytkhjmhdgcmffaaa", sum := "17cbb1db55cb4d0d9a51e8902b38bb05c38608821c953484ebd9a197c4f0b2bb", func := "loop.example/recordbatches/laws.FnExactCompactLog", spec := "fnExactCompactLog", inPlace := ["internal/abi.NoEscape"], unfollowed := true, recurses := true, apart := false, narrowed := true }
def FnExactCompactLogUptoSaid : Prop := fnExactCompactLogUptoRow.holds Try.pinned (OpenSpec.upto fnExactCompactLogSpec)

end Rows
end Go.Proofs.Ytkhjmhdgcmffaaa
