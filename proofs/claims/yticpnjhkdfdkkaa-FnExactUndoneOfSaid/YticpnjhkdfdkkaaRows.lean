/-
  No cell of these rows narrows 'for every input' (looked for: loops, veiled, ifaces, maps, wideKeys, modest, calm, conditions, laid).
  DERIVED. THE GIVEN ROWS OF THIS SEAT. 15 by the template 'for every input the law returns true; each argument reads behind the call as it read before'; 0 by the template 'total and deterministic' (their statements: YticpnjhkdfdkkaaTotals.lean).
  GIVEN WITH THE SEED: the statements are not yours to turn. If you find one false, say at which input.
  Laid BY PROGRAM, IN A SANDBOX (cutbox-rows.mjs): the forced cells as the released guide's own fill.sh prints them over the translation e04523cbb4b94e2c… (all of the seat's roots in one cut). By AI agents, Wed Nov 11 2026. No macro, syntax, notation, axiom, sorry.
-/
import Derived.Test.YticpnjhkdfdkkaaChecked
import GoSem.Claim
import GoSem.ClaimJoined
import GoSem.ClaimMapViews
import Derived.JoinedTies
import Derived.KernelRfl
namespace Go.Proofs.Yticpnjhkdfdkkaa
/- THE CELL 'sum', in the pinned program and in every row, IS THE sha256 OF THE DUMP (.gsa) THAT YticpnjhkdfdkkaaProg.lean LOADS. Nothing in Lean hashes anything: it is a label: what it is worth is what the hold of that sum in a sandbox is worth. -/
noncomputable def Try.pinned : Pinned := { name := "yticpnjhkdfdkkaa", sum := "e04523cbb4b94e2ce9fc21961adefc001d8d66ec8e4324f10261b5773e3c45da", checked := Try.checked }
namespace Rows
def none {H : Type} : Left H := { results := [], args := [] }

/-- 'laws.FnMarkBatch': WHATEVER THE INPUT: true; the input reads as it did. -/
def fnMarkBatchSpec : ChangeSpec := { name := "fnMarkBatch", fn := fun _ => fun
  | [d] => { results := [.lit (.bool true)], args := [d] }
  | _ => none }
def fnMarkBatchRow : OpenClaim := { program := "yticpnjhkdfdkkaa", sum := "e04523cbb4b94e2ce9fc21961adefc001d8d66ec8e4324f10261b5773e3c45da", func := "loop.example/recordbatches/laws.FnMarkBatch", spec := "fnMarkBatch", apart := false }
def FnMarkBatchSaid : Prop := fnMarkBatchRow.holds Try.pinned (OpenSpec.ofChange fnMarkBatchSpec)

/-- ITS FALSE NEIGHBOUR: 'it returns false'. Refute it at one input. -/
def fnMarkBatchWrong : ChangeSpec := { name := "fnMarkBatch", fn := fun _ => fun
  | [d] => { results := [.lit (.bool false)], args := [d] }
  | _ => none }
def FnMarkBatchWrongFalsely : Prop := fnMarkBatchRow.holds Try.pinned (OpenSpec.ofChange fnMarkBatchWrong)

/-- 'laws.FnMarkBatchTwo': WHATEVER THE INPUT: true; the input reads as it did. -/
def fnMarkBatchTwoSpec : ChangeSpec := { name := "fnMarkBatchTwo", fn := fun _ => fun
  | [d] => { results := [.lit (.bool true)], args := [d] }
  | _ => none }
def fnMarkBatchTwoRow : OpenClaim := { program := "yticpnjhkdfdkkaa", sum := "e04523cbb4b94e2ce9fc21961adefc001d8d66ec8e4324f10261b5773e3c45da", func := "loop.example/recordbatches/laws.FnMarkBatchTwo", spec := "fnMarkBatchTwo", apart := false }
def FnMarkBatchTwoSaid : Prop := fnMarkBatchTwoRow.holds Try.pinned (OpenSpec.ofChange fnMarkBatchTwoSpec)

/-- ITS FALSE NEIGHBOUR: 'it returns false'. Refute it at one input. -/
def fnMarkBatchTwoWrong : ChangeSpec := { name := "fnMarkBatchTwo", fn := fun _ => fun
  | [d] => { results := [.lit (.bool false)], args := [d] }
  | _ => none }
def FnMarkBatchTwoWrongFalsely : Prop := fnMarkBatchTwoRow.holds Try.pinned (OpenSpec.ofChange fnMarkBatchTwoWrong)

/-- 'laws.FnExactMarkBatch': WHATEVER THE INPUT: true; the input reads as it did. -/
def fnExactMarkBatchSpec : ChangeSpec := { name := "fnExactMarkBatch", fn := fun _ => fun
  | [d1, d2, d3, d4, d5] => { results := [.lit (.bool true)], args := [d1, d2, d3, d4, d5] }
  | _ => none }
def fnExactMarkBatchRow : OpenClaim := { program := "yticpnjhkdfdkkaa", sum := "e04523cbb4b94e2ce9fc21961adefc001d8d66ec8e4324f10261b5773e3c45da", func := "loop.example/recordbatches/laws.FnExactMarkBatch", spec := "fnExactMarkBatch", apart := false }
def FnExactMarkBatchSaid : Prop := fnExactMarkBatchRow.holds Try.pinned (OpenSpec.ofChange fnExactMarkBatchSpec)

/-- ITS FALSE NEIGHBOUR: 'it returns false'. Refute it at one input. -/
def fnExactMarkBatchWrong : ChangeSpec := { name := "fnExactMarkBatch", fn := fun _ => fun
  | [d1, d2, d3, d4, d5] => { results := [.lit (.bool false)], args := [d1, d2, d3, d4, d5] }
  | _ => none }
def FnExactMarkBatchWrongFalsely : Prop := fnExactMarkBatchRow.holds Try.pinned (OpenSpec.ofChange fnExactMarkBatchWrong)

/-- 'laws.FnStable': WHATEVER THE INPUT: true; the input reads as it did. -/
def fnStableSpec : ChangeSpec := { name := "fnStable", fn := fun _ => fun
  | [d] => { results := [.lit (.bool true)], args := [d] }
  | _ => none }
def fnStableRow : OpenClaim := { program := "yticpnjhkdfdkkaa", sum := "e04523cbb4b94e2ce9fc21961adefc001d8d66ec8e4324f10261b5773e3c45da", func := "loop.example/recordbatches/laws.FnStable", spec := "fnStable", apart := false }
def FnStableSaid : Prop := fnStableRow.holds Try.pinned (OpenSpec.ofChange fnStableSpec)

/-- ITS FALSE NEIGHBOUR: 'it returns false'. Refute it at one input. -/
def fnStableWrong : ChangeSpec := { name := "fnStable", fn := fun _ => fun
  | [d] => { results := [.lit (.bool false)], args := [d] }
  | _ => none }
def FnStableWrongFalsely : Prop := fnStableRow.holds Try.pinned (OpenSpec.ofChange fnStableWrong)

/-- 'laws.FnUndone': WHATEVER THE INPUT: true; the input reads as it did. -/
def fnUndoneSpec : ChangeSpec := { name := "fnUndone", fn := fun _ => fun
  | [d] => { results := [.lit (.bool true)], args := [d] }
  | _ => none }
def fnUndoneRow : OpenClaim := { program := "yticpnjhkdfdkkaa", sum := "e04523cbb4b94e2ce9fc21961adefc001d8d66ec8e4324f10261b5773e3c45da", func := "loop.example/recordbatches/laws.FnUndone", spec := "fnUndone", apart := false }
def FnUndoneSaid : Prop := fnUndoneRow.holds Try.pinned (OpenSpec.ofChange fnUndoneSpec)

/-- ITS FALSE NEIGHBOUR: 'it returns false'. Refute it at one input. -/
def fnUndoneWrong : ChangeSpec := { name := "fnUndone", fn := fun _ => fun
  | [d] => { results := [.lit (.bool false)], args := [d] }
  | _ => none }
def FnUndoneWrongFalsely : Prop := fnUndoneRow.holds Try.pinned (OpenSpec.ofChange fnUndoneWrong)

/-- 'laws.FnUndoneNone': WHATEVER THE INPUT: true; the input reads as it did. -/
def fnUndoneNoneSpec : ChangeSpec := { name := "fnUndoneNone", fn := fun _ => fun
  | [d] => { results := [.lit (.bool true)], args := [d] }
  | _ => none }
def fnUndoneNoneRow : OpenClaim := { program := "yticpnjhkdfdkkaa", sum := "e04523cbb4b94e2ce9fc21961adefc001d8d66ec8e4324f10261b5773e3c45da", func := "loop.example/recordbatches/laws.FnUndoneNone", spec := "fnUndoneNone", apart := false }
def FnUndoneNoneSaid : Prop := fnUndoneNoneRow.holds Try.pinned (OpenSpec.ofChange fnUndoneNoneSpec)

/-- ITS FALSE NEIGHBOUR: 'it returns false'. Refute it at one input. -/
def fnUndoneNoneWrong : ChangeSpec := { name := "fnUndoneNone", fn := fun _ => fun
  | [d] => { results := [.lit (.bool false)], args := [d] }
  | _ => none }
def FnUndoneNoneWrongFalsely : Prop := fnUndoneNoneRow.holds Try.pinned (OpenSpec.ofChange fnUndoneNoneWrong)

/-- 'laws.FnUndoneOrder': WHATEVER THE INPUT: true; the input reads as it did. -/
def fnUndoneOrderSpec : ChangeSpec := { name := "fnUndoneOrder", fn := fun _ => fun
  | [d] => { results := [.lit (.bool true)], args := [d] }
  | _ => none }
def fnUndoneOrderRow : OpenClaim := { program := "yticpnjhkdfdkkaa", sum := "e04523cbb4b94e2ce9fc21961adefc001d8d66ec8e4324f10261b5773e3c45da", func := "loop.example/recordbatches/laws.FnUndoneOrder", spec := "fnUndoneOrder", apart := false }
def FnUndoneOrderSaid : Prop := fnUndoneOrderRow.holds Try.pinned (OpenSpec.ofChange fnUndoneOrderSpec)

/-- ITS FALSE NEIGHBOUR: 'it returns false'. Refute it at one input. -/
def fnUndoneOrderWrong : ChangeSpec := { name := "fnUndoneOrder", fn := fun _ => fun
  | [d] => { results := [.lit (.bool false)], args := [d] }
  | _ => none }
def FnUndoneOrderWrongFalsely : Prop := fnUndoneOrderRow.holds Try.pinned (OpenSpec.ofChange fnUndoneOrderWrong)

/-- 'laws.FnStableMore': WHATEVER THE INPUT: true; the input reads as it did. -/
def fnStableMoreSpec : ChangeSpec := { name := "fnStableMore", fn := fun _ => fun
  | [d] => { results := [.lit (.bool true)], args := [d] }
  | _ => none }
def fnStableMoreRow : OpenClaim := { program := "yticpnjhkdfdkkaa", sum := "e04523cbb4b94e2ce9fc21961adefc001d8d66ec8e4324f10261b5773e3c45da", func := "loop.example/recordbatches/laws.FnStableMore", spec := "fnStableMore", apart := false }
def FnStableMoreSaid : Prop := fnStableMoreRow.holds Try.pinned (OpenSpec.ofChange fnStableMoreSpec)

/-- ITS FALSE NEIGHBOUR: 'it returns false'. Refute it at one input. -/
def fnStableMoreWrong : ChangeSpec := { name := "fnStableMore", fn := fun _ => fun
  | [d] => { results := [.lit (.bool false)], args := [d] }
  | _ => none }
def FnStableMoreWrongFalsely : Prop := fnStableMoreRow.holds Try.pinned (OpenSpec.ofChange fnStableMoreWrong)

/-- 'laws.FnStableDecide': WHATEVER THE INPUT: true; the input reads as it did. -/
def fnStableDecideSpec : ChangeSpec := { name := "fnStableDecide", fn := fun _ => fun
  | [d1, d2] => { results := [.lit (.bool true)], args := [d1, d2] }
  | _ => none }
def fnStableDecideRow : OpenClaim := { program := "yticpnjhkdfdkkaa", sum := "e04523cbb4b94e2ce9fc21961adefc001d8d66ec8e4324f10261b5773e3c45da", func := "loop.example/recordbatches/laws.FnStableDecide", spec := "fnStableDecide", apart := false }
def FnStableDecideSaid : Prop := fnStableDecideRow.holds Try.pinned (OpenSpec.ofChange fnStableDecideSpec)

/-- ITS FALSE NEIGHBOUR: 'it returns false'. Refute it at one input. -/
def fnStableDecideWrong : ChangeSpec := { name := "fnStableDecide", fn := fun _ => fun
  | [d1, d2] => { results := [.lit (.bool false)], args := [d1, d2] }
  | _ => none }
def FnStableDecideWrongFalsely : Prop := fnStableDecideRow.holds Try.pinned (OpenSpec.ofChange fnStableDecideWrong)

/-- 'laws.FnStableAll': WHATEVER THE INPUT: true; the input reads as it did. -/
def fnStableAllSpec : ChangeSpec := { name := "fnStableAll", fn := fun _ => fun
  | [d] => { results := [.lit (.bool true)], args := [d] }
  | _ => none }
def fnStableAllRow : OpenClaim := { program := "yticpnjhkdfdkkaa", sum := "e04523cbb4b94e2ce9fc21961adefc001d8d66ec8e4324f10261b5773e3c45da", func := "loop.example/recordbatches/laws.FnStableAll", spec := "fnStableAll", apart := false }
def FnStableAllSaid : Prop := fnStableAllRow.holds Try.pinned (OpenSpec.ofChange fnStableAllSpec)

/-- ITS FALSE NEIGHBOUR: 'it returns false'. Refute it at one input. -/
def fnStableAllWrong : ChangeSpec := { name := "fnStableAll", fn := fun _ => fun
  | [d] => { results := [.lit (.bool false)], args := [d] }
  | _ => none }
def FnStableAllWrongFalsely : Prop := fnStableAllRow.holds Try.pinned (OpenSpec.ofChange fnStableAllWrong)

/-- 'laws.FnExactStableEnd': WHATEVER THE INPUT: true; the input reads as it did. -/
def fnExactStableEndSpec : ChangeSpec := { name := "fnExactStableEnd", fn := fun _ => fun
  | [d] => { results := [.lit (.bool true)], args := [d] }
  | _ => none }
def fnExactStableEndRow : OpenClaim := { program := "yticpnjhkdfdkkaa", sum := "e04523cbb4b94e2ce9fc21961adefc001d8d66ec8e4324f10261b5773e3c45da", func := "loop.example/recordbatches/laws.FnExactStableEnd", spec := "fnExactStableEnd", apart := false }
def FnExactStableEndSaid : Prop := fnExactStableEndRow.holds Try.pinned (OpenSpec.ofChange fnExactStableEndSpec)

/-- ITS FALSE NEIGHBOUR: 'it returns false'. Refute it at one input. -/
def fnExactStableEndWrong : ChangeSpec := { name := "fnExactStableEnd", fn := fun _ => fun
  | [d] => { results := [.lit (.bool false)], args := [d] }
  | _ => none }
def FnExactStableEndWrongFalsely : Prop := fnExactStableEndRow.holds Try.pinned (OpenSpec.ofChange fnExactStableEndWrong)

/-- 'laws.FnStableRecordsRead': WHATEVER THE INPUT: true; the input reads as it did. -/
def fnStableRecordsReadSpec : ChangeSpec := { name := "fnStableRecordsRead", fn := fun _ => fun
  | [d] => { results := [.lit (.bool true)], args := [d] }
  | _ => none }
def fnStableRecordsReadRow : OpenClaim := { program := "yticpnjhkdfdkkaa", sum := "e04523cbb4b94e2ce9fc21961adefc001d8d66ec8e4324f10261b5773e3c45da", func := "loop.example/recordbatches/laws.FnStableRecordsRead", spec := "fnStableRecordsRead", unfollowed := true, recurses := true, apart := false }
def FnStableRecordsReadSaid : Prop := fnStableRecordsReadRow.holds Try.pinned (OpenSpec.ofChange fnStableRecordsReadSpec)

/-- ITS FALSE NEIGHBOUR: 'it returns false'. Refute it at one input. -/
def fnStableRecordsReadWrong : ChangeSpec := { name := "fnStableRecordsRead", fn := fun _ => fun
  | [d] => { results := [.lit (.bool false)], args := [d] }
  | _ => none }
def FnStableRecordsReadWrongFalsely : Prop := fnStableRecordsReadRow.holds Try.pinned (OpenSpec.ofChange fnStableRecordsReadWrong)

/-- 'laws.FnStableRecords': WHATEVER THE INPUT: true; the input reads as it did. -/
def fnStableRecordsSpec : ChangeSpec := { name := "fnStableRecords", fn := fun _ => fun
  | [d] => { results := [.lit (.bool true)], args := [d] }
  | _ => none }
def fnStableRecordsRow : OpenClaim := { program := "yticpnjhkdfdkkaa", sum := "e04523cbb4b94e2ce9fc21961adefc001d8d66ec8e4324f10261b5773e3c45da", func := "loop.example/recordbatches/laws.FnStableRecords", spec := "fnStableRecords", apart := false }
def FnStableRecordsSaid : Prop := fnStableRecordsRow.holds Try.pinned (OpenSpec.ofChange fnStableRecordsSpec)

/-- ITS FALSE NEIGHBOUR: 'it returns false'. Refute it at one input. -/
def fnStableRecordsWrong : ChangeSpec := { name := "fnStableRecords", fn := fun _ => fun
  | [d] => { results := [.lit (.bool false)], args := [d] }
  | _ => none }
def FnStableRecordsWrongFalsely : Prop := fnStableRecordsRow.holds Try.pinned (OpenSpec.ofChange fnStableRecordsWrong)

/-- 'laws.FnExactUndoneOf': WHATEVER THE INPUT: true; the input reads as it did. -/
def fnExactUndoneOfSpec : ChangeSpec := { name := "fnExactUndoneOf", fn := fun _ => fun
  | [d] => { results := [.lit (.bool true)], args := [d] }
  | _ => none }
def fnExactUndoneOfRow : OpenClaim := { program := "yticpnjhkdfdkkaa", sum := "e04523cbb4b94e2ce9fc21961adefc001d8d66ec8e4324f10261b5773e3c45da", func := "loop.example/recordbatches/laws.FnExactUndoneOf", spec := "fnExactUndoneOf", apart := false }
def FnExactUndoneOfSaid : Prop := fnExactUndoneOfRow.holds Try.pinned (OpenSpec.ofChange fnExactUndoneOfSpec)

/-- ITS FALSE NEIGHBOUR: 'it returns false'. Refute it at one input. -/
def fnExactUndoneOfWrong : ChangeSpec := { name := "fnExactUndoneOf", fn := fun _ => fun
  | [d] => { results := [.lit (.bool false)], args := [d] }
  | _ => none }
def FnExactUndoneOfWrongFalsely : Prop := fnExactUndoneOfRow.holds Try.pinned (OpenSpec.ofChange fnExactUndoneOfWrong)

/-- 'laws.FnExactStableRecords': WHATEVER THE INPUT: true; the input reads as it did. -/
def fnExactStableRecordsSpec : ChangeSpec := { name := "fnExactStableRecords", fn := fun _ => fun
  | [d] => { results := [.lit (.bool true)], args := [d] }
  | _ => none }
def fnExactStableRecordsRow : OpenClaim := { program := "yticpnjhkdfdkkaa", sum := "e04523cbb4b94e2ce9fc21961adefc001d8d66ec8e4324f10261b5773e3c45da", func := "loop.example/recordbatches/laws.FnExactStableRecords", spec := "fnExactStableRecords", apart := false }
def FnExactStableRecordsSaid : Prop := fnExactStableRecordsRow.holds Try.pinned (OpenSpec.ofChange fnExactStableRecordsSpec)

/-- ITS FALSE NEIGHBOUR: 'it returns false'. Refute it at one input. -/
def fnExactStableRecordsWrong : ChangeSpec := { name := "fnExactStableRecords", fn := fun _ => fun
  | [d] => { results := [.lit (.bool false)], args := [d] }
  | _ => none }
def FnExactStableRecordsWrongFalsely : Prop := fnExactStableRecordsRow.holds Try.pinned (OpenSpec.ofChange fnExactStableRecordsWrong)

/- THE SECOND FORM. 'bulk': how many values and letters a reading holds, each counted each time it is reached (what is shared counts as often as it is met; a slice's spare places count too). A statement '..UptoSaid' is the law's where the arguments, and the package variables that the reading takes, are together of bulk at most 1048576: NARROWER than '..Said'. Prove '..Said' where nothing that the law and all that it calls make is longer than what came in: it says more and counts as full. Else prove '..UptoSaid'. A law counts once. -/
mutual
def uptoBulk {H : Type} : DataW H → Nat
  | .lit (.string bytes) => bytes.length + 1
  | .lit _ => 1
  | .nil => 1
  | .ptr d => uptoBulk d + 1
  | .slice elems spare => uptoBulkAll elems + uptoBulkAll spare + 1
  | .agg parts => uptoBulkAll parts + 1
  | .iface _ d => uptoBulk d + 1
  | .map entries => uptoBulkEntries entries + 1
  | .held _ => 1
def uptoBulkAll {H : Type} : List (DataW H) → Nat
  | [] => 0
  | d :: r => uptoBulk d + uptoBulkAll r
def uptoBulkEntries {H : Type} : List (Lit × DataW H) → Nat
  | [] => 0
  | x :: r => uptoBulkEntry x + uptoBulkEntries r
def uptoBulkEntry {H : Type} : Lit × DataW H → Nat
  | (.string bytes, d) => bytes.length + uptoBulk d + 1
  | (_, d) => uptoBulk d + 1
 end
def uptoSmall : (H : Type) → List (DataW H) → Bool := fun _ ds => decide (uptoBulkAll ds ≤ 1048576)
def OpenSpec.upto (s : _root_.Go.ChangeSpec) : _root_.Go.OpenSpec := { _root_.Go.OpenSpec.ofChange s with cond := some uptoSmall }

/-- 'laws.FnMarkBatch', WHERE WHAT IT READS IS OF BULK AT MOST 1048576: true; the input reads as it did. -/
def fnMarkBatchUptoRow : OpenClaim := { program := "yticpnjhkdfdkkaa", sum := "e04523cbb4b94e2ce9fc21961adefc001d8d66ec8e4324f10261b5773e3c45da", func := "loop.example/recordbatches/laws.FnMarkBatch", spec := "fnMarkBatch", apart := false, narrowed := true }
def FnMarkBatchUptoSaid : Prop := fnMarkBatchUptoRow.holds Try.pinned (OpenSpec.upto fnMarkBatchSpec)

/-- 'laws.FnMarkBatchTwo', WHERE WHAT IT READS IS OF BULK AT MOST 1048576: true; the input reads as it did. -/
def fnMarkBatchTwoUptoRow : OpenClaim := { program := "yticpnjhkdfdkkaa", sum := "e04523cbb4b94e2ce9fc21961adefc001d8d66ec8e4324f10261b5773e3c45da", func := "loop.example/recordbatches/laws.FnMarkBatchTwo", spec := "fnMarkBatchTwo", apart := false, narrowed := true }
def FnMarkBatchTwoUptoSaid : Prop := fnMarkBatchTwoUptoRow.holds Try.pinned (OpenSpec.upto fnMarkBatchTwoSpec)

/-- 'laws.FnExactMarkBatch', WHERE WHAT IT READS IS OF BULK AT MOST 1048576: true; the input reads as it did. -/
def fnExactMarkBatchUptoRow : OpenClaim := { program := "yticpnjhkdfdkkaa", sum := "e04523cbb4b94e2ce9fc21961adefc001d8d66ec8e4324f10261b5773e3c45da", func := "loop.example/recordbatches/laws.FnExactMarkBatch", spec := "fnExactMarkBatch", apart := false, narrowed := true }
def FnExactMarkBatchUptoSaid : Prop := fnExactMarkBatchUptoRow.holds Try.pinned (OpenSpec.upto fnExactMarkBatchSpec)

/-- 'laws.FnStable', WHERE WHAT IT READS IS OF BULK AT MOST 1048576: true; the input reads as it did. -/
def fnStableUptoRow : OpenClaim := { program := "yticpnjhkdfdkkaa", sum := "e04523cbb4b94e2ce9fc21961adefc001d8d66ec8e4324f10261b5773e3c45da", func := "loop.example/recordbatches/laws.FnStable", spec := "fnStable", apart := false, narrowed := true }
def FnStableUptoSaid : Prop := fnStableUptoRow.holds Try.pinned (OpenSpec.upto fnStableSpec)

/-- 'laws.FnUndone', WHERE WHAT IT READS IS OF BULK AT MOST 1048576: true; the input reads as it did. -/
def fnUndoneUptoRow : OpenClaim := { program := "yticpnjhkdfdkkaa", sum := "e04523cbb4b94e2ce9fc21961adefc001d8d66ec8e4324f10261b5773e3c45da", func := "loop.example/recordbatches/laws.FnUndone", spec := "fnUndone", apart := false, narrowed := true }
def FnUndoneUptoSaid : Prop := fnUndoneUptoRow.holds Try.pinned (OpenSpec.upto fnUndoneSpec)

/-- 'laws.FnUndoneNone', WHERE WHAT IT READS IS OF BULK AT MOST 1048576: true; the input reads as it did. -/
def fnUndoneNoneUptoRow : OpenClaim := { program := "yticpnjhkdfdkkaa", sum := "e04523cbb4b94e2ce9fc21961adefc001d8d66ec8e4324f10261b5773e3c45da", func := "loop.example/recordbatches/laws.FnUndoneNone", spec := "fnUndoneNone", apart := false, narrowed := true }
def FnUndoneNoneUptoSaid : Prop := fnUndoneNoneUptoRow.holds Try.pinned (OpenSpec.upto fnUndoneNoneSpec)

/-- 'laws.FnUndoneOrder', WHERE WHAT IT READS IS OF BULK AT MOST 1048576: true; the input reads as it did. -/
def fnUndoneOrderUptoRow : OpenClaim := { program := "yticpnjhkdfdkkaa", sum := "e04523cbb4b94e2ce9fc21961adefc001d8d66ec8e4324f10261b5773e3c45da", func := "loop.example/recordbatches/laws.FnUndoneOrder", spec := "fnUndoneOrder", apart := false, narrowed := true }
def FnUndoneOrderUptoSaid : Prop := fnUndoneOrderUptoRow.holds Try.pinned (OpenSpec.upto fnUndoneOrderSpec)

/-- 'laws.FnStableMore', WHERE WHAT IT READS IS OF BULK AT MOST 1048576: true; the input reads as it did. -/
def fnStableMoreUptoRow : OpenClaim := { program := "yticpnjhkdfdkkaa", sum := "e04523cbb4b94e2ce9fc21961adefc001d8d66ec8e4324f10261b5773e3c45da", func := "loop.example/recordbatches/laws.FnStableMore", spec := "fnStableMore", apart := false, narrowed := true }
def FnStableMoreUptoSaid : Prop := fnStableMoreUptoRow.holds Try.pinned (OpenSpec.upto fnStableMoreSpec)

/-- 'laws.FnStableDecide', WHERE WHAT IT READS IS OF BULK AT MOST 1048576: true; the input reads as it did. -/
def fnStableDecideUptoRow : OpenClaim := { program := "yticpnjhkdfdkkaa", sum := "e04523cbb4b94e2ce9fc21961adefc001d8d66ec8e4324f10261b5773e3c45da", func := "loop.example/recordbatches/laws.FnStableDecide", spec := "fnStableDecide", apart := false, narrowed := true }
def FnStableDecideUptoSaid : Prop := fnStableDecideUptoRow.holds Try.pinned (OpenSpec.upto fnStableDecideSpec)

/-- 'laws.FnStableAll', WHERE WHAT IT READS IS OF BULK AT MOST 1048576: true; the input reads as it did. -/
def fnStableAllUptoRow : OpenClaim := { program := "yticpnjhkdfdkkaa", sum := "e04523cbb4b94e2ce9fc21961adefc001d8d66ec8e4324f10261b5773e3c45da", func := "loop.example/recordbatches/laws.FnStableAll", spec := "fnStableAll", apart := false, narrowed := true }
def FnStableAllUptoSaid : Prop := fnStableAllUptoRow.holds Try.pinned (OpenSpec.upto fnStableAllSpec)

/-- 'laws.FnExactStableEnd', WHERE WHAT IT READS IS OF BULK AT MOST 1048576: true; the input reads as it did. -/
def fnExactStableEndUptoRow : OpenClaim := { program := "yticpnjhkdfdkkaa", sum := "e04523cbb4b94e2ce9fc21961adefc001d8d66ec8e4324f10261b5773e3c45da", func := "loop.example/recordbatches/laws.FnExactStableEnd", spec := "fnExactStableEnd", apart := false, narrowed := true }
def FnExactStableEndUptoSaid : Prop := fnExactStableEndUptoRow.holds Try.pinned (OpenSpec.upto fnExactStableEndSpec)

/-- 'laws.FnStableRecordsRead', WHERE WHAT IT READS IS OF BULK AT MOST 1048576: true; the input reads as it did. -/
def fnStableRecordsReadUptoRow : OpenClaim := { program := "yticpnjhkdfdkkaa", sum := "e04523cbb4b94e2ce9fc21961adefc001d8d66ec8e4324f10261b5773e3c45da", func := "loop.example/recordbatches/laws.FnStableRecordsRead", spec := "fnStableRecordsRead", unfollowed := true, recurses := true, apart := false, narrowed := true }
def FnStableRecordsReadUptoSaid : Prop := fnStableRecordsReadUptoRow.holds Try.pinned (OpenSpec.upto fnStableRecordsReadSpec)

/-- 'laws.FnStableRecords', WHERE WHAT IT READS IS OF BULK AT MOST 1048576: true; the input reads as it did. -/
def fnStableRecordsUptoRow : OpenClaim := { program := "yticpnjhkdfdkkaa", sum := "e04523cbb4b94e2ce9fc21961adefc001d8d66ec8e4324f10261b5773e3c45da", func := "loop.example/recordbatches/laws.FnStableRecords", spec := "fnStableRecords", apart := false, narrowed := true }
def FnStableRecordsUptoSaid : Prop := fnStableRecordsUptoRow.holds Try.pinned (OpenSpec.upto fnStableRecordsSpec)

/-- 'laws.FnExactUndoneOf', WHERE WHAT IT READS IS OF BULK AT MOST 1048576: true; the input reads as it did. -/
def fnExactUndoneOfUptoRow : OpenClaim := { program := "yticpnjhkdfdkkaa", sum := "e04523cbb4b94e2ce9fc21961adefc001d8d66ec8e4324f10261b5773e3c45da", func := "loop.example/recordbatches/laws.FnExactUndoneOf", spec := "fnExactUndoneOf", apart := false, narrowed := true }
def FnExactUndoneOfUptoSaid : Prop := fnExactUndoneOfUptoRow.holds Try.pinned (OpenSpec.upto fnExactUndoneOfSpec)

/-- 'laws.FnExactStableRecords', WHERE WHAT IT READS IS OF BULK AT MOST 1048576: true; the input reads as it did. -/
def fnExactStableRecordsUptoRow : OpenClaim := { program := "yticpnjhkdfdkkaa", sum := "e04523cbb4b94e2ce9fc21961adefc001d8d66ec8e4324f10261b5773e3c45da", func := "loop.example/recordbatches/laws.FnExactStableRecords", spec := "fnExactStableRecords", apart := false, narrowed := true }
def FnExactStableRecordsUptoSaid : Prop := fnExactStableRecordsUptoRow.holds Try.pinned (OpenSpec.upto fnExactStableRecordsSpec)

end Rows
end Go.Proofs.Yticpnjhkdfdkkaa
