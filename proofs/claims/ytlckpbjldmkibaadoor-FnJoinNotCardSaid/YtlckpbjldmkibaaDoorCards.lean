/-
  DERIVED. GIVEN WITH THE SEED: THE CARDS: each row of YtlckpbjldmkibaaDoorRows.lean that lists a variable, with what it lists TIED to the program's text (the seventh form; the later family's looks); each row that meets fmt, with fmt's text TOLD by the authors' own Lean function (tested against real Go, not proved from fmt's source: count such statements apart). THE CARD IS WHAT COUNTS. Prove the row's statement (the work); the ties are given (YtlckpbjldmkibaaDoorTie.lean); close each card by the builder's one call (the guide's Derived/Test/ToyasCard.lean, 'card_holds'). Laid BY PROGRAM, IN A SANDBOX (cutbox-door.mjs). By AI agents, Wed Nov 11 2026. No macro, syntax, notation, axiom, sorry.
-/
import Derived.Test.YtlckpbjldmkibaaDoorRows
import GoSem.ClaimSeven
namespace Go.Proofs.YtlckpbjldmkibaaDoor
namespace Rows

/-- THE TIED CARD OF 'laws.FnJoin'. -/
def fnJoinCard : Claim7 := { stood := { row := fnJoinRow, standIns := [], harness := (true, "800ab0d8d9efb1ee471d8f3e904019c1a843da877d6d9f0f5f2679329bc4e994"), looks := true }, kinds := [], alts := [], laidByText := true, laidKinds := [.sentinel], laidTests := true, laidLooks := .later }
def FnJoinCardSaid : Prop := Claim7.holds Tryd.pinned (.plain (OpenSpec.ofChange fnJoinSpec)) fnJoinCard

/-- THE TIED CARD OF 'laws.FnJoinNot'. -/
def fnJoinNotCard : Claim7 := { stood := { row := fnJoinNotRow, standIns := [], harness := (true, "800ab0d8d9efb1ee471d8f3e904019c1a843da877d6d9f0f5f2679329bc4e994"), looks := true }, kinds := [], alts := [], laidByText := true, laidKinds := [.sentinel], laidTests := true, laidLooks := .later }
def FnJoinNotCardSaid : Prop := Claim7.holds Tryd.pinned (.plain (OpenSpec.ofChange fnJoinNotSpec)) fnJoinNotCard

/-- THE SECOND FORM's CARD OF 'laws.FnJoin'. -/
def fnJoinUptoCard : Claim7 := { stood := { row := fnJoinUptoRow, standIns := [], harness := (true, "800ab0d8d9efb1ee471d8f3e904019c1a843da877d6d9f0f5f2679329bc4e994"), looks := true }, kinds := [], alts := [], laidByText := true, laidKinds := [.sentinel], laidTests := true, laidLooks := .later }
def FnJoinUptoCardSaid : Prop := Claim7.holds Tryd.pinned (.plain (OpenSpec.upto fnJoinSpec)) fnJoinUptoCard

/-- THE SECOND FORM's CARD OF 'laws.FnJoinNot'. -/
def fnJoinNotUptoCard : Claim7 := { stood := { row := fnJoinNotUptoRow, standIns := [], harness := (true, "800ab0d8d9efb1ee471d8f3e904019c1a843da877d6d9f0f5f2679329bc4e994"), looks := true }, kinds := [], alts := [], laidByText := true, laidKinds := [.sentinel], laidTests := true, laidLooks := .later }
def FnJoinNotUptoCardSaid : Prop := Claim7.holds Tryd.pinned (.plain (OpenSpec.upto fnJoinNotSpec)) fnJoinNotUptoCard
end Rows
end Go.Proofs.YtlckpbjldmkibaaDoor
