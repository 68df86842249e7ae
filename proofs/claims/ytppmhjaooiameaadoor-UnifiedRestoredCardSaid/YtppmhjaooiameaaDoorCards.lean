/-
  DERIVED. GIVEN WITH THE SEED: THE CARDS: each row of YtppmhjaooiameaaDoorRows.lean that lists a variable, with what it lists TIED to the program's text (the seventh form; the later family's looks); each row that meets fmt, with fmt's text TOLD by the authors' own Lean function (tested against real Go, not proved from fmt's source: count such statements apart). THE CARD IS WHAT COUNTS. Prove the row's statement (the work); the ties are given (YtppmhjaooiameaaDoorTie.lean); close each card by the builder's one call (the guide's Derived/Test/ToyasCard.lean, 'card_holds'). Laid BY PROGRAM, IN A SANDBOX (cutbox-door.mjs). By AI agents, Wed Nov 11 2026. No macro, syntax, notation, axiom, sorry.
-/
import Derived.Test.YtppmhjaooiameaaDoorRows
import GoSem.ClaimSeven
namespace Go.Proofs.YtppmhjaooiameaaDoor
namespace Rows

/-- THE TIED CARD OF 'changeforgelaw1.UnifiedMatchesSpec'. -/
def unifiedMatchesSpecCard : Claim7 := { stood := { row := unifiedMatchesSpecRow, standIns := [], harness := (true, "729c9e06db31a65ababe32d3db790ebb2cdf9e39d06fcd8b569db847a99322a6"), looks := true }, kinds := [], alts := [], laidByText := true, laidKinds := [.data, .data, .data], laidTests := true, laidLooks := .later }
def UnifiedMatchesSpecCardSaid : Prop := Claim7.holds Tryd.pinned (.plain (OpenSpec.ofChange unifiedMatchesSpecSpec)) unifiedMatchesSpecCard

/-- THE TIED CARD OF 'changeforgelaw1.UnifiedExact'. -/
def unifiedExactCard : Claim7 := { stood := { row := unifiedExactRow, standIns := [], harness := (true, "729c9e06db31a65ababe32d3db790ebb2cdf9e39d06fcd8b569db847a99322a6"), looks := true }, kinds := [], alts := [], laidByText := true, laidKinds := [.data, .data, .data], laidTests := true, laidLooks := .later }
def UnifiedExactCardSaid : Prop := Claim7.holds Tryd.pinned (.plain (OpenSpec.ofChange unifiedExactSpec)) unifiedExactCard

/-- THE TIED CARD OF 'changeforgelaw1.UnifiedShifted'. -/
def unifiedShiftedCard : Claim7 := { stood := { row := unifiedShiftedRow, standIns := [], harness := (true, "729c9e06db31a65ababe32d3db790ebb2cdf9e39d06fcd8b569db847a99322a6"), looks := true }, kinds := [], alts := [], laidByText := true, laidKinds := [.data, .data, .data], laidTests := true, laidLooks := .later }
def UnifiedShiftedCardSaid : Prop := Claim7.holds Tryd.pinned (.plain (OpenSpec.ofChange unifiedShiftedSpec)) unifiedShiftedCard

/-- THE TIED CARD OF 'changeforgelaw1.UnifiedRestored'. -/
def unifiedRestoredCard : Claim7 := { stood := { row := unifiedRestoredRow, standIns := [], harness := (true, "729c9e06db31a65ababe32d3db790ebb2cdf9e39d06fcd8b569db847a99322a6"), looks := true }, kinds := [], alts := [], laidByText := true, laidKinds := [.data, .data, .data, .sentinel, .sentinel], laidTests := true, laidLooks := .later }
def UnifiedRestoredCardSaid : Prop := Claim7.holds Tryd.pinned (.plain (OpenSpec.ofChange unifiedRestoredSpec)) unifiedRestoredCard

/-- THE SECOND FORM's CARD OF 'changeforgelaw1.UnifiedMatchesSpec'. -/
def unifiedMatchesSpecUptoCard : Claim7 := { stood := { row := unifiedMatchesSpecUptoRow, standIns := [], harness := (true, "729c9e06db31a65ababe32d3db790ebb2cdf9e39d06fcd8b569db847a99322a6"), looks := true }, kinds := [], alts := [], laidByText := true, laidKinds := [.data, .data, .data], laidTests := true, laidLooks := .later }
def UnifiedMatchesSpecUptoCardSaid : Prop := Claim7.holds Tryd.pinned (.plain (OpenSpec.upto unifiedMatchesSpecSpec)) unifiedMatchesSpecUptoCard

/-- THE SECOND FORM's CARD OF 'changeforgelaw1.UnifiedExact'. -/
def unifiedExactUptoCard : Claim7 := { stood := { row := unifiedExactUptoRow, standIns := [], harness := (true, "729c9e06db31a65ababe32d3db790ebb2cdf9e39d06fcd8b569db847a99322a6"), looks := true }, kinds := [], alts := [], laidByText := true, laidKinds := [.data, .data, .data], laidTests := true, laidLooks := .later }
def UnifiedExactUptoCardSaid : Prop := Claim7.holds Tryd.pinned (.plain (OpenSpec.upto unifiedExactSpec)) unifiedExactUptoCard

/-- THE SECOND FORM's CARD OF 'changeforgelaw1.UnifiedShifted'. -/
def unifiedShiftedUptoCard : Claim7 := { stood := { row := unifiedShiftedUptoRow, standIns := [], harness := (true, "729c9e06db31a65ababe32d3db790ebb2cdf9e39d06fcd8b569db847a99322a6"), looks := true }, kinds := [], alts := [], laidByText := true, laidKinds := [.data, .data, .data], laidTests := true, laidLooks := .later }
def UnifiedShiftedUptoCardSaid : Prop := Claim7.holds Tryd.pinned (.plain (OpenSpec.upto unifiedShiftedSpec)) unifiedShiftedUptoCard

/-- THE SECOND FORM's CARD OF 'changeforgelaw1.UnifiedRestored'. -/
def unifiedRestoredUptoCard : Claim7 := { stood := { row := unifiedRestoredUptoRow, standIns := [], harness := (true, "729c9e06db31a65ababe32d3db790ebb2cdf9e39d06fcd8b569db847a99322a6"), looks := true }, kinds := [], alts := [], laidByText := true, laidKinds := [.data, .data, .data, .sentinel, .sentinel], laidTests := true, laidLooks := .later }
def UnifiedRestoredUptoCardSaid : Prop := Claim7.holds Tryd.pinned (.plain (OpenSpec.upto unifiedRestoredSpec)) unifiedRestoredUptoCard
end Rows
end Go.Proofs.YtppmhjaooiameaaDoor
