/-
  DERIVED. GIVEN WITH THE SEED: THE CARDS: each row of YtibjdlpfejdedaaDoorRows.lean that lists a variable, with what it lists TIED to the program's text (the seventh form; the later family's looks); each row that meets fmt, with fmt's text TOLD by the authors' own Lean function (tested against real Go, not proved from fmt's source: count such statements apart). THE CARD IS WHAT COUNTS. Prove the row's statement (the work); the ties are given (YtibjdlpfejdedaaDoorTie.lean); close each card by the builder's one call (the guide's Derived/Test/ToyasCard.lean, 'card_holds'). Laid BY PROGRAM, IN A SANDBOX (cutbox-door.mjs). By AI agents, Wed Nov 11 2026. No macro, syntax, notation, axiom, sorry.
-/
import Derived.Test.YtibjdlpfejdedaaDoorRows
import GoSem.ClaimSeven
namespace Go.Proofs.YtibjdlpfejdedaaDoor
namespace Rows

/-- THE TIED CARD OF 'laws.FnEventText'. -/
def fnEventTextCard : Claim7 := { stood := { row := fnEventTextRow, standIns := [], harness := (true, "f49decea45a77f19c13d655f7be73e339755e0ebb1ea911229a4e9a534cd8f97"), looks := true }, kinds := [], alts := [], laidByText := true, laidKinds := [.data, .data, .data, .data, .sentinel, .sentinel, .data, .pinned], laidTests := true, laidLooks := .later }
def FnEventTextCardSaid : Prop := Claim7.holds Tryd.pinned (.plain (OpenSpec.ofChange fnEventTextSpec)) fnEventTextCard

/-- THE TIED CARD OF 'laws.FnExactEventFrom'. -/
def fnExactEventFromCard : Claim7 := { stood := { row := fnExactEventFromRow, standIns := [], harness := (true, "f49decea45a77f19c13d655f7be73e339755e0ebb1ea911229a4e9a534cd8f97"), looks := true }, kinds := [], alts := [], laidByText := true, laidKinds := [.data, .data, .data, .data, .sentinel, .sentinel, .data, .pinned], laidTests := true, laidLooks := .later }
def FnExactEventFromCardSaid : Prop := Claim7.holds Tryd.pinned (.plain (OpenSpec.ofChange fnExactEventFromSpec)) fnExactEventFromCard

/-- THE TIED CARD OF 'laws.FnEventCut'. -/
def fnEventCutCard : Claim7 := { stood := { row := fnEventCutRow, standIns := [], harness := (true, "f49decea45a77f19c13d655f7be73e339755e0ebb1ea911229a4e9a534cd8f97"), looks := true }, kinds := [], alts := [], laidByText := true, laidKinds := [.data, .data, .data, .data, .sentinel, .sentinel, .data, .pinned], laidTests := true, laidLooks := .later }
def FnEventCutCardSaid : Prop := Claim7.holds Tryd.pinned (.plain (OpenSpec.ofChange fnEventCutSpec)) fnEventCutCard

/-- THE TIED CARD OF 'laws.FnEventFrom'. -/
def fnEventFromCard : Claim7 := { stood := { row := fnEventFromRow, standIns := [], harness := (true, "f49decea45a77f19c13d655f7be73e339755e0ebb1ea911229a4e9a534cd8f97"), looks := true }, kinds := [], alts := [], laidByText := true, laidKinds := [.data, .data, .data, .data, .sentinel, .sentinel, .data, .pinned], laidTests := true, laidLooks := .later }
def FnEventFromCardSaid : Prop := Claim7.holds Tryd.pinned (.plain (OpenSpec.ofChange fnEventFromSpec)) fnEventFromCard

/-- THE SECOND FORM's CARD OF 'laws.FnEventText'. -/
def fnEventTextUptoCard : Claim7 := { stood := { row := fnEventTextUptoRow, standIns := [], harness := (true, "f49decea45a77f19c13d655f7be73e339755e0ebb1ea911229a4e9a534cd8f97"), looks := true }, kinds := [], alts := [], laidByText := true, laidKinds := [.data, .data, .data, .data, .sentinel, .sentinel, .data, .pinned], laidTests := true, laidLooks := .later }
def FnEventTextUptoCardSaid : Prop := Claim7.holds Tryd.pinned (.plain (OpenSpec.upto fnEventTextSpec)) fnEventTextUptoCard

/-- THE SECOND FORM's CARD OF 'laws.FnExactEventFrom'. -/
def fnExactEventFromUptoCard : Claim7 := { stood := { row := fnExactEventFromUptoRow, standIns := [], harness := (true, "f49decea45a77f19c13d655f7be73e339755e0ebb1ea911229a4e9a534cd8f97"), looks := true }, kinds := [], alts := [], laidByText := true, laidKinds := [.data, .data, .data, .data, .sentinel, .sentinel, .data, .pinned], laidTests := true, laidLooks := .later }
def FnExactEventFromUptoCardSaid : Prop := Claim7.holds Tryd.pinned (.plain (OpenSpec.upto fnExactEventFromSpec)) fnExactEventFromUptoCard

/-- THE SECOND FORM's CARD OF 'laws.FnEventCut'. -/
def fnEventCutUptoCard : Claim7 := { stood := { row := fnEventCutUptoRow, standIns := [], harness := (true, "f49decea45a77f19c13d655f7be73e339755e0ebb1ea911229a4e9a534cd8f97"), looks := true }, kinds := [], alts := [], laidByText := true, laidKinds := [.data, .data, .data, .data, .sentinel, .sentinel, .data, .pinned], laidTests := true, laidLooks := .later }
def FnEventCutUptoCardSaid : Prop := Claim7.holds Tryd.pinned (.plain (OpenSpec.upto fnEventCutSpec)) fnEventCutUptoCard

/-- THE SECOND FORM's CARD OF 'laws.FnEventFrom'. -/
def fnEventFromUptoCard : Claim7 := { stood := { row := fnEventFromUptoRow, standIns := [], harness := (true, "f49decea45a77f19c13d655f7be73e339755e0ebb1ea911229a4e9a534cd8f97"), looks := true }, kinds := [], alts := [], laidByText := true, laidKinds := [.data, .data, .data, .data, .sentinel, .sentinel, .data, .pinned], laidTests := true, laidLooks := .later }
def FnEventFromUptoCardSaid : Prop := Claim7.holds Tryd.pinned (.plain (OpenSpec.upto fnEventFromSpec)) fnEventFromUptoCard
end Rows
end Go.Proofs.YtibjdlpfejdedaaDoor
