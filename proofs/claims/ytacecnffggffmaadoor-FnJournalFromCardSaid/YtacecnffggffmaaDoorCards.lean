/-
  DERIVED. GIVEN WITH THE SEED: THE CARDS: each row of YtacecnffggffmaaDoorRows.lean that lists a variable, with what it lists TIED to the program's text (the seventh form; the later family's looks); each row that meets fmt, with fmt's text TOLD by the authors' own Lean function (tested against real Go, not proved from fmt's source: count such statements apart). THE CARD IS WHAT COUNTS. Prove the row's statement (the work); the ties are given (YtacecnffggffmaaDoorTie.lean); close each card by the builder's one call (the guide's Derived/Test/ToyasCard.lean, 'card_holds'). Laid BY PROGRAM, IN A SANDBOX (cutbox-door.mjs). By AI agents, Wed Nov 11 2026. No macro, syntax, notation, axiom, sorry.
-/
import Derived.Test.YtacecnffggffmaaDoorRows
import GoSem.ClaimSeven
namespace Go.Proofs.YtacecnffggffmaaDoor
namespace Rows

/-- THE TIED CARD OF 'laws.FnJournal'. -/
def fnJournalCard : Claim7 := { stood := { row := fnJournalRow, standIns := [], harness := (true, "da2bf170367760a74e7b26c09ece2c46c001c5526d05de22c11650c145eafdfa"), looks := true }, kinds := [], alts := [], laidByText := true, laidKinds := [.data, .data, .data, .data, .sentinel, .sentinel, .data, .pinned], laidTests := true, laidLooks := .later }
def FnJournalCardSaid : Prop := Claim7.holds Tryd.pinned (.plain (OpenSpec.ofChange fnJournalSpec)) fnJournalCard

/-- THE TIED CARD OF 'laws.FnJournalTorn'. -/
def fnJournalTornCard : Claim7 := { stood := { row := fnJournalTornRow, standIns := [], harness := (true, "da2bf170367760a74e7b26c09ece2c46c001c5526d05de22c11650c145eafdfa"), looks := true }, kinds := [], alts := [], laidByText := true, laidKinds := [.data, .data, .data, .data, .sentinel, .sentinel, .data, .pinned], laidTests := true, laidLooks := .later }
def FnJournalTornCardSaid : Prop := Claim7.holds Tryd.pinned (.plain (OpenSpec.ofChange fnJournalTornSpec)) fnJournalTornCard

/-- THE TIED CARD OF 'laws.FnExactJournalFrom'. -/
def fnExactJournalFromCard : Claim7 := { stood := { row := fnExactJournalFromRow, standIns := [], harness := (true, "da2bf170367760a74e7b26c09ece2c46c001c5526d05de22c11650c145eafdfa"), looks := true }, kinds := [], alts := [], laidByText := true, laidKinds := [.data, .data, .data, .data, .sentinel, .sentinel, .data, .pinned], laidTests := true, laidLooks := .later }
def FnExactJournalFromCardSaid : Prop := Claim7.holds Tryd.pinned (.plain (OpenSpec.ofChange fnExactJournalFromSpec)) fnExactJournalFromCard

/-- THE TIED CARD OF 'laws.FnJournalOn'. -/
def fnJournalOnCard : Claim7 := { stood := { row := fnJournalOnRow, standIns := [], harness := (true, "da2bf170367760a74e7b26c09ece2c46c001c5526d05de22c11650c145eafdfa"), looks := true }, kinds := [], alts := [], laidByText := true, laidKinds := [.data, .data, .data, .data, .sentinel, .sentinel, .data, .pinned], laidTests := true, laidLooks := .later }
def FnJournalOnCardSaid : Prop := Claim7.holds Tryd.pinned (.plain (OpenSpec.ofChange fnJournalOnSpec)) fnJournalOnCard

/-- THE TIED CARD OF 'laws.FnJournalWhy'. -/
def fnJournalWhyCard : Claim7 := { stood := { row := fnJournalWhyRow, standIns := [], harness := (true, "da2bf170367760a74e7b26c09ece2c46c001c5526d05de22c11650c145eafdfa"), looks := true }, kinds := [], alts := [], laidByText := true, laidKinds := [.data, .data, .data, .data, .sentinel, .sentinel, .data, .pinned], laidTests := true, laidLooks := .later }
def FnJournalWhyCardSaid : Prop := Claim7.holds Tryd.pinned (.plain (OpenSpec.ofChange fnJournalWhySpec)) fnJournalWhyCard

/-- THE TIED CARD OF 'laws.FnJournalFrom'. -/
def fnJournalFromCard : Claim7 := { stood := { row := fnJournalFromRow, standIns := [], harness := (true, "da2bf170367760a74e7b26c09ece2c46c001c5526d05de22c11650c145eafdfa"), looks := true }, kinds := [], alts := [], laidByText := true, laidKinds := [.data, .data, .data, .data, .sentinel, .sentinel, .data, .pinned], laidTests := true, laidLooks := .later }
def FnJournalFromCardSaid : Prop := Claim7.holds Tryd.pinned (.plain (OpenSpec.ofChange fnJournalFromSpec)) fnJournalFromCard

/-- THE SECOND FORM's CARD OF 'laws.FnJournal'. -/
def fnJournalUptoCard : Claim7 := { stood := { row := fnJournalUptoRow, standIns := [], harness := (true, "da2bf170367760a74e7b26c09ece2c46c001c5526d05de22c11650c145eafdfa"), looks := true }, kinds := [], alts := [], laidByText := true, laidKinds := [.data, .data, .data, .data, .sentinel, .sentinel, .data, .pinned], laidTests := true, laidLooks := .later }
def FnJournalUptoCardSaid : Prop := Claim7.holds Tryd.pinned (.plain (OpenSpec.upto fnJournalSpec)) fnJournalUptoCard

/-- THE SECOND FORM's CARD OF 'laws.FnJournalTorn'. -/
def fnJournalTornUptoCard : Claim7 := { stood := { row := fnJournalTornUptoRow, standIns := [], harness := (true, "da2bf170367760a74e7b26c09ece2c46c001c5526d05de22c11650c145eafdfa"), looks := true }, kinds := [], alts := [], laidByText := true, laidKinds := [.data, .data, .data, .data, .sentinel, .sentinel, .data, .pinned], laidTests := true, laidLooks := .later }
def FnJournalTornUptoCardSaid : Prop := Claim7.holds Tryd.pinned (.plain (OpenSpec.upto fnJournalTornSpec)) fnJournalTornUptoCard

/-- THE SECOND FORM's CARD OF 'laws.FnExactJournalFrom'. -/
def fnExactJournalFromUptoCard : Claim7 := { stood := { row := fnExactJournalFromUptoRow, standIns := [], harness := (true, "da2bf170367760a74e7b26c09ece2c46c001c5526d05de22c11650c145eafdfa"), looks := true }, kinds := [], alts := [], laidByText := true, laidKinds := [.data, .data, .data, .data, .sentinel, .sentinel, .data, .pinned], laidTests := true, laidLooks := .later }
def FnExactJournalFromUptoCardSaid : Prop := Claim7.holds Tryd.pinned (.plain (OpenSpec.upto fnExactJournalFromSpec)) fnExactJournalFromUptoCard

/-- THE SECOND FORM's CARD OF 'laws.FnJournalOn'. -/
def fnJournalOnUptoCard : Claim7 := { stood := { row := fnJournalOnUptoRow, standIns := [], harness := (true, "da2bf170367760a74e7b26c09ece2c46c001c5526d05de22c11650c145eafdfa"), looks := true }, kinds := [], alts := [], laidByText := true, laidKinds := [.data, .data, .data, .data, .sentinel, .sentinel, .data, .pinned], laidTests := true, laidLooks := .later }
def FnJournalOnUptoCardSaid : Prop := Claim7.holds Tryd.pinned (.plain (OpenSpec.upto fnJournalOnSpec)) fnJournalOnUptoCard

/-- THE SECOND FORM's CARD OF 'laws.FnJournalWhy'. -/
def fnJournalWhyUptoCard : Claim7 := { stood := { row := fnJournalWhyUptoRow, standIns := [], harness := (true, "da2bf170367760a74e7b26c09ece2c46c001c5526d05de22c11650c145eafdfa"), looks := true }, kinds := [], alts := [], laidByText := true, laidKinds := [.data, .data, .data, .data, .sentinel, .sentinel, .data, .pinned], laidTests := true, laidLooks := .later }
def FnJournalWhyUptoCardSaid : Prop := Claim7.holds Tryd.pinned (.plain (OpenSpec.upto fnJournalWhySpec)) fnJournalWhyUptoCard

/-- THE SECOND FORM's CARD OF 'laws.FnJournalFrom'. -/
def fnJournalFromUptoCard : Claim7 := { stood := { row := fnJournalFromUptoRow, standIns := [], harness := (true, "da2bf170367760a74e7b26c09ece2c46c001c5526d05de22c11650c145eafdfa"), looks := true }, kinds := [], alts := [], laidByText := true, laidKinds := [.data, .data, .data, .data, .sentinel, .sentinel, .data, .pinned], laidTests := true, laidLooks := .later }
def FnJournalFromUptoCardSaid : Prop := Claim7.holds Tryd.pinned (.plain (OpenSpec.upto fnJournalFromSpec)) fnJournalFromUptoCard
end Rows
end Go.Proofs.YtacecnffggffmaaDoor
