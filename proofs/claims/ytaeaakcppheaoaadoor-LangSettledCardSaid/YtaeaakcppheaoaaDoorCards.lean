/-
  DERIVED. GIVEN WITH THE SEED: THE CARDS: each row of YtaeaakcppheaoaaDoorRows.lean that lists a variable, with what it lists TIED to the program's text (the seventh form; the later family's looks); each row that meets fmt, with fmt's text TOLD by the authors' own Lean function (tested against real Go, not proved from fmt's source: count such statements apart). THE CARD IS WHAT COUNTS. Prove the row's statement (the work); the ties are given (YtaeaakcppheaoaaDoorTie.lean); close each card by the builder's one call (the guide's Derived/Test/ToyasCard.lean, 'card_holds'). Laid BY PROGRAM, IN A SANDBOX (cutbox-door.mjs). By AI agents, Wed Nov 11 2026. No macro, syntax, notation, axiom, sorry.
-/
import Derived.Test.YtaeaakcppheaoaaDoorRows
import GoSem.ClaimSeven
namespace Go.Proofs.YtaeaakcppheaoaaDoor
namespace Rows

/-- THE TIED CARD OF 'sealskinlaw09.LangParses'. -/
def langParsesCard : Claim7 := { stood := { row := langParsesRow, standIns := [], harness := (true, "10bd4971ebfdefe448607cddd6006cc50e79ba271c7c637469e57664e49e90bc"), looks := false }, kinds := [], alts := [], laidByText := true, laidKinds := [.data, .pinned], laidTests := true, laidLooks := .later }
def LangParsesCardSaid : Prop := Claim7.holds Tryd.pinned (.plain (OpenSpec.ofChange langParsesSpec)) langParsesCard

/-- THE TIED CARD OF 'sealskinlaw09.LangNames'. -/
def langNamesCard : Claim7 := { stood := { row := langNamesRow, standIns := [], harness := (true, "10bd4971ebfdefe448607cddd6006cc50e79ba271c7c637469e57664e49e90bc"), looks := false }, kinds := [], alts := [], laidByText := true, laidKinds := [.data, .pinned], laidTests := true, laidLooks := .later }
def LangNamesCardSaid : Prop := Claim7.holds Tryd.pinned (.plain (OpenSpec.ofChange langNamesSpec)) langNamesCard

/-- THE TIED CARD OF 'sealskinlaw09.LangFaults'. -/
def langFaultsCard : Claim7 := { stood := { row := langFaultsRow, standIns := [], harness := (true, "10bd4971ebfdefe448607cddd6006cc50e79ba271c7c637469e57664e49e90bc"), looks := false }, kinds := [], alts := [], laidByText := true, laidKinds := [.data, .pinned], laidTests := true, laidLooks := .later }
def LangFaultsCardSaid : Prop := Claim7.holds Tryd.pinned (.plain (OpenSpec.ofChange langFaultsSpec)) langFaultsCard

/-- THE TIED CARD OF 'sealskinlaw09.LangSilent'. -/
def langSilentCard : Claim7 := { stood := { row := langSilentRow, standIns := [], harness := (true, "10bd4971ebfdefe448607cddd6006cc50e79ba271c7c637469e57664e49e90bc"), looks := false }, kinds := [], alts := [], laidByText := true, laidKinds := [.data, .pinned], laidTests := true, laidLooks := .later }
def LangSilentCardSaid : Prop := Claim7.holds Tryd.pinned (.plain (OpenSpec.ofChange langSilentSpec)) langSilentCard

/-- THE TIED CARD OF 'sealskinlaw09.LangPrints'. -/
def langPrintsCard : Claim7 := { stood := { row := langPrintsRow, standIns := [], harness := (true, "10bd4971ebfdefe448607cddd6006cc50e79ba271c7c637469e57664e49e90bc"), looks := false }, kinds := [], alts := [], laidByText := true, laidKinds := [.data, .data, .data, .data, .pinned], laidTests := true, laidLooks := .later }
def LangPrintsCardSaid : Prop := Claim7.holds Tryd.pinned (.plain (OpenSpec.ofChange langPrintsSpec)) langPrintsCard

/-- THE TIED CARD OF 'sealskinlaw09.LangBack'. -/
def langBackCard : Claim7 := { stood := { row := langBackRow, standIns := [], harness := (true, "10bd4971ebfdefe448607cddd6006cc50e79ba271c7c637469e57664e49e90bc"), looks := false }, kinds := [], alts := [], laidByText := true, laidKinds := [.data, .data, .data, .data, .pinned], laidTests := true, laidLooks := .later }
def LangBackCardSaid : Prop := Claim7.holds Tryd.pinned (.plain (OpenSpec.ofChange langBackSpec)) langBackCard

/-- THE TIED CARD OF 'sealskinlaw09.LangSettled'. -/
def langSettledCard : Claim7 := { stood := { row := langSettledRow, standIns := [], harness := (true, "10bd4971ebfdefe448607cddd6006cc50e79ba271c7c637469e57664e49e90bc"), looks := false }, kinds := [], alts := [], laidByText := true, laidKinds := [.data, .data, .data, .data, .pinned], laidTests := true, laidLooks := .later }
def LangSettledCardSaid : Prop := Claim7.holds Tryd.pinned (.plain (OpenSpec.ofChange langSettledSpec)) langSettledCard

/-- THE SECOND FORM's CARD OF 'sealskinlaw09.LangParses'. -/
def langParsesUptoCard : Claim7 := { stood := { row := langParsesUptoRow, standIns := [], harness := (true, "10bd4971ebfdefe448607cddd6006cc50e79ba271c7c637469e57664e49e90bc"), looks := false }, kinds := [], alts := [], laidByText := true, laidKinds := [.data, .pinned], laidTests := true, laidLooks := .later }
def LangParsesUptoCardSaid : Prop := Claim7.holds Tryd.pinned (.plain (OpenSpec.upto langParsesSpec)) langParsesUptoCard

/-- THE SECOND FORM's CARD OF 'sealskinlaw09.LangNames'. -/
def langNamesUptoCard : Claim7 := { stood := { row := langNamesUptoRow, standIns := [], harness := (true, "10bd4971ebfdefe448607cddd6006cc50e79ba271c7c637469e57664e49e90bc"), looks := false }, kinds := [], alts := [], laidByText := true, laidKinds := [.data, .pinned], laidTests := true, laidLooks := .later }
def LangNamesUptoCardSaid : Prop := Claim7.holds Tryd.pinned (.plain (OpenSpec.upto langNamesSpec)) langNamesUptoCard

/-- THE SECOND FORM's CARD OF 'sealskinlaw09.LangFaults'. -/
def langFaultsUptoCard : Claim7 := { stood := { row := langFaultsUptoRow, standIns := [], harness := (true, "10bd4971ebfdefe448607cddd6006cc50e79ba271c7c637469e57664e49e90bc"), looks := false }, kinds := [], alts := [], laidByText := true, laidKinds := [.data, .pinned], laidTests := true, laidLooks := .later }
def LangFaultsUptoCardSaid : Prop := Claim7.holds Tryd.pinned (.plain (OpenSpec.upto langFaultsSpec)) langFaultsUptoCard

/-- THE SECOND FORM's CARD OF 'sealskinlaw09.LangSilent'. -/
def langSilentUptoCard : Claim7 := { stood := { row := langSilentUptoRow, standIns := [], harness := (true, "10bd4971ebfdefe448607cddd6006cc50e79ba271c7c637469e57664e49e90bc"), looks := false }, kinds := [], alts := [], laidByText := true, laidKinds := [.data, .pinned], laidTests := true, laidLooks := .later }
def LangSilentUptoCardSaid : Prop := Claim7.holds Tryd.pinned (.plain (OpenSpec.upto langSilentSpec)) langSilentUptoCard

/-- THE SECOND FORM's CARD OF 'sealskinlaw09.LangPrints'. -/
def langPrintsUptoCard : Claim7 := { stood := { row := langPrintsUptoRow, standIns := [], harness := (true, "10bd4971ebfdefe448607cddd6006cc50e79ba271c7c637469e57664e49e90bc"), looks := false }, kinds := [], alts := [], laidByText := true, laidKinds := [.data, .data, .data, .data, .pinned], laidTests := true, laidLooks := .later }
def LangPrintsUptoCardSaid : Prop := Claim7.holds Tryd.pinned (.plain (OpenSpec.upto langPrintsSpec)) langPrintsUptoCard

/-- THE SECOND FORM's CARD OF 'sealskinlaw09.LangBack'. -/
def langBackUptoCard : Claim7 := { stood := { row := langBackUptoRow, standIns := [], harness := (true, "10bd4971ebfdefe448607cddd6006cc50e79ba271c7c637469e57664e49e90bc"), looks := false }, kinds := [], alts := [], laidByText := true, laidKinds := [.data, .data, .data, .data, .pinned], laidTests := true, laidLooks := .later }
def LangBackUptoCardSaid : Prop := Claim7.holds Tryd.pinned (.plain (OpenSpec.upto langBackSpec)) langBackUptoCard

/-- THE SECOND FORM's CARD OF 'sealskinlaw09.LangSettled'. -/
def langSettledUptoCard : Claim7 := { stood := { row := langSettledUptoRow, standIns := [], harness := (true, "10bd4971ebfdefe448607cddd6006cc50e79ba271c7c637469e57664e49e90bc"), looks := false }, kinds := [], alts := [], laidByText := true, laidKinds := [.data, .data, .data, .data, .pinned], laidTests := true, laidLooks := .later }
def LangSettledUptoCardSaid : Prop := Claim7.holds Tryd.pinned (.plain (OpenSpec.upto langSettledSpec)) langSettledUptoCard
end Rows
end Go.Proofs.YtaeaakcppheaoaaDoor
