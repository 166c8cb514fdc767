/-
  DERIVED. GIVEN WITH THE SEED: THE CARDS: each row of YtlkonimjeoaljaaDoorRows.lean that lists a variable, with what it lists TIED to the program's text (the seventh form; the later family's looks); each row that meets fmt, with fmt's text TOLD by the authors' own Lean function (tested against real Go, not proved from fmt's source: count such statements apart). THE CARD IS WHAT COUNTS. Prove the row's statement (the work); the ties are given (YtlkonimjeoaljaaDoorTie.lean); close each card by the builder's one call (the guide's Derived/Test/ToyasCard.lean, 'card_holds'). Laid BY PROGRAM, IN A SANDBOX (cutbox-door.mjs). By AI agents, Wed Nov 11 2026. No macro, syntax, notation, axiom, sorry.
-/
import Derived.Test.YtlkonimjeoaljaaDoorRows
import GoSem.ClaimSeven
namespace Go.Proofs.YtlkonimjeoaljaaDoor
namespace Rows

/-- THE TIED CARD OF 'tontinelaw06.QuorumReaches'. -/
def quorumReachesCard : Claim7 := { stood := { row := quorumReachesRow, standIns := [], harness := (true, "ba2eec41b325ad7bc17b9212b772184534a5eed6333a69a50e677adee3f41ad5"), looks := false }, kinds := [], alts := [], laidByText := true, laidKinds := [.data], laidTests := true, laidLooks := .later }
def QuorumReachesCardSaid : Prop := Claim7.holds Tryd.pinned (.plain (OpenSpec.ofChange quorumReachesSpec)) quorumReachesCard

/-- THE TIED CARD OF 'tontinelaw06.QuorumMeets'. -/
def quorumMeetsCard : Claim7 := { stood := { row := quorumMeetsRow, standIns := [], harness := (true, "ba2eec41b325ad7bc17b9212b772184534a5eed6333a69a50e677adee3f41ad5"), looks := false }, kinds := [], alts := [], laidByText := true, laidKinds := [.data], laidTests := true, laidLooks := .later }
def QuorumMeetsCardSaid : Prop := Claim7.holds Tryd.pinned (.plain (OpenSpec.ofChange quorumMeetsSpec)) quorumMeetsCard

/-- THE TIED CARD OF 'tontinelaw06.QuorumSteps'. -/
def quorumStepsCard : Claim7 := { stood := { row := quorumStepsRow, standIns := [], harness := (true, "ba2eec41b325ad7bc17b9212b772184534a5eed6333a69a50e677adee3f41ad5"), looks := false }, kinds := [], alts := [], laidByText := true, laidKinds := [.data], laidTests := true, laidLooks := .later }
def QuorumStepsCardSaid : Prop := Claim7.holds Tryd.pinned (.plain (OpenSpec.ofChange quorumStepsSpec)) quorumStepsCard

/-- THE TIED CARD OF 'tontinelaw06.QuorumHalves'. -/
def quorumHalvesCard : Claim7 := { stood := { row := quorumHalvesRow, standIns := [], harness := (true, "ba2eec41b325ad7bc17b9212b772184534a5eed6333a69a50e677adee3f41ad5"), looks := false }, kinds := [], alts := [], laidByText := true, laidKinds := [.data], laidTests := true, laidLooks := .later }
def QuorumHalvesCardSaid : Prop := Claim7.holds Tryd.pinned (.plain (OpenSpec.ofChange quorumHalvesSpec)) quorumHalvesCard

/-- THE TIED CARD OF 'tontinelaw06.QuorumSets'. -/
def quorumSetsCard : Claim7 := { stood := { row := quorumSetsRow, standIns := [], harness := (true, "ba2eec41b325ad7bc17b9212b772184534a5eed6333a69a50e677adee3f41ad5"), looks := false }, kinds := [], alts := [], laidByText := true, laidKinds := [.data], laidTests := true, laidLooks := .later }
def QuorumSetsCardSaid : Prop := Claim7.holds Tryd.pinned (.plain (OpenSpec.ofChange quorumSetsSpec)) quorumSetsCard

/-- THE TIED CARD OF 'tontinelaw06.QuorumChanges'. -/
def quorumChangesCard : Claim7 := { stood := { row := quorumChangesRow, standIns := [], harness := (true, "ba2eec41b325ad7bc17b9212b772184534a5eed6333a69a50e677adee3f41ad5"), looks := false }, kinds := [], alts := [], laidByText := true, laidKinds := [.data], laidTests := true, laidLooks := .later }
def QuorumChangesCardSaid : Prop := Claim7.holds Tryd.pinned (.plain (OpenSpec.ofChange quorumChangesSpec)) quorumChangesCard

/-- THE SECOND FORM's CARD OF 'tontinelaw06.QuorumReaches'. -/
def quorumReachesUptoCard : Claim7 := { stood := { row := quorumReachesUptoRow, standIns := [], harness := (true, "ba2eec41b325ad7bc17b9212b772184534a5eed6333a69a50e677adee3f41ad5"), looks := false }, kinds := [], alts := [], laidByText := true, laidKinds := [.data], laidTests := true, laidLooks := .later }
def QuorumReachesUptoCardSaid : Prop := Claim7.holds Tryd.pinned (.plain (OpenSpec.upto quorumReachesSpec)) quorumReachesUptoCard

/-- THE SECOND FORM's CARD OF 'tontinelaw06.QuorumMeets'. -/
def quorumMeetsUptoCard : Claim7 := { stood := { row := quorumMeetsUptoRow, standIns := [], harness := (true, "ba2eec41b325ad7bc17b9212b772184534a5eed6333a69a50e677adee3f41ad5"), looks := false }, kinds := [], alts := [], laidByText := true, laidKinds := [.data], laidTests := true, laidLooks := .later }
def QuorumMeetsUptoCardSaid : Prop := Claim7.holds Tryd.pinned (.plain (OpenSpec.upto quorumMeetsSpec)) quorumMeetsUptoCard

/-- THE SECOND FORM's CARD OF 'tontinelaw06.QuorumSteps'. -/
def quorumStepsUptoCard : Claim7 := { stood := { row := quorumStepsUptoRow, standIns := [], harness := (true, "ba2eec41b325ad7bc17b9212b772184534a5eed6333a69a50e677adee3f41ad5"), looks := false }, kinds := [], alts := [], laidByText := true, laidKinds := [.data], laidTests := true, laidLooks := .later }
def QuorumStepsUptoCardSaid : Prop := Claim7.holds Tryd.pinned (.plain (OpenSpec.upto quorumStepsSpec)) quorumStepsUptoCard

/-- THE SECOND FORM's CARD OF 'tontinelaw06.QuorumHalves'. -/
def quorumHalvesUptoCard : Claim7 := { stood := { row := quorumHalvesUptoRow, standIns := [], harness := (true, "ba2eec41b325ad7bc17b9212b772184534a5eed6333a69a50e677adee3f41ad5"), looks := false }, kinds := [], alts := [], laidByText := true, laidKinds := [.data], laidTests := true, laidLooks := .later }
def QuorumHalvesUptoCardSaid : Prop := Claim7.holds Tryd.pinned (.plain (OpenSpec.upto quorumHalvesSpec)) quorumHalvesUptoCard

/-- THE SECOND FORM's CARD OF 'tontinelaw06.QuorumSets'. -/
def quorumSetsUptoCard : Claim7 := { stood := { row := quorumSetsUptoRow, standIns := [], harness := (true, "ba2eec41b325ad7bc17b9212b772184534a5eed6333a69a50e677adee3f41ad5"), looks := false }, kinds := [], alts := [], laidByText := true, laidKinds := [.data], laidTests := true, laidLooks := .later }
def QuorumSetsUptoCardSaid : Prop := Claim7.holds Tryd.pinned (.plain (OpenSpec.upto quorumSetsSpec)) quorumSetsUptoCard

/-- THE SECOND FORM's CARD OF 'tontinelaw06.QuorumChanges'. -/
def quorumChangesUptoCard : Claim7 := { stood := { row := quorumChangesUptoRow, standIns := [], harness := (true, "ba2eec41b325ad7bc17b9212b772184534a5eed6333a69a50e677adee3f41ad5"), looks := false }, kinds := [], alts := [], laidByText := true, laidKinds := [.data], laidTests := true, laidLooks := .later }
def QuorumChangesUptoCardSaid : Prop := Claim7.holds Tryd.pinned (.plain (OpenSpec.upto quorumChangesSpec)) quorumChangesUptoCard
end Rows
end Go.Proofs.YtlkonimjeoaljaaDoor
