/-
  DERIVED. GIVEN WITH THE SEED: THE CARDS: each row of YteeijjhgdplifaaDoorRows.lean that lists a variable, with what it lists TIED to the program's text (the seventh form; the later family's looks); each row that meets fmt, with fmt's text TOLD by the authors' own Lean function (tested against real Go, not proved from fmt's source: count such statements apart). THE CARD IS WHAT COUNTS. Prove the row's statement (the work); the ties are given (YteeijjhgdplifaaDoorTie.lean); close each card by the builder's one call (the guide's Derived/Test/ToyasCard.lean, 'card_holds'). Laid BY PROGRAM, IN A SANDBOX (cutbox-door.mjs). By AI agents, Wed Nov 11 2026. No macro, syntax, notation, axiom, sorry.
-/
import Derived.Test.YteeijjhgdplifaaDoorRows
import GoSem.ClaimSeven
namespace Go.Proofs.YteeijjhgdplifaaDoor
namespace Rows

/-- THE TIED CARD OF 'stillroomlaw13.VersionOrder'. -/
def versionOrderCard : Claim7 := { stood := { row := versionOrderRow, standIns := [], harness := (true, "53b2e5efdc27ab1c4a5ebe39f3075d5b1327c67a40c22f2670285d95643a0d54"), looks := true }, kinds := [], alts := [], laidByText := true, laidKinds := [.data, .data, .data, .data, .sentinel, .sentinel, .pinned], laidTests := true, laidLooks := .later }
def VersionOrderCardSaid : Prop := Claim7.holds Tryd.pinned (.plain (OpenSpec.ofChange versionOrderSpec)) versionOrderCard

/-- THE TIED CARD OF 'stillroomlaw13.VersionTells'. -/
def versionTellsCard : Claim7 := { stood := { row := versionTellsRow, standIns := [], harness := (true, "53b2e5efdc27ab1c4a5ebe39f3075d5b1327c67a40c22f2670285d95643a0d54"), looks := true }, kinds := [], alts := [], laidByText := true, laidKinds := [.data, .data, .data, .data, .sentinel, .sentinel, .pinned], laidTests := true, laidLooks := .later }
def VersionTellsCardSaid : Prop := Claim7.holds Tryd.pinned (.plain (OpenSpec.ofChange versionTellsSpec)) versionTellsCard

/-- THE TIED CARD OF 'stillroomlaw14.SpanNobody'. -/
def spanNobodyCard : Claim7 := { stood := { row := spanNobodyRow, standIns := [], harness := (true, "53b2e5efdc27ab1c4a5ebe39f3075d5b1327c67a40c22f2670285d95643a0d54"), looks := true }, kinds := [], alts := [], laidByText := true, laidKinds := [.data, .data, .data, .data, .pinned], laidTests := true, laidLooks := .later }
def SpanNobodyCardSaid : Prop := Claim7.holds Tryd.pinned (.plain (OpenSpec.ofChange spanNobodySpec)) spanNobodyCard

/-- THE TIED CARD OF 'stillroomlaw13.VersionBack'. -/
def versionBackCard : Claim7 := { stood := { row := versionBackRow, standIns := [], harness := (true, "53b2e5efdc27ab1c4a5ebe39f3075d5b1327c67a40c22f2670285d95643a0d54"), looks := true }, kinds := [], alts := [], laidByText := true, laidKinds := [.data, .data, .data, .data, .sentinel, .sentinel, .pinned], laidTests := true, laidLooks := .later }
def VersionBackCardSaid : Prop := Claim7.holds Tryd.pinned (.plain (OpenSpec.ofChange versionBackSpec)) versionBackCard

/-- THE TIED CARD OF 'stillroomlaw13.VersionOrders'. -/
def versionOrdersCard : Claim7 := { stood := { row := versionOrdersRow, standIns := [], harness := (true, "53b2e5efdc27ab1c4a5ebe39f3075d5b1327c67a40c22f2670285d95643a0d54"), looks := true }, kinds := [], alts := [], laidByText := true, laidKinds := [.data, .data, .data, .data, .sentinel, .sentinel, .pinned], laidTests := true, laidLooks := .later }
def VersionOrdersCardSaid : Prop := Claim7.holds Tryd.pinned (.plain (OpenSpec.ofChange versionOrdersSpec)) versionOrdersCard

/-- THE TIED CARD OF 'stillroomlaw13.VersionSorts'. -/
def versionSortsCard : Claim7 := { stood := { row := versionSortsRow, standIns := [], harness := (true, "53b2e5efdc27ab1c4a5ebe39f3075d5b1327c67a40c22f2670285d95643a0d54"), looks := true }, kinds := [], alts := [], laidByText := true, laidKinds := [.data, .data, .data, .data, .sentinel, .sentinel, .pinned], laidTests := true, laidLooks := .later }
def VersionSortsCardSaid : Prop := Claim7.holds Tryd.pinned (.plain (OpenSpec.ofChange versionSortsSpec)) versionSortsCard

/-- THE SECOND FORM's CARD OF 'stillroomlaw13.VersionOrder'. -/
def versionOrderUptoCard : Claim7 := { stood := { row := versionOrderUptoRow, standIns := [], harness := (true, "53b2e5efdc27ab1c4a5ebe39f3075d5b1327c67a40c22f2670285d95643a0d54"), looks := true }, kinds := [], alts := [], laidByText := true, laidKinds := [.data, .data, .data, .data, .sentinel, .sentinel, .pinned], laidTests := true, laidLooks := .later }
def VersionOrderUptoCardSaid : Prop := Claim7.holds Tryd.pinned (.plain (OpenSpec.upto versionOrderSpec)) versionOrderUptoCard

/-- THE SECOND FORM's CARD OF 'stillroomlaw13.VersionTells'. -/
def versionTellsUptoCard : Claim7 := { stood := { row := versionTellsUptoRow, standIns := [], harness := (true, "53b2e5efdc27ab1c4a5ebe39f3075d5b1327c67a40c22f2670285d95643a0d54"), looks := true }, kinds := [], alts := [], laidByText := true, laidKinds := [.data, .data, .data, .data, .sentinel, .sentinel, .pinned], laidTests := true, laidLooks := .later }
def VersionTellsUptoCardSaid : Prop := Claim7.holds Tryd.pinned (.plain (OpenSpec.upto versionTellsSpec)) versionTellsUptoCard

/-- THE SECOND FORM's CARD OF 'stillroomlaw14.SpanNobody'. -/
def spanNobodyUptoCard : Claim7 := { stood := { row := spanNobodyUptoRow, standIns := [], harness := (true, "53b2e5efdc27ab1c4a5ebe39f3075d5b1327c67a40c22f2670285d95643a0d54"), looks := true }, kinds := [], alts := [], laidByText := true, laidKinds := [.data, .data, .data, .data, .pinned], laidTests := true, laidLooks := .later }
def SpanNobodyUptoCardSaid : Prop := Claim7.holds Tryd.pinned (.plain (OpenSpec.upto spanNobodySpec)) spanNobodyUptoCard

/-- THE SECOND FORM's CARD OF 'stillroomlaw13.VersionBack'. -/
def versionBackUptoCard : Claim7 := { stood := { row := versionBackUptoRow, standIns := [], harness := (true, "53b2e5efdc27ab1c4a5ebe39f3075d5b1327c67a40c22f2670285d95643a0d54"), looks := true }, kinds := [], alts := [], laidByText := true, laidKinds := [.data, .data, .data, .data, .sentinel, .sentinel, .pinned], laidTests := true, laidLooks := .later }
def VersionBackUptoCardSaid : Prop := Claim7.holds Tryd.pinned (.plain (OpenSpec.upto versionBackSpec)) versionBackUptoCard

/-- THE SECOND FORM's CARD OF 'stillroomlaw13.VersionOrders'. -/
def versionOrdersUptoCard : Claim7 := { stood := { row := versionOrdersUptoRow, standIns := [], harness := (true, "53b2e5efdc27ab1c4a5ebe39f3075d5b1327c67a40c22f2670285d95643a0d54"), looks := true }, kinds := [], alts := [], laidByText := true, laidKinds := [.data, .data, .data, .data, .sentinel, .sentinel, .pinned], laidTests := true, laidLooks := .later }
def VersionOrdersUptoCardSaid : Prop := Claim7.holds Tryd.pinned (.plain (OpenSpec.upto versionOrdersSpec)) versionOrdersUptoCard

/-- THE SECOND FORM's CARD OF 'stillroomlaw13.VersionSorts'. -/
def versionSortsUptoCard : Claim7 := { stood := { row := versionSortsUptoRow, standIns := [], harness := (true, "53b2e5efdc27ab1c4a5ebe39f3075d5b1327c67a40c22f2670285d95643a0d54"), looks := true }, kinds := [], alts := [], laidByText := true, laidKinds := [.data, .data, .data, .data, .sentinel, .sentinel, .pinned], laidTests := true, laidLooks := .later }
def VersionSortsUptoCardSaid : Prop := Claim7.holds Tryd.pinned (.plain (OpenSpec.upto versionSortsSpec)) versionSortsUptoCard
end Rows
end Go.Proofs.YteeijjhgdplifaaDoor
