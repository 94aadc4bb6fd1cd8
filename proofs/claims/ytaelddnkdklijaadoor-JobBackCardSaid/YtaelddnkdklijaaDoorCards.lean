/-
  DERIVED. GIVEN WITH THE SEED: THE CARDS: each row of YtaelddnkdklijaaDoorRows.lean that lists a variable, with what it lists TIED to the program's text (the seventh form; the later family's looks); each row that meets fmt, with fmt's text TOLD by the authors' own Lean function (tested against real Go, not proved from fmt's source: count such statements apart). THE CARD IS WHAT COUNTS. Prove the row's statement (the work); the ties are given (YtaelddnkdklijaaDoorTie.lean); close each card by the builder's one call (the guide's Derived/Test/ToyasCard.lean, 'card_holds'). Laid BY PROGRAM, IN A SANDBOX (cutbox-door.mjs). By AI agents, Wed Nov 11 2026. No macro, syntax, notation, axiom, sorry.
-/
import Derived.Test.YtaelddnkdklijaaDoorRows
import GoSem.ClaimSeven
namespace Go.Proofs.YtaelddnkdklijaaDoor
namespace Rows

/-- THE TIED CARD OF 'ticklerlaw19.JobRecurs'. -/
def jobRecursCard : Claim7 := { stood := { row := jobRecursRow, standIns := [], harness := (true, "71282aa8216a528fdbc0b929a4b0a483ee3e812ae6579b9ba32bd8466b32bba2"), looks := true }, kinds := [], alts := [], laidByText := true, laidKinds := [.data, .data, .pinned], laidTests := true, laidLooks := .later }
def JobRecursCardSaid : Prop := Claim7.holds Tryd.pinned (.plain (OpenSpec.ofChange jobRecursSpec)) jobRecursCard

/-- THE TIED CARD OF 'ticklerlaw19.JobDies'. -/
def jobDiesCard : Claim7 := { stood := { row := jobDiesRow, standIns := [], harness := (true, "71282aa8216a528fdbc0b929a4b0a483ee3e812ae6579b9ba32bd8466b32bba2"), looks := true }, kinds := [], alts := [], laidByText := true, laidKinds := [.data, .data, .pinned], laidTests := true, laidLooks := .later }
def JobDiesCardSaid : Prop := Claim7.holds Tryd.pinned (.plain (OpenSpec.ofChange jobDiesSpec)) jobDiesCard

/-- THE TIED CARD OF 'ticklerlaw19.JobKeeps'. -/
def jobKeepsCard : Claim7 := { stood := { row := jobKeepsRow, standIns := [], harness := (true, "71282aa8216a528fdbc0b929a4b0a483ee3e812ae6579b9ba32bd8466b32bba2"), looks := true }, kinds := [], alts := [], laidByText := true, laidKinds := [.data, .data, .pinned], laidTests := true, laidLooks := .later }
def JobKeepsCardSaid : Prop := Claim7.holds Tryd.pinned (.plain (OpenSpec.ofChange jobKeepsSpec)) jobKeepsCard

/-- THE TIED CARD OF 'ticklerlaw19.JobBack'. -/
def jobBackCard : Claim7 := { stood := { row := jobBackRow, standIns := [], harness := (true, "71282aa8216a528fdbc0b929a4b0a483ee3e812ae6579b9ba32bd8466b32bba2"), looks := true }, kinds := [], alts := [], laidByText := true, laidKinds := [.data, .data, .pinned], laidTests := true, laidLooks := .later }
def JobBackCardSaid : Prop := Claim7.holds Tryd.pinned (.plain (OpenSpec.ofChange jobBackSpec)) jobBackCard

/-- THE TIED CARD OF 'ticklerlaw20.TimedStays'. -/
def timedStaysCard : Claim7 := { stood := { row := timedStaysRow, standIns := [], harness := (true, "71282aa8216a528fdbc0b929a4b0a483ee3e812ae6579b9ba32bd8466b32bba2"), looks := true }, kinds := [], alts := [], laidByText := true, laidKinds := [.data, .data, .pinned], laidTests := true, laidLooks := .later }
def TimedStaysCardSaid : Prop := Claim7.holds Tryd.pinned (.plain (OpenSpec.ofChange timedStaysSpec)) timedStaysCard

/-- THE TIED CARD OF 'ticklerlaw21.IndexSpans'. -/
def indexSpansCard : Claim7 := { stood := { row := indexSpansRow, standIns := [], harness := (true, "71282aa8216a528fdbc0b929a4b0a483ee3e812ae6579b9ba32bd8466b32bba2"), looks := true }, kinds := [], alts := [], laidByText := true, laidKinds := [.data, .pinned], laidTests := true, laidLooks := .later }
def IndexSpansCardSaid : Prop := Claim7.holds Tryd.pinned (.plain (OpenSpec.ofChange indexSpansSpec)) indexSpansCard

/-- THE SECOND FORM's CARD OF 'ticklerlaw19.JobRecurs'. -/
def jobRecursUptoCard : Claim7 := { stood := { row := jobRecursUptoRow, standIns := [], harness := (true, "71282aa8216a528fdbc0b929a4b0a483ee3e812ae6579b9ba32bd8466b32bba2"), looks := true }, kinds := [], alts := [], laidByText := true, laidKinds := [.data, .data, .pinned], laidTests := true, laidLooks := .later }
def JobRecursUptoCardSaid : Prop := Claim7.holds Tryd.pinned (.plain (OpenSpec.upto jobRecursSpec)) jobRecursUptoCard

/-- THE SECOND FORM's CARD OF 'ticklerlaw19.JobDies'. -/
def jobDiesUptoCard : Claim7 := { stood := { row := jobDiesUptoRow, standIns := [], harness := (true, "71282aa8216a528fdbc0b929a4b0a483ee3e812ae6579b9ba32bd8466b32bba2"), looks := true }, kinds := [], alts := [], laidByText := true, laidKinds := [.data, .data, .pinned], laidTests := true, laidLooks := .later }
def JobDiesUptoCardSaid : Prop := Claim7.holds Tryd.pinned (.plain (OpenSpec.upto jobDiesSpec)) jobDiesUptoCard

/-- THE SECOND FORM's CARD OF 'ticklerlaw19.JobKeeps'. -/
def jobKeepsUptoCard : Claim7 := { stood := { row := jobKeepsUptoRow, standIns := [], harness := (true, "71282aa8216a528fdbc0b929a4b0a483ee3e812ae6579b9ba32bd8466b32bba2"), looks := true }, kinds := [], alts := [], laidByText := true, laidKinds := [.data, .data, .pinned], laidTests := true, laidLooks := .later }
def JobKeepsUptoCardSaid : Prop := Claim7.holds Tryd.pinned (.plain (OpenSpec.upto jobKeepsSpec)) jobKeepsUptoCard

/-- THE SECOND FORM's CARD OF 'ticklerlaw19.JobBack'. -/
def jobBackUptoCard : Claim7 := { stood := { row := jobBackUptoRow, standIns := [], harness := (true, "71282aa8216a528fdbc0b929a4b0a483ee3e812ae6579b9ba32bd8466b32bba2"), looks := true }, kinds := [], alts := [], laidByText := true, laidKinds := [.data, .data, .pinned], laidTests := true, laidLooks := .later }
def JobBackUptoCardSaid : Prop := Claim7.holds Tryd.pinned (.plain (OpenSpec.upto jobBackSpec)) jobBackUptoCard

/-- THE SECOND FORM's CARD OF 'ticklerlaw20.TimedStays'. -/
def timedStaysUptoCard : Claim7 := { stood := { row := timedStaysUptoRow, standIns := [], harness := (true, "71282aa8216a528fdbc0b929a4b0a483ee3e812ae6579b9ba32bd8466b32bba2"), looks := true }, kinds := [], alts := [], laidByText := true, laidKinds := [.data, .data, .pinned], laidTests := true, laidLooks := .later }
def TimedStaysUptoCardSaid : Prop := Claim7.holds Tryd.pinned (.plain (OpenSpec.upto timedStaysSpec)) timedStaysUptoCard

/-- THE SECOND FORM's CARD OF 'ticklerlaw21.IndexSpans'. -/
def indexSpansUptoCard : Claim7 := { stood := { row := indexSpansUptoRow, standIns := [], harness := (true, "71282aa8216a528fdbc0b929a4b0a483ee3e812ae6579b9ba32bd8466b32bba2"), looks := true }, kinds := [], alts := [], laidByText := true, laidKinds := [.data, .pinned], laidTests := true, laidLooks := .later }
def IndexSpansUptoCardSaid : Prop := Claim7.holds Tryd.pinned (.plain (OpenSpec.upto indexSpansSpec)) indexSpansUptoCard
end Rows
end Go.Proofs.YtaelddnkdklijaaDoor
