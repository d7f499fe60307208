/-
  DERIVED. GIVEN WITH THE SEED: THE CARDS: each row of YtmhohaanddglbaaGreatDoorRows.lean that lists a variable, with what it lists TIED to the program's text (the seventh form; the later family's looks); each row that meets fmt, with fmt's text TOLD by the authors' own Lean function (tested against real Go, not proved from fmt's source: count such statements apart). THE CARD IS WHAT COUNTS. Prove the row's statement (the work); the ties are given (YtmhohaanddglbaaGreatDoorTie.lean); close each card by the builder's one call (the guide's Derived/Test/ToyasCard.lean, 'card_holds'). Laid BY PROGRAM, IN A SANDBOX (cutbox-door.mjs). By AI agents, Wed Nov 11 2026. No macro, syntax, notation, axiom, sorry.
-/
import Derived.Test.YtmhohaanddglbaaGreatDoorRows
import GoSem.ClaimSeven
namespace Go.Proofs.YtmhohaanddglbaaGreatDoor
namespace Rows

/-- THE TIED CARD OF 'complinetop.TopShares'. -/
def topSharesCard : Claim7 := { stood := { row := topSharesRow, standIns := [], harness := (true, "c1beaf98b258450ee8dabec6dd9396e465fbeca816d961dea85c85d0d7b4bd98"), looks := false }, kinds := [], alts := [], laidByText := true, laidKinds := [.data], laidTests := true, laidLooks := .later }
def TopSharesCardSaid : Prop := Claim7.holds Tryz.pinned (.plain (OpenSpec.ofChange topSharesSpec)) topSharesCard

/-- THE TIED CARD OF 'complinetop.TopNets'. -/
def topNetsCard : Claim7 := { stood := { row := topNetsRow, standIns := [], harness := (true, "c1beaf98b258450ee8dabec6dd9396e465fbeca816d961dea85c85d0d7b4bd98"), looks := false }, kinds := [], alts := [], laidByText := true, laidKinds := [.data], laidTests := true, laidLooks := .later }
def TopNetsCardSaid : Prop := Claim7.holds Tryz.pinned (.plain (OpenSpec.ofChange topNetsSpec)) topNetsCard

/-- THE TIED CARD OF 'complinetop.TopKept'. -/
def topKeptCard : Claim7 := { stood := { row := topKeptRow, standIns := [], harness := (true, "c1beaf98b258450ee8dabec6dd9396e465fbeca816d961dea85c85d0d7b4bd98"), looks := false }, kinds := [], alts := [], laidByText := true, laidKinds := [.data], laidTests := true, laidLooks := .later }
def TopKeptCardSaid : Prop := Claim7.holds Tryz.pinned (.plain (OpenSpec.ofChange topKeptSpec)) topKeptCard

/-- THE SECOND FORM's CARD OF 'complinetop.TopShares'. -/
def topSharesUptoCard : Claim7 := { stood := { row := topSharesUptoRow, standIns := [], harness := (true, "c1beaf98b258450ee8dabec6dd9396e465fbeca816d961dea85c85d0d7b4bd98"), looks := false }, kinds := [], alts := [], laidByText := true, laidKinds := [.data], laidTests := true, laidLooks := .later }
def TopSharesUptoCardSaid : Prop := Claim7.holds Tryz.pinned (.plain (OpenSpec.upto topSharesSpec)) topSharesUptoCard

/-- THE SECOND FORM's CARD OF 'complinetop.TopNets'. -/
def topNetsUptoCard : Claim7 := { stood := { row := topNetsUptoRow, standIns := [], harness := (true, "c1beaf98b258450ee8dabec6dd9396e465fbeca816d961dea85c85d0d7b4bd98"), looks := false }, kinds := [], alts := [], laidByText := true, laidKinds := [.data], laidTests := true, laidLooks := .later }
def TopNetsUptoCardSaid : Prop := Claim7.holds Tryz.pinned (.plain (OpenSpec.upto topNetsSpec)) topNetsUptoCard

/-- THE SECOND FORM's CARD OF 'complinetop.TopKept'. -/
def topKeptUptoCard : Claim7 := { stood := { row := topKeptUptoRow, standIns := [], harness := (true, "c1beaf98b258450ee8dabec6dd9396e465fbeca816d961dea85c85d0d7b4bd98"), looks := false }, kinds := [], alts := [], laidByText := true, laidKinds := [.data], laidTests := true, laidLooks := .later }
def TopKeptUptoCardSaid : Prop := Claim7.holds Tryz.pinned (.plain (OpenSpec.upto topKeptSpec)) topKeptUptoCard
end Rows
end Go.Proofs.YtmhohaanddglbaaGreatDoor
