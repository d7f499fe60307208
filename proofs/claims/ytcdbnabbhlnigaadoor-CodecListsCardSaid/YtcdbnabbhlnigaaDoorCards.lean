/-
  DERIVED. GIVEN WITH THE SEED: THE CARDS: each row of YtcdbnabbhlnigaaDoorRows.lean that lists a variable, with what it lists TIED to the program's text (the seventh form; the later family's looks); each row that meets fmt, with fmt's text TOLD by the authors' own Lean function (tested against real Go, not proved from fmt's source: count such statements apart). THE CARD IS WHAT COUNTS. Prove the row's statement (the work); the ties are given (YtcdbnabbhlnigaaDoorTie.lean); close each card by the builder's one call (the guide's Derived/Test/ToyasCard.lean, 'card_holds'). Laid BY PROGRAM, IN A SANDBOX (cutbox-door.mjs). By AI agents, Wed Nov 11 2026. No macro, syntax, notation, axiom, sorry.
-/
import Derived.Test.YtcdbnabbhlnigaaDoorRows
import GoSem.ClaimSeven
namespace Go.Proofs.YtcdbnabbhlnigaaDoor
namespace Rows

/-- THE TIED CARD OF 'complinelaw11.CodecWords'. -/
def codecWordsCard : Claim7 := { stood := { row := codecWordsRow, standIns := [], harness := (true, "a6c2658c4bbb71df0a1a0b409eba55bab08e23a9184530bebeffa009706320c1"), looks := false }, kinds := [], alts := [], laidByText := true, laidKinds := [.data], laidTests := true, laidLooks := .later }
def CodecWordsCardSaid : Prop := Claim7.holds Tryd.pinned (.plain (OpenSpec.ofChange codecWordsSpec)) codecWordsCard

/-- THE TIED CARD OF 'complinelaw11.CodecPuts'. -/
def codecPutsCard : Claim7 := { stood := { row := codecPutsRow, standIns := [], harness := (true, "a6c2658c4bbb71df0a1a0b409eba55bab08e23a9184530bebeffa009706320c1"), looks := false }, kinds := [], alts := [], laidByText := true, laidKinds := [.data], laidTests := true, laidLooks := .later }
def CodecPutsCardSaid : Prop := Claim7.holds Tryd.pinned (.plain (OpenSpec.ofChange codecPutsSpec)) codecPutsCard

/-- THE TIED CARD OF 'complinelaw11.CodecGets'. -/
def codecGetsCard : Claim7 := { stood := { row := codecGetsRow, standIns := [], harness := (true, "a6c2658c4bbb71df0a1a0b409eba55bab08e23a9184530bebeffa009706320c1"), looks := false }, kinds := [], alts := [], laidByText := true, laidKinds := [.data], laidTests := true, laidLooks := .later }
def CodecGetsCardSaid : Prop := Claim7.holds Tryd.pinned (.plain (OpenSpec.ofChange codecGetsSpec)) codecGetsCard

/-- THE TIED CARD OF 'complinelaw11.CodecLists'. -/
def codecListsCard : Claim7 := { stood := { row := codecListsRow, standIns := [], harness := (true, "a6c2658c4bbb71df0a1a0b409eba55bab08e23a9184530bebeffa009706320c1"), looks := false }, kinds := [], alts := [], laidByText := true, laidKinds := [.data], laidTests := true, laidLooks := .later }
def CodecListsCardSaid : Prop := Claim7.holds Tryd.pinned (.plain (OpenSpec.ofChange codecListsSpec)) codecListsCard

/-- THE TIED CARD OF 'complinelaw11.CodecSome'. -/
def codecSomeCard : Claim7 := { stood := { row := codecSomeRow, standIns := [], harness := (true, "a6c2658c4bbb71df0a1a0b409eba55bab08e23a9184530bebeffa009706320c1"), looks := false }, kinds := [], alts := [], laidByText := true, laidKinds := [.data], laidTests := true, laidLooks := .later }
def CodecSomeCardSaid : Prop := Claim7.holds Tryd.pinned (.plain (OpenSpec.ofChange codecSomeSpec)) codecSomeCard

/-- THE SECOND FORM's CARD OF 'complinelaw11.CodecWords'. -/
def codecWordsUptoCard : Claim7 := { stood := { row := codecWordsUptoRow, standIns := [], harness := (true, "a6c2658c4bbb71df0a1a0b409eba55bab08e23a9184530bebeffa009706320c1"), looks := false }, kinds := [], alts := [], laidByText := true, laidKinds := [.data], laidTests := true, laidLooks := .later }
def CodecWordsUptoCardSaid : Prop := Claim7.holds Tryd.pinned (.plain (OpenSpec.upto codecWordsSpec)) codecWordsUptoCard

/-- THE SECOND FORM's CARD OF 'complinelaw11.CodecPuts'. -/
def codecPutsUptoCard : Claim7 := { stood := { row := codecPutsUptoRow, standIns := [], harness := (true, "a6c2658c4bbb71df0a1a0b409eba55bab08e23a9184530bebeffa009706320c1"), looks := false }, kinds := [], alts := [], laidByText := true, laidKinds := [.data], laidTests := true, laidLooks := .later }
def CodecPutsUptoCardSaid : Prop := Claim7.holds Tryd.pinned (.plain (OpenSpec.upto codecPutsSpec)) codecPutsUptoCard

/-- THE SECOND FORM's CARD OF 'complinelaw11.CodecGets'. -/
def codecGetsUptoCard : Claim7 := { stood := { row := codecGetsUptoRow, standIns := [], harness := (true, "a6c2658c4bbb71df0a1a0b409eba55bab08e23a9184530bebeffa009706320c1"), looks := false }, kinds := [], alts := [], laidByText := true, laidKinds := [.data], laidTests := true, laidLooks := .later }
def CodecGetsUptoCardSaid : Prop := Claim7.holds Tryd.pinned (.plain (OpenSpec.upto codecGetsSpec)) codecGetsUptoCard

/-- THE SECOND FORM's CARD OF 'complinelaw11.CodecLists'. -/
def codecListsUptoCard : Claim7 := { stood := { row := codecListsUptoRow, standIns := [], harness := (true, "a6c2658c4bbb71df0a1a0b409eba55bab08e23a9184530bebeffa009706320c1"), looks := false }, kinds := [], alts := [], laidByText := true, laidKinds := [.data], laidTests := true, laidLooks := .later }
def CodecListsUptoCardSaid : Prop := Claim7.holds Tryd.pinned (.plain (OpenSpec.upto codecListsSpec)) codecListsUptoCard

/-- THE SECOND FORM's CARD OF 'complinelaw11.CodecSome'. -/
def codecSomeUptoCard : Claim7 := { stood := { row := codecSomeUptoRow, standIns := [], harness := (true, "a6c2658c4bbb71df0a1a0b409eba55bab08e23a9184530bebeffa009706320c1"), looks := false }, kinds := [], alts := [], laidByText := true, laidKinds := [.data], laidTests := true, laidLooks := .later }
def CodecSomeUptoCardSaid : Prop := Claim7.holds Tryd.pinned (.plain (OpenSpec.upto codecSomeSpec)) codecSomeUptoCard
end Rows
end Go.Proofs.YtcdbnabbhlnigaaDoor
