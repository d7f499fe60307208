/-
  NARROWER THAN 'FOR EVERY INPUT', by the rows' own cells (each row's printed sentence says how): TopShares: laid · TopNets: laid · TopKept: laid.
  DERIVED. THE GIVEN ROWS OF THIS SEAT. 3 by the template 'for every input the law returns true; each argument reads behind the call as it read before'; 0 by the template 'total and deterministic' (their statements: YtmhohaanddglbaaGreatDoorTotals.lean).
  GIVEN WITH THE SEED: the statements are not yours to turn. If you find one false, say at which input.
  Laid BY PROGRAM, IN A SANDBOX (cutbox-rows.mjs): the forced cells as the released guide's own fill.sh prints them over the translation d9c1b69a8cefef34… (all of the seat's roots in one cut). By AI agents, Wed Nov 11 2026. No macro, syntax, notation, axiom, sorry.
-/
import Derived.Test.YtmhohaanddglbaaGreatDoorChecked
import GoSem.Claim
import GoSem.ClaimJoined
import GoSem.ClaimMapViews
import Derived.JoinedTies
import Derived.KernelRfl
namespace Go.Proofs.YtmhohaanddglbaaGreatDoor
/- THE CELL 'sum', in the pinned program and in every row, IS THE sha256 OF THE DUMP (.gsa) THAT YtmhohaanddglbaaGreatDoorProg.lean LOADS. Nothing in Lean hashes anything: it is a label: what it is worth is what the hold of that sum in a sandbox is worth. -/
noncomputable def Tryz.pinned : Pinned := { name := "ytmhohaanddglbaagreatdoor", sum := "d9c1b69a8cefef342ea9a4690dc9c6e172df88d2ee5c03149a48b0c418769ed2", checked := Tryz.checked }
namespace Rows
def none {H : Type} : Left H := { results := [], args := [] }

/- WHAT THE LISTED PACKAGE-LEVEL VARIABLES READ AS WHEN THE CALL BEGINS. Each datum BY PROGRAM (the guide's laid-datum.mjs) off the statement by which the dump's own 'gosem.cut.vars' lays the variable. In a bare row this is a premise. The card (YtmhohaanddglbaaGreatDoorCards.lean) ties it to the program's text. -/
def laid_compline_calendar_words {H : Type} : DataW H := .agg [.lit (.string [115, 104, 117, 116]), .lit (.string [116, 114, 97, 100, 101]), .lit (.string [102, 117, 110, 100]), .lit (.string [98, 117, 121, 105, 110]), .lit (.string [112, 97, 121, 111, 117, 116]), .lit (.string [99, 108, 111, 115, 101, 100])]

/-- 'complinetop.TopShares': WHATEVER THE INPUT: true; the input reads as it did. -/
def topSharesSpec : ChangeSpec := { name := "topShares", fn := fun _ => fun
  | [d1, d2] => { results := [.lit (.bool true)], args := [d1, d2] }
  | _ => none }
def topSharesRow : OpenClaim := { program := "ytmhohaanddglbaagreatdoor", sum := "d9c1b69a8cefef342ea9a4690dc9c6e172df88d2ee5c03149a48b0c418769ed2", func := "compline/complinetop.TopShares", spec := "topShares", inPlace := ["math/bits.Add64", "slices.overlaps[compline/table.Row[int]]", "slices.overlaps[compline/table.Row[compline/api.Trade]]", "slices.overlaps[compline/table.Row[compline/api.Hold]]"], unfollowed := true, recurses := true, named := ["math/bits.divideError", "math/bits.overflowError", "compline/calendar.words"], plainKeys := false, apart := false, laid := [("compline/calendar.words", laid_compline_calendar_words)] }
def TopSharesSaid : Prop := topSharesRow.holds Tryz.pinned (OpenSpec.ofChange topSharesSpec)

/-- ITS FALSE NEIGHBOUR: 'it returns false'. Refute it at one input. -/
def topSharesWrong : ChangeSpec := { name := "topShares", fn := fun _ => fun
  | [d1, d2] => { results := [.lit (.bool false)], args := [d1, d2] }
  | _ => none }
def TopSharesWrongFalsely : Prop := topSharesRow.holds Tryz.pinned (OpenSpec.ofChange topSharesWrong)

/-- 'complinetop.TopNets': WHATEVER THE INPUT: true; the input reads as it did. -/
def topNetsSpec : ChangeSpec := { name := "topNets", fn := fun _ => fun
  | [d1, d2] => { results := [.lit (.bool true)], args := [d1, d2] }
  | _ => none }
def topNetsRow : OpenClaim := { program := "ytmhohaanddglbaagreatdoor", sum := "d9c1b69a8cefef342ea9a4690dc9c6e172df88d2ee5c03149a48b0c418769ed2", func := "compline/complinetop.TopNets", spec := "topNets", inPlace := ["math/bits.Add64", "slices.overlaps[compline/table.Row[int]]", "slices.overlaps[compline/table.Row[compline/api.Trade]]", "slices.overlaps[compline/table.Row[compline/api.Hold]]"], unfollowed := true, recurses := true, named := ["math/bits.divideError", "math/bits.overflowError", "compline/calendar.words"], plainKeys := false, apart := false, laid := [("compline/calendar.words", laid_compline_calendar_words)] }
def TopNetsSaid : Prop := topNetsRow.holds Tryz.pinned (OpenSpec.ofChange topNetsSpec)

/-- ITS FALSE NEIGHBOUR: 'it returns false'. Refute it at one input. -/
def topNetsWrong : ChangeSpec := { name := "topNets", fn := fun _ => fun
  | [d1, d2] => { results := [.lit (.bool false)], args := [d1, d2] }
  | _ => none }
def TopNetsWrongFalsely : Prop := topNetsRow.holds Tryz.pinned (OpenSpec.ofChange topNetsWrong)

/-- 'complinetop.TopKept': WHATEVER THE INPUT: true; the input reads as it did. -/
def topKeptSpec : ChangeSpec := { name := "topKept", fn := fun _ => fun
  | [d1, d2] => { results := [.lit (.bool true)], args := [d1, d2] }
  | _ => none }
def topKeptRow : OpenClaim := { program := "ytmhohaanddglbaagreatdoor", sum := "d9c1b69a8cefef342ea9a4690dc9c6e172df88d2ee5c03149a48b0c418769ed2", func := "compline/complinetop.TopKept", spec := "topKept", inPlace := ["math/bits.Add64", "slices.overlaps[compline/table.Row[int]]", "slices.overlaps[compline/table.Row[compline/api.Trade]]", "slices.overlaps[compline/table.Row[compline/api.Hold]]"], unfollowed := true, recurses := true, named := ["math/bits.divideError", "math/bits.overflowError", "compline/calendar.words"], plainKeys := false, apart := false, laid := [("compline/calendar.words", laid_compline_calendar_words)] }
def TopKeptSaid : Prop := topKeptRow.holds Tryz.pinned (OpenSpec.ofChange topKeptSpec)

/-- ITS FALSE NEIGHBOUR: 'it returns false'. Refute it at one input. -/
def topKeptWrong : ChangeSpec := { name := "topKept", fn := fun _ => fun
  | [d1, d2] => { results := [.lit (.bool false)], args := [d1, d2] }
  | _ => none }
def TopKeptWrongFalsely : Prop := topKeptRow.holds Tryz.pinned (OpenSpec.ofChange topKeptWrong)

/- THE SECOND FORM. 'bulk': how many values and letters a reading holds, each counted each time it is reached (what is shared counts as often as it is met; a slice's spare places count too). A statement '..UptoSaid' is the law's where the arguments, and the package variables that the reading takes, are together of bulk at most 1048576: NARROWER than '..Said'. Prove '..Said' where nothing that the law and all that it calls make is longer than what came in: it says more and counts as full. Else prove '..UptoSaid'. A law counts once. -/
mutual
def uptoBulk {H : Type} : DataW H → Nat
  | .lit (.string bytes) => bytes.length + 1
  | .lit _ => 1
  | .nil => 1
  | .ptr d => uptoBulk d + 1
  | .slice elems spare => uptoBulkAll elems + uptoBulkAll spare + 1
  | .agg parts => uptoBulkAll parts + 1
  | .iface _ d => uptoBulk d + 1
  | .map entries => uptoBulkEntries entries + 1
  | .held _ => 1
def uptoBulkAll {H : Type} : List (DataW H) → Nat
  | [] => 0
  | d :: r => uptoBulk d + uptoBulkAll r
def uptoBulkEntries {H : Type} : List (Lit × DataW H) → Nat
  | [] => 0
  | x :: r => uptoBulkEntry x + uptoBulkEntries r
def uptoBulkEntry {H : Type} : Lit × DataW H → Nat
  | (.string bytes, d) => bytes.length + uptoBulk d + 1
  | (_, d) => uptoBulk d + 1
 end
def uptoSmall : (H : Type) → List (DataW H) → Bool := fun _ ds => decide (uptoBulkAll ds ≤ 1048576)
def OpenSpec.upto (s : _root_.Go.ChangeSpec) : _root_.Go.OpenSpec := { _root_.Go.OpenSpec.ofChange s with cond := some uptoSmall }

/-- 'complinetop.TopShares', WHERE WHAT IT READS IS OF BULK AT MOST 1048576: true; the input reads as it did. -/
def topSharesUptoRow : OpenClaim := { program := "ytmhohaanddglbaagreatdoor", sum := "d9c1b69a8cefef342ea9a4690dc9c6e172df88d2ee5c03149a48b0c418769ed2", func := "compline/complinetop.TopShares", spec := "topShares", inPlace := ["math/bits.Add64", "slices.overlaps[compline/table.Row[int]]", "slices.overlaps[compline/table.Row[compline/api.Trade]]", "slices.overlaps[compline/table.Row[compline/api.Hold]]"], unfollowed := true, recurses := true, named := ["math/bits.divideError", "math/bits.overflowError", "compline/calendar.words"], plainKeys := false, apart := false, laid := [("compline/calendar.words", laid_compline_calendar_words)], narrowed := true }
def TopSharesUptoSaid : Prop := topSharesUptoRow.holds Tryz.pinned (OpenSpec.upto topSharesSpec)

/-- 'complinetop.TopNets', WHERE WHAT IT READS IS OF BULK AT MOST 1048576: true; the input reads as it did. -/
def topNetsUptoRow : OpenClaim := { program := "ytmhohaanddglbaagreatdoor", sum := "d9c1b69a8cefef342ea9a4690dc9c6e172df88d2ee5c03149a48b0c418769ed2", func := "compline/complinetop.TopNets", spec := "topNets", inPlace := ["math/bits.Add64", "slices.overlaps[compline/table.Row[int]]", "slices.overlaps[compline/table.Row[compline/api.Trade]]", "slices.overlaps[compline/table.Row[compline/api.Hold]]"], unfollowed := true, recurses := true, named := ["math/bits.divideError", "math/bits.overflowError", "compline/calendar.words"], plainKeys := false, apart := false, laid := [("compline/calendar.words", laid_compline_calendar_words)], narrowed := true }
def TopNetsUptoSaid : Prop := topNetsUptoRow.holds Tryz.pinned (OpenSpec.upto topNetsSpec)

/-- 'complinetop.TopKept', WHERE WHAT IT READS IS OF BULK AT MOST 1048576: true; the input reads as it did. -/
def topKeptUptoRow : OpenClaim := { program := "ytmhohaanddglbaagreatdoor", sum := "d9c1b69a8cefef342ea9a4690dc9c6e172df88d2ee5c03149a48b0c418769ed2", func := "compline/complinetop.TopKept", spec := "topKept", inPlace := ["math/bits.Add64", "slices.overlaps[compline/table.Row[int]]", "slices.overlaps[compline/table.Row[compline/api.Trade]]", "slices.overlaps[compline/table.Row[compline/api.Hold]]"], unfollowed := true, recurses := true, named := ["math/bits.divideError", "math/bits.overflowError", "compline/calendar.words"], plainKeys := false, apart := false, laid := [("compline/calendar.words", laid_compline_calendar_words)], narrowed := true }
def TopKeptUptoSaid : Prop := topKeptUptoRow.holds Tryz.pinned (OpenSpec.upto topKeptSpec)

end Rows
end Go.Proofs.YtmhohaanddglbaaGreatDoor
