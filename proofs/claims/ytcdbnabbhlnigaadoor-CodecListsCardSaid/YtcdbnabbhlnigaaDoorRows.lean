/-
  NARROWER THAN 'FOR EVERY INPUT', by the rows' own cells (each row's printed sentence says how): CodecWords: laid · CodecPuts: laid · CodecGets: laid · CodecLists: laid · CodecSome: laid.
  DERIVED. THE GIVEN ROWS OF THIS SEAT. 5 by the template 'for every input the law returns true; each argument reads behind the call as it read before'; 0 by the template 'total and deterministic' (their statements: YtcdbnabbhlnigaaDoorTotals.lean).
  GIVEN WITH THE SEED: the statements are not yours to turn. If you find one false, say at which input.
  Laid BY PROGRAM, IN A SANDBOX (cutbox-rows.mjs): the forced cells as the released guide's own fill.sh prints them over the translation af2ccfb6fd97cf83… (all of the seat's roots in one cut). By AI agents, Wed Nov 11 2026. No macro, syntax, notation, axiom, sorry.
-/
import Derived.Test.YtcdbnabbhlnigaaDoorChecked
import GoSem.Claim
import GoSem.ClaimJoined
import GoSem.ClaimMapViews
import Derived.JoinedTies
import Derived.KernelRfl
namespace Go.Proofs.YtcdbnabbhlnigaaDoor
/- THE CELL 'sum', in the pinned program and in every row, IS THE sha256 OF THE DUMP (.gsa) THAT YtcdbnabbhlnigaaDoorProg.lean LOADS. Nothing in Lean hashes anything: it is a label: what it is worth is what the hold of that sum in a sandbox is worth. -/
noncomputable def Tryd.pinned : Pinned := { name := "ytcdbnabbhlnigaadoor", sum := "af2ccfb6fd97cf834958580bb19f7d43bb6bd1e812e63805d599cbb7db5742cc", checked := Tryd.checked }
namespace Rows
def none {H : Type} : Left H := { results := [], args := [] }

/- WHAT THE LISTED PACKAGE-LEVEL VARIABLES READ AS WHEN THE CALL BEGINS. Each datum BY PROGRAM (the guide's laid-datum.mjs) off the statement by which the dump's own 'gosem.cut.vars' lays the variable. In a bare row this is a premise. The card (YtcdbnabbhlnigaaDoorCards.lean) ties it to the program's text. -/
def laid_compline_codec_words {H : Type} : DataW H := .agg [.lit (.string []), .lit (.string [111, 112, 101, 110]), .lit (.string [116, 114, 97, 100, 101]), .lit (.string [99, 97, 110, 99, 101, 108]), .lit (.string [112, 97, 121]), .lit (.string [100, 101, 108, 105, 118, 101, 114]), .lit (.string [114, 101, 99, 97, 108, 108]), .lit (.string [98, 105, 100]), .lit (.string [116, 111, 112]), .lit (.string [100, 114, 97, 119]), .lit (.string [116, 105, 99, 107])]

/-- 'complinelaw11.CodecWords': WHATEVER THE INPUT: true; the input reads as it did. -/
def codecWordsSpec : ChangeSpec := { name := "codecWords", fn := fun _ => fun
  | [d1, d2] => { results := [.lit (.bool true)], args := [d1, d2] }
  | _ => none }
def codecWordsRow : OpenClaim := { program := "ytcdbnabbhlnigaadoor", sum := "af2ccfb6fd97cf834958580bb19f7d43bb6bd1e812e63805d599cbb7db5742cc", func := "compline/complinelaw11.CodecWords", spec := "codecWords", inPlace := ["internal/abi.NoEscape"], named := ["compline/codec.words"], apart := false, laid := [("compline/codec.words", laid_compline_codec_words)] }
def CodecWordsSaid : Prop := codecWordsRow.holds Tryd.pinned (OpenSpec.ofChange codecWordsSpec)

/-- ITS FALSE NEIGHBOUR: 'it returns false'. Refute it at one input. -/
def codecWordsWrong : ChangeSpec := { name := "codecWords", fn := fun _ => fun
  | [d1, d2] => { results := [.lit (.bool false)], args := [d1, d2] }
  | _ => none }
def CodecWordsWrongFalsely : Prop := codecWordsRow.holds Tryd.pinned (OpenSpec.ofChange codecWordsWrong)

/-- 'complinelaw11.CodecPuts': WHATEVER THE INPUT: true; the input reads as it did. -/
def codecPutsSpec : ChangeSpec := { name := "codecPuts", fn := fun _ => fun
  | [d] => { results := [.lit (.bool true)], args := [d] }
  | _ => none }
def codecPutsRow : OpenClaim := { program := "ytcdbnabbhlnigaadoor", sum := "af2ccfb6fd97cf834958580bb19f7d43bb6bd1e812e63805d599cbb7db5742cc", func := "compline/complinelaw11.CodecPuts", spec := "codecPuts", inPlace := ["internal/abi.NoEscape"], unfollowed := true, recurses := true, named := ["compline/codec.words"], apart := false, laid := [("compline/codec.words", laid_compline_codec_words)] }
def CodecPutsSaid : Prop := codecPutsRow.holds Tryd.pinned (OpenSpec.ofChange codecPutsSpec)

/-- ITS FALSE NEIGHBOUR: 'it returns false'. Refute it at one input. -/
def codecPutsWrong : ChangeSpec := { name := "codecPuts", fn := fun _ => fun
  | [d] => { results := [.lit (.bool false)], args := [d] }
  | _ => none }
def CodecPutsWrongFalsely : Prop := codecPutsRow.holds Tryd.pinned (OpenSpec.ofChange codecPutsWrong)

/-- 'complinelaw11.CodecGets': WHATEVER THE INPUT: true; the input reads as it did. -/
def codecGetsSpec : ChangeSpec := { name := "codecGets", fn := fun _ => fun
  | [d] => { results := [.lit (.bool true)], args := [d] }
  | _ => none }
def codecGetsRow : OpenClaim := { program := "ytcdbnabbhlnigaadoor", sum := "af2ccfb6fd97cf834958580bb19f7d43bb6bd1e812e63805d599cbb7db5742cc", func := "compline/complinelaw11.CodecGets", spec := "codecGets", inPlace := ["internal/abi.NoEscape"], unfollowed := true, recurses := true, named := ["compline/codec.words"], apart := false, laid := [("compline/codec.words", laid_compline_codec_words)] }
def CodecGetsSaid : Prop := codecGetsRow.holds Tryd.pinned (OpenSpec.ofChange codecGetsSpec)

/-- ITS FALSE NEIGHBOUR: 'it returns false'. Refute it at one input. -/
def codecGetsWrong : ChangeSpec := { name := "codecGets", fn := fun _ => fun
  | [d] => { results := [.lit (.bool false)], args := [d] }
  | _ => none }
def CodecGetsWrongFalsely : Prop := codecGetsRow.holds Tryd.pinned (OpenSpec.ofChange codecGetsWrong)

/-- 'complinelaw11.CodecLists': WHATEVER THE INPUT: true; the input reads as it did. -/
def codecListsSpec : ChangeSpec := { name := "codecLists", fn := fun _ => fun
  | [d1, d2] => { results := [.lit (.bool true)], args := [d1, d2] }
  | _ => none }
def codecListsRow : OpenClaim := { program := "ytcdbnabbhlnigaadoor", sum := "af2ccfb6fd97cf834958580bb19f7d43bb6bd1e812e63805d599cbb7db5742cc", func := "compline/complinelaw11.CodecLists", spec := "codecLists", inPlace := ["internal/abi.NoEscape"], unfollowed := true, recurses := true, named := ["compline/codec.words"], apart := false, laid := [("compline/codec.words", laid_compline_codec_words)] }
def CodecListsSaid : Prop := codecListsRow.holds Tryd.pinned (OpenSpec.ofChange codecListsSpec)

/-- ITS FALSE NEIGHBOUR: 'it returns false'. Refute it at one input. -/
def codecListsWrong : ChangeSpec := { name := "codecLists", fn := fun _ => fun
  | [d1, d2] => { results := [.lit (.bool false)], args := [d1, d2] }
  | _ => none }
def CodecListsWrongFalsely : Prop := codecListsRow.holds Tryd.pinned (OpenSpec.ofChange codecListsWrong)

/-- 'complinelaw11.CodecSome': WHATEVER THE INPUT: true; the input reads as it did. -/
def codecSomeSpec : ChangeSpec := { name := "codecSome", fn := fun _ => fun
  | [d] => { results := [.lit (.bool true)], args := [d] }
  | _ => none }
def codecSomeRow : OpenClaim := { program := "ytcdbnabbhlnigaadoor", sum := "af2ccfb6fd97cf834958580bb19f7d43bb6bd1e812e63805d599cbb7db5742cc", func := "compline/complinelaw11.CodecSome", spec := "codecSome", inPlace := ["internal/abi.NoEscape"], unfollowed := true, recurses := true, named := ["compline/codec.words"], apart := false, laid := [("compline/codec.words", laid_compline_codec_words)] }
def CodecSomeSaid : Prop := codecSomeRow.holds Tryd.pinned (OpenSpec.ofChange codecSomeSpec)

/-- ITS FALSE NEIGHBOUR: 'it returns false'. Refute it at one input. -/
def codecSomeWrong : ChangeSpec := { name := "codecSome", fn := fun _ => fun
  | [d] => { results := [.lit (.bool false)], args := [d] }
  | _ => none }
def CodecSomeWrongFalsely : Prop := codecSomeRow.holds Tryd.pinned (OpenSpec.ofChange codecSomeWrong)

/- THE SECOND FORM. 'bulk': how many values and letters a reading holds, each counted each time it is reached (what is shared counts as often as it is met; a slice's spare places count too). A statement '..UptoSaid' is the law's where the arguments, and the package variables that the reading takes, are together of bulk at most 1048576: NARROWER than '..Said'. Prove '..Said' where nothing that the law and all that it calls make is longer than what came in: it says more and counts as full. Else prove '..UptoSaid'. A law counts once. -/
mutual
def uptoBulk {H : Type} : DataW H → Nat
  | .lit (.string bytes) => bytes.length + 1
  | .lit _ => 1
  | .nil => 1
  | .ptr d => uptoBulk d + 1
  | .slice elems spare => uptoBulkAll elems + uptoBulkAll spare + 1
  | .agg parts => uptoBulkAll parts + 1
  | .iface _ d => uptoBulk d + 1
  | .map entries => uptoBulkEntries entries + 1
  | .held _ => 1
def uptoBulkAll {H : Type} : List (DataW H) → Nat
  | [] => 0
  | d :: r => uptoBulk d + uptoBulkAll r
def uptoBulkEntries {H : Type} : List (Lit × DataW H) → Nat
  | [] => 0
  | x :: r => uptoBulkEntry x + uptoBulkEntries r
def uptoBulkEntry {H : Type} : Lit × DataW H → Nat
  | (.string bytes, d) => bytes.length + uptoBulk d + 1
  | (_, d) => uptoBulk d + 1
 end
def uptoSmall : (H : Type) → List (DataW H) → Bool := fun _ ds => decide (uptoBulkAll ds ≤ 1048576)
def OpenSpec.upto (s : _root_.Go.ChangeSpec) : _root_.Go.OpenSpec := { _root_.Go.OpenSpec.ofChange s with cond := some uptoSmall }

/-- 'complinelaw11.CodecWords', WHERE WHAT IT READS IS OF BULK AT MOST 1048576: true; the input reads as it did. -/
def codecWordsUptoRow : OpenClaim := { program := "ytcdbnabbhlnigaadoor", sum := "af2ccfb6fd97cf834958580bb19f7d43bb6bd1e812e63805d599cbb7db5742cc", func := "compline/complinelaw11.CodecWords", spec := "codecWords", inPlace := ["internal/abi.NoEscape"], named := ["compline/codec.words"], apart := false, laid := [("compline/codec.words", laid_compline_codec_words)], narrowed := true }
def CodecWordsUptoSaid : Prop := codecWordsUptoRow.holds Tryd.pinned (OpenSpec.upto codecWordsSpec)

/-- 'complinelaw11.CodecPuts', WHERE WHAT IT READS IS OF BULK AT MOST 1048576: true; the input reads as it did. -/
def codecPutsUptoRow : OpenClaim := { program := "ytcdbnabbhlnigaadoor", sum := "af2ccfb6fd97cf834958580bb19f7d43bb6bd1e812e63805d599cbb7db5742cc", func := "compline/complinelaw11.CodecPuts", spec := "codecPuts", inPlace := ["internal/abi.NoEscape"], unfollowed := true, recurses := true, named := ["compline/codec.words"], apart := false, laid := [("compline/codec.words", laid_compline_codec_words)], narrowed := true }
def CodecPutsUptoSaid : Prop := codecPutsUptoRow.holds Tryd.pinned (OpenSpec.upto codecPutsSpec)

/-- 'complinelaw11.CodecGets', WHERE WHAT IT READS IS OF BULK AT MOST 1048576: true; the input reads as it did. -/
def codecGetsUptoRow : OpenClaim := { program := "ytcdbnabbhlnigaadoor", sum := "af2ccfb6fd97cf834958580bb19f7d43bb6bd1e812e63805d599cbb7db5742cc", func := "compline/complinelaw11.CodecGets", spec := "codecGets", inPlace := ["internal/abi.NoEscape"], unfollowed := true, recurses := true, named := ["compline/codec.words"], apart := false, laid := [("compline/codec.words", laid_compline_codec_words)], narrowed := true }
def CodecGetsUptoSaid : Prop := codecGetsUptoRow.holds Tryd.pinned (OpenSpec.upto codecGetsSpec)

/-- 'complinelaw11.CodecLists', WHERE WHAT IT READS IS OF BULK AT MOST 1048576: true; the input reads as it did. -/
def codecListsUptoRow : OpenClaim := { program := "ytcdbnabbhlnigaadoor", sum := "af2ccfb6fd97cf834958580bb19f7d43bb6bd1e812e63805d599cbb7db5742cc", func := "compline/complinelaw11.CodecLists", spec := "codecLists", inPlace := ["internal/abi.NoEscape"], unfollowed := true, recurses := true, named := ["compline/codec.words"], apart := false, laid := [("compline/codec.words", laid_compline_codec_words)], narrowed := true }
def CodecListsUptoSaid : Prop := codecListsUptoRow.holds Tryd.pinned (OpenSpec.upto codecListsSpec)

/-- 'complinelaw11.CodecSome', WHERE WHAT IT READS IS OF BULK AT MOST 1048576: true; the input reads as it did. -/
def codecSomeUptoRow : OpenClaim := { program := "ytcdbnabbhlnigaadoor", sum := "af2ccfb6fd97cf834958580bb19f7d43bb6bd1e812e63805d599cbb7db5742cc", func := "compline/complinelaw11.CodecSome", spec := "codecSome", inPlace := ["internal/abi.NoEscape"], unfollowed := true, recurses := true, named := ["compline/codec.words"], apart := false, laid := [("compline/codec.words", laid_compline_codec_words)], narrowed := true }
def CodecSomeUptoSaid : Prop := codecSomeUptoRow.holds Tryd.pinned (OpenSpec.upto codecSomeSpec)

end Rows
end Go.Proofs.YtcdbnabbhlnigaaDoor
