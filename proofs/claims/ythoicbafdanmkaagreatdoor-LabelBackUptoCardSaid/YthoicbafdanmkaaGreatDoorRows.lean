/-
  NARROWER THAN 'FOR EVERY INPUT', by the rows' own cells (each row's printed sentence says how): LabelBack: laid · LabelCodes: laid · LabelSplits: laid · LabelStays: laid.
  DERIVED. THE GIVEN ROWS OF THIS SEAT. 4 by the template 'for every input the law returns true; each argument reads behind the call as it read before'; 0 by the template 'total and deterministic' (their statements: YthoicbafdanmkaaGreatDoorTotals.lean).
  GIVEN WITH THE SEED: the statements are not yours to turn. If you find one false, say at which input.
  Laid BY PROGRAM, IN A SANDBOX (cutbox-rows.mjs): the forced cells as the released guide's own fill.sh prints them over the translation da4b6cbac687a851… (all of the seat's roots in one cut). By AI agents, Wed Nov 11 2026. No macro, syntax, notation, axiom, sorry.
-/
import Derived.Test.YthoicbafdanmkaaGreatDoorChecked
import GoSem.PinnedTables
import GoSem.Claim
import GoSem.ClaimJoined
import GoSem.ClaimMapViews
import Derived.JoinedTies
import Derived.KernelRfl
namespace Go.Proofs.YthoicbafdanmkaaGreatDoor
/- THE CELL 'sum', in the pinned program and in every row, IS THE sha256 OF THE DUMP (.gsa) THAT YthoicbafdanmkaaGreatDoorProg.lean LOADS. Nothing in Lean hashes anything: it is a label: what it is worth is what the hold of that sum in a sandbox is worth. -/
noncomputable def Tryz.pinned : Pinned := { name := "ythoicbafdanmkaagreatdoor", sum := "da4b6cbac687a851f3cddca930eef434fd33dead269162fc9c0cab04d520b5a9", checked := Tryz.checked }
namespace Rows
def none {H : Type} : Left H := { results := [], args := [] }

/- WHAT THE LISTED PACKAGE-LEVEL VARIABLES READ AS WHEN THE CALL BEGINS. Each datum BY PROGRAM (the guide's laid-datum.mjs) off the statement by which the dump's own 'gosem.cut.vars' lays the variable. In a bare row this is a premise. The card (YthoicbafdanmkaaGreatDoorCards.lean) ties it to the program's text. -/
def laid_unicode_utf8_acceptRanges {H : Type} : DataW H := .agg [.agg [.lit (.int .u8 128), .lit (.int .u8 191)], .agg [.lit (.int .u8 160), .lit (.int .u8 191)], .agg [.lit (.int .u8 128), .lit (.int .u8 159)], .agg [.lit (.int .u8 144), .lit (.int .u8 191)], .agg [.lit (.int .u8 128), .lit (.int .u8 143)], .agg [.lit (.int .u8 0), .lit (.int .u8 0)], .agg [.lit (.int .u8 0), .lit (.int .u8 0)], .agg [.lit (.int .u8 0), .lit (.int .u8 0)], .agg [.lit (.int .u8 0), .lit (.int .u8 0)], .agg [.lit (.int .u8 0), .lit (.int .u8 0)], .agg [.lit (.int .u8 0), .lit (.int .u8 0)], .agg [.lit (.int .u8 0), .lit (.int .u8 0)], .agg [.lit (.int .u8 0), .lit (.int .u8 0)], .agg [.lit (.int .u8 0), .lit (.int .u8 0)], .agg [.lit (.int .u8 0), .lit (.int .u8 0)], .agg [.lit (.int .u8 0), .lit (.int .u8 0)]]
/-- One of Go's own tables, pinned by name: the form's constant. -/
def laid_unicode_utf8_first : DataW Unit := Go.Pinned.utf8First

/-- 'posternlaw18.LabelBack': WHATEVER THE INPUT: true; the input reads as it did. -/
def labelBackSpec : ChangeSpec := { name := "labelBack", fn := fun _ => fun
  | [d1, d2] => { results := [.lit (.bool true)], args := [d1, d2] }
  | _ => none }
def labelBackRow : OpenClaim := { program := "ythoicbafdanmkaagreatdoor", sum := "da4b6cbac687a851f3cddca930eef434fd33dead269162fc9c0cab04d520b5a9", func := "postern/posternlaw18.LabelBack", spec := "labelBack", inPlace := ["slices.overlaps[rune]"], unfollowed := true, recurses := true, named := ["unicode/utf8.first", "unicode/utf8.acceptRanges"], plainKeys := false, apart := false, laid := [("unicode/utf8.acceptRanges", laid_unicode_utf8_acceptRanges), ("unicode/utf8.first", laid_unicode_utf8_first)] }
def LabelBackSaid : Prop := labelBackRow.holds Tryz.pinned (OpenSpec.ofChange labelBackSpec)

/-- ITS FALSE NEIGHBOUR: 'it returns false'. Refute it at one input. -/
def labelBackWrong : ChangeSpec := { name := "labelBack", fn := fun _ => fun
  | [d1, d2] => { results := [.lit (.bool false)], args := [d1, d2] }
  | _ => none }
def LabelBackWrongFalsely : Prop := labelBackRow.holds Tryz.pinned (OpenSpec.ofChange labelBackWrong)

/-- 'posternlaw18.LabelCodes': WHATEVER THE INPUT: true; the input reads as it did. -/
def labelCodesSpec : ChangeSpec := { name := "labelCodes", fn := fun _ => fun
  | [d] => { results := [.lit (.bool true)], args := [d] }
  | _ => none }
def labelCodesRow : OpenClaim := { program := "ythoicbafdanmkaagreatdoor", sum := "da4b6cbac687a851f3cddca930eef434fd33dead269162fc9c0cab04d520b5a9", func := "postern/posternlaw18.LabelCodes", spec := "labelCodes", inPlace := ["slices.overlaps[rune]"], unfollowed := true, recurses := true, named := ["unicode/utf8.first", "unicode/utf8.acceptRanges"], plainKeys := false, apart := false, laid := [("unicode/utf8.acceptRanges", laid_unicode_utf8_acceptRanges), ("unicode/utf8.first", laid_unicode_utf8_first)] }
def LabelCodesSaid : Prop := labelCodesRow.holds Tryz.pinned (OpenSpec.ofChange labelCodesSpec)

/-- ITS FALSE NEIGHBOUR: 'it returns false'. Refute it at one input. -/
def labelCodesWrong : ChangeSpec := { name := "labelCodes", fn := fun _ => fun
  | [d] => { results := [.lit (.bool false)], args := [d] }
  | _ => none }
def LabelCodesWrongFalsely : Prop := labelCodesRow.holds Tryz.pinned (OpenSpec.ofChange labelCodesWrong)

/-- 'posternlaw18.LabelSplits': WHATEVER THE INPUT: true; the input reads as it did. -/
def labelSplitsSpec : ChangeSpec := { name := "labelSplits", fn := fun _ => fun
  | [d1, d2] => { results := [.lit (.bool true)], args := [d1, d2] }
  | _ => none }
def labelSplitsRow : OpenClaim := { program := "ythoicbafdanmkaagreatdoor", sum := "da4b6cbac687a851f3cddca930eef434fd33dead269162fc9c0cab04d520b5a9", func := "postern/posternlaw18.LabelSplits", spec := "labelSplits", inPlace := ["slices.overlaps[rune]"], unfollowed := true, recurses := true, named := ["unicode/utf8.first", "unicode/utf8.acceptRanges"], plainKeys := false, apart := false, laid := [("unicode/utf8.acceptRanges", laid_unicode_utf8_acceptRanges), ("unicode/utf8.first", laid_unicode_utf8_first)] }
def LabelSplitsSaid : Prop := labelSplitsRow.holds Tryz.pinned (OpenSpec.ofChange labelSplitsSpec)

/-- ITS FALSE NEIGHBOUR: 'it returns false'. Refute it at one input. -/
def labelSplitsWrong : ChangeSpec := { name := "labelSplits", fn := fun _ => fun
  | [d1, d2] => { results := [.lit (.bool false)], args := [d1, d2] }
  | _ => none }
def LabelSplitsWrongFalsely : Prop := labelSplitsRow.holds Tryz.pinned (OpenSpec.ofChange labelSplitsWrong)

/-- 'posternlaw18.LabelStays': WHATEVER THE INPUT: true; the input reads as it did. -/
def labelStaysSpec : ChangeSpec := { name := "labelStays", fn := fun _ => fun
  | [d1, d2, d3] => { results := [.lit (.bool true)], args := [d1, d2, d3] }
  | _ => none }
def labelStaysRow : OpenClaim := { program := "ythoicbafdanmkaagreatdoor", sum := "da4b6cbac687a851f3cddca930eef434fd33dead269162fc9c0cab04d520b5a9", func := "postern/posternlaw18.LabelStays", spec := "labelStays", inPlace := ["slices.overlaps[rune]"], unfollowed := true, recurses := true, named := ["unicode/utf8.first", "unicode/utf8.acceptRanges"], plainKeys := false, apart := false, laid := [("unicode/utf8.acceptRanges", laid_unicode_utf8_acceptRanges), ("unicode/utf8.first", laid_unicode_utf8_first)] }
def LabelStaysSaid : Prop := labelStaysRow.holds Tryz.pinned (OpenSpec.ofChange labelStaysSpec)

/-- ITS FALSE NEIGHBOUR: 'it returns false'. Refute it at one input. -/
def labelStaysWrong : ChangeSpec := { name := "labelStays", fn := fun _ => fun
  | [d1, d2, d3] => { results := [.lit (.bool false)], args := [d1, d2, d3] }
  | _ => none }
def LabelStaysWrongFalsely : Prop := labelStaysRow.holds Tryz.pinned (OpenSpec.ofChange labelStaysWrong)

/- THE SECOND FORM. 'bulk': how many values and letters a reading holds, each counted each time it is reached (what is shared counts as often as it is met; a slice's spare places count too). A statement '..UptoSaid' is the law's where the arguments, and the package variables that the reading takes, are together of bulk at most 1048576: NARROWER than '..Said'. Prove '..Said' where nothing that the law and all that it calls make is longer than what came in: it says more and counts as full. Else prove '..UptoSaid'. A law counts once. -/
mutual
def uptoBulk {H : Type} : DataW H → Nat
  | .lit (.string bytes) => bytes.length + 1
  | .lit _ => 1
  | .nil => 1
  | .ptr d => uptoBulk d + 1
  | .slice elems spare => uptoBulkAll elems + uptoBulkAll spare + 1
  | .agg parts => uptoBulkAll parts + 1
  | .iface _ d => uptoBulk d + 1
  | .map entries => uptoBulkEntries entries + 1
  | .held _ => 1
def uptoBulkAll {H : Type} : List (DataW H) → Nat
  | [] => 0
  | d :: r => uptoBulk d + uptoBulkAll r
def uptoBulkEntries {H : Type} : List (Lit × DataW H) → Nat
  | [] => 0
  | x :: r => uptoBulkEntry x + uptoBulkEntries r
def uptoBulkEntry {H : Type} : Lit × DataW H → Nat
  | (.string bytes, d) => bytes.length + uptoBulk d + 1
  | (_, d) => uptoBulk d + 1
 end
def uptoSmall : (H : Type) → List (DataW H) → Bool := fun _ ds => decide (uptoBulkAll ds ≤ 1048576)
def OpenSpec.upto (s : _root_.Go.ChangeSpec) : _root_.Go.OpenSpec := { _root_.Go.OpenSpec.ofChange s with cond := some uptoSmall }

/-- 'posternlaw18.LabelBack', WHERE WHAT IT READS IS OF BULK AT MOST 1048576: true; the input reads as it did. -/
def labelBackUptoRow : OpenClaim := { program := "ythoicbafdanmkaagreatdoor", sum := "da4b6cbac687a851f3cddca930eef434fd33dead269162fc9c0cab04d520b5a9", func := "postern/posternlaw18.LabelBack", spec := "labelBack", inPlace := ["slices.overlaps[rune]"], unfollowed := true, recurses := true, named := ["unicode/utf8.first", "unicode/utf8.acceptRanges"], plainKeys := false, apart := false, laid := [("unicode/utf8.acceptRanges", laid_unicode_utf8_acceptRanges), ("unicode/utf8.first", laid_unicode_utf8_first)], narrowed := true }
def LabelBackUptoSaid : Prop := labelBackUptoRow.holds Tryz.pinned (OpenSpec.upto labelBackSpec)

/-- 'posternlaw18.LabelCodes', WHERE WHAT IT READS IS OF BULK AT MOST 1048576: true; the input reads as it did. -/
def labelCodesUptoRow : OpenClaim := { program := "ythoicbafdanmkaagreatdoor", sum := "da4b6cbac687a851f3cddca930eef434fd33dead269162fc9c0cab04d520b5a9", func := "postern/posternlaw18.LabelCodes", spec := "labelCodes", inPlace := ["slices.overlaps[rune]"], unfollowed := true, recurses := true, named := ["unicode/utf8.first", "unicode/utf8.acceptRanges"], plainKeys := false, apart := false, laid := [("unicode/utf8.acceptRanges", laid_unicode_utf8_acceptRanges), ("unicode/utf8.first", laid_unicode_utf8_first)], narrowed := true }
def LabelCodesUptoSaid : Prop := labelCodesUptoRow.holds Tryz.pinned (OpenSpec.upto labelCodesSpec)

/-- 'posternlaw18.LabelSplits', WHERE WHAT IT READS IS OF BULK AT MOST 1048576: true; the input reads as it did. -/
def labelSplitsUptoRow : OpenClaim := { program := "ythoicbafdanmkaagreatdoor", sum := "da4b6cbac687a851f3cddca930eef434fd33dead269162fc9c0cab04d520b5a9", func := "postern/posternlaw18.LabelSplits", spec := "labelSplits", inPlace := ["slices.overlaps[rune]"], unfollowed := true, recurses := true, named := ["unicode/utf8.first", "unicode/utf8.acceptRanges"], plainKeys := false, apart := false, laid := [("unicode/utf8.acceptRanges", laid_unicode_utf8_acceptRanges), ("unicode/utf8.first", laid_unicode_utf8_first)], narrowed := true }
def LabelSplitsUptoSaid : Prop := labelSplitsUptoRow.holds Tryz.pinned (OpenSpec.upto labelSplitsSpec)

/-- 'posternlaw18.LabelStays', WHERE WHAT IT READS IS OF BULK AT MOST 1048576: true; the input reads as it did. -/
def labelStaysUptoRow : OpenClaim := { program := "ythoicbafdanmkaagreatdoor", sum := "da4b6cbac687a851f3cddca930eef434fd33dead269162fc9c0cab04d520b5a9", func := "postern/posternlaw18.LabelStays", spec := "labelStays", inPlace := ["slices.overlaps[rune]"], unfollowed := true, recurses := true, named := ["unicode/utf8.first", "unicode/utf8.acceptRanges"], plainKeys := false, apart := false, laid := [("unicode/utf8.acceptRanges", laid_unicode_utf8_acceptRanges), ("unicode/utf8.first", laid_unicode_utf8_first)], narrowed := true }
def LabelStaysUptoSaid : Prop := labelStaysUptoRow.holds Tryz.pinned (OpenSpec.upto labelStaysSpec)

end Rows
end Go.Proofs.YthoicbafdanmkaaGreatDoor
