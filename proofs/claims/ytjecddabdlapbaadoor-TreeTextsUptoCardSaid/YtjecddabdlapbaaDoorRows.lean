/-
  NARROWER THAN 'FOR EVERY INPUT', by the rows' own cells (each row's printed sentence says how): SetSays: laid · PlaceWheres: laid · PlaceBacks: laid · QuoteClasses: laid · TreeTexts: loops, laid · ShowPrints: loops, laid · BookPrints: laid · GramPrints: loops, laid · QuoteDecs: laid · BookReads: laid.
  DERIVED. THE GIVEN ROWS OF THIS SEAT. 10 by the template 'for every input the law returns true; each argument reads behind the call as it read before'; 0 by the template 'total and deterministic' (their statements: YtjecddabdlapbaaDoorTotals.lean).
  GIVEN WITH THE SEED: the statements are not yours to turn. If you find one false, say at which input.
  Laid BY PROGRAM, IN A SANDBOX (cutbox-rows.mjs): the forced cells as the released guide's own fill.sh prints them over the translation 529c20cb33fca926… (all of the seat's roots in one cut). By AI agents, Wed Nov 11 2026. No macro, syntax, notation, axiom, sorry.
-/
import Derived.Test.YtjecddabdlapbaaDoorChecked
import GoSem.PinnedTables
import GoSem.Claim
import GoSem.ClaimJoined
import GoSem.ClaimMapViews
import Derived.JoinedTies
import Derived.KernelRfl
namespace Go.Proofs.YtjecddabdlapbaaDoor
/- THE CELL 'sum', in the pinned program and in every row, IS THE sha256 OF THE DUMP (.gsa) THAT YtjecddabdlapbaaDoorProg.lean LOADS. Nothing in Lean hashes anything: it is a label: what it is worth is what the hold of that sum in a sandbox is worth. -/
noncomputable def Tryd.pinned : Pinned := { name := "ytjecddabdlapbaadoor", sum := "529c20cb33fca92675933063a0ea7c21ab51af25bb064eff03c822a3d3953f9a", checked := Tryd.checked }
namespace Rows
def none {H : Type} : Left H := { results := [], args := [] }

/- WHAT THE LISTED PACKAGE-LEVEL VARIABLES READ AS WHEN THE CALL BEGINS. Each datum BY PROGRAM (the guide's laid-datum.mjs) off the statement by which the dump's own 'gosem.cut.vars' lays the variable. In a bare row this is a premise. The card (YtjecddabdlapbaaDoorCards.lean) ties it to the program's text. -/
def laid_math_bits_deBruijn64tab {H : Type} : DataW H := .agg [.lit (.int .u8 0), .lit (.int .u8 1), .lit (.int .u8 56), .lit (.int .u8 2), .lit (.int .u8 57), .lit (.int .u8 49), .lit (.int .u8 28), .lit (.int .u8 3), .lit (.int .u8 61), .lit (.int .u8 58), .lit (.int .u8 42), .lit (.int .u8 50), .lit (.int .u8 38), .lit (.int .u8 29), .lit (.int .u8 17), .lit (.int .u8 4), .lit (.int .u8 62), .lit (.int .u8 47), .lit (.int .u8 59), .lit (.int .u8 36), .lit (.int .u8 45), .lit (.int .u8 43), .lit (.int .u8 51), .lit (.int .u8 22), .lit (.int .u8 53), .lit (.int .u8 39), .lit (.int .u8 33), .lit (.int .u8 30), .lit (.int .u8 24), .lit (.int .u8 18), .lit (.int .u8 12), .lit (.int .u8 5), .lit (.int .u8 63), .lit (.int .u8 55), .lit (.int .u8 48), .lit (.int .u8 27), .lit (.int .u8 60), .lit (.int .u8 41), .lit (.int .u8 37), .lit (.int .u8 16), .lit (.int .u8 46), .lit (.int .u8 35), .lit (.int .u8 44), .lit (.int .u8 21), .lit (.int .u8 52), .lit (.int .u8 32), .lit (.int .u8 23), .lit (.int .u8 11), .lit (.int .u8 54), .lit (.int .u8 26), .lit (.int .u8 40), .lit (.int .u8 15), .lit (.int .u8 34), .lit (.int .u8 20), .lit (.int .u8 31), .lit (.int .u8 10), .lit (.int .u8 25), .lit (.int .u8 14), .lit (.int .u8 19), .lit (.int .u8 9), .lit (.int .u8 13), .lit (.int .u8 8), .lit (.int .u8 7), .lit (.int .u8 6)]
def laid_unicode_utf8_acceptRanges {H : Type} : DataW H := .agg [.agg [.lit (.int .u8 128), .lit (.int .u8 191)], .agg [.lit (.int .u8 160), .lit (.int .u8 191)], .agg [.lit (.int .u8 128), .lit (.int .u8 159)], .agg [.lit (.int .u8 144), .lit (.int .u8 191)], .agg [.lit (.int .u8 128), .lit (.int .u8 143)], .agg [.lit (.int .u8 0), .lit (.int .u8 0)], .agg [.lit (.int .u8 0), .lit (.int .u8 0)], .agg [.lit (.int .u8 0), .lit (.int .u8 0)], .agg [.lit (.int .u8 0), .lit (.int .u8 0)], .agg [.lit (.int .u8 0), .lit (.int .u8 0)], .agg [.lit (.int .u8 0), .lit (.int .u8 0)], .agg [.lit (.int .u8 0), .lit (.int .u8 0)], .agg [.lit (.int .u8 0), .lit (.int .u8 0)], .agg [.lit (.int .u8 0), .lit (.int .u8 0)], .agg [.lit (.int .u8 0), .lit (.int .u8 0)], .agg [.lit (.int .u8 0), .lit (.int .u8 0)]]
/-- One of Go's own tables, pinned by name: the form's constant. -/
def laid_unicode_utf8_first : DataW Unit := Go.Pinned.utf8First
def laid_math_bits_deBruijn32tab {H : Type} : DataW H := .agg [.lit (.int .u8 0), .lit (.int .u8 1), .lit (.int .u8 28), .lit (.int .u8 2), .lit (.int .u8 29), .lit (.int .u8 14), .lit (.int .u8 24), .lit (.int .u8 3), .lit (.int .u8 30), .lit (.int .u8 22), .lit (.int .u8 20), .lit (.int .u8 15), .lit (.int .u8 25), .lit (.int .u8 17), .lit (.int .u8 4), .lit (.int .u8 8), .lit (.int .u8 31), .lit (.int .u8 27), .lit (.int .u8 13), .lit (.int .u8 23), .lit (.int .u8 21), .lit (.int .u8 19), .lit (.int .u8 16), .lit (.int .u8 7), .lit (.int .u8 26), .lit (.int .u8 12), .lit (.int .u8 18), .lit (.int .u8 6), .lit (.int .u8 11), .lit (.int .u8 5), .lit (.int .u8 10), .lit (.int .u8 9)]
def laid_internal_strconv_uint64pow10 {H : Type} : DataW H := .agg [.lit (.int .u64 1), .lit (.int .u64 10), .lit (.int .u64 100), .lit (.int .u64 1000), .lit (.int .u64 10000), .lit (.int .u64 100000), .lit (.int .u64 1000000), .lit (.int .u64 10000000), .lit (.int .u64 100000000), .lit (.int .u64 1000000000), .lit (.int .u64 10000000000), .lit (.int .u64 100000000000), .lit (.int .u64 1000000000000), .lit (.int .u64 10000000000000), .lit (.int .u64 100000000000000), .lit (.int .u64 1000000000000000), .lit (.int .u64 10000000000000000), .lit (.int .u64 100000000000000000), .lit (.int .u64 1000000000000000000), .lit (.int .u64 10000000000000000000)]
def laid_strconv_ErrRange {H : Type} : DataW H := .iface "*errors.errorString" (.ptr (.agg [.lit (.string [118, 97, 108, 117, 101, 32, 111, 117, 116, 32, 111, 102, 32, 114, 97, 110, 103, 101])]))
def laid_strconv_ErrSyntax {H : Type} : DataW H := .iface "*errors.errorString" (.ptr (.agg [.lit (.string [105, 110, 118, 97, 108, 105, 100, 32, 115, 121, 110, 116, 97, 120])]))

/-- 'chafflaw.SetSays': WHATEVER THE INPUT: true; the input reads as it did. -/
def setSaysSpec : ChangeSpec := { name := "setSays", fn := fun _ => fun
  | [d1, d2, d3, d4, d5] => { results := [.lit (.bool true)], args := [d1, d2, d3, d4, d5] }
  | _ => none }
def setSaysRow : OpenClaim := { program := "ytjecddabdlapbaadoor", sum := "529c20cb33fca92675933063a0ea7c21ab51af25bb064eff03c822a3d3953f9a", func := "chaffcutter/chafflaw.SetSays", spec := "setSays", unfollowed := true, recurses := true, named := ["math/bits.deBruijn64tab"], apart := false, laid := [("math/bits.deBruijn64tab", laid_math_bits_deBruijn64tab)] }
def SetSaysSaid : Prop := setSaysRow.holds Tryd.pinned (OpenSpec.ofChange setSaysSpec)

/-- ITS FALSE NEIGHBOUR: 'it returns false'. Refute it at one input. -/
def setSaysWrong : ChangeSpec := { name := "setSays", fn := fun _ => fun
  | [d1, d2, d3, d4, d5] => { results := [.lit (.bool false)], args := [d1, d2, d3, d4, d5] }
  | _ => none }
def SetSaysWrongFalsely : Prop := setSaysRow.holds Tryd.pinned (OpenSpec.ofChange setSaysWrong)

/-- 'chafflaw.PlaceWheres': WHATEVER THE INPUT: true; the input reads as it did. -/
def placeWheresSpec : ChangeSpec := { name := "placeWheres", fn := fun _ => fun
  | [d1, d2] => { results := [.lit (.bool true)], args := [d1, d2] }
  | _ => none }
def placeWheresRow : OpenClaim := { program := "ytjecddabdlapbaadoor", sum := "529c20cb33fca92675933063a0ea7c21ab51af25bb064eff03c822a3d3953f9a", func := "chaffcutter/chafflaw.PlaceWheres", spec := "placeWheres", inPlace := ["internal/bytealg.CountString", "internal/bytealg.IndexByteString", "internal/bytealg.IndexString"], named := ["internal/bytealg.MaxLen", "unicode/utf8.first", "unicode/utf8.acceptRanges"], apart := false, laid := [("unicode/utf8.acceptRanges", laid_unicode_utf8_acceptRanges), ("unicode/utf8.first", laid_unicode_utf8_first)] }
def PlaceWheresSaid : Prop := placeWheresRow.holds Tryd.pinned (OpenSpec.ofChange placeWheresSpec)

/-- ITS FALSE NEIGHBOUR: 'it returns false'. Refute it at one input. -/
def placeWheresWrong : ChangeSpec := { name := "placeWheres", fn := fun _ => fun
  | [d1, d2] => { results := [.lit (.bool false)], args := [d1, d2] }
  | _ => none }
def PlaceWheresWrongFalsely : Prop := placeWheresRow.holds Tryd.pinned (OpenSpec.ofChange placeWheresWrong)

/-- 'chafflaw.PlaceBacks': WHATEVER THE INPUT: true; the input reads as it did. -/
def placeBacksSpec : ChangeSpec := { name := "placeBacks", fn := fun _ => fun
  | [d1, d2] => { results := [.lit (.bool true)], args := [d1, d2] }
  | _ => none }
def placeBacksRow : OpenClaim := { program := "ytjecddabdlapbaadoor", sum := "529c20cb33fca92675933063a0ea7c21ab51af25bb064eff03c822a3d3953f9a", func := "chaffcutter/chafflaw.PlaceBacks", spec := "placeBacks", inPlace := ["internal/bytealg.IndexByteString", "internal/bytealg.CountString", "internal/bytealg.IndexString"], named := ["unicode/utf8.first", "unicode/utf8.acceptRanges", "internal/bytealg.MaxLen"], apart := false, laid := [("unicode/utf8.acceptRanges", laid_unicode_utf8_acceptRanges), ("unicode/utf8.first", laid_unicode_utf8_first)] }
def PlaceBacksSaid : Prop := placeBacksRow.holds Tryd.pinned (OpenSpec.ofChange placeBacksSpec)

/-- ITS FALSE NEIGHBOUR: 'it returns false'. Refute it at one input. -/
def placeBacksWrong : ChangeSpec := { name := "placeBacks", fn := fun _ => fun
  | [d1, d2] => { results := [.lit (.bool false)], args := [d1, d2] }
  | _ => none }
def PlaceBacksWrongFalsely : Prop := placeBacksRow.holds Tryd.pinned (OpenSpec.ofChange placeBacksWrong)

/-- 'chafflaw.QuoteClasses': WHATEVER THE INPUT: true; the input reads as it did. -/
def quoteClassesSpec : ChangeSpec := { name := "quoteClasses", fn := fun _ => fun
  | [d1, d2] => { results := [.lit (.bool true)], args := [d1, d2] }
  | _ => none }
def quoteClassesRow : OpenClaim := { program := "ytjecddabdlapbaadoor", sum := "529c20cb33fca92675933063a0ea7c21ab51af25bb064eff03c822a3d3953f9a", func := "chaffcutter/chafflaw.QuoteClasses", spec := "quoteClasses", inPlace := ["internal/bytealg.IndexByteString", "internal/bytealg.IndexString"], unfollowed := true, recurses := true, named := ["internal/bytealg.MaxLen", "math/bits.deBruijn64tab"], apart := false, laid := [("math/bits.deBruijn64tab", laid_math_bits_deBruijn64tab)] }
def QuoteClassesSaid : Prop := quoteClassesRow.holds Tryd.pinned (OpenSpec.ofChange quoteClassesSpec)

/-- ITS FALSE NEIGHBOUR: 'it returns false'. Refute it at one input. -/
def quoteClassesWrong : ChangeSpec := { name := "quoteClasses", fn := fun _ => fun
  | [d1, d2] => { results := [.lit (.bool false)], args := [d1, d2] }
  | _ => none }
def QuoteClassesWrongFalsely : Prop := quoteClassesRow.holds Tryd.pinned (OpenSpec.ofChange quoteClassesWrong)

/-- 'chafflaw.TreeTexts': WHATEVER THE INPUT: true; the input reads as it did. -/
def treeTextsSpec : ChangeSpec := { name := "treeTexts", fn := fun _ => fun
  | [d] => { results := [.lit (.bool true)], args := [d] }
  | _ => none }
def treeTextsRow : OpenClaim := { program := "ytjecddabdlapbaadoor", sum := "529c20cb33fca92675933063a0ea7c21ab51af25bb064eff03c822a3d3953f9a", func := "chaffcutter/chafflaw.TreeTexts", spec := "treeTexts", inPlace := ["internal/abi.NoEscape", "internal/bytealg.MakeNoZero"], recurses := true, named := ["internal/strconv.uint64pow10", "math/bits.deBruijn32tab", "math/bits.deBruijn64tab"], loops := true, apart := false, laid := [("math/bits.deBruijn32tab", laid_math_bits_deBruijn32tab), ("math/bits.deBruijn64tab", laid_math_bits_deBruijn64tab), ("internal/strconv.uint64pow10", laid_internal_strconv_uint64pow10)] }
def TreeTextsSaid : Prop := treeTextsRow.holds Tryd.pinned (OpenSpec.ofChange treeTextsSpec)

/-- ITS FALSE NEIGHBOUR: 'it returns false'. Refute it at one input. -/
def treeTextsWrong : ChangeSpec := { name := "treeTexts", fn := fun _ => fun
  | [d] => { results := [.lit (.bool false)], args := [d] }
  | _ => none }
def TreeTextsWrongFalsely : Prop := treeTextsRow.holds Tryd.pinned (OpenSpec.ofChange treeTextsWrong)

/-- 'chafflaw.ShowPrints': WHATEVER THE INPUT: true; the input reads as it did. -/
def showPrintsSpec : ChangeSpec := { name := "showPrints", fn := fun _ => fun
  | [d] => { results := [.lit (.bool true)], args := [d] }
  | _ => none }
def showPrintsRow : OpenClaim := { program := "ytjecddabdlapbaadoor", sum := "529c20cb33fca92675933063a0ea7c21ab51af25bb064eff03c822a3d3953f9a", func := "chaffcutter/chafflaw.ShowPrints", spec := "showPrints", inPlace := ["internal/bytealg.IndexByteString", "internal/abi.NoEscape", "internal/bytealg.MakeNoZero", "internal/bytealg.IndexString"], unfollowed := true, recurses := true, named := ["math/bits.deBruijn64tab", "internal/bytealg.MaxLen"], loops := true, apart := false, laid := [("math/bits.deBruijn64tab", laid_math_bits_deBruijn64tab)] }
def ShowPrintsSaid : Prop := showPrintsRow.holds Tryd.pinned (OpenSpec.ofChange showPrintsSpec)

/-- ITS FALSE NEIGHBOUR: 'it returns false'. Refute it at one input. -/
def showPrintsWrong : ChangeSpec := { name := "showPrints", fn := fun _ => fun
  | [d] => { results := [.lit (.bool false)], args := [d] }
  | _ => none }
def ShowPrintsWrongFalsely : Prop := showPrintsRow.holds Tryd.pinned (OpenSpec.ofChange showPrintsWrong)

/-- 'chafflaw.BookPrints': WHATEVER THE INPUT: true; the input reads as it did. -/
def bookPrintsSpec : ChangeSpec := { name := "bookPrints", fn := fun _ => fun
  | [d] => { results := [.lit (.bool true)], args := [d] }
  | _ => none }
def bookPrintsRow : OpenClaim := { program := "ytjecddabdlapbaadoor", sum := "529c20cb33fca92675933063a0ea7c21ab51af25bb064eff03c822a3d3953f9a", func := "chaffcutter/chafflaw.BookPrints", spec := "bookPrints", inPlace := ["internal/bytealg.IndexByteString", "internal/bytealg.IndexString"], named := ["internal/strconv.uint64pow10", "math/bits.deBruijn32tab", "math/bits.deBruijn64tab", "internal/bytealg.MaxLen"], apart := false, laid := [("math/bits.deBruijn32tab", laid_math_bits_deBruijn32tab), ("math/bits.deBruijn64tab", laid_math_bits_deBruijn64tab), ("internal/strconv.uint64pow10", laid_internal_strconv_uint64pow10)] }
def BookPrintsSaid : Prop := bookPrintsRow.holds Tryd.pinned (OpenSpec.ofChange bookPrintsSpec)

/-- ITS FALSE NEIGHBOUR: 'it returns false'. Refute it at one input. -/
def bookPrintsWrong : ChangeSpec := { name := "bookPrints", fn := fun _ => fun
  | [d] => { results := [.lit (.bool false)], args := [d] }
  | _ => none }
def BookPrintsWrongFalsely : Prop := bookPrintsRow.holds Tryd.pinned (OpenSpec.ofChange bookPrintsWrong)

/-- 'chafflaw.GramPrints': WHATEVER THE INPUT: true; the input reads as it did. -/
def gramPrintsSpec : ChangeSpec := { name := "gramPrints", fn := fun _ => fun
  | [d] => { results := [.lit (.bool true)], args := [d] }
  | _ => none }
def gramPrintsRow : OpenClaim := { program := "ytjecddabdlapbaadoor", sum := "529c20cb33fca92675933063a0ea7c21ab51af25bb064eff03c822a3d3953f9a", func := "chaffcutter/chafflaw.GramPrints", spec := "gramPrints", inPlace := ["internal/bytealg.IndexByteString", "internal/abi.NoEscape", "internal/bytealg.MakeNoZero", "internal/bytealg.IndexString"], unfollowed := true, recurses := true, named := ["math/bits.deBruijn64tab", "internal/bytealg.MaxLen"], loops := true, apart := false, laid := [("math/bits.deBruijn64tab", laid_math_bits_deBruijn64tab)] }
def GramPrintsSaid : Prop := gramPrintsRow.holds Tryd.pinned (OpenSpec.ofChange gramPrintsSpec)

/-- ITS FALSE NEIGHBOUR: 'it returns false'. Refute it at one input. -/
def gramPrintsWrong : ChangeSpec := { name := "gramPrints", fn := fun _ => fun
  | [d] => { results := [.lit (.bool false)], args := [d] }
  | _ => none }
def GramPrintsWrongFalsely : Prop := gramPrintsRow.holds Tryd.pinned (OpenSpec.ofChange gramPrintsWrong)

/-- 'chafflaw.QuoteDecs': WHATEVER THE INPUT: true; the input reads as it did. -/
def quoteDecsSpec : ChangeSpec := { name := "quoteDecs", fn := fun _ => fun
  | [d1, d2] => { results := [.lit (.bool true)], args := [d1, d2] }
  | _ => none }
def quoteDecsRow : OpenClaim := { program := "ytjecddabdlapbaadoor", sum := "529c20cb33fca92675933063a0ea7c21ab51af25bb064eff03c822a3d3953f9a", func := "chaffcutter/chafflaw.QuoteDecs", spec := "quoteDecs", named := ["strconv.ErrSyntax", "strconv.ErrRange", "internal/strconv.uint64pow10", "math/bits.deBruijn32tab", "math/bits.deBruijn64tab"], apart := false, laid := [("math/bits.deBruijn32tab", laid_math_bits_deBruijn32tab), ("math/bits.deBruijn64tab", laid_math_bits_deBruijn64tab), ("internal/strconv.uint64pow10", laid_internal_strconv_uint64pow10), ("strconv.ErrRange", laid_strconv_ErrRange), ("strconv.ErrSyntax", laid_strconv_ErrSyntax)] }
def QuoteDecsSaid : Prop := quoteDecsRow.holds Tryd.pinned (OpenSpec.ofChange quoteDecsSpec)

/-- ITS FALSE NEIGHBOUR: 'it returns false'. Refute it at one input. -/
def quoteDecsWrong : ChangeSpec := { name := "quoteDecs", fn := fun _ => fun
  | [d1, d2] => { results := [.lit (.bool false)], args := [d1, d2] }
  | _ => none }
def QuoteDecsWrongFalsely : Prop := quoteDecsRow.holds Tryd.pinned (OpenSpec.ofChange quoteDecsWrong)

/-- 'chafflaw.BookReads': WHATEVER THE INPUT: true; the input reads as it did. -/
def bookReadsSpec : ChangeSpec := { name := "bookReads", fn := fun _ => fun
  | [d] => { results := [.lit (.bool true)], args := [d] }
  | _ => none }
def bookReadsRow : OpenClaim := { program := "ytjecddabdlapbaadoor", sum := "529c20cb33fca92675933063a0ea7c21ab51af25bb064eff03c822a3d3953f9a", func := "chaffcutter/chafflaw.BookReads", spec := "bookReads", inPlace := ["internal/bytealg.CountString", "internal/bytealg.IndexByteString", "internal/bytealg.IndexString"], named := ["unicode/utf8.first", "unicode/utf8.acceptRanges", "internal/bytealg.MaxLen", "strconv.ErrSyntax", "strconv.ErrRange", "internal/strconv.uint64pow10", "math/bits.deBruijn32tab", "math/bits.deBruijn64tab"], apart := false, laid := [("math/bits.deBruijn32tab", laid_math_bits_deBruijn32tab), ("math/bits.deBruijn64tab", laid_math_bits_deBruijn64tab), ("internal/strconv.uint64pow10", laid_internal_strconv_uint64pow10), ("unicode/utf8.acceptRanges", laid_unicode_utf8_acceptRanges), ("strconv.ErrRange", laid_strconv_ErrRange), ("strconv.ErrSyntax", laid_strconv_ErrSyntax), ("unicode/utf8.first", laid_unicode_utf8_first)] }
def BookReadsSaid : Prop := bookReadsRow.holds Tryd.pinned (OpenSpec.ofChange bookReadsSpec)

/-- ITS FALSE NEIGHBOUR: 'it returns false'. Refute it at one input. -/
def bookReadsWrong : ChangeSpec := { name := "bookReads", fn := fun _ => fun
  | [d] => { results := [.lit (.bool false)], args := [d] }
  | _ => none }
def BookReadsWrongFalsely : Prop := bookReadsRow.holds Tryd.pinned (OpenSpec.ofChange bookReadsWrong)

/- THE SECOND FORM. 'bulk': how many values and letters a reading holds, each counted each time it is reached (what is shared counts as often as it is met; a slice's spare places count too). A statement '..UptoSaid' is the law's where the arguments, and the package variables that the reading takes, are together of bulk at most 1048576: NARROWER than '..Said'. Prove '..Said' where nothing that the law and all that it calls make is longer than what came in: it says more and counts as full. Else prove '..UptoSaid'. A law counts once. -/
mutual
def uptoBulk {H : Type} : DataW H → Nat
  | .lit (.string bytes) => bytes.length + 1
  | .lit _ => 1
  | .nil => 1
  | .ptr d => uptoBulk d + 1
  | .slice elems spare => uptoBulkAll elems + uptoBulkAll spare + 1
  | .agg parts => uptoBulkAll parts + 1
  | .iface _ d => uptoBulk d + 1
  | .map entries => uptoBulkEntries entries + 1
  | .held _ => 1
def uptoBulkAll {H : Type} : List (DataW H) → Nat
  | [] => 0
  | d :: r => uptoBulk d + uptoBulkAll r
def uptoBulkEntries {H : Type} : List (Lit × DataW H) → Nat
  | [] => 0
  | x :: r => uptoBulkEntry x + uptoBulkEntries r
def uptoBulkEntry {H : Type} : Lit × DataW H → Nat
  | (.string bytes, d) => bytes.length + uptoBulk d + 1
  | (_, d) => uptoBulk d + 1
 end
def uptoSmall : (H : Type) → List (DataW H) → Bool := fun _ ds => decide (uptoBulkAll ds ≤ 1048576)
def OpenSpec.upto (s : _root_.Go.ChangeSpec) : _root_.Go.OpenSpec := { _root_.Go.OpenSpec.ofChange s with cond := some uptoSmall }

/-- 'chafflaw.SetSays', WHERE WHAT IT READS IS OF BULK AT MOST 1048576: true; the input reads as it did. -/
def setSaysUptoRow : OpenClaim := { program := "ytjecddabdlapbaadoor", sum := "529c20cb33fca92675933063a0ea7c21ab51af25bb064eff03c822a3d3953f9a", func := "chaffcutter/chafflaw.SetSays", spec := "setSays", unfollowed := true, recurses := true, named := ["math/bits.deBruijn64tab"], apart := false, laid := [("math/bits.deBruijn64tab", laid_math_bits_deBruijn64tab)], narrowed := true }
def SetSaysUptoSaid : Prop := setSaysUptoRow.holds Tryd.pinned (OpenSpec.upto setSaysSpec)

/-- 'chafflaw.PlaceWheres', WHERE WHAT IT READS IS OF BULK AT MOST 1048576: true; the input reads as it did. -/
def placeWheresUptoRow : OpenClaim := { program := "ytjecddabdlapbaadoor", sum := "529c20cb33fca92675933063a0ea7c21ab51af25bb064eff03c822a3d3953f9a", func := "chaffcutter/chafflaw.PlaceWheres", spec := "placeWheres", inPlace := ["internal/bytealg.CountString", "internal/bytealg.IndexByteString", "internal/bytealg.IndexString"], named := ["internal/bytealg.MaxLen", "unicode/utf8.first", "unicode/utf8.acceptRanges"], apart := false, laid := [("unicode/utf8.acceptRanges", laid_unicode_utf8_acceptRanges), ("unicode/utf8.first", laid_unicode_utf8_first)], narrowed := true }
def PlaceWheresUptoSaid : Prop := placeWheresUptoRow.holds Tryd.pinned (OpenSpec.upto placeWheresSpec)

/-- 'chafflaw.PlaceBacks', WHERE WHAT IT READS IS OF BULK AT MOST 1048576: true; the input reads as it did. -/
def placeBacksUptoRow : OpenClaim := { program := "ytjecddabdlapbaadoor", sum := "529c20cb33fca92675933063a0ea7c21ab51af25bb064eff03c822a3d3953f9a", func := "chaffcutter/chafflaw.PlaceBacks", spec := "placeBacks", inPlace := ["internal/bytealg.IndexByteString", "internal/bytealg.CountString", "internal/bytealg.IndexString"], named := ["unicode/utf8.first", "unicode/utf8.acceptRanges", "internal/bytealg.MaxLen"], apart := false, laid := [("unicode/utf8.acceptRanges", laid_unicode_utf8_acceptRanges), ("unicode/utf8.first", laid_unicode_utf8_first)], narrowed := true }
def PlaceBacksUptoSaid : Prop := placeBacksUptoRow.holds Tryd.pinned (OpenSpec.upto placeBacksSpec)

/-- 'chafflaw.QuoteClasses', WHERE WHAT IT READS IS OF BULK AT MOST 1048576: true; the input reads as it did. -/
def quoteClassesUptoRow : OpenClaim := { program := "ytjecddabdlapbaadoor", sum := "529c20cb33fca92675933063a0ea7c21ab51af25bb064eff03c822a3d3953f9a", func := "chaffcutter/chafflaw.QuoteClasses", spec := "quoteClasses", inPlace := ["internal/bytealg.IndexByteString", "internal/bytealg.IndexString"], unfollowed := true, recurses := true, named := ["internal/bytealg.MaxLen", "math/bits.deBruijn64tab"], apart := false, laid := [("math/bits.deBruijn64tab", laid_math_bits_deBruijn64tab)], narrowed := true }
def QuoteClassesUptoSaid : Prop := quoteClassesUptoRow.holds Tryd.pinned (OpenSpec.upto quoteClassesSpec)

/-- 'chafflaw.TreeTexts', WHERE WHAT IT READS IS OF BULK AT MOST 1048576: true; the input reads as it did. -/
def treeTextsUptoRow : OpenClaim := { program := "ytjecddabdlapbaadoor", sum := "529c20cb33fca92675933063a0ea7c21ab51af25bb064eff03c822a3d3953f9a", func := "chaffcutter/chafflaw.TreeTexts", spec := "treeTexts", inPlace := ["internal/abi.NoEscape", "internal/bytealg.MakeNoZero"], recurses := true, named := ["internal/strconv.uint64pow10", "math/bits.deBruijn32tab", "math/bits.deBruijn64tab"], loops := true, apart := false, laid := [("math/bits.deBruijn32tab", laid_math_bits_deBruijn32tab), ("math/bits.deBruijn64tab", laid_math_bits_deBruijn64tab), ("internal/strconv.uint64pow10", laid_internal_strconv_uint64pow10)], narrowed := true }
def TreeTextsUptoSaid : Prop := treeTextsUptoRow.holds Tryd.pinned (OpenSpec.upto treeTextsSpec)

/-- 'chafflaw.ShowPrints', WHERE WHAT IT READS IS OF BULK AT MOST 1048576: true; the input reads as it did. -/
def showPrintsUptoRow : OpenClaim := { program := "ytjecddabdlapbaadoor", sum := "529c20cb33fca92675933063a0ea7c21ab51af25bb064eff03c822a3d3953f9a", func := "chaffcutter/chafflaw.ShowPrints", spec := "showPrints", inPlace := ["internal/bytealg.IndexByteString", "internal/abi.NoEscape", "internal/bytealg.MakeNoZero", "internal/bytealg.IndexString"], unfollowed := true, recurses := true, named := ["math/bits.deBruijn64tab", "internal/bytealg.MaxLen"], loops := true, apart := false, laid := [("math/bits.deBruijn64tab", laid_math_bits_deBruijn64tab)], narrowed := true }
def ShowPrintsUptoSaid : Prop := showPrintsUptoRow.holds Tryd.pinned (OpenSpec.upto showPrintsSpec)

/-- 'chafflaw.BookPrints', WHERE WHAT IT READS IS OF BULK AT MOST 1048576: true; the input reads as it did. -/
def bookPrintsUptoRow : OpenClaim := { program := "ytjecddabdlapbaadoor", sum := "529c20cb33fca92675933063a0ea7c21ab51af25bb064eff03c822a3d3953f9a", func := "chaffcutter/chafflaw.BookPrints", spec := "bookPrints", inPlace := ["internal/bytealg.IndexByteString", "internal/bytealg.IndexString"], named := ["internal/strconv.uint64pow10", "math/bits.deBruijn32tab", "math/bits.deBruijn64tab", "internal/bytealg.MaxLen"], apart := false, laid := [("math/bits.deBruijn32tab", laid_math_bits_deBruijn32tab), ("math/bits.deBruijn64tab", laid_math_bits_deBruijn64tab), ("internal/strconv.uint64pow10", laid_internal_strconv_uint64pow10)], narrowed := true }
def BookPrintsUptoSaid : Prop := bookPrintsUptoRow.holds Tryd.pinned (OpenSpec.upto bookPrintsSpec)

/-- 'chafflaw.GramPrints', WHERE WHAT IT READS IS OF BULK AT MOST 1048576: true; the input reads as it did. -/
def gramPrintsUptoRow : OpenClaim := { program := "ytjecddabdlapbaadoor", sum := "529c20cb33fca92675933063a0ea7c21ab51af25bb064eff03c822a3d3953f9a", func := "chaffcutter/chafflaw.GramPrints", spec := "gramPrints", inPlace := ["internal/bytealg.IndexByteString", "internal/abi.NoEscape", "internal/bytealg.MakeNoZero", "internal/bytealg.IndexString"], unfollowed := true, recurses := true, named := ["math/bits.deBruijn64tab", "internal/bytealg.MaxLen"], loops := true, apart := false, laid := [("math/bits.deBruijn64tab", laid_math_bits_deBruijn64tab)], narrowed := true }
def GramPrintsUptoSaid : Prop := gramPrintsUptoRow.holds Tryd.pinned (OpenSpec.upto gramPrintsSpec)

/-- 'chafflaw.QuoteDecs', WHERE WHAT IT READS IS OF BULK AT MOST 1048576: true; the input reads as it did. -/
def quoteDecsUptoRow : OpenClaim := { program := "ytjecddabdlapbaadoor", sum := "529c20cb33fca92675933063a0ea7c21ab51af25bb064eff03c822a3d3953f9a", func := "chaffcutter/chafflaw.QuoteDecs", spec := "quoteDecs", named := ["strconv.ErrSyntax", "strconv.ErrRange", "internal/strconv.uint64pow10", "math/bits.deBruijn32tab", "math/bits.deBruijn64tab"], apart := false, laid := [("math/bits.deBruijn32tab", laid_math_bits_deBruijn32tab), ("math/bits.deBruijn64tab", laid_math_bits_deBruijn64tab), ("internal/strconv.uint64pow10", laid_internal_strconv_uint64pow10), ("strconv.ErrRange", laid_strconv_ErrRange), ("strconv.ErrSyntax", laid_strconv_ErrSyntax)], narrowed := true }
def QuoteDecsUptoSaid : Prop := quoteDecsUptoRow.holds Tryd.pinned (OpenSpec.upto quoteDecsSpec)

/-- 'chafflaw.BookReads', WHERE WHAT IT READS IS OF BULK AT MOST 1048576: true; the input reads as it did. -/
def bookReadsUptoRow : OpenClaim := { program := "ytjecddabdlapbaadoor", sum := "529c20cb33fca92675933063a0ea7c21ab51af25bb064eff03c822a3d3953f9a", func := "chaffcutter/chafflaw.BookReads", spec := "bookReads", inPlace := ["internal/bytealg.CountString", "internal/bytealg.IndexByteString", "internal/bytealg.IndexString"], named := ["unicode/utf8.first", "unicode/utf8.acceptRanges", "internal/bytealg.MaxLen", "strconv.ErrSyntax", "strconv.ErrRange", "internal/strconv.uint64pow10", "math/bits.deBruijn32tab", "math/bits.deBruijn64tab"], apart := false, laid := [("math/bits.deBruijn32tab", laid_math_bits_deBruijn32tab), ("math/bits.deBruijn64tab", laid_math_bits_deBruijn64tab), ("internal/strconv.uint64pow10", laid_internal_strconv_uint64pow10), ("unicode/utf8.acceptRanges", laid_unicode_utf8_acceptRanges), ("strconv.ErrRange", laid_strconv_ErrRange), ("strconv.ErrSyntax", laid_strconv_ErrSyntax), ("unicode/utf8.first", laid_unicode_utf8_first)], narrowed := true }
def BookReadsUptoSaid : Prop := bookReadsUptoRow.holds Tryd.pinned (OpenSpec.upto bookReadsSpec)

end Rows
end Go.Proofs.YtjecddabdlapbaaDoor
