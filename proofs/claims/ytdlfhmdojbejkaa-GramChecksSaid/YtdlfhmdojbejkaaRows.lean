/-
  NARROWER THAN 'FOR EVERY INPUT', by the rows' own cells (each row's printed sentence says how): EventSays: loops · ExprChecks: loops · ExprSizes: loops · GramChecks: loops.
  DERIVED. THE GIVEN ROWS OF THIS SEAT. 12 by the template 'for every input the law returns true; each argument reads behind the call as it read before'; 0 by the template 'total and deterministic' (their statements: YtdlfhmdojbejkaaTotals.lean).
  GIVEN WITH THE SEED: the statements are not yours to turn. If you find one false, say at which input.
  Laid BY PROGRAM, IN A SANDBOX (cutbox-rows.mjs): the forced cells as the released guide's own fill.sh prints them over the translation 666bf611f2f5b217… (all of the seat's roots in one cut). By AI agents, Wed Nov 11 2026. No macro, syntax, notation, axiom, sorry.
-/
import Derived.Test.YtdlfhmdojbejkaaChecked
import GoSem.Claim
import GoSem.ClaimJoined
import GoSem.ClaimMapViews
import Derived.JoinedTies
import Derived.KernelRfl
namespace Go.Proofs.Ytdlfhmdojbejkaa
/- THE CELL 'sum', in the pinned program and in every row, IS THE sha256 OF THE DUMP (.gsa) THAT YtdlfhmdojbejkaaProg.lean LOADS. Nothing in Lean hashes anything: it is a label: what it is worth is what the hold of that sum in a sandbox is worth. -/
noncomputable def Try.pinned : Pinned := { name := "ytdlfhmdojbejkaa", sum := "666bf611f2f5b21761d9a523583fa058d616f5c5bf6f25022cdb6b24395848c7", checked := Try.checked }
namespace Rows
def none {H : Type} : Left H := { results := [], args := [] }

/-- 'chafflaw.Names': WHATEVER THE INPUT: true; the input reads as it did. -/
def namesSpec : ChangeSpec := { name := "names", fn := fun _ => fun
  | [] => { results := [.lit (.bool true)], args := [] }
  | _ => none }
def namesRow : OpenClaim := { program := "ytdlfhmdojbejkaa", sum := "666bf611f2f5b21761d9a523583fa058d616f5c5bf6f25022cdb6b24395848c7", func := "chaffcutter/chafflaw.Names", spec := "names", apart := false }
def NamesSaid : Prop := namesRow.holds Try.pinned (OpenSpec.ofChange namesSpec)

/-- ITS FALSE NEIGHBOUR: 'it returns false'. Refute it at one input. -/
def namesWrong : ChangeSpec := { name := "names", fn := fun _ => fun
  | [] => { results := [.lit (.bool false)], args := [] }
  | _ => none }
def NamesWrongFalsely : Prop := namesRow.holds Try.pinned (OpenSpec.ofChange namesWrong)

/-- 'chafflaw.SetJoins': WHATEVER THE INPUT: true; the input reads as it did. -/
def setJoinsSpec : ChangeSpec := { name := "setJoins", fn := fun _ => fun
  | [d1, d2] => { results := [.lit (.bool true)], args := [d1, d2] }
  | _ => none }
def setJoinsRow : OpenClaim := { program := "ytdlfhmdojbejkaa", sum := "666bf611f2f5b21761d9a523583fa058d616f5c5bf6f25022cdb6b24395848c7", func := "chaffcutter/chafflaw.SetJoins", spec := "setJoins", unfollowed := true, recurses := true, apart := false }
def SetJoinsSaid : Prop := setJoinsRow.holds Try.pinned (OpenSpec.ofChange setJoinsSpec)

/-- ITS FALSE NEIGHBOUR: 'it returns false'. Refute it at one input. -/
def setJoinsWrong : ChangeSpec := { name := "setJoins", fn := fun _ => fun
  | [d1, d2] => { results := [.lit (.bool false)], args := [d1, d2] }
  | _ => none }
def SetJoinsWrongFalsely : Prop := setJoinsRow.holds Try.pinned (OpenSpec.ofChange setJoinsWrong)

/-- 'chafflaw.CodeChecks': WHATEVER THE INPUT: true; the input reads as it did. -/
def codeChecksSpec : ChangeSpec := { name := "codeChecks", fn := fun _ => fun
  | [d] => { results := [.lit (.bool true)], args := [d] }
  | _ => none }
def codeChecksRow : OpenClaim := { program := "ytdlfhmdojbejkaa", sum := "666bf611f2f5b21761d9a523583fa058d616f5c5bf6f25022cdb6b24395848c7", func := "chaffcutter/chafflaw.CodeChecks", spec := "codeChecks", apart := false }
def CodeChecksSaid : Prop := codeChecksRow.holds Try.pinned (OpenSpec.ofChange codeChecksSpec)

/-- ITS FALSE NEIGHBOUR: 'it returns false'. Refute it at one input. -/
def codeChecksWrong : ChangeSpec := { name := "codeChecks", fn := fun _ => fun
  | [d] => { results := [.lit (.bool false)], args := [d] }
  | _ => none }
def CodeChecksWrongFalsely : Prop := codeChecksRow.holds Try.pinned (OpenSpec.ofChange codeChecksWrong)

/-- 'chafflaw.EventSays': WHATEVER THE INPUT: true; the input reads as it did. -/
def eventSaysSpec : ChangeSpec := { name := "eventSays", fn := fun _ => fun
  | [d] => { results := [.lit (.bool true)], args := [d] }
  | _ => none }
def eventSaysRow : OpenClaim := { program := "ytdlfhmdojbejkaa", sum := "666bf611f2f5b21761d9a523583fa058d616f5c5bf6f25022cdb6b24395848c7", func := "chaffcutter/chafflaw.EventSays", spec := "eventSays", recurses := true, loops := true, apart := false }
def EventSaysSaid : Prop := eventSaysRow.holds Try.pinned (OpenSpec.ofChange eventSaysSpec)

/-- ITS FALSE NEIGHBOUR: 'it returns false'. Refute it at one input. -/
def eventSaysWrong : ChangeSpec := { name := "eventSays", fn := fun _ => fun
  | [d] => { results := [.lit (.bool false)], args := [d] }
  | _ => none }
def EventSaysWrongFalsely : Prop := eventSaysRow.holds Try.pinned (OpenSpec.ofChange eventSaysWrong)

/-- 'chafflaw.CoverMerges': WHATEVER THE INPUT: true; the input reads as it did. -/
def coverMergesSpec : ChangeSpec := { name := "coverMerges", fn := fun _ => fun
  | [d1, d2] => { results := [.lit (.bool true)], args := [d1, d2] }
  | _ => none }
def coverMergesRow : OpenClaim := { program := "ytdlfhmdojbejkaa", sum := "666bf611f2f5b21761d9a523583fa058d616f5c5bf6f25022cdb6b24395848c7", func := "chaffcutter/chafflaw.CoverMerges", spec := "coverMerges", apart := false }
def CoverMergesSaid : Prop := coverMergesRow.holds Try.pinned (OpenSpec.ofChange coverMergesSpec)

/-- ITS FALSE NEIGHBOUR: 'it returns false'. Refute it at one input. -/
def coverMergesWrong : ChangeSpec := { name := "coverMerges", fn := fun _ => fun
  | [d1, d2] => { results := [.lit (.bool false)], args := [d1, d2] }
  | _ => none }
def CoverMergesWrongFalsely : Prop := coverMergesRow.holds Try.pinned (OpenSpec.ofChange coverMergesWrong)

/-- 'chafflaw.ExprChecks': WHATEVER THE INPUT: true; the input reads as it did. -/
def exprChecksSpec : ChangeSpec := { name := "exprChecks", fn := fun _ => fun
  | [d1, d2] => { results := [.lit (.bool true)], args := [d1, d2] }
  | _ => none }
def exprChecksRow : OpenClaim := { program := "ytdlfhmdojbejkaa", sum := "666bf611f2f5b21761d9a523583fa058d616f5c5bf6f25022cdb6b24395848c7", func := "chaffcutter/chafflaw.ExprChecks", spec := "exprChecks", recurses := true, loops := true, apart := false }
def ExprChecksSaid : Prop := exprChecksRow.holds Try.pinned (OpenSpec.ofChange exprChecksSpec)

/-- ITS FALSE NEIGHBOUR: 'it returns false'. Refute it at one input. -/
def exprChecksWrong : ChangeSpec := { name := "exprChecks", fn := fun _ => fun
  | [d1, d2] => { results := [.lit (.bool false)], args := [d1, d2] }
  | _ => none }
def ExprChecksWrongFalsely : Prop := exprChecksRow.holds Try.pinned (OpenSpec.ofChange exprChecksWrong)

/-- 'chafflaw.EventBuilds': WHATEVER THE INPUT: true; the input reads as it did. -/
def eventBuildsSpec : ChangeSpec := { name := "eventBuilds", fn := fun _ => fun
  | [d] => { results := [.lit (.bool true)], args := [d] }
  | _ => none }
def eventBuildsRow : OpenClaim := { program := "ytdlfhmdojbejkaa", sum := "666bf611f2f5b21761d9a523583fa058d616f5c5bf6f25022cdb6b24395848c7", func := "chaffcutter/chafflaw.EventBuilds", spec := "eventBuilds", unfollowed := true, recurses := true, apart := false }
def EventBuildsSaid : Prop := eventBuildsRow.holds Try.pinned (OpenSpec.ofChange eventBuildsSpec)

/-- ITS FALSE NEIGHBOUR: 'it returns false'. Refute it at one input. -/
def eventBuildsWrong : ChangeSpec := { name := "eventBuilds", fn := fun _ => fun
  | [d] => { results := [.lit (.bool false)], args := [d] }
  | _ => none }
def EventBuildsWrongFalsely : Prop := eventBuildsRow.holds Try.pinned (OpenSpec.ofChange eventBuildsWrong)

/-- 'chafflaw.ExprSizes': WHATEVER THE INPUT: true; the input reads as it did. -/
def exprSizesSpec : ChangeSpec := { name := "exprSizes", fn := fun _ => fun
  | [d] => { results := [.lit (.bool true)], args := [d] }
  | _ => none }
def exprSizesRow : OpenClaim := { program := "ytdlfhmdojbejkaa", sum := "666bf611f2f5b21761d9a523583fa058d616f5c5bf6f25022cdb6b24395848c7", func := "chaffcutter/chafflaw.ExprSizes", spec := "exprSizes", unfollowed := true, recurses := true, loops := true, apart := false }
def ExprSizesSaid : Prop := exprSizesRow.holds Try.pinned (OpenSpec.ofChange exprSizesSpec)

/-- ITS FALSE NEIGHBOUR: 'it returns false'. Refute it at one input. -/
def exprSizesWrong : ChangeSpec := { name := "exprSizes", fn := fun _ => fun
  | [d] => { results := [.lit (.bool false)], args := [d] }
  | _ => none }
def ExprSizesWrongFalsely : Prop := exprSizesRow.holds Try.pinned (OpenSpec.ofChange exprSizesWrong)

/-- 'chafflaw.CodeRuns': WHATEVER THE INPUT: true; the input reads as it did. -/
def codeRunsSpec : ChangeSpec := { name := "codeRuns", fn := fun _ => fun
  | [d1, d2, d3] => { results := [.lit (.bool true)], args := [d1, d2, d3] }
  | _ => none }
def codeRunsRow : OpenClaim := { program := "ytdlfhmdojbejkaa", sum := "666bf611f2f5b21761d9a523583fa058d616f5c5bf6f25022cdb6b24395848c7", func := "chaffcutter/chafflaw.CodeRuns", spec := "codeRuns", apart := false }
def CodeRunsSaid : Prop := codeRunsRow.holds Try.pinned (OpenSpec.ofChange codeRunsSpec)

/-- ITS FALSE NEIGHBOUR: 'it returns false'. Refute it at one input. -/
def codeRunsWrong : ChangeSpec := { name := "codeRuns", fn := fun _ => fun
  | [d1, d2, d3] => { results := [.lit (.bool false)], args := [d1, d2, d3] }
  | _ => none }
def CodeRunsWrongFalsely : Prop := codeRunsRow.holds Try.pinned (OpenSpec.ofChange codeRunsWrong)

/-- 'chafflaw.GramChecks': WHATEVER THE INPUT: true; the input reads as it did. -/
def gramChecksSpec : ChangeSpec := { name := "gramChecks", fn := fun _ => fun
  | [d1, d2] => { results := [.lit (.bool true)], args := [d1, d2] }
  | _ => none }
def gramChecksRow : OpenClaim := { program := "ytdlfhmdojbejkaa", sum := "666bf611f2f5b21761d9a523583fa058d616f5c5bf6f25022cdb6b24395848c7", func := "chaffcutter/chafflaw.GramChecks", spec := "gramChecks", unfollowed := true, recurses := true, loops := true, apart := false }
def GramChecksSaid : Prop := gramChecksRow.holds Try.pinned (OpenSpec.ofChange gramChecksSpec)

/-- ITS FALSE NEIGHBOUR: 'it returns false'. Refute it at one input. -/
def gramChecksWrong : ChangeSpec := { name := "gramChecks", fn := fun _ => fun
  | [d1, d2] => { results := [.lit (.bool false)], args := [d1, d2] }
  | _ => none }
def GramChecksWrongFalsely : Prop := gramChecksRow.holds Try.pinned (OpenSpec.ofChange gramChecksWrong)

/-- 'chafflaw.GreedySays': WHATEVER THE INPUT: true; the input reads as it did. -/
def greedySaysSpec : ChangeSpec := { name := "greedySays", fn := fun _ => fun
  | [d] => { results := [.lit (.bool true)], args := [d] }
  | _ => none }
def greedySaysRow : OpenClaim := { program := "ytdlfhmdojbejkaa", sum := "666bf611f2f5b21761d9a523583fa058d616f5c5bf6f25022cdb6b24395848c7", func := "chaffcutter/chafflaw.GreedySays", spec := "greedySays", unfollowed := true, recurses := true, apart := false }
def GreedySaysSaid : Prop := greedySaysRow.holds Try.pinned (OpenSpec.ofChange greedySaysSpec)

/-- ITS FALSE NEIGHBOUR: 'it returns false'. Refute it at one input. -/
def greedySaysWrong : ChangeSpec := { name := "greedySays", fn := fun _ => fun
  | [d] => { results := [.lit (.bool false)], args := [d] }
  | _ => none }
def GreedySaysWrongFalsely : Prop := greedySaysRow.holds Try.pinned (OpenSpec.ofChange greedySaysWrong)

/-- 'chafflaw.QuoteLits': WHATEVER THE INPUT: true; the input reads as it did. -/
def quoteLitsSpec : ChangeSpec := { name := "quoteLits", fn := fun _ => fun
  | [d1, d2] => { results := [.lit (.bool true)], args := [d1, d2] }
  | _ => none }
def quoteLitsRow : OpenClaim := { program := "ytdlfhmdojbejkaa", sum := "666bf611f2f5b21761d9a523583fa058d616f5c5bf6f25022cdb6b24395848c7", func := "chaffcutter/chafflaw.QuoteLits", spec := "quoteLits", inPlace := ["internal/bytealg.IndexByteString", "internal/bytealg.IndexString"], named := ["internal/bytealg.MaxLen"], apart := false }
def QuoteLitsSaid : Prop := quoteLitsRow.holds Try.pinned (OpenSpec.ofChange quoteLitsSpec)

/-- ITS FALSE NEIGHBOUR: 'it returns false'. Refute it at one input. -/
def quoteLitsWrong : ChangeSpec := { name := "quoteLits", fn := fun _ => fun
  | [d1, d2] => { results := [.lit (.bool false)], args := [d1, d2] }
  | _ => none }
def QuoteLitsWrongFalsely : Prop := quoteLitsRow.holds Try.pinned (OpenSpec.ofChange quoteLitsWrong)

/- THE SECOND FORM. 'bulk': how many values and letters a reading holds, each counted each time it is reached (what is shared counts as often as it is met; a slice's spare places count too). A statement '..UptoSaid' is the law's where the arguments, and the package variables that the reading takes, are together of bulk at most 1048576: NARROWER than '..Said'. Prove '..Said' where nothing that the law and all that it calls make is longer than what came in: it says more and counts as full. Else prove '..UptoSaid'. A law counts once. -/
mutual
def uptoBulk {H : Type} : DataW H → Nat
  | .lit (.string bytes) => bytes.length + 1
  | .lit _ => 1
  | .nil => 1
  | .ptr d => uptoBulk d + 1
  | .slice elems spare => uptoBulkAll elems + uptoBulkAll spare + 1
  | .agg parts => uptoBulkAll parts + 1
  | .iface _ d => uptoBulk d + 1
  | .map entries => uptoBulkEntries entries + 1
  | .held _ => 1
def uptoBulkAll {H : Type} : List (DataW H) → Nat
  | [] => 0
  | d :: r => uptoBulk d + uptoBulkAll r
def uptoBulkEntries {H : Type} : List (Lit × DataW H) → Nat
  | [] => 0
  | x :: r => uptoBulkEntry x + uptoBulkEntries r
def uptoBulkEntry {H : Type} : Lit × DataW H → Nat
  | (.string bytes, d) => bytes.length + uptoBulk d + 1
  | (_, d) => uptoBulk d + 1
 end
def uptoSmall : (H : Type) → List (DataW H) → Bool := fun _ ds => decide (uptoBulkAll ds ≤ 1048576)
def OpenSpec.upto (s : _root_.Go.ChangeSpec) : _root_.Go.OpenSpec := { _root_.Go.OpenSpec.ofChange s with cond := some uptoSmall }

/-- 'chafflaw.Names', WHERE WHAT IT READS IS OF BULK AT MOST 1048576: true; the input reads as it did. -/
def namesUptoRow : OpenClaim := { program := "ytdlfhmdojbejkaa", sum := "666bf611f2f5b21761d9a523583fa058d616f5c5bf6f25022cdb6b24395848c7", func := "chaffcutter/chafflaw.Names", spec := "names", apart := false, narrowed := true }
def NamesUptoSaid : Prop := namesUptoRow.holds Try.pinned (OpenSpec.upto namesSpec)

/-- 'chafflaw.SetJoins', WHERE WHAT IT READS IS OF BULK AT MOST 1048576: true; the input reads as it did. -/
def setJoinsUptoRow : OpenClaim := { program := "ytdlfhmdojbejkaa", sum := "666bf611f2f5b21761d9a523583fa058d616f5c5bf6f25022cdb6b24395848c7", func := "chaffcutter/chafflaw.SetJoins", spec := "setJoins", unfollowed := true, recurses := true, apart := false, narrowed := true }
def SetJoinsUptoSaid : Prop := setJoinsUptoRow.holds Try.pinned (OpenSpec.upto setJoinsSpec)

/-- 'chafflaw.CodeChecks', WHERE WHAT IT READS IS OF BULK AT MOST 1048576: true; the input reads as it did. -/
def codeChecksUptoRow : OpenClaim := { program := "ytdlfhmdojbejkaa", sum := "666bf611f2f5b21761d9a523583fa058d616f5c5bf6f25022cdb6b24395848c7", func := "chaffcutter/chafflaw.CodeChecks", spec := "codeChecks", apart := false, narrowed := true }
def CodeChecksUptoSaid : Prop := codeChecksUptoRow.holds Try.pinned (OpenSpec.upto codeChecksSpec)

/-- 'chafflaw.EventSays', WHERE WHAT IT READS IS OF BULK AT MOST 1048576: true; the input reads as it did. -/
def eventSaysUptoRow : OpenClaim := { program := "ytdlfhmdojbejkaa", sum := "666bf611f2f5b21761d9a523583fa058d616f5c5bf6f25022cdb6b24395848c7", func := "chaffcutter/chafflaw.EventSays", spec := "eventSays", recurses := true, loops := true, apart := false, narrowed := true }
def EventSaysUptoSaid : Prop := eventSaysUptoRow.holds Try.pinned (OpenSpec.upto eventSaysSpec)

/-- 'chafflaw.CoverMerges', WHERE WHAT IT READS IS OF BULK AT MOST 1048576: true; the input reads as it did. -/
def coverMergesUptoRow : OpenClaim := { program := "ytdlfhmdojbejkaa", sum := "666bf611f2f5b21761d9a523583fa058d616f5c5bf6f25022cdb6b24395848c7", func := "chaffcutter/chafflaw.CoverMerges", spec := "coverMerges", apart := false, narrowed := true }
def CoverMergesUptoSaid : Prop := coverMergesUptoRow.holds Try.pinned (OpenSpec.upto coverMergesSpec)

/-- 'chafflaw.ExprChecks', WHERE WHAT IT READS IS OF BULK AT MOST 1048576: true; the input reads as it did. -/
def exprChecksUptoRow : OpenClaim := { program := "ytdlfhmdojbejkaa", sum := "666bf611f2f5b21761d9a523583fa058d616f5c5bf6f25022cdb6b24395848c7", func := "chaffcutter/chafflaw.ExprChecks", spec := "exprChecks", recurses := true, loops := true, apart := false, narrowed := true }
def ExprChecksUptoSaid : Prop := exprChecksUptoRow.holds Try.pinned (OpenSpec.upto exprChecksSpec)

/-- 'chafflaw.EventBuilds', WHERE WHAT IT READS IS OF BULK AT MOST 1048576: true; the input reads as it did. -/
def eventBuildsUptoRow : OpenClaim := { program := "ytdlfhmdojbejkaa", sum := "666bf611f2f5b21761d9a523583fa058d616f5c5bf6f25022cdb6b24395848c7", func := "chaffcutter/chafflaw.EventBuilds", spec := "eventBuilds", unfollowed := true, recurses := true, apart := false, narrowed := true }
def EventBuildsUptoSaid : Prop := eventBuildsUptoRow.holds Try.pinned (OpenSpec.upto eventBuildsSpec)

/-- 'chafflaw.ExprSizes', WHERE WHAT IT READS IS OF BULK AT MOST 1048576: true; the input reads as it did. -/
def exprSizesUptoRow : OpenClaim := { program := "ytdlfhmdojbejkaa", sum := "666bf611f2f5b21761d9a523583fa058d616f5c5bf6f25022cdb6b24395848c7", func := "chaffcutter/chafflaw.ExprSizes", spec := "exprSizes", unfollowed := true, recurses := true, loops := true, apart := false, narrowed := true }
def ExprSizesUptoSaid : Prop := exprSizesUptoRow.holds Try.pinned (OpenSpec.upto exprSizesSpec)

/-- 'chafflaw.CodeRuns', WHERE WHAT IT READS IS OF BULK AT MOST 1048576: true; the input reads as it did. -/
def codeRunsUptoRow : OpenClaim := { program := "ytdlfhmdojbejkaa", sum := "666bf611f2f5b21761d9a523583fa058d616f5c5bf6f25022cdb6b24395848c7", func := "chaffcutter/chafflaw.CodeRuns", spec := "codeRuns", apart := false, narrowed := true }
def CodeRunsUptoSaid : Prop := codeRunsUptoRow.holds Try.pinned (OpenSpec.upto codeRunsSpec)

/-- 'chafflaw.GramChecks', WHERE WHAT IT READS IS OF BULK AT MOST 1048576: true; the input reads as it did. -/
def gramChecksUptoRow : OpenClaim := { program := "ytdlfhmdojbejkaa", sum := "666bf611f2f5b21761d9a523583fa058d616f5c5bf6f25022cdb6b24395848c7", func := "chaffcutter/chafflaw.GramChecks", spec := "gramChecks", unfollowed := true, recurses := true, loops := true, apart := false, narrowed := true }
def GramChecksUptoSaid : Prop := gramChecksUptoRow.holds Try.pinned (OpenSpec.upto gramChecksSpec)

/-- 'chafflaw.GreedySays', WHERE WHAT IT READS IS OF BULK AT MOST 1048576: true; the input reads as it did. -/
def greedySaysUptoRow : OpenClaim := { program := "ytdlfhmdojbejkaa", sum := "666bf611f2f5b21761d9a523583fa058d616f5c5bf6f25022cdb6b24395848c7", func := "chaffcutter/chafflaw.GreedySays", spec := "greedySays", unfollowed := true, recurses := true, apart := false, narrowed := true }
def GreedySaysUptoSaid : Prop := greedySaysUptoRow.holds Try.pinned (OpenSpec.upto greedySaysSpec)

/-- 'chafflaw.QuoteLits', WHERE WHAT IT READS IS OF BULK AT MOST 1048576: true; the input reads as it did. -/
def quoteLitsUptoRow : OpenClaim := { program := "ytdlfhmdojbejkaa", sum := "666bf611f2f5b21761d9a523583fa058d616f5c5bf6f25022cdb6b24395848c7", func := "chaffcutter/chafflaw.QuoteLits", spec := "quoteLits", inPlace := ["internal/bytealg.IndexByteString", "internal/bytealg.IndexString"], named := ["internal/bytealg.MaxLen"], apart := false, narrowed := true }
def QuoteLitsUptoSaid : Prop := quoteLitsUptoRow.holds Try.pinned (OpenSpec.upto quoteLitsSpec)

end Rows
end Go.Proofs.Ytdlfhmdojbejkaa
