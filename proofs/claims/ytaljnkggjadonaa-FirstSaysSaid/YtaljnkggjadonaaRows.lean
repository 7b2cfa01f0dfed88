/-
  NARROWER THAN 'FOR EVERY INPUT', by the rows' own cells (each row's printed sentence says how): GramNodes: loops · KernelSays: loops · WellFacts: loops · WellSays: loops · MeanLooks: loops · FirstSays: loops · MeanRuns: loops · PackFars: loops · PackAts: loops · PackRuns: loops · CoverSays: loops · TreeSays: loops.
  DERIVED. THE GIVEN ROWS OF THIS SEAT. 12 by the template 'for every input the law returns true; each argument reads behind the call as it read before'; 0 by the template 'total and deterministic' (their statements: YtaljnkggjadonaaTotals.lean).
  GIVEN WITH THE SEED: the statements are not yours to turn. If you find one false, say at which input.
  Laid BY PROGRAM, IN A SANDBOX (cutbox-rows.mjs): the forced cells as the released guide's own fill.sh prints them over the translation f094454c065104f0… (all of the seat's roots in one cut). By AI agents, Wed Nov 11 2026. No macro, syntax, notation, axiom, sorry.
-/
import Derived.Test.YtaljnkggjadonaaChecked
import GoSem.Claim
import GoSem.ClaimJoined
import GoSem.ClaimMapViews
import Derived.JoinedTies
import Derived.KernelRfl
namespace Go.Proofs.Ytaljnkggjadonaa
/- THE CELL 'sum', in the pinned program and in every row, IS THE sha256 OF THE DUMP (.gsa) THAT YtaljnkggjadonaaProg.lean LOADS. Nothing in Lean hashes anything: it is a label: what it is worth is what the hold of that sum in a sandbox is worth. -/
noncomputable def Try.pinned : Pinned := { name := "ytaljnkggjadonaa", sum := "f094454c065104f0df8d343de3c1721badd26212c231a8b163fe3e6b97a32c63", checked := Try.checked }
namespace Rows
def none {H : Type} : Left H := { results := [], args := [] }

/-- 'chafflaw.GramNodes': WHATEVER THE INPUT: true; the input reads as it did. -/
def gramNodesSpec : ChangeSpec := { name := "gramNodes", fn := fun _ => fun
  | [d] => { results := [.lit (.bool true)], args := [d] }
  | _ => none }
def gramNodesRow : OpenClaim := { program := "ytaljnkggjadonaa", sum := "f094454c065104f0df8d343de3c1721badd26212c231a8b163fe3e6b97a32c63", func := "chaffcutter/chafflaw.GramNodes", spec := "gramNodes", unfollowed := true, recurses := true, loops := true, plainKeys := false, apart := false }
def GramNodesSaid : Prop := gramNodesRow.holds Try.pinned (OpenSpec.ofChange gramNodesSpec)

/-- ITS FALSE NEIGHBOUR: 'it returns false'. Refute it at one input. -/
def gramNodesWrong : ChangeSpec := { name := "gramNodes", fn := fun _ => fun
  | [d] => { results := [.lit (.bool false)], args := [d] }
  | _ => none }
def GramNodesWrongFalsely : Prop := gramNodesRow.holds Try.pinned (OpenSpec.ofChange gramNodesWrong)

/-- 'chafflaw.KernelSays': WHATEVER THE INPUT: true; the input reads as it did. -/
def kernelSaysSpec : ChangeSpec := { name := "kernelSays", fn := fun _ => fun
  | [d] => { results := [.lit (.bool true)], args := [d] }
  | _ => none }
def kernelSaysRow : OpenClaim := { program := "ytaljnkggjadonaa", sum := "f094454c065104f0df8d343de3c1721badd26212c231a8b163fe3e6b97a32c63", func := "chaffcutter/chafflaw.KernelSays", spec := "kernelSays", unfollowed := true, recurses := true, loops := true, plainKeys := false, apart := false }
def KernelSaysSaid : Prop := kernelSaysRow.holds Try.pinned (OpenSpec.ofChange kernelSaysSpec)

/-- ITS FALSE NEIGHBOUR: 'it returns false'. Refute it at one input. -/
def kernelSaysWrong : ChangeSpec := { name := "kernelSays", fn := fun _ => fun
  | [d] => { results := [.lit (.bool false)], args := [d] }
  | _ => none }
def KernelSaysWrongFalsely : Prop := kernelSaysRow.holds Try.pinned (OpenSpec.ofChange kernelSaysWrong)

/-- 'chafflaw.WellFacts': WHATEVER THE INPUT: true; the input reads as it did. -/
def wellFactsSpec : ChangeSpec := { name := "wellFacts", fn := fun _ => fun
  | [d] => { results := [.lit (.bool true)], args := [d] }
  | _ => none }
def wellFactsRow : OpenClaim := { program := "ytaljnkggjadonaa", sum := "f094454c065104f0df8d343de3c1721badd26212c231a8b163fe3e6b97a32c63", func := "chaffcutter/chafflaw.WellFacts", spec := "wellFacts", unfollowed := true, recurses := true, loops := true, plainKeys := false, apart := false }
def WellFactsSaid : Prop := wellFactsRow.holds Try.pinned (OpenSpec.ofChange wellFactsSpec)

/-- ITS FALSE NEIGHBOUR: 'it returns false'. Refute it at one input. -/
def wellFactsWrong : ChangeSpec := { name := "wellFacts", fn := fun _ => fun
  | [d] => { results := [.lit (.bool false)], args := [d] }
  | _ => none }
def WellFactsWrongFalsely : Prop := wellFactsRow.holds Try.pinned (OpenSpec.ofChange wellFactsWrong)

/-- 'chafflaw.WellSays': WHATEVER THE INPUT: true; the input reads as it did. -/
def wellSaysSpec : ChangeSpec := { name := "wellSays", fn := fun _ => fun
  | [d] => { results := [.lit (.bool true)], args := [d] }
  | _ => none }
def wellSaysRow : OpenClaim := { program := "ytaljnkggjadonaa", sum := "f094454c065104f0df8d343de3c1721badd26212c231a8b163fe3e6b97a32c63", func := "chaffcutter/chafflaw.WellSays", spec := "wellSays", unfollowed := true, recurses := true, loops := true, plainKeys := false, apart := false }
def WellSaysSaid : Prop := wellSaysRow.holds Try.pinned (OpenSpec.ofChange wellSaysSpec)

/-- ITS FALSE NEIGHBOUR: 'it returns false'. Refute it at one input. -/
def wellSaysWrong : ChangeSpec := { name := "wellSays", fn := fun _ => fun
  | [d] => { results := [.lit (.bool false)], args := [d] }
  | _ => none }
def WellSaysWrongFalsely : Prop := wellSaysRow.holds Try.pinned (OpenSpec.ofChange wellSaysWrong)

/-- 'chafflaw.MeanLooks': WHATEVER THE INPUT: true; the input reads as it did. -/
def meanLooksSpec : ChangeSpec := { name := "meanLooks", fn := fun _ => fun
  | [d1, d2] => { results := [.lit (.bool true)], args := [d1, d2] }
  | _ => none }
def meanLooksRow : OpenClaim := { program := "ytaljnkggjadonaa", sum := "f094454c065104f0df8d343de3c1721badd26212c231a8b163fe3e6b97a32c63", func := "chaffcutter/chafflaw.MeanLooks", spec := "meanLooks", unfollowed := true, recurses := true, loops := true, plainKeys := false, apart := false }
def MeanLooksSaid : Prop := meanLooksRow.holds Try.pinned (OpenSpec.ofChange meanLooksSpec)

/-- ITS FALSE NEIGHBOUR: 'it returns false'. Refute it at one input. -/
def meanLooksWrong : ChangeSpec := { name := "meanLooks", fn := fun _ => fun
  | [d1, d2] => { results := [.lit (.bool false)], args := [d1, d2] }
  | _ => none }
def MeanLooksWrongFalsely : Prop := meanLooksRow.holds Try.pinned (OpenSpec.ofChange meanLooksWrong)

/-- 'chafflaw.FirstSays': WHATEVER THE INPUT: true; the input reads as it did. -/
def firstSaysSpec : ChangeSpec := { name := "firstSays", fn := fun _ => fun
  | [d] => { results := [.lit (.bool true)], args := [d] }
  | _ => none }
def firstSaysRow : OpenClaim := { program := "ytaljnkggjadonaa", sum := "f094454c065104f0df8d343de3c1721badd26212c231a8b163fe3e6b97a32c63", func := "chaffcutter/chafflaw.FirstSays", spec := "firstSays", unfollowed := true, recurses := true, loops := true, plainKeys := false, apart := false }
def FirstSaysSaid : Prop := firstSaysRow.holds Try.pinned (OpenSpec.ofChange firstSaysSpec)

/-- ITS FALSE NEIGHBOUR: 'it returns false'. Refute it at one input. -/
def firstSaysWrong : ChangeSpec := { name := "firstSays", fn := fun _ => fun
  | [d] => { results := [.lit (.bool false)], args := [d] }
  | _ => none }
def FirstSaysWrongFalsely : Prop := firstSaysRow.holds Try.pinned (OpenSpec.ofChange firstSaysWrong)

/-- 'chafflaw.MeanRuns': WHATEVER THE INPUT: true; the input reads as it did. -/
def meanRunsSpec : ChangeSpec := { name := "meanRuns", fn := fun _ => fun
  | [d1, d2, d3] => { results := [.lit (.bool true)], args := [d1, d2, d3] }
  | _ => none }
def meanRunsRow : OpenClaim := { program := "ytaljnkggjadonaa", sum := "f094454c065104f0df8d343de3c1721badd26212c231a8b163fe3e6b97a32c63", func := "chaffcutter/chafflaw.MeanRuns", spec := "meanRuns", unfollowed := true, recurses := true, loops := true, plainKeys := false, apart := false }
def MeanRunsSaid : Prop := meanRunsRow.holds Try.pinned (OpenSpec.ofChange meanRunsSpec)

/-- ITS FALSE NEIGHBOUR: 'it returns false'. Refute it at one input. -/
def meanRunsWrong : ChangeSpec := { name := "meanRuns", fn := fun _ => fun
  | [d1, d2, d3] => { results := [.lit (.bool false)], args := [d1, d2, d3] }
  | _ => none }
def MeanRunsWrongFalsely : Prop := meanRunsRow.holds Try.pinned (OpenSpec.ofChange meanRunsWrong)

/-- 'chafflaw.PackFars': WHATEVER THE INPUT: true; the input reads as it did. -/
def packFarsSpec : ChangeSpec := { name := "packFars", fn := fun _ => fun
  | [d1, d2] => { results := [.lit (.bool true)], args := [d1, d2] }
  | _ => none }
def packFarsRow : OpenClaim := { program := "ytaljnkggjadonaa", sum := "f094454c065104f0df8d343de3c1721badd26212c231a8b163fe3e6b97a32c63", func := "chaffcutter/chafflaw.PackFars", spec := "packFars", unfollowed := true, recurses := true, loops := true, plainKeys := false, apart := false }
def PackFarsSaid : Prop := packFarsRow.holds Try.pinned (OpenSpec.ofChange packFarsSpec)

/-- ITS FALSE NEIGHBOUR: 'it returns false'. Refute it at one input. -/
def packFarsWrong : ChangeSpec := { name := "packFars", fn := fun _ => fun
  | [d1, d2] => { results := [.lit (.bool false)], args := [d1, d2] }
  | _ => none }
def PackFarsWrongFalsely : Prop := packFarsRow.holds Try.pinned (OpenSpec.ofChange packFarsWrong)

/-- 'chafflaw.PackAts': WHATEVER THE INPUT: true; the input reads as it did. -/
def packAtsSpec : ChangeSpec := { name := "packAts", fn := fun _ => fun
  | [d1, d2, d3, d4] => { results := [.lit (.bool true)], args := [d1, d2, d3, d4] }
  | _ => none }
def packAtsRow : OpenClaim := { program := "ytaljnkggjadonaa", sum := "f094454c065104f0df8d343de3c1721badd26212c231a8b163fe3e6b97a32c63", func := "chaffcutter/chafflaw.PackAts", spec := "packAts", unfollowed := true, recurses := true, loops := true, plainKeys := false, apart := false }
def PackAtsSaid : Prop := packAtsRow.holds Try.pinned (OpenSpec.ofChange packAtsSpec)

/-- ITS FALSE NEIGHBOUR: 'it returns false'. Refute it at one input. -/
def packAtsWrong : ChangeSpec := { name := "packAts", fn := fun _ => fun
  | [d1, d2, d3, d4] => { results := [.lit (.bool false)], args := [d1, d2, d3, d4] }
  | _ => none }
def PackAtsWrongFalsely : Prop := packAtsRow.holds Try.pinned (OpenSpec.ofChange packAtsWrong)

/-- 'chafflaw.PackRuns': WHATEVER THE INPUT: true; the input reads as it did. -/
def packRunsSpec : ChangeSpec := { name := "packRuns", fn := fun _ => fun
  | [d1, d2] => { results := [.lit (.bool true)], args := [d1, d2] }
  | _ => none }
def packRunsRow : OpenClaim := { program := "ytaljnkggjadonaa", sum := "f094454c065104f0df8d343de3c1721badd26212c231a8b163fe3e6b97a32c63", func := "chaffcutter/chafflaw.PackRuns", spec := "packRuns", unfollowed := true, recurses := true, loops := true, plainKeys := false, apart := false }
def PackRunsSaid : Prop := packRunsRow.holds Try.pinned (OpenSpec.ofChange packRunsSpec)

/-- ITS FALSE NEIGHBOUR: 'it returns false'. Refute it at one input. -/
def packRunsWrong : ChangeSpec := { name := "packRuns", fn := fun _ => fun
  | [d1, d2] => { results := [.lit (.bool false)], args := [d1, d2] }
  | _ => none }
def PackRunsWrongFalsely : Prop := packRunsRow.holds Try.pinned (OpenSpec.ofChange packRunsWrong)

/-- 'chafflaw.CoverSays': WHATEVER THE INPUT: true; the input reads as it did. -/
def coverSaysSpec : ChangeSpec := { name := "coverSays", fn := fun _ => fun
  | [d1, d2] => { results := [.lit (.bool true)], args := [d1, d2] }
  | _ => none }
def coverSaysRow : OpenClaim := { program := "ytaljnkggjadonaa", sum := "f094454c065104f0df8d343de3c1721badd26212c231a8b163fe3e6b97a32c63", func := "chaffcutter/chafflaw.CoverSays", spec := "coverSays", unfollowed := true, recurses := true, loops := true, plainKeys := false, apart := false }
def CoverSaysSaid : Prop := coverSaysRow.holds Try.pinned (OpenSpec.ofChange coverSaysSpec)

/-- ITS FALSE NEIGHBOUR: 'it returns false'. Refute it at one input. -/
def coverSaysWrong : ChangeSpec := { name := "coverSays", fn := fun _ => fun
  | [d1, d2] => { results := [.lit (.bool false)], args := [d1, d2] }
  | _ => none }
def CoverSaysWrongFalsely : Prop := coverSaysRow.holds Try.pinned (OpenSpec.ofChange coverSaysWrong)

/-- 'chafflaw.TreeSays': WHATEVER THE INPUT: true; the input reads as it did. -/
def treeSaysSpec : ChangeSpec := { name := "treeSays", fn := fun _ => fun
  | [d1, d2] => { results := [.lit (.bool true)], args := [d1, d2] }
  | _ => none }
def treeSaysRow : OpenClaim := { program := "ytaljnkggjadonaa", sum := "f094454c065104f0df8d343de3c1721badd26212c231a8b163fe3e6b97a32c63", func := "chaffcutter/chafflaw.TreeSays", spec := "treeSays", unfollowed := true, recurses := true, loops := true, plainKeys := false, apart := false }
def TreeSaysSaid : Prop := treeSaysRow.holds Try.pinned (OpenSpec.ofChange treeSaysSpec)

/-- ITS FALSE NEIGHBOUR: 'it returns false'. Refute it at one input. -/
def treeSaysWrong : ChangeSpec := { name := "treeSays", fn := fun _ => fun
  | [d1, d2] => { results := [.lit (.bool false)], args := [d1, d2] }
  | _ => none }
def TreeSaysWrongFalsely : Prop := treeSaysRow.holds Try.pinned (OpenSpec.ofChange treeSaysWrong)

/- THE SECOND FORM. 'bulk': how many values and letters a reading holds, each counted each time it is reached (what is shared counts as often as it is met; a slice's spare places count too). A statement '..UptoSaid' is the law's where the arguments, and the package variables that the reading takes, are together of bulk at most 1048576: NARROWER than '..Said'. Prove '..Said' where nothing that the law and all that it calls make is longer than what came in: it says more and counts as full. Else prove '..UptoSaid'. A law counts once. -/
mutual
def uptoBulk {H : Type} : DataW H → Nat
  | .lit (.string bytes) => bytes.length + 1
  | .lit _ => 1
  | .nil => 1
  | .ptr d => uptoBulk d + 1
  | .slice elems spare => uptoBulkAll elems + uptoBulkAll spare + 1
  | .agg parts => uptoBulkAll parts + 1
  | .iface _ d => uptoBulk d + 1
  | .map entries => uptoBulkEntries entries + 1
  | .held _ => 1
def uptoBulkAll {H : Type} : List (DataW H) → Nat
  | [] => 0
  | d :: r => uptoBulk d + uptoBulkAll r
def uptoBulkEntries {H : Type} : List (Lit × DataW H) → Nat
  | [] => 0
  | x :: r => uptoBulkEntry x + uptoBulkEntries r
def uptoBulkEntry {H : Type} : Lit × DataW H → Nat
  | (.string bytes, d) => bytes.length + uptoBulk d + 1
  | (_, d) => uptoBulk d + 1
 end
def uptoSmall : (H : Type) → List (DataW H) → Bool := fun _ ds => decide (uptoBulkAll ds ≤ 1048576)
def OpenSpec.upto (s : _root_.Go.ChangeSpec) : _root_.Go.OpenSpec := { _root_.Go.OpenSpec.ofChange s with cond := some uptoSmall }

/-- 'chafflaw.GramNodes', WHERE WHAT IT READS IS OF BULK AT MOST 1048576: true; the input reads as it did. -/
def gramNodesUptoRow : OpenClaim := { program := "ytaljnkggjadonaa", sum := "f094454c065104f0df8d343de3c1721badd26212c231a8b163fe3e6b97a32c63", func := "chaffcutter/chafflaw.GramNodes", spec := "gramNodes", unfollowed := true, recurses := true, loops := true, plainKeys := false, apart := false, narrowed := true }
def GramNodesUptoSaid : Prop := gramNodesUptoRow.holds Try.pinned (OpenSpec.upto gramNodesSpec)

/-- 'chafflaw.KernelSays', WHERE WHAT IT READS IS OF BULK AT MOST 1048576: true; the input reads as it did. -/
def kernelSaysUptoRow : OpenClaim := { program := "ytaljnkggjadonaa", sum := "f094454c065104f0df8d343de3c1721badd26212c231a8b163fe3e6b97a32c63", func := "chaffcutter/chafflaw.KernelSays", spec := "kernelSays", unfollowed := true, recurses := true, loops := true, plainKeys := false, apart := false, narrowed := true }
def KernelSaysUptoSaid : Prop := kernelSaysUptoRow.holds Try.pinned (OpenSpec.upto kernelSaysSpec)

/-- 'chafflaw.WellFacts', WHERE WHAT IT READS IS OF BULK AT MOST 1048576: true; the input reads as it did. -/
def wellFactsUptoRow : OpenClaim := { program := "ytaljnkggjadonaa", sum := "f094454c065104f0df8d343de3c1721badd26212c231a8b163fe3e6b97a32c63", func := "chaffcutter/chafflaw.WellFacts", spec := "wellFacts", unfollowed := true, recurses := true, loops := true, plainKeys := false, apart := false, narrowed := true }
def WellFactsUptoSaid : Prop := wellFactsUptoRow.holds Try.pinned (OpenSpec.upto wellFactsSpec)

/-- 'chafflaw.WellSays', WHERE WHAT IT READS IS OF BULK AT MOST 1048576: true; the input reads as it did. -/
def wellSaysUptoRow : OpenClaim := { program := "ytaljnkggjadonaa", sum := "f094454c065104f0df8d343de3c1721badd26212c231a8b163fe3e6b97a32c63", func := "chaffcutter/chafflaw.WellSays", spec := "wellSays", unfollowed := true, recurses := true, loops := true, plainKeys := false, apart := false, narrowed := true }
def WellSaysUptoSaid : Prop := wellSaysUptoRow.holds Try.pinned (OpenSpec.upto wellSaysSpec)

/-- 'chafflaw.MeanLooks', WHERE WHAT IT READS IS OF BULK AT MOST 1048576: true; the input reads as it did. -/
def meanLooksUptoRow : OpenClaim := { program := "ytaljnkggjadonaa", sum := "f094454c065104f0df8d343de3c1721badd26212c231a8b163fe3e6b97a32c63", func := "chaffcutter/chafflaw.MeanLooks", spec := "meanLooks", unfollowed := true, recurses := true, loops := true, plainKeys := false, apart := false, narrowed := true }
def MeanLooksUptoSaid : Prop := meanLooksUptoRow.holds Try.pinned (OpenSpec.upto meanLooksSpec)

/-- 'chafflaw.FirstSays', WHERE WHAT IT READS IS OF BULK AT MOST 1048576: true; the input reads as it did. -/
def firstSaysUptoRow : OpenClaim := { program := "ytaljnkggjadonaa", sum := "f094454c065104f0df8d343de3c1721badd26212c231a8b163fe3e6b97a32c63", func := "chaffcutter/chafflaw.FirstSays", spec := "firstSays", unfollowed := true, recurses := true, loops := true, plainKeys := false, apart := false, narrowed := true }
def FirstSaysUptoSaid : Prop := firstSaysUptoRow.holds Try.pinned (OpenSpec.upto firstSaysSpec)

/-- 'chafflaw.MeanRuns', WHERE WHAT IT READS IS OF BULK AT MOST 1048576: true; the input reads as it did. -/
def meanRunsUptoRow : OpenClaim := { program := "ytaljnkggjadonaa", sum := "f094454c065104f0df8d343de3c1721badd26212c231a8b163fe3e6b97a32c63", func := "chaffcutter/chafflaw.MeanRuns", spec := "meanRuns", unfollowed := true, recurses := true, loops := true, plainKeys := false, apart := false, narrowed := true }
def MeanRunsUptoSaid : Prop := meanRunsUptoRow.holds Try.pinned (OpenSpec.upto meanRunsSpec)

/-- 'chafflaw.PackFars', WHERE WHAT IT READS IS OF BULK AT MOST 1048576: true; the input reads as it did. -/
def packFarsUptoRow : OpenClaim := { program := "ytaljnkggjadonaa", sum := "f094454c065104f0df8d343de3c1721badd26212c231a8b163fe3e6b97a32c63", func := "chaffcutter/chafflaw.PackFars", spec := "packFars", unfollowed := true, recurses := true, loops := true, plainKeys := false, apart := false, narrowed := true }
def PackFarsUptoSaid : Prop := packFarsUptoRow.holds Try.pinned (OpenSpec.upto packFarsSpec)

/-- 'chafflaw.PackAts', WHERE WHAT IT READS IS OF BULK AT MOST 1048576: true; the input reads as it did. -/
def packAtsUptoRow : OpenClaim := { program := "ytaljnkggjadonaa", sum := "f094454c065104f0df8d343de3c1721badd26212c231a8b163fe3e6b97a32c63", func := "chaffcutter/chafflaw.PackAts", spec := "packAts", unfollowed := true, recurses := true, loops := true, plainKeys := false, apart := false, narrowed := true }
def PackAtsUptoSaid : Prop := packAtsUptoRow.holds Try.pinned (OpenSpec.upto packAtsSpec)

/-- 'chafflaw.PackRuns', WHERE WHAT IT READS IS OF BULK AT MOST 1048576: true; the input reads as it did. -/
def packRunsUptoRow : OpenClaim := { program := "ytaljnkggjadonaa", sum := "f094454c065104f0df8d343de3c1721badd26212c231a8b163fe3e6b97a32c63", func := "chaffcutter/chafflaw.PackRuns", spec := "packRuns", unfollowed := true, recurses := true, loops := true, plainKeys := false, apart := false, narrowed := true }
def PackRunsUptoSaid : Prop := packRunsUptoRow.holds Try.pinned (OpenSpec.upto packRunsSpec)

/-- 'chafflaw.CoverSays', WHERE WHAT IT READS IS OF BULK AT MOST 1048576: true; the input reads as it did. -/
def coverSaysUptoRow : OpenClaim := { program := "ytaljnkggjadonaa", sum := "f094454c065104f0df8d343de3c1721badd26212c231a8b163fe3e6b97a32c63", func := "chaffcutter/chafflaw.CoverSays", spec := "coverSays", unfollowed := true, recurses := true, loops := true, plainKeys := false, apart := false, narrowed := true }
def CoverSaysUptoSaid : Prop := coverSaysUptoRow.holds Try.pinned (OpenSpec.upto coverSaysSpec)

/-- 'chafflaw.TreeSays', WHERE WHAT IT READS IS OF BULK AT MOST 1048576: true; the input reads as it did. -/
def treeSaysUptoRow : OpenClaim := { program := "ytaljnkggjadonaa", sum := "f094454c065104f0df8d343de3c1721badd26212c231a8b163fe3e6b97a32c63", func := "chaffcutter/chafflaw.TreeSays", spec := "treeSays", unfollowed := true, recurses := true, loops := true, plainKeys := false, apart := false, narrowed := true }
def TreeSaysUptoSaid : Prop := treeSaysUptoRow.holds Try.pinned (OpenSpec.upto treeSaysSpec)

end Rows
end Go.Proofs.Ytaljnkggjadonaa
