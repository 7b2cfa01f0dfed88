/-
  NARROWER THAN 'FOR EVERY INPUT', by the rows' own cells (each row's printed sentence says how): MeanRuns: loops · MutateSays: loops · PackFars: loops · PackAts: loops · PackRuns: loops · CoverSays: loops · MutateKills: loops · ShrinkHolds: loops · BookRuns: loops · TreeSays: loops · ShrinkSays: loops · ListAccepts: loops.
  DERIVED. THE GIVEN ROWS OF THIS SEAT. 12 by the template 'for every input the law returns true; each argument reads behind the call as it read before'; 0 by the template 'total and deterministic' (their statements: YtifkffmecfgpeaaTotals.lean).
  GIVEN WITH THE SEED: the statements are not yours to turn. If you find one false, say at which input.
  Laid BY PROGRAM, IN A SANDBOX (cutbox-rows.mjs): the forced cells as the released guide's own fill.sh prints them over the translation d0d87032e0771d88… (all of the seat's roots in one cut). By AI agents, Wed Nov 11 2026. No macro, syntax, notation, axiom, sorry.
-/
import Derived.Test.YtifkffmecfgpeaaChecked
import GoSem.Claim
import GoSem.ClaimJoined
import GoSem.ClaimMapViews
import Derived.JoinedTies
import Derived.KernelRfl
namespace Go.Proofs.Ytifkffmecfgpeaa
/- THE CELL 'sum', in the pinned program and in every row, IS THE sha256 OF THE DUMP (.gsa) THAT YtifkffmecfgpeaaProg.lean LOADS. Nothing in Lean hashes anything: it is a label: what it is worth is what the hold of that sum in a sandbox is worth. -/
noncomputable def Try.pinned : Pinned := { name := "ytifkffmecfgpeaa", sum := "d0d87032e0771d88bac899b0a438f7f501aeb7142217eaf685cac341ad8eea5b", checked := Try.checked }
namespace Rows
def none {H : Type} : Left H := { results := [], args := [] }

/-- 'chafflaw.MeanRuns': WHATEVER THE INPUT: true; the input reads as it did. -/
def meanRunsSpec : ChangeSpec := { name := "meanRuns", fn := fun _ => fun
  | [d1, d2, d3] => { results := [.lit (.bool true)], args := [d1, d2, d3] }
  | _ => none }
def meanRunsRow : OpenClaim := { program := "ytifkffmecfgpeaa", sum := "d0d87032e0771d88bac899b0a438f7f501aeb7142217eaf685cac341ad8eea5b", func := "chaffcutter/chafflaw.MeanRuns", spec := "meanRuns", unfollowed := true, recurses := true, loops := true, plainKeys := false, apart := false }
def MeanRunsSaid : Prop := meanRunsRow.holds Try.pinned (OpenSpec.ofChange meanRunsSpec)

/-- ITS FALSE NEIGHBOUR: 'it returns false'. Refute it at one input. -/
def meanRunsWrong : ChangeSpec := { name := "meanRuns", fn := fun _ => fun
  | [d1, d2, d3] => { results := [.lit (.bool false)], args := [d1, d2, d3] }
  | _ => none }
def MeanRunsWrongFalsely : Prop := meanRunsRow.holds Try.pinned (OpenSpec.ofChange meanRunsWrong)

/-- 'chafflaw.MutateSays': WHATEVER THE INPUT: true; the input reads as it did. -/
def mutateSaysSpec : ChangeSpec := { name := "mutateSays", fn := fun _ => fun
  | [d] => { results := [.lit (.bool true)], args := [d] }
  | _ => none }
def mutateSaysRow : OpenClaim := { program := "ytifkffmecfgpeaa", sum := "d0d87032e0771d88bac899b0a438f7f501aeb7142217eaf685cac341ad8eea5b", func := "chaffcutter/chafflaw.MutateSays", spec := "mutateSays", unfollowed := true, recurses := true, loops := true, plainKeys := false, apart := false }
def MutateSaysSaid : Prop := mutateSaysRow.holds Try.pinned (OpenSpec.ofChange mutateSaysSpec)

/-- ITS FALSE NEIGHBOUR: 'it returns false'. Refute it at one input. -/
def mutateSaysWrong : ChangeSpec := { name := "mutateSays", fn := fun _ => fun
  | [d] => { results := [.lit (.bool false)], args := [d] }
  | _ => none }
def MutateSaysWrongFalsely : Prop := mutateSaysRow.holds Try.pinned (OpenSpec.ofChange mutateSaysWrong)

/-- 'chafflaw.PackFars': WHATEVER THE INPUT: true; the input reads as it did. -/
def packFarsSpec : ChangeSpec := { name := "packFars", fn := fun _ => fun
  | [d1, d2] => { results := [.lit (.bool true)], args := [d1, d2] }
  | _ => none }
def packFarsRow : OpenClaim := { program := "ytifkffmecfgpeaa", sum := "d0d87032e0771d88bac899b0a438f7f501aeb7142217eaf685cac341ad8eea5b", func := "chaffcutter/chafflaw.PackFars", spec := "packFars", unfollowed := true, recurses := true, loops := true, plainKeys := false, apart := false }
def PackFarsSaid : Prop := packFarsRow.holds Try.pinned (OpenSpec.ofChange packFarsSpec)

/-- ITS FALSE NEIGHBOUR: 'it returns false'. Refute it at one input. -/
def packFarsWrong : ChangeSpec := { name := "packFars", fn := fun _ => fun
  | [d1, d2] => { results := [.lit (.bool false)], args := [d1, d2] }
  | _ => none }
def PackFarsWrongFalsely : Prop := packFarsRow.holds Try.pinned (OpenSpec.ofChange packFarsWrong)

/-- 'chafflaw.PackAts': WHATEVER THE INPUT: true; the input reads as it did. -/
def packAtsSpec : ChangeSpec := { name := "packAts", fn := fun _ => fun
  | [d1, d2, d3, d4] => { results := [.lit (.bool true)], args := [d1, d2, d3, d4] }
  | _ => none }
def packAtsRow : OpenClaim := { program := "ytifkffmecfgpeaa", sum := "d0d87032e0771d88bac899b0a438f7f501aeb7142217eaf685cac341ad8eea5b", func := "chaffcutter/chafflaw.PackAts", spec := "packAts", unfollowed := true, recurses := true, loops := true, plainKeys := false, apart := false }
def PackAtsSaid : Prop := packAtsRow.holds Try.pinned (OpenSpec.ofChange packAtsSpec)

/-- ITS FALSE NEIGHBOUR: 'it returns false'. Refute it at one input. -/
def packAtsWrong : ChangeSpec := { name := "packAts", fn := fun _ => fun
  | [d1, d2, d3, d4] => { results := [.lit (.bool false)], args := [d1, d2, d3, d4] }
  | _ => none }
def PackAtsWrongFalsely : Prop := packAtsRow.holds Try.pinned (OpenSpec.ofChange packAtsWrong)

/-- 'chafflaw.PackRuns': WHATEVER THE INPUT: true; the input reads as it did. -/
def packRunsSpec : ChangeSpec := { name := "packRuns", fn := fun _ => fun
  | [d1, d2] => { results := [.lit (.bool true)], args := [d1, d2] }
  | _ => none }
def packRunsRow : OpenClaim := { program := "ytifkffmecfgpeaa", sum := "d0d87032e0771d88bac899b0a438f7f501aeb7142217eaf685cac341ad8eea5b", func := "chaffcutter/chafflaw.PackRuns", spec := "packRuns", unfollowed := true, recurses := true, loops := true, plainKeys := false, apart := false }
def PackRunsSaid : Prop := packRunsRow.holds Try.pinned (OpenSpec.ofChange packRunsSpec)

/-- ITS FALSE NEIGHBOUR: 'it returns false'. Refute it at one input. -/
def packRunsWrong : ChangeSpec := { name := "packRuns", fn := fun _ => fun
  | [d1, d2] => { results := [.lit (.bool false)], args := [d1, d2] }
  | _ => none }
def PackRunsWrongFalsely : Prop := packRunsRow.holds Try.pinned (OpenSpec.ofChange packRunsWrong)

/-- 'chafflaw.CoverSays': WHATEVER THE INPUT: true; the input reads as it did. -/
def coverSaysSpec : ChangeSpec := { name := "coverSays", fn := fun _ => fun
  | [d1, d2] => { results := [.lit (.bool true)], args := [d1, d2] }
  | _ => none }
def coverSaysRow : OpenClaim := { program := "ytifkffmecfgpeaa", sum := "d0d87032e0771d88bac899b0a438f7f501aeb7142217eaf685cac341ad8eea5b", func := "chaffcutter/chafflaw.CoverSays", spec := "coverSays", unfollowed := true, recurses := true, loops := true, plainKeys := false, apart := false }
def CoverSaysSaid : Prop := coverSaysRow.holds Try.pinned (OpenSpec.ofChange coverSaysSpec)

/-- ITS FALSE NEIGHBOUR: 'it returns false'. Refute it at one input. -/
def coverSaysWrong : ChangeSpec := { name := "coverSays", fn := fun _ => fun
  | [d1, d2] => { results := [.lit (.bool false)], args := [d1, d2] }
  | _ => none }
def CoverSaysWrongFalsely : Prop := coverSaysRow.holds Try.pinned (OpenSpec.ofChange coverSaysWrong)

/-- 'chafflaw.MutateKills': WHATEVER THE INPUT: true; the input reads as it did. -/
def mutateKillsSpec : ChangeSpec := { name := "mutateKills", fn := fun _ => fun
  | [d1, d2, d3] => { results := [.lit (.bool true)], args := [d1, d2, d3] }
  | _ => none }
def mutateKillsRow : OpenClaim := { program := "ytifkffmecfgpeaa", sum := "d0d87032e0771d88bac899b0a438f7f501aeb7142217eaf685cac341ad8eea5b", func := "chaffcutter/chafflaw.MutateKills", spec := "mutateKills", unfollowed := true, recurses := true, loops := true, plainKeys := false, apart := false }
def MutateKillsSaid : Prop := mutateKillsRow.holds Try.pinned (OpenSpec.ofChange mutateKillsSpec)

/-- ITS FALSE NEIGHBOUR: 'it returns false'. Refute it at one input. -/
def mutateKillsWrong : ChangeSpec := { name := "mutateKills", fn := fun _ => fun
  | [d1, d2, d3] => { results := [.lit (.bool false)], args := [d1, d2, d3] }
  | _ => none }
def MutateKillsWrongFalsely : Prop := mutateKillsRow.holds Try.pinned (OpenSpec.ofChange mutateKillsWrong)

/-- 'chafflaw.ShrinkHolds': WHATEVER THE INPUT: true; the input reads as it did. -/
def shrinkHoldsSpec : ChangeSpec := { name := "shrinkHolds", fn := fun _ => fun
  | [d1, d2] => { results := [.lit (.bool true)], args := [d1, d2] }
  | _ => none }
def shrinkHoldsRow : OpenClaim := { program := "ytifkffmecfgpeaa", sum := "d0d87032e0771d88bac899b0a438f7f501aeb7142217eaf685cac341ad8eea5b", func := "chaffcutter/chafflaw.ShrinkHolds", spec := "shrinkHolds", unfollowed := true, recurses := true, loops := true, plainKeys := false, apart := false }
def ShrinkHoldsSaid : Prop := shrinkHoldsRow.holds Try.pinned (OpenSpec.ofChange shrinkHoldsSpec)

/-- ITS FALSE NEIGHBOUR: 'it returns false'. Refute it at one input. -/
def shrinkHoldsWrong : ChangeSpec := { name := "shrinkHolds", fn := fun _ => fun
  | [d1, d2] => { results := [.lit (.bool false)], args := [d1, d2] }
  | _ => none }
def ShrinkHoldsWrongFalsely : Prop := shrinkHoldsRow.holds Try.pinned (OpenSpec.ofChange shrinkHoldsWrong)

/-- 'chafflaw.BookRuns': WHATEVER THE INPUT: true; the input reads as it did. -/
def bookRunsSpec : ChangeSpec := { name := "bookRuns", fn := fun _ => fun
  | [d1, d2] => { results := [.lit (.bool true)], args := [d1, d2] }
  | _ => none }
def bookRunsRow : OpenClaim := { program := "ytifkffmecfgpeaa", sum := "d0d87032e0771d88bac899b0a438f7f501aeb7142217eaf685cac341ad8eea5b", func := "chaffcutter/chafflaw.BookRuns", spec := "bookRuns", unfollowed := true, recurses := true, loops := true, plainKeys := false, apart := false }
def BookRunsSaid : Prop := bookRunsRow.holds Try.pinned (OpenSpec.ofChange bookRunsSpec)

/-- ITS FALSE NEIGHBOUR: 'it returns false'. Refute it at one input. -/
def bookRunsWrong : ChangeSpec := { name := "bookRuns", fn := fun _ => fun
  | [d1, d2] => { results := [.lit (.bool false)], args := [d1, d2] }
  | _ => none }
def BookRunsWrongFalsely : Prop := bookRunsRow.holds Try.pinned (OpenSpec.ofChange bookRunsWrong)

/-- 'chafflaw.TreeSays': WHATEVER THE INPUT: true; the input reads as it did. -/
def treeSaysSpec : ChangeSpec := { name := "treeSays", fn := fun _ => fun
  | [d1, d2] => { results := [.lit (.bool true)], args := [d1, d2] }
  | _ => none }
def treeSaysRow : OpenClaim := { program := "ytifkffmecfgpeaa", sum := "d0d87032e0771d88bac899b0a438f7f501aeb7142217eaf685cac341ad8eea5b", func := "chaffcutter/chafflaw.TreeSays", spec := "treeSays", unfollowed := true, recurses := true, loops := true, plainKeys := false, apart := false }
def TreeSaysSaid : Prop := treeSaysRow.holds Try.pinned (OpenSpec.ofChange treeSaysSpec)

/-- ITS FALSE NEIGHBOUR: 'it returns false'. Refute it at one input. -/
def treeSaysWrong : ChangeSpec := { name := "treeSays", fn := fun _ => fun
  | [d1, d2] => { results := [.lit (.bool false)], args := [d1, d2] }
  | _ => none }
def TreeSaysWrongFalsely : Prop := treeSaysRow.holds Try.pinned (OpenSpec.ofChange treeSaysWrong)

/-- 'chafflaw.ShrinkSays': WHATEVER THE INPUT: true; the input reads as it did. -/
def shrinkSaysSpec : ChangeSpec := { name := "shrinkSays", fn := fun _ => fun
  | [d1, d2] => { results := [.lit (.bool true)], args := [d1, d2] }
  | _ => none }
def shrinkSaysRow : OpenClaim := { program := "ytifkffmecfgpeaa", sum := "d0d87032e0771d88bac899b0a438f7f501aeb7142217eaf685cac341ad8eea5b", func := "chaffcutter/chafflaw.ShrinkSays", spec := "shrinkSays", unfollowed := true, recurses := true, loops := true, plainKeys := false, apart := false }
def ShrinkSaysSaid : Prop := shrinkSaysRow.holds Try.pinned (OpenSpec.ofChange shrinkSaysSpec)

/-- ITS FALSE NEIGHBOUR: 'it returns false'. Refute it at one input. -/
def shrinkSaysWrong : ChangeSpec := { name := "shrinkSays", fn := fun _ => fun
  | [d1, d2] => { results := [.lit (.bool false)], args := [d1, d2] }
  | _ => none }
def ShrinkSaysWrongFalsely : Prop := shrinkSaysRow.holds Try.pinned (OpenSpec.ofChange shrinkSaysWrong)

/-- 'chafflaw.ListAccepts': WHATEVER THE INPUT: true; the input reads as it did. -/
def listAcceptsSpec : ChangeSpec := { name := "listAccepts", fn := fun _ => fun
  | [d1, d2, d3, d4] => { results := [.lit (.bool true)], args := [d1, d2, d3, d4] }
  | _ => none }
def listAcceptsRow : OpenClaim := { program := "ytifkffmecfgpeaa", sum := "d0d87032e0771d88bac899b0a438f7f501aeb7142217eaf685cac341ad8eea5b", func := "chaffcutter/chafflaw.ListAccepts", spec := "listAccepts", unfollowed := true, recurses := true, loops := true, plainKeys := false, apart := false }
def ListAcceptsSaid : Prop := listAcceptsRow.holds Try.pinned (OpenSpec.ofChange listAcceptsSpec)

/-- ITS FALSE NEIGHBOUR: 'it returns false'. Refute it at one input. -/
def listAcceptsWrong : ChangeSpec := { name := "listAccepts", fn := fun _ => fun
  | [d1, d2, d3, d4] => { results := [.lit (.bool false)], args := [d1, d2, d3, d4] }
  | _ => none }
def ListAcceptsWrongFalsely : Prop := listAcceptsRow.holds Try.pinned (OpenSpec.ofChange listAcceptsWrong)

/- THE SECOND FORM. 'bulk': how many values and letters a reading holds, each counted each time it is reached (what is shared counts as often as it is met; a slice's spare places count too). A statement '..UptoSaid' is the law's where the arguments, and the package variables that the reading takes, are together of bulk at most 1048576: NARROWER than '..Said'. Prove '..Said' where nothing that the law and all that it calls make is longer than what came in: it says more and counts as full. Else prove '..UptoSaid'. A law counts once. -/
mutual
def uptoBulk {H : Type} : DataW H → Nat
  | .lit (.string bytes) => bytes.length + 1
  | .lit _ => 1
  | .nil => 1
  | .ptr d => uptoBulk d + 1
  | .slice elems spare => uptoBulkAll elems + uptoBulkAll spare + 1
  | .agg parts => uptoBulkAll parts + 1
  | .iface _ d => uptoBulk d + 1
  | .map entries => uptoBulkEntries entries + 1
  | .held _ => 1
def uptoBulkAll {H : Type} : List (DataW H) → Nat
  | [] => 0
  | d :: r => uptoBulk d + uptoBulkAll r
def uptoBulkEntries {H : Type} : List (Lit × DataW H) → Nat
  | [] => 0
  | x :: r => uptoBulkEntry x + uptoBulkEntries r
def uptoBulkEntry {H : Type} : Lit × DataW H → Nat
  | (.string bytes, d) => bytes.length + uptoBulk d + 1
  | (_, d) => uptoBulk d + 1
 end
def uptoSmall : (H : Type) → List (DataW H) → Bool := fun _ ds => decide (uptoBulkAll ds ≤ 1048576)
def OpenSpec.upto (s : _root_.Go.ChangeSpec) : _root_.Go.OpenSpec := { _root_.Go.OpenSpec.ofChange s with cond := some uptoSmall }

/-- 'chafflaw.MeanRuns', WHERE WHAT IT READS IS OF BULK AT MOST 1048576: true; the input reads as it did. -/
def meanRunsUptoRow : OpenClaim := { program := "ytifkffmecfgpeaa", sum := "d0d87032e0771d88bac899b0a438f7f501aeb7142217eaf685cac341ad8eea5b", func := "chaffcutter/chafflaw.MeanRuns", spec := "meanRuns", unfollowed := true, recurses := true, loops := true, plainKeys := false, apart := false, narrowed := true }
def MeanRunsUptoSaid : Prop := meanRunsUptoRow.holds Try.pinned (OpenSpec.upto meanRunsSpec)

/-- 'chafflaw.MutateSays', WHERE WHAT IT READS IS OF BULK AT MOST 1048576: true; the input reads as it did. -/
def mutateSaysUptoRow : OpenClaim := { program := "ytifkffmecfgpeaa", sum := "d0d87032e0771d88bac899b0a438f7f501aeb7142217eaf685cac341ad8eea5b", func := "chaffcutter/chafflaw.MutateSays", spec := "mutateSays", unfollowed := true, recurses := true, loops := true, plainKeys := false, apart := false, narrowed := true }
def MutateSaysUptoSaid : Prop := mutateSaysUptoRow.holds Try.pinned (OpenSpec.upto mutateSaysSpec)

/-- 'chafflaw.PackFars', WHERE WHAT IT READS IS OF BULK AT MOST 1048576: true; the input reads as it did. -/
def packFarsUptoRow : OpenClaim := { program := "ytifkffmecfgpeaa", sum := "d0d87032e0771d88bac899b0a438f7f501aeb7142217eaf685cac341ad8eea5b", func := "chaffcutter/chafflaw.PackFars", spec := "packFars", unfollowed := true, recurses := true, loops := true, plainKeys := false, apart := false, narrowed := true }
def PackFarsUptoSaid : Prop := packFarsUptoRow.holds Try.pinned (OpenSpec.upto packFarsSpec)

/-- 'chafflaw.PackAts', WHERE WHAT IT READS IS OF BULK AT MOST 1048576: true; the input reads as it did. -/
def packAtsUptoRow : OpenClaim := { program := "ytifkffmecfgpeaa", sum := "d0d87032e0771d88bac899b0a438f7f501aeb7142217eaf685cac341ad8eea5b", func := "chaffcutter/chafflaw.PackAts", spec := "packAts", unfollowed := true, recurses := true, loops := true, plainKeys := false, apart := false, narrowed := true }
def PackAtsUptoSaid : Prop := packAtsUptoRow.holds Try.pinned (OpenSpec.upto packAtsSpec)

/-- 'chafflaw.PackRuns', WHERE WHAT IT READS IS OF BULK AT MOST 1048576: true; the input reads as it did. -/
def packRunsUptoRow : OpenClaim := { program := "ytifkffmecfgpeaa", sum := "d0d87032e0771d88bac899b0a438f7f501aeb7142217eaf685cac341ad8eea5b", func := "chaffcutter/chafflaw.PackRuns", spec := "packRuns", unfollowed := true, recurses := true, loops := true, plainKeys := false, apart := false, narrowed := true }
def PackRunsUptoSaid : Prop := packRunsUptoRow.holds Try.pinned (OpenSpec.upto packRunsSpec)

/-- 'chafflaw.CoverSays', WHERE WHAT IT READS IS OF BULK AT MOST 1048576: true; the input reads as it did. -/
def coverSaysUptoRow : OpenClaim := { program := "ytifkffmecfgpeaa", sum := "d0d87032e0771d88bac899b0a438f7f501aeb7142217eaf685cac341ad8eea5b", func := "chaffcutter/chafflaw.CoverSays", spec := "coverSays", unfollowed := true, recurses := true, loops := true, plainKeys := false, apart := false, narrowed := true }
def CoverSaysUptoSaid : Prop := coverSaysUptoRow.holds Try.pinned (OpenSpec.upto coverSaysSpec)

/-- 'chafflaw.MutateKills', WHERE WHAT IT READS IS OF BULK AT MOST 1048576: true; the input reads as it did. -/
def mutateKillsUptoRow : OpenClaim := { program := "ytifkffmecfgpeaa", sum := "d0d87032e0771d88bac899b0a438f7f501aeb7142217eaf685cac341ad8eea5b", func := "chaffcutter/chafflaw.MutateKills", spec := "mutateKills", unfollowed := true, recurses := true, loops := true, plainKeys := false, apart := false, narrowed := true }
def MutateKillsUptoSaid : Prop := mutateKillsUptoRow.holds Try.pinned (OpenSpec.upto mutateKillsSpec)

/-- 'chafflaw.ShrinkHolds', WHERE WHAT IT READS IS OF BULK AT MOST 1048576: true; the input reads as it did. -/
def shrinkHoldsUptoRow : OpenClaim := { program := "ytifkffmecfgpeaa", sum := "d0d87032e0771d88bac899b0a438f7f501aeb7142217eaf685cac341ad8eea5b", func := "chaffcutter/chafflaw.ShrinkHolds", spec := "shrinkHolds", unfollowed := true, recurses := true, loops := true, plainKeys := false, apart := false, narrowed := true }
def ShrinkHoldsUptoSaid : Prop := shrinkHoldsUptoRow.holds Try.pinned (OpenSpec.upto shrinkHoldsSpec)

/-- 'chafflaw.BookRuns', WHERE WHAT IT READS IS OF BULK AT MOST 1048576: true; the input reads as it did. -/
def bookRunsUptoRow : OpenClaim := { program := "ytifkffmecfgpeaa", sum := "d0d87032e0771d88bac899b0a438f7f501aeb7142217eaf685cac341ad8eea5b", func := "chaffcutter/chafflaw.BookRuns", spec := "bookRuns", unfollowed := true, recurses := true, loops := true, plainKeys := false, apart := false, narrowed := true }
def BookRunsUptoSaid : Prop := bookRunsUptoRow.holds Try.pinned (OpenSpec.upto bookRunsSpec)

/-- 'chafflaw.TreeSays', WHERE WHAT IT READS IS OF BULK AT MOST 1048576: true; the input reads as it did. -/
def treeSaysUptoRow : OpenClaim := { program := "ytifkffmecfgpeaa", sum := "d0d87032e0771d88bac899b0a438f7f501aeb7142217eaf685cac341ad8eea5b", func := "chaffcutter/chafflaw.TreeSays", spec := "treeSays", unfollowed := true, recurses := true, loops := true, plainKeys := false, apart := false, narrowed := true }
def TreeSaysUptoSaid : Prop := treeSaysUptoRow.holds Try.pinned (OpenSpec.upto treeSaysSpec)

/-- 'chafflaw.ShrinkSays', WHERE WHAT IT READS IS OF BULK AT MOST 1048576: true; the input reads as it did. -/
def shrinkSaysUptoRow : OpenClaim := { program := "ytifkffmecfgpeaa", sum := "d0d87032e0771d88bac899b0a438f7f501aeb7142217eaf685cac341ad8eea5b", func := "chaffcutter/chafflaw.ShrinkSays", spec := "shrinkSays", unfollowed := true, recurses := true, loops := true, plainKeys := false, apart := false, narrowed := true }
def ShrinkSaysUptoSaid : Prop := shrinkSaysUptoRow.holds Try.pinned (OpenSpec.upto shrinkSaysSpec)

/-- 'chafflaw.ListAccepts', WHERE WHAT IT READS IS OF BULK AT MOST 1048576: true; the input reads as it did. -/
def listAcceptsUptoRow : OpenClaim := { program := "ytifkffmecfgpeaa", sum := "d0d87032e0771d88bac899b0a438f7f501aeb7142217eaf685cac341ad8eea5b", func := "chaffcutter/chafflaw.ListAccepts", spec := "listAccepts", unfollowed := true, recurses := true, loops := true, plainKeys := false, apart := false, narrowed := true }
def ListAcceptsUptoSaid : Prop := listAcceptsUptoRow.holds Try.pinned (OpenSpec.upto listAcceptsSpec)

end Rows
end Go.Proofs.Ytifkffmecfgpeaa
