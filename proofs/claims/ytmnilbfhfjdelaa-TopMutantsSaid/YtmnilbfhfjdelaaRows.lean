/-
  NARROWER THAN 'FOR EVERY INPUT', by the rows' own cells (each row's printed sentence says how): EventSays: loops · TopWalk: loops · TopSame: loops · TopShrink: loops · MutateSays: loops · TopJobs: loops · TopMutants: loops.
  DERIVED. THE GIVEN ROWS OF THIS SEAT. 8 by the template 'for every input the law returns true; each argument reads behind the call as it read before'; 0 by the template 'total and deterministic' (their statements: YtmnilbfhfjdelaaTotals.lean).
  GIVEN WITH THE SEED: the statements are not yours to turn. If you find one false, say at which input.
  Laid BY PROGRAM, IN A SANDBOX (cutbox-rows.mjs): the forced cells as the released guide's own fill.sh prints them over the translation 767936af5951db53… (all of the seat's roots in one cut). By AI agents, Wed Nov 11 2026. No macro, syntax, notation, axiom, sorry.
-/
import Derived.Test.YtmnilbfhfjdelaaChecked
import GoSem.Claim
import GoSem.ClaimJoined
import GoSem.ClaimMapViews
import Derived.JoinedTies
import Derived.KernelRfl
namespace Go.Proofs.Ytmnilbfhfjdelaa
/- THE CELL 'sum', in the pinned program and in every row, IS THE sha256 OF THE DUMP (.gsa) THAT YtmnilbfhfjdelaaProg.lean LOADS. Nothing in Lean hashes anything: it is a label: what it is worth is what the hold of that sum in a sandbox is worth. -/
noncomputable def Try.pinned : Pinned := { name := "ytmnilbfhfjdelaa", sum := "767936af5951db5380a41598dc25bfd5f9baa338756974f1c7c9bf638df95577", checked := Try.checked }
namespace Rows
def none {H : Type} : Left H := { results := [], args := [] }

/-- 'chafflaw.EventSays': WHATEVER THE INPUT: true; the input reads as it did. -/
def eventSaysSpec : ChangeSpec := { name := "eventSays", fn := fun _ => fun
  | [d] => { results := [.lit (.bool true)], args := [d] }
  | _ => none }
def eventSaysRow : OpenClaim := { program := "ytmnilbfhfjdelaa", sum := "767936af5951db5380a41598dc25bfd5f9baa338756974f1c7c9bf638df95577", func := "chaffcutter/chafflaw.EventSays", spec := "eventSays", recurses := true, loops := true, plainKeys := false, apart := false }
def EventSaysSaid : Prop := eventSaysRow.holds Try.pinned (OpenSpec.ofChange eventSaysSpec)

/-- ITS FALSE NEIGHBOUR: 'it returns false'. Refute it at one input. -/
def eventSaysWrong : ChangeSpec := { name := "eventSays", fn := fun _ => fun
  | [d] => { results := [.lit (.bool false)], args := [d] }
  | _ => none }
def EventSaysWrongFalsely : Prop := eventSaysRow.holds Try.pinned (OpenSpec.ofChange eventSaysWrong)

/-- 'chafflaw.EventBuilds': WHATEVER THE INPUT: true; the input reads as it did. -/
def eventBuildsSpec : ChangeSpec := { name := "eventBuilds", fn := fun _ => fun
  | [d] => { results := [.lit (.bool true)], args := [d] }
  | _ => none }
def eventBuildsRow : OpenClaim := { program := "ytmnilbfhfjdelaa", sum := "767936af5951db5380a41598dc25bfd5f9baa338756974f1c7c9bf638df95577", func := "chaffcutter/chafflaw.EventBuilds", spec := "eventBuilds", unfollowed := true, recurses := true, plainKeys := false, apart := false }
def EventBuildsSaid : Prop := eventBuildsRow.holds Try.pinned (OpenSpec.ofChange eventBuildsSpec)

/-- ITS FALSE NEIGHBOUR: 'it returns false'. Refute it at one input. -/
def eventBuildsWrong : ChangeSpec := { name := "eventBuilds", fn := fun _ => fun
  | [d] => { results := [.lit (.bool false)], args := [d] }
  | _ => none }
def EventBuildsWrongFalsely : Prop := eventBuildsRow.holds Try.pinned (OpenSpec.ofChange eventBuildsWrong)

/-- 'chafftop.TopWalk': WHATEVER THE INPUT: true; the input reads as it did. -/
def topWalkSpec : ChangeSpec := { name := "topWalk", fn := fun _ => fun
  | [d1, d2, d3] => { results := [.lit (.bool true)], args := [d1, d2, d3] }
  | _ => none }
def topWalkRow : OpenClaim := { program := "ytmnilbfhfjdelaa", sum := "767936af5951db5380a41598dc25bfd5f9baa338756974f1c7c9bf638df95577", func := "chaffcutter/chafftop.TopWalk", spec := "topWalk", inPlace := ["internal/bytealg.IndexByteString"], unfollowed := true, recurses := true, loops := true, plainKeys := false, apart := false }
def TopWalkSaid : Prop := topWalkRow.holds Try.pinned (OpenSpec.ofChange topWalkSpec)

/-- ITS FALSE NEIGHBOUR: 'it returns false'. Refute it at one input. -/
def topWalkWrong : ChangeSpec := { name := "topWalk", fn := fun _ => fun
  | [d1, d2, d3] => { results := [.lit (.bool false)], args := [d1, d2, d3] }
  | _ => none }
def TopWalkWrongFalsely : Prop := topWalkRow.holds Try.pinned (OpenSpec.ofChange topWalkWrong)

/-- 'chafftop.TopSame': WHATEVER THE INPUT: true; the input reads as it did. -/
def topSameSpec : ChangeSpec := { name := "topSame", fn := fun _ => fun
  | [d1, d2, d3, d4] => { results := [.lit (.bool true)], args := [d1, d2, d3, d4] }
  | _ => none }
def topSameRow : OpenClaim := { program := "ytmnilbfhfjdelaa", sum := "767936af5951db5380a41598dc25bfd5f9baa338756974f1c7c9bf638df95577", func := "chaffcutter/chafftop.TopSame", spec := "topSame", inPlace := ["internal/bytealg.IndexByteString"], unfollowed := true, recurses := true, loops := true, plainKeys := false, apart := false }
def TopSameSaid : Prop := topSameRow.holds Try.pinned (OpenSpec.ofChange topSameSpec)

/-- ITS FALSE NEIGHBOUR: 'it returns false'. Refute it at one input. -/
def topSameWrong : ChangeSpec := { name := "topSame", fn := fun _ => fun
  | [d1, d2, d3, d4] => { results := [.lit (.bool false)], args := [d1, d2, d3, d4] }
  | _ => none }
def TopSameWrongFalsely : Prop := topSameRow.holds Try.pinned (OpenSpec.ofChange topSameWrong)

/-- 'chafftop.TopShrink': WHATEVER THE INPUT: true; the input reads as it did. -/
def topShrinkSpec : ChangeSpec := { name := "topShrink", fn := fun _ => fun
  | [d1, d2, d3, d4] => { results := [.lit (.bool true)], args := [d1, d2, d3, d4] }
  | _ => none }
def topShrinkRow : OpenClaim := { program := "ytmnilbfhfjdelaa", sum := "767936af5951db5380a41598dc25bfd5f9baa338756974f1c7c9bf638df95577", func := "chaffcutter/chafftop.TopShrink", spec := "topShrink", inPlace := ["internal/bytealg.IndexByteString"], unfollowed := true, recurses := true, loops := true, plainKeys := false, apart := false }
def TopShrinkSaid : Prop := topShrinkRow.holds Try.pinned (OpenSpec.ofChange topShrinkSpec)

/-- ITS FALSE NEIGHBOUR: 'it returns false'. Refute it at one input. -/
def topShrinkWrong : ChangeSpec := { name := "topShrink", fn := fun _ => fun
  | [d1, d2, d3, d4] => { results := [.lit (.bool false)], args := [d1, d2, d3, d4] }
  | _ => none }
def TopShrinkWrongFalsely : Prop := topShrinkRow.holds Try.pinned (OpenSpec.ofChange topShrinkWrong)

/-- 'chafflaw.MutateSays': WHATEVER THE INPUT: true; the input reads as it did. -/
def mutateSaysSpec : ChangeSpec := { name := "mutateSays", fn := fun _ => fun
  | [d] => { results := [.lit (.bool true)], args := [d] }
  | _ => none }
def mutateSaysRow : OpenClaim := { program := "ytmnilbfhfjdelaa", sum := "767936af5951db5380a41598dc25bfd5f9baa338756974f1c7c9bf638df95577", func := "chaffcutter/chafflaw.MutateSays", spec := "mutateSays", unfollowed := true, recurses := true, loops := true, plainKeys := false, apart := false }
def MutateSaysSaid : Prop := mutateSaysRow.holds Try.pinned (OpenSpec.ofChange mutateSaysSpec)

/-- ITS FALSE NEIGHBOUR: 'it returns false'. Refute it at one input. -/
def mutateSaysWrong : ChangeSpec := { name := "mutateSays", fn := fun _ => fun
  | [d] => { results := [.lit (.bool false)], args := [d] }
  | _ => none }
def MutateSaysWrongFalsely : Prop := mutateSaysRow.holds Try.pinned (OpenSpec.ofChange mutateSaysWrong)

/-- 'chafftop.TopJobs': WHATEVER THE INPUT: true; the input reads as it did. -/
def topJobsSpec : ChangeSpec := { name := "topJobs", fn := fun _ => fun
  | [d1, d2, d3] => { results := [.lit (.bool true)], args := [d1, d2, d3] }
  | _ => none }
def topJobsRow : OpenClaim := { program := "ytmnilbfhfjdelaa", sum := "767936af5951db5380a41598dc25bfd5f9baa338756974f1c7c9bf638df95577", func := "chaffcutter/chafftop.TopJobs", spec := "topJobs", inPlace := ["internal/bytealg.IndexByteString"], unfollowed := true, recurses := true, loops := true, plainKeys := false, apart := false }
def TopJobsSaid : Prop := topJobsRow.holds Try.pinned (OpenSpec.ofChange topJobsSpec)

/-- ITS FALSE NEIGHBOUR: 'it returns false'. Refute it at one input. -/
def topJobsWrong : ChangeSpec := { name := "topJobs", fn := fun _ => fun
  | [d1, d2, d3] => { results := [.lit (.bool false)], args := [d1, d2, d3] }
  | _ => none }
def TopJobsWrongFalsely : Prop := topJobsRow.holds Try.pinned (OpenSpec.ofChange topJobsWrong)

/-- 'chafftop.TopMutants': WHATEVER THE INPUT: true; the input reads as it did. -/
def topMutantsSpec : ChangeSpec := { name := "topMutants", fn := fun _ => fun
  | [d1, d2, d3, d4] => { results := [.lit (.bool true)], args := [d1, d2, d3, d4] }
  | _ => none }
def topMutantsRow : OpenClaim := { program := "ytmnilbfhfjdelaa", sum := "767936af5951db5380a41598dc25bfd5f9baa338756974f1c7c9bf638df95577", func := "chaffcutter/chafftop.TopMutants", spec := "topMutants", inPlace := ["internal/bytealg.IndexByteString"], unfollowed := true, recurses := true, loops := true, plainKeys := false, apart := false }
def TopMutantsSaid : Prop := topMutantsRow.holds Try.pinned (OpenSpec.ofChange topMutantsSpec)

/-- ITS FALSE NEIGHBOUR: 'it returns false'. Refute it at one input. -/
def topMutantsWrong : ChangeSpec := { name := "topMutants", fn := fun _ => fun
  | [d1, d2, d3, d4] => { results := [.lit (.bool false)], args := [d1, d2, d3, d4] }
  | _ => none }
def TopMutantsWrongFalsely : Prop := topMutantsRow.holds Try.pinned (OpenSpec.ofChange topMutantsWrong)

/- THE SECOND FORM. 'bulk': how many values and letters a reading holds, each counted each time it is reached (what is shared counts as often as it is met; a slice's spare places count too). A statement '..UptoSaid' is the law's where the arguments, and the package variables that the reading takes, are together of bulk at most 1048576: NARROWER than '..Said'. Prove '..Said' where nothing that the law and all that it calls make is longer than what came in: it says more and counts as full. Else prove '..UptoSaid'. A law counts once. -/
mutual
def uptoBulk {H : Type} : DataW H → Nat
  | .lit (.string bytes) => bytes.length + 1
  | .lit _ => 1
  | .nil => 1
  | .ptr d => uptoBulk d + 1
  | .slice elems spare => uptoBulkAll elems + uptoBulkAll spare + 1
  | .agg parts => uptoBulkAll parts + 1
  | .iface _ d => uptoBulk d + 1
  | .map entries => uptoBulkEntries entries + 1
  | .held _ => 1
def uptoBulkAll {H : Type} : List (DataW H) → Nat
  | [] => 0
  | d :: r => uptoBulk d + uptoBulkAll r
def uptoBulkEntries {H : Type} : List (Lit × DataW H) → Nat
  | [] => 0
  | x :: r => uptoBulkEntry x + uptoBulkEntries r
def uptoBulkEntry {H : Type} : Lit × DataW H → Nat
  | (.string bytes, d) => bytes.length + uptoBulk d + 1
  | (_, d) => uptoBulk d + 1
 end
def uptoSmall : (H : Type) → List (DataW H) → Bool := fun _ ds => decide (uptoBulkAll ds ≤ 1048576)
def OpenSpec.upto (s : _root_.Go.ChangeSpec) : _root_.Go.OpenSpec := { _root_.Go.OpenSpec.ofChange s with cond := some uptoSmall }

/-- 'chafflaw.EventSays', WHERE WHAT IT READS IS OF BULK AT MOST 1048576: true; the input reads as it did. -/
def eventSaysUptoRow : OpenClaim := { program := "ytmnilbfhfjdelaa", sum := "767936af5951db5380a41598dc25bfd5f9baa338756974f1c7c9bf638df95577", func := "chaffcutter/chafflaw.EventSays", spec := "eventSays", recurses := true, loops := true, plainKeys := false, apart := false, narrowed := true }
def EventSaysUptoSaid : Prop := eventSaysUptoRow.holds Try.pinned (OpenSpec.upto eventSaysSpec)

/-- 'chafflaw.EventBuilds', WHERE WHAT IT READS IS OF BULK AT MOST 1048576: true; the input reads as it did. -/
def eventBuildsUptoRow : OpenClaim := { program := "ytmnilbfhfjdelaa", sum := "767936af5951db5380a41598dc25bfd5f9baa338756974f1c7c9bf638df95577", func := "chaffcutter/chafflaw.EventBuilds", spec := "eventBuilds", unfollowed := true, recurses := true, plainKeys := false, apart := false, narrowed := true }
def EventBuildsUptoSaid : Prop := eventBuildsUptoRow.holds Try.pinned (OpenSpec.upto eventBuildsSpec)

/-- 'chafftop.TopWalk', WHERE WHAT IT READS IS OF BULK AT MOST 1048576: true; the input reads as it did. -/
def topWalkUptoRow : OpenClaim := { program := "ytmnilbfhfjdelaa", sum := "767936af5951db5380a41598dc25bfd5f9baa338756974f1c7c9bf638df95577", func := "chaffcutter/chafftop.TopWalk", spec := "topWalk", inPlace := ["internal/bytealg.IndexByteString"], unfollowed := true, recurses := true, loops := true, plainKeys := false, apart := false, narrowed := true }
def TopWalkUptoSaid : Prop := topWalkUptoRow.holds Try.pinned (OpenSpec.upto topWalkSpec)

/-- 'chafftop.TopSame', WHERE WHAT IT READS IS OF BULK AT MOST 1048576: true; the input reads as it did. -/
def topSameUptoRow : OpenClaim := { program := "ytmnilbfhfjdelaa", sum := "767936af5951db5380a41598dc25bfd5f9baa338756974f1c7c9bf638df95577", func := "chaffcutter/chafftop.TopSame", spec := "topSame", inPlace := ["internal/bytealg.IndexByteString"], unfollowed := true, recurses := true, loops := true, plainKeys := false, apart := false, narrowed := true }
def TopSameUptoSaid : Prop := topSameUptoRow.holds Try.pinned (OpenSpec.upto topSameSpec)

/-- 'chafftop.TopShrink', WHERE WHAT IT READS IS OF BULK AT MOST 1048576: true; the input reads as it did. -/
def topShrinkUptoRow : OpenClaim := { program := "ytmnilbfhfjdelaa", sum := "767936af5951db5380a41598dc25bfd5f9baa338756974f1c7c9bf638df95577", func := "chaffcutter/chafftop.TopShrink", spec := "topShrink", inPlace := ["internal/bytealg.IndexByteString"], unfollowed := true, recurses := true, loops := true, plainKeys := false, apart := false, narrowed := true }
def TopShrinkUptoSaid : Prop := topShrinkUptoRow.holds Try.pinned (OpenSpec.upto topShrinkSpec)

/-- 'chafflaw.MutateSays', WHERE WHAT IT READS IS OF BULK AT MOST 1048576: true; the input reads as it did. -/
def mutateSaysUptoRow : OpenClaim := { program := "ytmnilbfhfjdelaa", sum := "767936af5951db5380a41598dc25bfd5f9baa338756974f1c7c9bf638df95577", func := "chaffcutter/chafflaw.MutateSays", spec := "mutateSays", unfollowed := true, recurses := true, loops := true, plainKeys := false, apart := false, narrowed := true }
def MutateSaysUptoSaid : Prop := mutateSaysUptoRow.holds Try.pinned (OpenSpec.upto mutateSaysSpec)

/-- 'chafftop.TopJobs', WHERE WHAT IT READS IS OF BULK AT MOST 1048576: true; the input reads as it did. -/
def topJobsUptoRow : OpenClaim := { program := "ytmnilbfhfjdelaa", sum := "767936af5951db5380a41598dc25bfd5f9baa338756974f1c7c9bf638df95577", func := "chaffcutter/chafftop.TopJobs", spec := "topJobs", inPlace := ["internal/bytealg.IndexByteString"], unfollowed := true, recurses := true, loops := true, plainKeys := false, apart := false, narrowed := true }
def TopJobsUptoSaid : Prop := topJobsUptoRow.holds Try.pinned (OpenSpec.upto topJobsSpec)

/-- 'chafftop.TopMutants', WHERE WHAT IT READS IS OF BULK AT MOST 1048576: true; the input reads as it did. -/
def topMutantsUptoRow : OpenClaim := { program := "ytmnilbfhfjdelaa", sum := "767936af5951db5380a41598dc25bfd5f9baa338756974f1c7c9bf638df95577", func := "chaffcutter/chafftop.TopMutants", spec := "topMutants", inPlace := ["internal/bytealg.IndexByteString"], unfollowed := true, recurses := true, loops := true, plainKeys := false, apart := false, narrowed := true }
def TopMutantsUptoSaid : Prop := topMutantsUptoRow.holds Try.pinned (OpenSpec.upto topMutantsSpec)

end Rows
end Go.Proofs.Ytmnilbfhfjdelaa
