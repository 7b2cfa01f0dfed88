/-
  NARROWER THAN 'FOR EVERY INPUT', by the rows' own cells (each row's printed sentence says how): EventSays: loops.
  DERIVED. THE GIVEN ROWS OF THIS SEAT. 6 by the template 'for every input the law returns true; each argument reads behind the call as it read before'; 0 by the template 'total and deterministic' (their statements: YthljpajbcllhhaaTotals.lean).
  GIVEN WITH THE SEED: the statements are not yours to turn. If you find one false, say at which input.
  Laid BY PROGRAM, IN A SANDBOX (cutbox-rows.mjs): the forced cells as the released guide's own fill.sh prints them over the translation 2fbd7de8e69ff14b… (all of the seat's roots in one cut). By AI agents, Wed Nov 11 2026. No macro, syntax, notation, axiom, sorry.
-/
import Derived.Test.YthljpajbcllhhaaChecked
import GoSem.Claim
import GoSem.ClaimJoined
import GoSem.ClaimMapViews
import Derived.JoinedTies
import Derived.KernelRfl
namespace Go.Proofs.Ythljpajbcllhhaa
/- THE CELL 'sum', in the pinned program and in every row, IS THE sha256 OF THE DUMP (.gsa) THAT YthljpajbcllhhaaProg.lean LOADS. Nothing in Lean hashes anything: it is a label: what it is worth is what the hold of that sum in a sandbox is worth. -/
noncomputable def Try.pinned : Pinned := { name := "ythljpajbcllhhaa", sum := "2fbd7de8e69ff14b8de3e82294133e56a93718f4a898f194a6abb4bf651f8f11", checked := Try.checked }
namespace Rows
def none {H : Type} : Left H := { results := [], args := [] }

/-- 'chafflaw.EventSays': WHATEVER THE INPUT: true; the input reads as it did. -/
def eventSaysSpec : ChangeSpec := { name := "eventSays", fn := fun _ => fun
  | [d] => { results := [.lit (.bool true)], args := [d] }
  | _ => none }
def eventSaysRow : OpenClaim := { program := "ythljpajbcllhhaa", sum := "2fbd7de8e69ff14b8de3e82294133e56a93718f4a898f194a6abb4bf651f8f11", func := "chaffcutter/chafflaw.EventSays", spec := "eventSays", recurses := true, loops := true, apart := false }
def EventSaysSaid : Prop := eventSaysRow.holds Try.pinned (OpenSpec.ofChange eventSaysSpec)

/-- ITS FALSE NEIGHBOUR: 'it returns false'. Refute it at one input. -/
def eventSaysWrong : ChangeSpec := { name := "eventSays", fn := fun _ => fun
  | [d] => { results := [.lit (.bool false)], args := [d] }
  | _ => none }
def EventSaysWrongFalsely : Prop := eventSaysRow.holds Try.pinned (OpenSpec.ofChange eventSaysWrong)

/-- 'chafflaw.EventBuilds': WHATEVER THE INPUT: true; the input reads as it did. -/
def eventBuildsSpec : ChangeSpec := { name := "eventBuilds", fn := fun _ => fun
  | [d] => { results := [.lit (.bool true)], args := [d] }
  | _ => none }
def eventBuildsRow : OpenClaim := { program := "ythljpajbcllhhaa", sum := "2fbd7de8e69ff14b8de3e82294133e56a93718f4a898f194a6abb4bf651f8f11", func := "chaffcutter/chafflaw.EventBuilds", spec := "eventBuilds", unfollowed := true, recurses := true, apart := false }
def EventBuildsSaid : Prop := eventBuildsRow.holds Try.pinned (OpenSpec.ofChange eventBuildsSpec)

/-- ITS FALSE NEIGHBOUR: 'it returns false'. Refute it at one input. -/
def eventBuildsWrong : ChangeSpec := { name := "eventBuilds", fn := fun _ => fun
  | [d] => { results := [.lit (.bool false)], args := [d] }
  | _ => none }
def EventBuildsWrongFalsely : Prop := eventBuildsRow.holds Try.pinned (OpenSpec.ofChange eventBuildsWrong)

/-- 'chafflaw.GreedySays': WHATEVER THE INPUT: true; the input reads as it did. -/
def greedySaysSpec : ChangeSpec := { name := "greedySays", fn := fun _ => fun
  | [d] => { results := [.lit (.bool true)], args := [d] }
  | _ => none }
def greedySaysRow : OpenClaim := { program := "ythljpajbcllhhaa", sum := "2fbd7de8e69ff14b8de3e82294133e56a93718f4a898f194a6abb4bf651f8f11", func := "chaffcutter/chafflaw.GreedySays", spec := "greedySays", unfollowed := true, recurses := true, apart := false }
def GreedySaysSaid : Prop := greedySaysRow.holds Try.pinned (OpenSpec.ofChange greedySaysSpec)

/-- ITS FALSE NEIGHBOUR: 'it returns false'. Refute it at one input. -/
def greedySaysWrong : ChangeSpec := { name := "greedySays", fn := fun _ => fun
  | [d] => { results := [.lit (.bool false)], args := [d] }
  | _ => none }
def GreedySaysWrongFalsely : Prop := greedySaysRow.holds Try.pinned (OpenSpec.ofChange greedySaysWrong)

/-- 'chafflaw.WalkAlphas': WHATEVER THE INPUT: true; the input reads as it did. -/
def walkAlphasSpec : ChangeSpec := { name := "walkAlphas", fn := fun _ => fun
  | [d1, d2] => { results := [.lit (.bool true)], args := [d1, d2] }
  | _ => none }
def walkAlphasRow : OpenClaim := { program := "ythljpajbcllhhaa", sum := "2fbd7de8e69ff14b8de3e82294133e56a93718f4a898f194a6abb4bf651f8f11", func := "chaffcutter/chafflaw.WalkAlphas", spec := "walkAlphas", inPlace := ["internal/bytealg.IndexByteString"], recurses := true, apart := false }
def WalkAlphasSaid : Prop := walkAlphasRow.holds Try.pinned (OpenSpec.ofChange walkAlphasSpec)

/-- ITS FALSE NEIGHBOUR: 'it returns false'. Refute it at one input. -/
def walkAlphasWrong : ChangeSpec := { name := "walkAlphas", fn := fun _ => fun
  | [d1, d2] => { results := [.lit (.bool false)], args := [d1, d2] }
  | _ => none }
def WalkAlphasWrongFalsely : Prop := walkAlphasRow.holds Try.pinned (OpenSpec.ofChange walkAlphasWrong)

/-- 'chafflaw.WalkNexts': WHATEVER THE INPUT: true; the input reads as it did. -/
def walkNextsSpec : ChangeSpec := { name := "walkNexts", fn := fun _ => fun
  | [d1, d2, d3] => { results := [.lit (.bool true)], args := [d1, d2, d3] }
  | _ => none }
def walkNextsRow : OpenClaim := { program := "ythljpajbcllhhaa", sum := "2fbd7de8e69ff14b8de3e82294133e56a93718f4a898f194a6abb4bf651f8f11", func := "chaffcutter/chafflaw.WalkNexts", spec := "walkNexts", inPlace := ["internal/bytealg.IndexByteString"], recurses := true, apart := false }
def WalkNextsSaid : Prop := walkNextsRow.holds Try.pinned (OpenSpec.ofChange walkNextsSpec)

/-- ITS FALSE NEIGHBOUR: 'it returns false'. Refute it at one input. -/
def walkNextsWrong : ChangeSpec := { name := "walkNexts", fn := fun _ => fun
  | [d1, d2, d3] => { results := [.lit (.bool false)], args := [d1, d2, d3] }
  | _ => none }
def WalkNextsWrongFalsely : Prop := walkNextsRow.holds Try.pinned (OpenSpec.ofChange walkNextsWrong)

/-- 'chafflaw.WalkRanks': WHATEVER THE INPUT: true; the input reads as it did. -/
def walkRanksSpec : ChangeSpec := { name := "walkRanks", fn := fun _ => fun
  | [d1, d2, d3] => { results := [.lit (.bool true)], args := [d1, d2, d3] }
  | _ => none }
def walkRanksRow : OpenClaim := { program := "ythljpajbcllhhaa", sum := "2fbd7de8e69ff14b8de3e82294133e56a93718f4a898f194a6abb4bf651f8f11", func := "chaffcutter/chafflaw.WalkRanks", spec := "walkRanks", inPlace := ["internal/bytealg.IndexByteString"], recurses := true, apart := false }
def WalkRanksSaid : Prop := walkRanksRow.holds Try.pinned (OpenSpec.ofChange walkRanksSpec)

/-- ITS FALSE NEIGHBOUR: 'it returns false'. Refute it at one input. -/
def walkRanksWrong : ChangeSpec := { name := "walkRanks", fn := fun _ => fun
  | [d1, d2, d3] => { results := [.lit (.bool false)], args := [d1, d2, d3] }
  | _ => none }
def WalkRanksWrongFalsely : Prop := walkRanksRow.holds Try.pinned (OpenSpec.ofChange walkRanksWrong)

/- THE SECOND FORM. 'bulk': how many values and letters a reading holds, each counted each time it is reached (what is shared counts as often as it is met; a slice's spare places count too). A statement '..UptoSaid' is the law's where the arguments, and the package variables that the reading takes, are together of bulk at most 1048576: NARROWER than '..Said'. Prove '..Said' where nothing that the law and all that it calls make is longer than what came in: it says more and counts as full. Else prove '..UptoSaid'. A law counts once. -/
mutual
def uptoBulk {H : Type} : DataW H → Nat
  | .lit (.string bytes) => bytes.length + 1
  | .lit _ => 1
  | .nil => 1
  | .ptr d => uptoBulk d + 1
  | .slice elems spare => uptoBulkAll elems + uptoBulkAll spare + 1
  | .agg parts => uptoBulkAll parts + 1
  | .iface _ d => uptoBulk d + 1
  | .map entries => uptoBulkEntries entries + 1
  | .held _ => 1
def uptoBulkAll {H : Type} : List (DataW H) → Nat
  | [] => 0
  | d :: r => uptoBulk d + uptoBulkAll r
def uptoBulkEntries {H : Type} : List (Lit × DataW H) → Nat
  | [] => 0
  | x :: r => uptoBulkEntry x + uptoBulkEntries r
def uptoBulkEntry {H : Type} : Lit × DataW H → Nat
  | (.string bytes, d) => bytes.length + uptoBulk d + 1
  | (_, d) => uptoBulk d + 1
 end
def uptoSmall : (H : Type) → List (DataW H) → Bool := fun _ ds => decide (uptoBulkAll ds ≤ 1048576)
def OpenSpec.upto (s : _root_.Go.ChangeSpec) : _root_.Go.OpenSpec := { _root_.Go.OpenSpec.ofChange s with cond := some uptoSmall }

/-- 'chafflaw.EventSays', WHERE WHAT IT READS IS OF BULK AT MOST 1048576: true; the input reads as it did. -/
def eventSaysUptoRow : OpenClaim := { program := "ythljpajbcllhhaa", sum := "2fbd7de8e69ff14b8de3e82294133e56a93718f4a898f194a6abb4bf651f8f11", func := "chaffcutter/chafflaw.EventSays", spec := "eventSays", recurses := true, loops := true, apart := false, narrowed := true }
def EventSaysUptoSaid : Prop := eventSaysUptoRow.holds Try.pinned (OpenSpec.upto eventSaysSpec)

/-- 'chafflaw.EventBuilds', WHERE WHAT IT READS IS OF BULK AT MOST 1048576: true; the input reads as it did. -/
def eventBuildsUptoRow : OpenClaim := { program := "ythljpajbcllhhaa", sum := "2fbd7de8e69ff14b8de3e82294133e56a93718f4a898f194a6abb4bf651f8f11", func := "chaffcutter/chafflaw.EventBuilds", spec := "eventBuilds", unfollowed := true, recurses := true, apart := false, narrowed := true }
def EventBuildsUptoSaid : Prop := eventBuildsUptoRow.holds Try.pinned (OpenSpec.upto eventBuildsSpec)

/-- 'chafflaw.GreedySays', WHERE WHAT IT READS IS OF BULK AT MOST 1048576: true; the input reads as it did. -/
def greedySaysUptoRow : OpenClaim := { program := "ythljpajbcllhhaa", sum := "2fbd7de8e69ff14b8de3e82294133e56a93718f4a898f194a6abb4bf651f8f11", func := "chaffcutter/chafflaw.GreedySays", spec := "greedySays", unfollowed := true, recurses := true, apart := false, narrowed := true }
def GreedySaysUptoSaid : Prop := greedySaysUptoRow.holds Try.pinned (OpenSpec.upto greedySaysSpec)

/-- 'chafflaw.WalkAlphas', WHERE WHAT IT READS IS OF BULK AT MOST 1048576: true; the input reads as it did. -/
def walkAlphasUptoRow : OpenClaim := { program := "ythljpajbcllhhaa", sum := "2fbd7de8e69ff14b8de3e82294133e56a93718f4a898f194a6abb4bf651f8f11", func := "chaffcutter/chafflaw.WalkAlphas", spec := "walkAlphas", inPlace := ["internal/bytealg.IndexByteString"], recurses := true, apart := false, narrowed := true }
def WalkAlphasUptoSaid : Prop := walkAlphasUptoRow.holds Try.pinned (OpenSpec.upto walkAlphasSpec)

/-- 'chafflaw.WalkNexts', WHERE WHAT IT READS IS OF BULK AT MOST 1048576: true; the input reads as it did. -/
def walkNextsUptoRow : OpenClaim := { program := "ythljpajbcllhhaa", sum := "2fbd7de8e69ff14b8de3e82294133e56a93718f4a898f194a6abb4bf651f8f11", func := "chaffcutter/chafflaw.WalkNexts", spec := "walkNexts", inPlace := ["internal/bytealg.IndexByteString"], recurses := true, apart := false, narrowed := true }
def WalkNextsUptoSaid : Prop := walkNextsUptoRow.holds Try.pinned (OpenSpec.upto walkNextsSpec)

/-- 'chafflaw.WalkRanks', WHERE WHAT IT READS IS OF BULK AT MOST 1048576: true; the input reads as it did. -/
def walkRanksUptoRow : OpenClaim := { program := "ythljpajbcllhhaa", sum := "2fbd7de8e69ff14b8de3e82294133e56a93718f4a898f194a6abb4bf651f8f11", func := "chaffcutter/chafflaw.WalkRanks", spec := "walkRanks", inPlace := ["internal/bytealg.IndexByteString"], recurses := true, apart := false, narrowed := true }
def WalkRanksUptoSaid : Prop := walkRanksUptoRow.holds Try.pinned (OpenSpec.upto walkRanksSpec)

end Rows
end Go.Proofs.Ythljpajbcllhhaa
