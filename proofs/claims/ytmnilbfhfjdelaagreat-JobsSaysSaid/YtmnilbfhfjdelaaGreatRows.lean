/-
  NARROWER THAN 'FOR EVERY INPUT', by the rows' own cells (each row's printed sentence says how): DiffSays: loops · ListSays: loops · JobsSays: loops.
  DERIVED. THE GIVEN ROWS OF THIS SEAT. 3 by the template 'for every input the law returns true; each argument reads behind the call as it read before'; 0 by the template 'total and deterministic' (their statements: YtmnilbfhfjdelaaGreatTotals.lean).
  GIVEN WITH THE SEED: the statements are not yours to turn. If you find one false, say at which input.
  Laid BY PROGRAM, IN A SANDBOX (cutbox-rows.mjs): the forced cells as the released guide's own fill.sh prints them over the translation c491e982572a70e7… (all of the seat's roots in one cut). By AI agents, Wed Nov 11 2026. No macro, syntax, notation, axiom, sorry.
-/
import Derived.Test.YtmnilbfhfjdelaaGreatChecked
import GoSem.Claim
import GoSem.ClaimJoined
import GoSem.ClaimMapViews
import Derived.JoinedTies
import Derived.KernelRfl
namespace Go.Proofs.YtmnilbfhfjdelaaGreat
/- THE CELL 'sum', in the pinned program and in every row, IS THE sha256 OF THE DUMP (.gsa) THAT YtmnilbfhfjdelaaGreatProg.lean LOADS. Nothing in Lean hashes anything: it is a label: what it is worth is what the hold of that sum in a sandbox is worth. -/
noncomputable def Tryz.pinned : Pinned := { name := "ytmnilbfhfjdelaagreat", sum := "c491e982572a70e75b875a23aa9cd90cdbd743844dd458021e16985d1c5c0b4a", checked := Tryz.checked }
namespace Rows
def none {H : Type} : Left H := { results := [], args := [] }

/-- 'chafflaw.DiffSays': WHATEVER THE INPUT: true; the input reads as it did. -/
def diffSaysSpec : ChangeSpec := { name := "diffSays", fn := fun _ => fun
  | [d1, d2, d3, d4] => { results := [.lit (.bool true)], args := [d1, d2, d3, d4] }
  | _ => none }
def diffSaysRow : OpenClaim := { program := "ytmnilbfhfjdelaagreat", sum := "c491e982572a70e75b875a23aa9cd90cdbd743844dd458021e16985d1c5c0b4a", func := "chaffcutter/chafflaw.DiffSays", spec := "diffSays", inPlace := ["internal/bytealg.IndexByteString"], unfollowed := true, recurses := true, loops := true, plainKeys := false, apart := false }
def DiffSaysSaid : Prop := diffSaysRow.holds Tryz.pinned (OpenSpec.ofChange diffSaysSpec)

/-- ITS FALSE NEIGHBOUR: 'it returns false'. Refute it at one input. -/
def diffSaysWrong : ChangeSpec := { name := "diffSays", fn := fun _ => fun
  | [d1, d2, d3, d4] => { results := [.lit (.bool false)], args := [d1, d2, d3, d4] }
  | _ => none }
def DiffSaysWrongFalsely : Prop := diffSaysRow.holds Tryz.pinned (OpenSpec.ofChange diffSaysWrong)

/-- 'chafflaw.ListSays': WHATEVER THE INPUT: true; the input reads as it did. -/
def listSaysSpec : ChangeSpec := { name := "listSays", fn := fun _ => fun
  | [d1, d2, d3, d4, d5] => { results := [.lit (.bool true)], args := [d1, d2, d3, d4, d5] }
  | _ => none }
def listSaysRow : OpenClaim := { program := "ytmnilbfhfjdelaagreat", sum := "c491e982572a70e75b875a23aa9cd90cdbd743844dd458021e16985d1c5c0b4a", func := "chaffcutter/chafflaw.ListSays", spec := "listSays", inPlace := ["internal/bytealg.IndexByteString"], unfollowed := true, recurses := true, loops := true, plainKeys := false, apart := false }
def ListSaysSaid : Prop := listSaysRow.holds Tryz.pinned (OpenSpec.ofChange listSaysSpec)

/-- ITS FALSE NEIGHBOUR: 'it returns false'. Refute it at one input. -/
def listSaysWrong : ChangeSpec := { name := "listSays", fn := fun _ => fun
  | [d1, d2, d3, d4, d5] => { results := [.lit (.bool false)], args := [d1, d2, d3, d4, d5] }
  | _ => none }
def ListSaysWrongFalsely : Prop := listSaysRow.holds Tryz.pinned (OpenSpec.ofChange listSaysWrong)

/-- 'chafflaw.JobsSays': WHATEVER THE INPUT: true; the input reads as it did. -/
def jobsSaysSpec : ChangeSpec := { name := "jobsSays", fn := fun _ => fun
  | [d1, d2, d3] => { results := [.lit (.bool true)], args := [d1, d2, d3] }
  | _ => none }
def jobsSaysRow : OpenClaim := { program := "ytmnilbfhfjdelaagreat", sum := "c491e982572a70e75b875a23aa9cd90cdbd743844dd458021e16985d1c5c0b4a", func := "chaffcutter/chafflaw.JobsSays", spec := "jobsSays", inPlace := ["internal/bytealg.IndexByteString"], unfollowed := true, recurses := true, loops := true, plainKeys := false, apart := false }
def JobsSaysSaid : Prop := jobsSaysRow.holds Tryz.pinned (OpenSpec.ofChange jobsSaysSpec)

/-- ITS FALSE NEIGHBOUR: 'it returns false'. Refute it at one input. -/
def jobsSaysWrong : ChangeSpec := { name := "jobsSays", fn := fun _ => fun
  | [d1, d2, d3] => { results := [.lit (.bool false)], args := [d1, d2, d3] }
  | _ => none }
def JobsSaysWrongFalsely : Prop := jobsSaysRow.holds Tryz.pinned (OpenSpec.ofChange jobsSaysWrong)

/- THE SECOND FORM. 'bulk': how many values and letters a reading holds, each counted each time it is reached (what is shared counts as often as it is met; a slice's spare places count too). A statement '..UptoSaid' is the law's where the arguments, and the package variables that the reading takes, are together of bulk at most 1048576: NARROWER than '..Said'. Prove '..Said' where nothing that the law and all that it calls make is longer than what came in: it says more and counts as full. Else prove '..UptoSaid'. A law counts once. -/
mutual
def uptoBulk {H : Type} : DataW H → Nat
  | .lit (.string bytes) => bytes.length + 1
  | .lit _ => 1
  | .nil => 1
  | .ptr d => uptoBulk d + 1
  | .slice elems spare => uptoBulkAll elems + uptoBulkAll spare + 1
  | .agg parts => uptoBulkAll parts + 1
  | .iface _ d => uptoBulk d + 1
  | .map entries => uptoBulkEntries entries + 1
  | .held _ => 1
def uptoBulkAll {H : Type} : List (DataW H) → Nat
  | [] => 0
  | d :: r => uptoBulk d + uptoBulkAll r
def uptoBulkEntries {H : Type} : List (Lit × DataW H) → Nat
  | [] => 0
  | x :: r => uptoBulkEntry x + uptoBulkEntries r
def uptoBulkEntry {H : Type} : Lit × DataW H → Nat
  | (.string bytes, d) => bytes.length + uptoBulk d + 1
  | (_, d) => uptoBulk d + 1
 end
def uptoSmall : (H : Type) → List (DataW H) → Bool := fun _ ds => decide (uptoBulkAll ds ≤ 1048576)
def OpenSpec.upto (s : _root_.Go.ChangeSpec) : _root_.Go.OpenSpec := { _root_.Go.OpenSpec.ofChange s with cond := some uptoSmall }

/-- 'chafflaw.DiffSays', WHERE WHAT IT READS IS OF BULK AT MOST 1048576: true; the input reads as it did. -/
def diffSaysUptoRow : OpenClaim := { program := "ytmnilbfhfjdelaagreat", sum := "c491e982572a70e75b875a23aa9cd90cdbd743844dd458021e16985d1c5c0b4a", func := "chaffcutter/chafflaw.DiffSays", spec := "diffSays", inPlace := ["internal/bytealg.IndexByteString"], unfollowed := true, recurses := true, loops := true, plainKeys := false, apart := false, narrowed := true }
def DiffSaysUptoSaid : Prop := diffSaysUptoRow.holds Tryz.pinned (OpenSpec.upto diffSaysSpec)

/-- 'chafflaw.ListSays', WHERE WHAT IT READS IS OF BULK AT MOST 1048576: true; the input reads as it did. -/
def listSaysUptoRow : OpenClaim := { program := "ytmnilbfhfjdelaagreat", sum := "c491e982572a70e75b875a23aa9cd90cdbd743844dd458021e16985d1c5c0b4a", func := "chaffcutter/chafflaw.ListSays", spec := "listSays", inPlace := ["internal/bytealg.IndexByteString"], unfollowed := true, recurses := true, loops := true, plainKeys := false, apart := false, narrowed := true }
def ListSaysUptoSaid : Prop := listSaysUptoRow.holds Tryz.pinned (OpenSpec.upto listSaysSpec)

/-- 'chafflaw.JobsSays', WHERE WHAT IT READS IS OF BULK AT MOST 1048576: true; the input reads as it did. -/
def jobsSaysUptoRow : OpenClaim := { program := "ytmnilbfhfjdelaagreat", sum := "c491e982572a70e75b875a23aa9cd90cdbd743844dd458021e16985d1c5c0b4a", func := "chaffcutter/chafflaw.JobsSays", spec := "jobsSays", inPlace := ["internal/bytealg.IndexByteString"], unfollowed := true, recurses := true, loops := true, plainKeys := false, apart := false, narrowed := true }
def JobsSaysUptoSaid : Prop := jobsSaysUptoRow.holds Tryz.pinned (OpenSpec.upto jobsSaysSpec)

end Rows
end Go.Proofs.YtmnilbfhfjdelaaGreat
