/-
  No cell of these rows narrows 'for every input' (looked for: loops, veiled, ifaces, maps, wideKeys, modest, calm, conditions, laid).
  DERIVED. THE GIVEN ROWS OF THIS SEAT. 6 by the template 'for every input the law returns true; each argument reads behind the call as it read before'; 0 by the template 'total and deterministic' (their statements: YtklpdkojffaiiaaTotals.lean).
  GIVEN WITH THE SEED: the statements are not yours to turn. If you find one false, say at which input.
  Laid BY PROGRAM, IN A SANDBOX (cutbox-rows.mjs): the forced cells as the released guide's own fill.sh prints them over the translation 20a0630689ebf264… (all of the seat's roots in one cut). By AI agents, Wed Nov 11 2026. No macro, syntax, notation, axiom, sorry.
-/
import Derived.Test.YtklpdkojffaiiaaChecked
import GoSem.Claim
import GoSem.ClaimJoined
import GoSem.ClaimMapViews
import Derived.JoinedTies
import Derived.KernelRfl
namespace Go.Proofs.Ytklpdkojffaiiaa
/- THE CELL 'sum', in the pinned program and in every row, IS THE sha256 OF THE DUMP (.gsa) THAT YtklpdkojffaiiaaProg.lean LOADS. Nothing in Lean hashes anything: it is a label: what it is worth is what the hold of that sum in a sandbox is worth. -/
noncomputable def Try.pinned : Pinned := { name := "ytklpdkojffaiiaa", sum := "20a0630689ebf264f82a31cf34c0cae9fbbcfbe02a5a4099b35511d2eadf1b34", checked := Try.checked }
namespace Rows
def none {H : Type} : Left H := { results := [], args := [] }

/-- 'tontinelaw09.WheelFull': WHATEVER THE INPUT: true; the input reads as it did. -/
def wheelFullSpec : ChangeSpec := { name := "wheelFull", fn := fun _ => fun
  | [d1, d2] => { results := [.lit (.bool true)], args := [d1, d2] }
  | _ => none }
def wheelFullRow : OpenClaim := { program := "ytklpdkojffaiiaa", sum := "20a0630689ebf264f82a31cf34c0cae9fbbcfbe02a5a4099b35511d2eadf1b34", func := "tontine/tontinelaw09.WheelFull", spec := "wheelFull", inPlace := ["internal/reflectlite.ValueOf", "internal/reflectlite.Swapper", "(internal/reflectlite.Value).Len"], unfollowed := true, recurses := true, apart := false }
def WheelFullSaid : Prop := wheelFullRow.holds Try.pinned (OpenSpec.ofChange wheelFullSpec)

/-- ITS FALSE NEIGHBOUR: 'it returns false'. Refute it at one input. -/
def wheelFullWrong : ChangeSpec := { name := "wheelFull", fn := fun _ => fun
  | [d1, d2] => { results := [.lit (.bool false)], args := [d1, d2] }
  | _ => none }
def WheelFullWrongFalsely : Prop := wheelFullRow.holds Try.pinned (OpenSpec.ofChange wheelFullWrong)

/-- 'tontinelaw09.WheelAnew': WHATEVER THE INPUT: true; the input reads as it did. -/
def wheelAnewSpec : ChangeSpec := { name := "wheelAnew", fn := fun _ => fun
  | [d1, d2] => { results := [.lit (.bool true)], args := [d1, d2] }
  | _ => none }
def wheelAnewRow : OpenClaim := { program := "ytklpdkojffaiiaa", sum := "20a0630689ebf264f82a31cf34c0cae9fbbcfbe02a5a4099b35511d2eadf1b34", func := "tontine/tontinelaw09.WheelAnew", spec := "wheelAnew", inPlace := ["internal/reflectlite.ValueOf", "internal/reflectlite.Swapper", "(internal/reflectlite.Value).Len"], unfollowed := true, recurses := true, apart := false }
def WheelAnewSaid : Prop := wheelAnewRow.holds Try.pinned (OpenSpec.ofChange wheelAnewSpec)

/-- ITS FALSE NEIGHBOUR: 'it returns false'. Refute it at one input. -/
def wheelAnewWrong : ChangeSpec := { name := "wheelAnew", fn := fun _ => fun
  | [d1, d2] => { results := [.lit (.bool false)], args := [d1, d2] }
  | _ => none }
def WheelAnewWrongFalsely : Prop := wheelAnewRow.holds Try.pinned (OpenSpec.ofChange wheelAnewWrong)

/-- 'tontinelaw09.WheelOnce': WHATEVER THE INPUT: true; the input reads as it did. -/
def wheelOnceSpec : ChangeSpec := { name := "wheelOnce", fn := fun _ => fun
  | [d1, d2] => { results := [.lit (.bool true)], args := [d1, d2] }
  | _ => none }
def wheelOnceRow : OpenClaim := { program := "ytklpdkojffaiiaa", sum := "20a0630689ebf264f82a31cf34c0cae9fbbcfbe02a5a4099b35511d2eadf1b34", func := "tontine/tontinelaw09.WheelOnce", spec := "wheelOnce", inPlace := ["internal/reflectlite.ValueOf", "internal/reflectlite.Swapper", "(internal/reflectlite.Value).Len"], unfollowed := true, recurses := true, apart := false }
def WheelOnceSaid : Prop := wheelOnceRow.holds Try.pinned (OpenSpec.ofChange wheelOnceSpec)

/-- ITS FALSE NEIGHBOUR: 'it returns false'. Refute it at one input. -/
def wheelOnceWrong : ChangeSpec := { name := "wheelOnce", fn := fun _ => fun
  | [d1, d2] => { results := [.lit (.bool false)], args := [d1, d2] }
  | _ => none }
def WheelOnceWrongFalsely : Prop := wheelOnceRow.holds Try.pinned (OpenSpec.ofChange wheelOnceWrong)

/-- 'tontinelaw09.WheelCounts': WHATEVER THE INPUT: true; the input reads as it did. -/
def wheelCountsSpec : ChangeSpec := { name := "wheelCounts", fn := fun _ => fun
  | [d] => { results := [.lit (.bool true)], args := [d] }
  | _ => none }
def wheelCountsRow : OpenClaim := { program := "ytklpdkojffaiiaa", sum := "20a0630689ebf264f82a31cf34c0cae9fbbcfbe02a5a4099b35511d2eadf1b34", func := "tontine/tontinelaw09.WheelCounts", spec := "wheelCounts", inPlace := ["internal/reflectlite.ValueOf", "internal/reflectlite.Swapper", "(internal/reflectlite.Value).Len"], unfollowed := true, recurses := true, apart := false }
def WheelCountsSaid : Prop := wheelCountsRow.holds Try.pinned (OpenSpec.ofChange wheelCountsSpec)

/-- ITS FALSE NEIGHBOUR: 'it returns false'. Refute it at one input. -/
def wheelCountsWrong : ChangeSpec := { name := "wheelCounts", fn := fun _ => fun
  | [d] => { results := [.lit (.bool false)], args := [d] }
  | _ => none }
def WheelCountsWrongFalsely : Prop := wheelCountsRow.holds Try.pinned (OpenSpec.ofChange wheelCountsWrong)

/-- 'tontinelaw09.WheelRuns': WHATEVER THE INPUT: true; the input reads as it did. -/
def wheelRunsSpec : ChangeSpec := { name := "wheelRuns", fn := fun _ => fun
  | [d] => { results := [.lit (.bool true)], args := [d] }
  | _ => none }
def wheelRunsRow : OpenClaim := { program := "ytklpdkojffaiiaa", sum := "20a0630689ebf264f82a31cf34c0cae9fbbcfbe02a5a4099b35511d2eadf1b34", func := "tontine/tontinelaw09.WheelRuns", spec := "wheelRuns", inPlace := ["internal/reflectlite.ValueOf", "internal/reflectlite.Swapper", "(internal/reflectlite.Value).Len"], unfollowed := true, recurses := true, apart := false }
def WheelRunsSaid : Prop := wheelRunsRow.holds Try.pinned (OpenSpec.ofChange wheelRunsSpec)

/-- ITS FALSE NEIGHBOUR: 'it returns false'. Refute it at one input. -/
def wheelRunsWrong : ChangeSpec := { name := "wheelRuns", fn := fun _ => fun
  | [d] => { results := [.lit (.bool false)], args := [d] }
  | _ => none }
def WheelRunsWrongFalsely : Prop := wheelRunsRow.holds Try.pinned (OpenSpec.ofChange wheelRunsWrong)

/-- 'tontinelaw09.WheelNone': WHATEVER THE INPUT: true; the input reads as it did. -/
def wheelNoneSpec : ChangeSpec := { name := "wheelNone", fn := fun _ => fun
  | [d1, d2] => { results := [.lit (.bool true)], args := [d1, d2] }
  | _ => none }
def wheelNoneRow : OpenClaim := { program := "ytklpdkojffaiiaa", sum := "20a0630689ebf264f82a31cf34c0cae9fbbcfbe02a5a4099b35511d2eadf1b34", func := "tontine/tontinelaw09.WheelNone", spec := "wheelNone", inPlace := ["internal/reflectlite.ValueOf", "internal/reflectlite.Swapper", "(internal/reflectlite.Value).Len"], unfollowed := true, recurses := true, apart := false }
def WheelNoneSaid : Prop := wheelNoneRow.holds Try.pinned (OpenSpec.ofChange wheelNoneSpec)

/-- ITS FALSE NEIGHBOUR: 'it returns false'. Refute it at one input. -/
def wheelNoneWrong : ChangeSpec := { name := "wheelNone", fn := fun _ => fun
  | [d1, d2] => { results := [.lit (.bool false)], args := [d1, d2] }
  | _ => none }
def WheelNoneWrongFalsely : Prop := wheelNoneRow.holds Try.pinned (OpenSpec.ofChange wheelNoneWrong)

/- THE SECOND FORM. 'bulk': how many values and letters a reading holds, each counted each time it is reached (what is shared counts as often as it is met; a slice's spare places count too). A statement '..UptoSaid' is the law's where the arguments, and the package variables that the reading takes, are together of bulk at most 1048576: NARROWER than '..Said'. Prove '..Said' where nothing that the law and all that it calls make is longer than what came in: it says more and counts as full. Else prove '..UptoSaid'. A law counts once. -/
mutual
def uptoBulk {H : Type} : DataW H → Nat
  | .lit (.string bytes) => bytes.length + 1
  | .lit _ => 1
  | .nil => 1
  | .ptr d => uptoBulk d + 1
  | .slice elems spare => uptoBulkAll elems + uptoBulkAll spare + 1
  | .agg parts => uptoBulkAll parts + 1
  | .iface _ d => uptoBulk d + 1
  | .map entries => uptoBulkEntries entries + 1
  | .held _ => 1
def uptoBulkAll {H : Type} : List (DataW H) → Nat
  | [] => 0
  | d :: r => uptoBulk d + uptoBulkAll r
def uptoBulkEntries {H : Type} : List (Lit × DataW H) → Nat
  | [] => 0
  | x :: r => uptoBulkEntry x + uptoBulkEntries r
def uptoBulkEntry {H : Type} : Lit × DataW H → Nat
  | (.string bytes, d) => bytes.length + uptoBulk d + 1
  | (_, d) => uptoBulk d + 1
 end
def uptoSmall : (H : Type) → List (DataW H) → Bool := fun _ ds => decide (uptoBulkAll ds ≤ 1048576)
def OpenSpec.upto (s : _root_.Go.ChangeSpec) : _root_.Go.OpenSpec := { _root_.Go.OpenSpec.ofChange s with cond := some uptoSmall }

/-- 'tontinelaw09.WheelFull', WHERE WHAT IT READS IS OF BULK AT MOST 1048576: true; the input reads as it did. -/
def wheelFullUptoRow : OpenClaim := { program := "ytklpdkojffaiiaa", sum := "20a0630689ebf264f82a31cf34c0cae9fbbcfbe02a5a4099b35511d2eadf1b34", func := "tontine/tontinelaw09.WheelFull", spec := "wheelFull", inPlace := ["internal/reflectlite.ValueOf", "internal/reflectlite.Swapper", "(internal/reflectlite.Value).Len"], unfollowed := true, recurses := true, apart := false, narrowed := true }
def WheelFullUptoSaid : Prop := wheelFullUptoRow.holds Try.pinned (OpenSpec.upto wheelFullSpec)

/-- 'tontinelaw09.WheelAnew', WHERE WHAT IT READS IS OF BULK AT MOST 1048576: true; the input reads as it did. -/
def wheelAnewUptoRow : OpenClaim := { program := "ytklpdkojffaiiaa", sum := "20a0630689ebf264f82a31cf34c0cae9fbbcfbe02a5a4099b35511d2eadf1b34", func := "tontine/tontinelaw09.WheelAnew", spec := "wheelAnew", inPlace := ["internal/reflectlite.ValueOf", "internal/reflectlite.Swapper", "(internal/reflectlite.Value).Len"], unfollowed := true, recurses := true, apart := false, narrowed := true }
def WheelAnewUptoSaid : Prop := wheelAnewUptoRow.holds Try.pinned (OpenSpec.upto wheelAnewSpec)

/-- 'tontinelaw09.WheelOnce', WHERE WHAT IT READS IS OF BULK AT MOST 1048576: true; the input reads as it did. -/
def wheelOnceUptoRow : OpenClaim := { program := "ytklpdkojffaiiaa", sum := "20a0630689ebf264f82a31cf34c0cae9fbbcfbe02a5a4099b35511d2eadf1b34", func := "tontine/tontinelaw09.WheelOnce", spec := "wheelOnce", inPlace := ["internal/reflectlite.ValueOf", "internal/reflectlite.Swapper", "(internal/reflectlite.Value).Len"], unfollowed := true, recurses := true, apart := false, narrowed := true }
def WheelOnceUptoSaid : Prop := wheelOnceUptoRow.holds Try.pinned (OpenSpec.upto wheelOnceSpec)

/-- 'tontinelaw09.WheelCounts', WHERE WHAT IT READS IS OF BULK AT MOST 1048576: true; the input reads as it did. -/
def wheelCountsUptoRow : OpenClaim := { program := "ytklpdkojffaiiaa", sum := "20a0630689ebf264f82a31cf34c0cae9fbbcfbe02a5a4099b35511d2eadf1b34", func := "tontine/tontinelaw09.WheelCounts", spec := "wheelCounts", inPlace := ["internal/reflectlite.ValueOf", "internal/reflectlite.Swapper", "(internal/reflectlite.Value).Len"], unfollowed := true, recurses := true, apart := false, narrowed := true }
def WheelCountsUptoSaid : Prop := wheelCountsUptoRow.holds Try.pinned (OpenSpec.upto wheelCountsSpec)

/-- 'tontinelaw09.WheelRuns', WHERE WHAT IT READS IS OF BULK AT MOST 1048576: true; the input reads as it did. -/
def wheelRunsUptoRow : OpenClaim := { program := "ytklpdkojffaiiaa", sum := "20a0630689ebf264f82a31cf34c0cae9fbbcfbe02a5a4099b35511d2eadf1b34", func := "tontine/tontinelaw09.WheelRuns", spec := "wheelRuns", inPlace := ["internal/reflectlite.ValueOf", "internal/reflectlite.Swapper", "(internal/reflectlite.Value).Len"], unfollowed := true, recurses := true, apart := false, narrowed := true }
def WheelRunsUptoSaid : Prop := wheelRunsUptoRow.holds Try.pinned (OpenSpec.upto wheelRunsSpec)

/-- 'tontinelaw09.WheelNone', WHERE WHAT IT READS IS OF BULK AT MOST 1048576: true; the input reads as it did. -/
def wheelNoneUptoRow : OpenClaim := { program := "ytklpdkojffaiiaa", sum := "20a0630689ebf264f82a31cf34c0cae9fbbcfbe02a5a4099b35511d2eadf1b34", func := "tontine/tontinelaw09.WheelNone", spec := "wheelNone", inPlace := ["internal/reflectlite.ValueOf", "internal/reflectlite.Swapper", "(internal/reflectlite.Value).Len"], unfollowed := true, recurses := true, apart := false, narrowed := true }
def WheelNoneUptoSaid : Prop := wheelNoneUptoRow.holds Try.pinned (OpenSpec.upto wheelNoneSpec)

end Rows
end Go.Proofs.Ytklpdkojffaiiaa
