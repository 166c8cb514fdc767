/-
  No cell of these rows narrows 'for every input' (looked for: loops, veiled, ifaces, maps, wideKeys, modest, calm, conditions, laid).
  DERIVED. THE GIVEN ROWS OF THIS SEAT. 4 by the template 'for every input the law returns true; each argument reads behind the call as it read before'; 0 by the template 'total and deterministic' (their statements: YtogeeeigfhmpmaaTotals.lean).
  GIVEN WITH THE SEED: the statements are not yours to turn. If you find one false, say at which input.
  Laid BY PROGRAM, IN A SANDBOX (cutbox-rows.mjs): the forced cells as the released guide's own fill.sh prints them over the translation be390ed3c93b66c9… (all of the seat's roots in one cut). By AI agents, Wed Nov 11 2026. No macro, syntax, notation, axiom, sorry.
-/
import Derived.Test.YtogeeeigfhmpmaaChecked
import GoSem.Claim
import GoSem.ClaimJoined
import GoSem.ClaimMapViews
import Derived.JoinedTies
import Derived.KernelRfl
namespace Go.Proofs.Ytogeeeigfhmpmaa
/- THE CELL 'sum', in the pinned program and in every row, IS THE sha256 OF THE DUMP (.gsa) THAT YtogeeeigfhmpmaaProg.lean LOADS. Nothing in Lean hashes anything: it is a label: what it is worth is what the hold of that sum in a sandbox is worth. -/
noncomputable def Try.pinned : Pinned := { name := "ytogeeeigfhmpmaa", sum := "be390ed3c93b66c9a4cb02039586e4f9696d5d3183524bf1a9c3f4070bfc55a9", checked := Try.checked }
namespace Rows
def none {H : Type} : Left H := { results := [], args := [] }

/-- 'tontinelaw17.MachineMany': WHATEVER THE INPUT: true; the input reads as it did. -/
def machineManySpec : ChangeSpec := { name := "machineMany", fn := fun _ => fun
  | [d] => { results := [.lit (.bool true)], args := [d] }
  | _ => none }
def machineManyRow : OpenClaim := { program := "ytogeeeigfhmpmaa", sum := "be390ed3c93b66c9a4cb02039586e4f9696d5d3183524bf1a9c3f4070bfc55a9", func := "tontine/tontinelaw17.MachineMany", spec := "machineMany", inPlace := ["internal/reflectlite.ValueOf", "internal/reflectlite.Swapper", "(internal/reflectlite.Value).Len"], unfollowed := true, recurses := true, apart := false }
def MachineManySaid : Prop := machineManyRow.holds Try.pinned (OpenSpec.ofChange machineManySpec)

/-- ITS FALSE NEIGHBOUR: 'it returns false'. Refute it at one input. -/
def machineManyWrong : ChangeSpec := { name := "machineMany", fn := fun _ => fun
  | [d] => { results := [.lit (.bool false)], args := [d] }
  | _ => none }
def MachineManyWrongFalsely : Prop := machineManyRow.holds Try.pinned (OpenSpec.ofChange machineManyWrong)

/-- 'tontinelaw17.MachineTimes': WHATEVER THE INPUT: true; the input reads as it did. -/
def machineTimesSpec : ChangeSpec := { name := "machineTimes", fn := fun _ => fun
  | [d] => { results := [.lit (.bool true)], args := [d] }
  | _ => none }
def machineTimesRow : OpenClaim := { program := "ytogeeeigfhmpmaa", sum := "be390ed3c93b66c9a4cb02039586e4f9696d5d3183524bf1a9c3f4070bfc55a9", func := "tontine/tontinelaw17.MachineTimes", spec := "machineTimes", inPlace := ["internal/reflectlite.ValueOf", "internal/reflectlite.Swapper", "(internal/reflectlite.Value).Len"], unfollowed := true, recurses := true, apart := false }
def MachineTimesSaid : Prop := machineTimesRow.holds Try.pinned (OpenSpec.ofChange machineTimesSpec)

/-- ITS FALSE NEIGHBOUR: 'it returns false'. Refute it at one input. -/
def machineTimesWrong : ChangeSpec := { name := "machineTimes", fn := fun _ => fun
  | [d] => { results := [.lit (.bool false)], args := [d] }
  | _ => none }
def MachineTimesWrongFalsely : Prop := machineTimesRow.holds Try.pinned (OpenSpec.ofChange machineTimesWrong)

/-- 'tontinelaw17.MachineBack': WHATEVER THE INPUT: true; the input reads as it did. -/
def machineBackSpec : ChangeSpec := { name := "machineBack", fn := fun _ => fun
  | [d1, d2] => { results := [.lit (.bool true)], args := [d1, d2] }
  | _ => none }
def machineBackRow : OpenClaim := { program := "ytogeeeigfhmpmaa", sum := "be390ed3c93b66c9a4cb02039586e4f9696d5d3183524bf1a9c3f4070bfc55a9", func := "tontine/tontinelaw17.MachineBack", spec := "machineBack", inPlace := ["internal/reflectlite.ValueOf", "internal/reflectlite.Swapper", "(internal/reflectlite.Value).Len"], unfollowed := true, recurses := true, apart := false }
def MachineBackSaid : Prop := machineBackRow.holds Try.pinned (OpenSpec.ofChange machineBackSpec)

/-- ITS FALSE NEIGHBOUR: 'it returns false'. Refute it at one input. -/
def machineBackWrong : ChangeSpec := { name := "machineBack", fn := fun _ => fun
  | [d1, d2] => { results := [.lit (.bool false)], args := [d1, d2] }
  | _ => none }
def MachineBackWrongFalsely : Prop := machineBackRow.holds Try.pinned (OpenSpec.ofChange machineBackWrong)

/-- 'tontinelaw17.MachineOnce': WHATEVER THE INPUT: true; the input reads as it did. -/
def machineOnceSpec : ChangeSpec := { name := "machineOnce", fn := fun _ => fun
  | [d1, d2, d3] => { results := [.lit (.bool true)], args := [d1, d2, d3] }
  | _ => none }
def machineOnceRow : OpenClaim := { program := "ytogeeeigfhmpmaa", sum := "be390ed3c93b66c9a4cb02039586e4f9696d5d3183524bf1a9c3f4070bfc55a9", func := "tontine/tontinelaw17.MachineOnce", spec := "machineOnce", inPlace := ["internal/reflectlite.ValueOf", "internal/reflectlite.Swapper", "(internal/reflectlite.Value).Len"], unfollowed := true, recurses := true, apart := false }
def MachineOnceSaid : Prop := machineOnceRow.holds Try.pinned (OpenSpec.ofChange machineOnceSpec)

/-- ITS FALSE NEIGHBOUR: 'it returns false'. Refute it at one input. -/
def machineOnceWrong : ChangeSpec := { name := "machineOnce", fn := fun _ => fun
  | [d1, d2, d3] => { results := [.lit (.bool false)], args := [d1, d2, d3] }
  | _ => none }
def MachineOnceWrongFalsely : Prop := machineOnceRow.holds Try.pinned (OpenSpec.ofChange machineOnceWrong)

/- THE SECOND FORM. 'bulk': how many values and letters a reading holds, each counted each time it is reached (what is shared counts as often as it is met; a slice's spare places count too). A statement '..UptoSaid' is the law's where the arguments, and the package variables that the reading takes, are together of bulk at most 1048576: NARROWER than '..Said'. Prove '..Said' where nothing that the law and all that it calls make is longer than what came in: it says more and counts as full. Else prove '..UptoSaid'. A law counts once. -/
mutual
def uptoBulk {H : Type} : DataW H → Nat
  | .lit (.string bytes) => bytes.length + 1
  | .lit _ => 1
  | .nil => 1
  | .ptr d => uptoBulk d + 1
  | .slice elems spare => uptoBulkAll elems + uptoBulkAll spare + 1
  | .agg parts => uptoBulkAll parts + 1
  | .iface _ d => uptoBulk d + 1
  | .map entries => uptoBulkEntries entries + 1
  | .held _ => 1
def uptoBulkAll {H : Type} : List (DataW H) → Nat
  | [] => 0
  | d :: r => uptoBulk d + uptoBulkAll r
def uptoBulkEntries {H : Type} : List (Lit × DataW H) → Nat
  | [] => 0
  | x :: r => uptoBulkEntry x + uptoBulkEntries r
def uptoBulkEntry {H : Type} : Lit × DataW H → Nat
  | (.string bytes, d) => bytes.length + uptoBulk d + 1
  | (_, d) => uptoBulk d + 1
 end
def uptoSmall : (H : Type) → List (DataW H) → Bool := fun _ ds => decide (uptoBulkAll ds ≤ 1048576)
def OpenSpec.upto (s : _root_.Go.ChangeSpec) : _root_.Go.OpenSpec := { _root_.Go.OpenSpec.ofChange s with cond := some uptoSmall }

/-- 'tontinelaw17.MachineMany', WHERE WHAT IT READS IS OF BULK AT MOST 1048576: true; the input reads as it did. -/
def machineManyUptoRow : OpenClaim := { program := "ytogeeeigfhmpmaa", sum := "be390ed3c93b66c9a4cb02039586e4f9696d5d3183524bf1a9c3f4070bfc55a9", func := "tontine/tontinelaw17.MachineMany", spec := "machineMany", inPlace := ["internal/reflectlite.ValueOf", "internal/reflectlite.Swapper", "(internal/reflectlite.Value).Len"], unfollowed := true, recurses := true, apart := false, narrowed := true }
def MachineManyUptoSaid : Prop := machineManyUptoRow.holds Try.pinned (OpenSpec.upto machineManySpec)

/-- 'tontinelaw17.MachineTimes', WHERE WHAT IT READS IS OF BULK AT MOST 1048576: true; the input reads as it did. -/
def machineTimesUptoRow : OpenClaim := { program := "ytogeeeigfhmpmaa", sum := "be390ed3c93b66c9a4cb02039586e4f9696d5d3183524bf1a9c3f4070bfc55a9", func := "tontine/tontinelaw17.MachineTimes", spec := "machineTimes", inPlace := ["internal/reflectlite.ValueOf", "internal/reflectlite.Swapper", "(internal/reflectlite.Value).Len"], unfollowed := true, recurses := true, apart := false, narrowed := true }
def MachineTimesUptoSaid : Prop := machineTimesUptoRow.holds Try.pinned (OpenSpec.upto machineTimesSpec)

/-- 'tontinelaw17.MachineBack', WHERE WHAT IT READS IS OF BULK AT MOST 1048576: true; the input reads as it did. -/
def machineBackUptoRow : OpenClaim := { program := "ytogeeeigfhmpmaa", sum := "be390ed3c93b66c9a4cb02039586e4f9696d5d3183524bf1a9c3f4070bfc55a9", func := "tontine/tontinelaw17.MachineBack", spec := "machineBack", inPlace := ["internal/reflectlite.ValueOf", "internal/reflectlite.Swapper", "(internal/reflectlite.Value).Len"], unfollowed := true, recurses := true, apart := false, narrowed := true }
def MachineBackUptoSaid : Prop := machineBackUptoRow.holds Try.pinned (OpenSpec.upto machineBackSpec)

/-- 'tontinelaw17.MachineOnce', WHERE WHAT IT READS IS OF BULK AT MOST 1048576: true; the input reads as it did. -/
def machineOnceUptoRow : OpenClaim := { program := "ytogeeeigfhmpmaa", sum := "be390ed3c93b66c9a4cb02039586e4f9696d5d3183524bf1a9c3f4070bfc55a9", func := "tontine/tontinelaw17.MachineOnce", spec := "machineOnce", inPlace := ["internal/reflectlite.ValueOf", "internal/reflectlite.Swapper", "(internal/reflectlite.Value).Len"], unfollowed := true, recurses := true, apart := false, narrowed := true }
def MachineOnceUptoSaid : Prop := machineOnceUptoRow.holds Try.pinned (OpenSpec.upto machineOnceSpec)

end Rows
end Go.Proofs.Ytogeeeigfhmpmaa
