/-
  No cell of these rows narrows 'for every input' (looked for: loops, veiled, ifaces, maps, wideKeys, modest, calm, conditions, laid).
  DERIVED. THE GIVEN ROWS OF THIS SEAT. 7 by the template 'for every input the law returns true; each argument reads behind the call as it read before'; 0 by the template 'total and deterministic' (their statements: YtfmpmdkedpollaaTotals.lean).
  GIVEN WITH THE SEED: the statements are not yours to turn. If you find one false, say at which input.
  Laid BY PROGRAM, IN A SANDBOX (cutbox-rows.mjs): the forced cells as the released guide's own fill.sh prints them over the translation 5f9d2434e30e9d7b… (all of the seat's roots in one cut). By AI agents, Wed Nov 11 2026. No macro, syntax, notation, axiom, sorry.
-/
import Derived.Test.YtfmpmdkedpollaaChecked
import GoSem.Claim
import GoSem.ClaimJoined
import GoSem.ClaimMapViews
import Derived.JoinedTies
import Derived.KernelRfl
namespace Go.Proofs.Ytfmpmdkedpollaa
/- THE CELL 'sum', in the pinned program and in every row, IS THE sha256 OF THE DUMP (.gsa) THAT YtfmpmdkedpollaaProg.lean LOADS. Nothing in Lean hashes anything: it is a label: what it is worth is what the hold of that sum in a sandbox is worth. -/
noncomputable def Try.pinned : Pinned := { name := "ytfmpmdkedpollaa", sum := "5f9d2434e30e9d7ba6abbe0839c35b4179f20b41dfc7f6269df0d51e501a01b7", checked := Try.checked }
namespace Rows
def none {H : Type} : Left H := { results := [], args := [] }

/-- 'tontinelaw05.WalScans': WHATEVER THE INPUT: true; the input reads as it did. -/
def walScansSpec : ChangeSpec := { name := "walScans", fn := fun _ => fun
  | [d1, d2] => { results := [.lit (.bool true)], args := [d1, d2] }
  | _ => none }
def walScansRow : OpenClaim := { program := "ytfmpmdkedpollaa", sum := "5f9d2434e30e9d7ba6abbe0839c35b4179f20b41dfc7f6269df0d51e501a01b7", func := "tontine/tontinelaw05.WalScans", spec := "walScans", apart := false }
def WalScansSaid : Prop := walScansRow.holds Try.pinned (OpenSpec.ofChange walScansSpec)

/-- ITS FALSE NEIGHBOUR: 'it returns false'. Refute it at one input. -/
def walScansWrong : ChangeSpec := { name := "walScans", fn := fun _ => fun
  | [d1, d2] => { results := [.lit (.bool false)], args := [d1, d2] }
  | _ => none }
def WalScansWrongFalsely : Prop := walScansRow.holds Try.pinned (OpenSpec.ofChange walScansWrong)

/-- 'tontinelaw05.WalBack': WHATEVER THE INPUT: true; the input reads as it did. -/
def walBackSpec : ChangeSpec := { name := "walBack", fn := fun _ => fun
  | [d1, d2] => { results := [.lit (.bool true)], args := [d1, d2] }
  | _ => none }
def walBackRow : OpenClaim := { program := "ytfmpmdkedpollaa", sum := "5f9d2434e30e9d7ba6abbe0839c35b4179f20b41dfc7f6269df0d51e501a01b7", func := "tontine/tontinelaw05.WalBack", spec := "walBack", apart := false }
def WalBackSaid : Prop := walBackRow.holds Try.pinned (OpenSpec.ofChange walBackSpec)

/-- ITS FALSE NEIGHBOUR: 'it returns false'. Refute it at one input. -/
def walBackWrong : ChangeSpec := { name := "walBack", fn := fun _ => fun
  | [d1, d2] => { results := [.lit (.bool false)], args := [d1, d2] }
  | _ => none }
def WalBackWrongFalsely : Prop := walBackRow.holds Try.pinned (OpenSpec.ofChange walBackWrong)

/-- 'tontinelaw05.WalGrows': WHATEVER THE INPUT: true; the input reads as it did. -/
def walGrowsSpec : ChangeSpec := { name := "walGrows", fn := fun _ => fun
  | [d1, d2] => { results := [.lit (.bool true)], args := [d1, d2] }
  | _ => none }
def walGrowsRow : OpenClaim := { program := "ytfmpmdkedpollaa", sum := "5f9d2434e30e9d7ba6abbe0839c35b4179f20b41dfc7f6269df0d51e501a01b7", func := "tontine/tontinelaw05.WalGrows", spec := "walGrows", apart := false }
def WalGrowsSaid : Prop := walGrowsRow.holds Try.pinned (OpenSpec.ofChange walGrowsSpec)

/-- ITS FALSE NEIGHBOUR: 'it returns false'. Refute it at one input. -/
def walGrowsWrong : ChangeSpec := { name := "walGrows", fn := fun _ => fun
  | [d1, d2] => { results := [.lit (.bool false)], args := [d1, d2] }
  | _ => none }
def WalGrowsWrongFalsely : Prop := walGrowsRow.holds Try.pinned (OpenSpec.ofChange walGrowsWrong)

/-- 'tontinelaw05.WalLasts': WHATEVER THE INPUT: true; the input reads as it did. -/
def walLastsSpec : ChangeSpec := { name := "walLasts", fn := fun _ => fun
  | [d1, d2, d3] => { results := [.lit (.bool true)], args := [d1, d2, d3] }
  | _ => none }
def walLastsRow : OpenClaim := { program := "ytfmpmdkedpollaa", sum := "5f9d2434e30e9d7ba6abbe0839c35b4179f20b41dfc7f6269df0d51e501a01b7", func := "tontine/tontinelaw05.WalLasts", spec := "walLasts", apart := false }
def WalLastsSaid : Prop := walLastsRow.holds Try.pinned (OpenSpec.ofChange walLastsSpec)

/-- ITS FALSE NEIGHBOUR: 'it returns false'. Refute it at one input. -/
def walLastsWrong : ChangeSpec := { name := "walLasts", fn := fun _ => fun
  | [d1, d2, d3] => { results := [.lit (.bool false)], args := [d1, d2, d3] }
  | _ => none }
def WalLastsWrongFalsely : Prop := walLastsRow.holds Try.pinned (OpenSpec.ofChange walLastsWrong)

/-- 'tontinelaw05.WalRefuses': WHATEVER THE INPUT: true; the input reads as it did. -/
def walRefusesSpec : ChangeSpec := { name := "walRefuses", fn := fun _ => fun
  | [d1, d2] => { results := [.lit (.bool true)], args := [d1, d2] }
  | _ => none }
def walRefusesRow : OpenClaim := { program := "ytfmpmdkedpollaa", sum := "5f9d2434e30e9d7ba6abbe0839c35b4179f20b41dfc7f6269df0d51e501a01b7", func := "tontine/tontinelaw05.WalRefuses", spec := "walRefuses", apart := false }
def WalRefusesSaid : Prop := walRefusesRow.holds Try.pinned (OpenSpec.ofChange walRefusesSpec)

/-- ITS FALSE NEIGHBOUR: 'it returns false'. Refute it at one input. -/
def walRefusesWrong : ChangeSpec := { name := "walRefuses", fn := fun _ => fun
  | [d1, d2] => { results := [.lit (.bool false)], args := [d1, d2] }
  | _ => none }
def WalRefusesWrongFalsely : Prop := walRefusesRow.holds Try.pinned (OpenSpec.ofChange walRefusesWrong)

/-- 'tontinelaw05.WalRuns': WHATEVER THE INPUT: true; the input reads as it did. -/
def walRunsSpec : ChangeSpec := { name := "walRuns", fn := fun _ => fun
  | [d1, d2, d3] => { results := [.lit (.bool true)], args := [d1, d2, d3] }
  | _ => none }
def walRunsRow : OpenClaim := { program := "ytfmpmdkedpollaa", sum := "5f9d2434e30e9d7ba6abbe0839c35b4179f20b41dfc7f6269df0d51e501a01b7", func := "tontine/tontinelaw05.WalRuns", spec := "walRuns", apart := false }
def WalRunsSaid : Prop := walRunsRow.holds Try.pinned (OpenSpec.ofChange walRunsSpec)

/-- ITS FALSE NEIGHBOUR: 'it returns false'. Refute it at one input. -/
def walRunsWrong : ChangeSpec := { name := "walRuns", fn := fun _ => fun
  | [d1, d2, d3] => { results := [.lit (.bool false)], args := [d1, d2, d3] }
  | _ => none }
def WalRunsWrongFalsely : Prop := walRunsRow.holds Try.pinned (OpenSpec.ofChange walRunsWrong)

/-- 'tontinelaw05.WalAnew': WHATEVER THE INPUT: true; the input reads as it did. -/
def walAnewSpec : ChangeSpec := { name := "walAnew", fn := fun _ => fun
  | [d1, d2, d3] => { results := [.lit (.bool true)], args := [d1, d2, d3] }
  | _ => none }
def walAnewRow : OpenClaim := { program := "ytfmpmdkedpollaa", sum := "5f9d2434e30e9d7ba6abbe0839c35b4179f20b41dfc7f6269df0d51e501a01b7", func := "tontine/tontinelaw05.WalAnew", spec := "walAnew", apart := false }
def WalAnewSaid : Prop := walAnewRow.holds Try.pinned (OpenSpec.ofChange walAnewSpec)

/-- ITS FALSE NEIGHBOUR: 'it returns false'. Refute it at one input. -/
def walAnewWrong : ChangeSpec := { name := "walAnew", fn := fun _ => fun
  | [d1, d2, d3] => { results := [.lit (.bool false)], args := [d1, d2, d3] }
  | _ => none }
def WalAnewWrongFalsely : Prop := walAnewRow.holds Try.pinned (OpenSpec.ofChange walAnewWrong)

/- THE SECOND FORM. 'bulk': how many values and letters a reading holds, each counted each time it is reached (what is shared counts as often as it is met; a slice's spare places count too). A statement '..UptoSaid' is the law's where the arguments, and the package variables that the reading takes, are together of bulk at most 1048576: NARROWER than '..Said'. Prove '..Said' where nothing that the law and all that it calls make is longer than what came in: it says more and counts as full. Else prove '..UptoSaid'. A law counts once. -/
mutual
def uptoBulk {H : Type} : DataW H → Nat
  | .lit (.string bytes) => bytes.length + 1
  | .lit _ => 1
  | .nil => 1
  | .ptr d => uptoBulk d + 1
  | .slice elems spare => uptoBulkAll elems + uptoBulkAll spare + 1
  | .agg parts => uptoBulkAll parts + 1
  | .iface _ d => uptoBulk d + 1
  | .map entries => uptoBulkEntries entries + 1
  | .held _ => 1
def uptoBulkAll {H : Type} : List (DataW H) → Nat
  | [] => 0
  | d :: r => uptoBulk d + uptoBulkAll r
def uptoBulkEntries {H : Type} : List (Lit × DataW H) → Nat
  | [] => 0
  | x :: r => uptoBulkEntry x + uptoBulkEntries r
def uptoBulkEntry {H : Type} : Lit × DataW H → Nat
  | (.string bytes, d) => bytes.length + uptoBulk d + 1
  | (_, d) => uptoBulk d + 1
 end
def uptoSmall : (H : Type) → List (DataW H) → Bool := fun _ ds => decide (uptoBulkAll ds ≤ 1048576)
def OpenSpec.upto (s : _root_.Go.ChangeSpec) : _root_.Go.OpenSpec := { _root_.Go.OpenSpec.ofChange s with cond := some uptoSmall }

/-- 'tontinelaw05.WalScans', WHERE WHAT IT READS IS OF BULK AT MOST 1048576: true; the input reads as it did. -/
def walScansUptoRow : OpenClaim := { program := "ytfmpmdkedpollaa", sum := "5f9d2434e30e9d7ba6abbe0839c35b4179f20b41dfc7f6269df0d51e501a01b7", func := "tontine/tontinelaw05.WalScans", spec := "walScans", apart := false, narrowed := true }
def WalScansUptoSaid : Prop := walScansUptoRow.holds Try.pinned (OpenSpec.upto walScansSpec)

/-- 'tontinelaw05.WalBack', WHERE WHAT IT READS IS OF BULK AT MOST 1048576: true; the input reads as it did. -/
def walBackUptoRow : OpenClaim := { program := "ytfmpmdkedpollaa", sum := "5f9d2434e30e9d7ba6abbe0839c35b4179f20b41dfc7f6269df0d51e501a01b7", func := "tontine/tontinelaw05.WalBack", spec := "walBack", apart := false, narrowed := true }
def WalBackUptoSaid : Prop := walBackUptoRow.holds Try.pinned (OpenSpec.upto walBackSpec)

/-- 'tontinelaw05.WalGrows', WHERE WHAT IT READS IS OF BULK AT MOST 1048576: true; the input reads as it did. -/
def walGrowsUptoRow : OpenClaim := { program := "ytfmpmdkedpollaa", sum := "5f9d2434e30e9d7ba6abbe0839c35b4179f20b41dfc7f6269df0d51e501a01b7", func := "tontine/tontinelaw05.WalGrows", spec := "walGrows", apart := false, narrowed := true }
def WalGrowsUptoSaid : Prop := walGrowsUptoRow.holds Try.pinned (OpenSpec.upto walGrowsSpec)

/-- 'tontinelaw05.WalLasts', WHERE WHAT IT READS IS OF BULK AT MOST 1048576: true; the input reads as it did. -/
def walLastsUptoRow : OpenClaim := { program := "ytfmpmdkedpollaa", sum := "5f9d2434e30e9d7ba6abbe0839c35b4179f20b41dfc7f6269df0d51e501a01b7", func := "tontine/tontinelaw05.WalLasts", spec := "walLasts", apart := false, narrowed := true }
def WalLastsUptoSaid : Prop := walLastsUptoRow.holds Try.pinned (OpenSpec.upto walLastsSpec)

/-- 'tontinelaw05.WalRefuses', WHERE WHAT IT READS IS OF BULK AT MOST 1048576: true; the input reads as it did. -/
def walRefusesUptoRow : OpenClaim := { program := "ytfmpmdkedpollaa", sum := "5f9d2434e30e9d7ba6abbe0839c35b4179f20b41dfc7f6269df0d51e501a01b7", func := "tontine/tontinelaw05.WalRefuses", spec := "walRefuses", apart := false, narrowed := true }
def WalRefusesUptoSaid : Prop := walRefusesUptoRow.holds Try.pinned (OpenSpec.upto walRefusesSpec)

/-- 'tontinelaw05.WalRuns', WHERE WHAT IT READS IS OF BULK AT MOST 1048576: true; the input reads as it did. -/
def walRunsUptoRow : OpenClaim := { program := "ytfmpmdkedpollaa", sum := "5f9d2434e30e9d7ba6abbe0839c35b4179f20b41dfc7f6269df0d51e501a01b7", func := "tontine/tontinelaw05.WalRuns", spec := "walRuns", apart := false, narrowed := true }
def WalRunsUptoSaid : Prop := walRunsUptoRow.holds Try.pinned (OpenSpec.upto walRunsSpec)

/-- 'tontinelaw05.WalAnew', WHERE WHAT IT READS IS OF BULK AT MOST 1048576: true; the input reads as it did. -/
def walAnewUptoRow : OpenClaim := { program := "ytfmpmdkedpollaa", sum := "5f9d2434e30e9d7ba6abbe0839c35b4179f20b41dfc7f6269df0d51e501a01b7", func := "tontine/tontinelaw05.WalAnew", spec := "walAnew", apart := false, narrowed := true }
def WalAnewUptoSaid : Prop := walAnewUptoRow.holds Try.pinned (OpenSpec.upto walAnewSpec)

end Rows
end Go.Proofs.Ytfmpmdkedpollaa
