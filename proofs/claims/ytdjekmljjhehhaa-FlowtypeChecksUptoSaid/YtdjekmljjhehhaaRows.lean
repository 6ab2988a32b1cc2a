/-
  No cell of these rows narrows 'for every input' (looked for: loops, veiled, ifaces, maps, wideKeys, modest, calm, conditions, laid).
  DERIVED. THE GIVEN ROWS OF THIS SEAT. 3 by the template 'for every input the law returns true; each argument reads behind the call as it read before'; 0 by the template 'total and deterministic' (their statements: YtdjekmljjhehhaaTotals.lean).
  GIVEN WITH THE SEED: the statements are not yours to turn. If you find one false, say at which input.
  Laid BY PROGRAM, IN A SANDBOX (cutbox-rows.mjs): the forced cells as the released guide's own fill.sh prints them over the translation 892b796047549c28… (all of the seat's roots in one cut). By AI agents, Wed Nov 11 2026. No macro, syntax, notation, axiom, sorry.
-/
import Derived.Test.YtdjekmljjhehhaaChecked
import GoSem.Claim
import GoSem.ClaimJoined
import GoSem.ClaimMapViews
import Derived.JoinedTies
import Derived.KernelRfl
namespace Go.Proofs.Ytdjekmljjhehhaa
/- THE CELL 'sum', in the pinned program and in every row, IS THE sha256 OF THE DUMP (.gsa) THAT YtdjekmljjhehhaaProg.lean LOADS. Nothing in Lean hashes anything: it is a label: what it is worth is what the hold of that sum in a sandbox is worth. -/
noncomputable def Try.pinned : Pinned := { name := "ytdjekmljjhehhaa", sum := "892b796047549c28b98be0deeff7599fc63a32f9f6dff5ae247a06927538e62f", checked := Try.checked }
namespace Rows
def none {H : Type} : Left H := { results := [], args := [] }

/-- 'louverlaw08.FlowtypeChecks': WHATEVER THE INPUT: true; the input reads as it did. -/
def flowtypeChecksSpec : ChangeSpec := { name := "flowtypeChecks", fn := fun _ => fun
  | [d] => { results := [.lit (.bool true)], args := [d] }
  | _ => none }
def flowtypeChecksRow : OpenClaim := { program := "ytdjekmljjhehhaa", sum := "892b796047549c28b98be0deeff7599fc63a32f9f6dff5ae247a06927538e62f", func := "louver/louverlaw08.FlowtypeChecks", spec := "flowtypeChecks", unfollowed := true, recurses := true, apart := false }
def FlowtypeChecksSaid : Prop := flowtypeChecksRow.holds Try.pinned (OpenSpec.ofChange flowtypeChecksSpec)

/-- ITS FALSE NEIGHBOUR: 'it returns false'. Refute it at one input. -/
def flowtypeChecksWrong : ChangeSpec := { name := "flowtypeChecks", fn := fun _ => fun
  | [d] => { results := [.lit (.bool false)], args := [d] }
  | _ => none }
def FlowtypeChecksWrongFalsely : Prop := flowtypeChecksRow.holds Try.pinned (OpenSpec.ofChange flowtypeChecksWrong)

/-- 'louverlaw21.GuardFuel': WHATEVER THE INPUT: true; the input reads as it did. -/
def guardFuelSpec : ChangeSpec := { name := "guardFuel", fn := fun _ => fun
  | [d1, d2, d3, d4, d5, d6] => { results := [.lit (.bool true)], args := [d1, d2, d3, d4, d5, d6] }
  | _ => none }
def guardFuelRow : OpenClaim := { program := "ytdjekmljjhehhaa", sum := "892b796047549c28b98be0deeff7599fc63a32f9f6dff5ae247a06927538e62f", func := "louver/louverlaw21.GuardFuel", spec := "guardFuel", unfollowed := true, recurses := true, apart := false }
def GuardFuelSaid : Prop := guardFuelRow.holds Try.pinned (OpenSpec.ofChange guardFuelSpec)

/-- ITS FALSE NEIGHBOUR: 'it returns false'. Refute it at one input. -/
def guardFuelWrong : ChangeSpec := { name := "guardFuel", fn := fun _ => fun
  | [d1, d2, d3, d4, d5, d6] => { results := [.lit (.bool false)], args := [d1, d2, d3, d4, d5, d6] }
  | _ => none }
def GuardFuelWrongFalsely : Prop := guardFuelRow.holds Try.pinned (OpenSpec.ofChange guardFuelWrong)

/-- 'louverlaw21.GuardOwn': WHATEVER THE INPUT: true; the input reads as it did. -/
def guardOwnSpec : ChangeSpec := { name := "guardOwn", fn := fun _ => fun
  | [d1, d2, d3, d4] => { results := [.lit (.bool true)], args := [d1, d2, d3, d4] }
  | _ => none }
def guardOwnRow : OpenClaim := { program := "ytdjekmljjhehhaa", sum := "892b796047549c28b98be0deeff7599fc63a32f9f6dff5ae247a06927538e62f", func := "louver/louverlaw21.GuardOwn", spec := "guardOwn", unfollowed := true, recurses := true, apart := false }
def GuardOwnSaid : Prop := guardOwnRow.holds Try.pinned (OpenSpec.ofChange guardOwnSpec)

/-- ITS FALSE NEIGHBOUR: 'it returns false'. Refute it at one input. -/
def guardOwnWrong : ChangeSpec := { name := "guardOwn", fn := fun _ => fun
  | [d1, d2, d3, d4] => { results := [.lit (.bool false)], args := [d1, d2, d3, d4] }
  | _ => none }
def GuardOwnWrongFalsely : Prop := guardOwnRow.holds Try.pinned (OpenSpec.ofChange guardOwnWrong)

/- THE SECOND FORM. 'bulk': how many values and letters a reading holds, each counted each time it is reached (what is shared counts as often as it is met; a slice's spare places count too). A statement '..UptoSaid' is the law's where the arguments, and the package variables that the reading takes, are together of bulk at most 1048576: NARROWER than '..Said'. Prove '..Said' where nothing that the law and all that it calls make is longer than what came in: it says more and counts as full. Else prove '..UptoSaid'. A law counts once. -/
mutual
def uptoBulk {H : Type} : DataW H → Nat
  | .lit (.string bytes) => bytes.length + 1
  | .lit _ => 1
  | .nil => 1
  | .ptr d => uptoBulk d + 1
  | .slice elems spare => uptoBulkAll elems + uptoBulkAll spare + 1
  | .agg parts => uptoBulkAll parts + 1
  | .iface _ d => uptoBulk d + 1
  | .map entries => uptoBulkEntries entries + 1
  | .held _ => 1
def uptoBulkAll {H : Type} : List (DataW H) → Nat
  | [] => 0
  | d :: r => uptoBulk d + uptoBulkAll r
def uptoBulkEntries {H : Type} : List (Lit × DataW H) → Nat
  | [] => 0
  | x :: r => uptoBulkEntry x + uptoBulkEntries r
def uptoBulkEntry {H : Type} : Lit × DataW H → Nat
  | (.string bytes, d) => bytes.length + uptoBulk d + 1
  | (_, d) => uptoBulk d + 1
 end
def uptoSmall : (H : Type) → List (DataW H) → Bool := fun _ ds => decide (uptoBulkAll ds ≤ 1048576)
def OpenSpec.upto (s : _root_.Go.ChangeSpec) : _root_.Go.OpenSpec := { _root_.Go.OpenSpec.ofChange s with cond := some uptoSmall }

/-- 'louverlaw08.FlowtypeChecks', WHERE WHAT IT READS IS OF BULK AT MOST 1048576: true; the input reads as it did. -/
def flowtypeChecksUptoRow : OpenClaim := { program := "ytdjekmljjhehhaa", sum := "892b796047549c28b98be0deeff7599fc63a32f9f6dff5ae247a06927538e62f", func := "louver/louverlaw08.FlowtypeChecks", spec := "flowtypeChecks", unfollowed := true, recurses := true, apart := false, narrowed := true }
def FlowtypeChecksUptoSaid : Prop := flowtypeChecksUptoRow.holds Try.pinned (OpenSpec.upto flowtypeChecksSpec)

/-- 'louverlaw21.GuardFuel', WHERE WHAT IT READS IS OF BULK AT MOST 1048576: true; the input reads as it did. -/
def guardFuelUptoRow : OpenClaim := { program := "ytdjekmljjhehhaa", sum := "892b796047549c28b98be0deeff7599fc63a32f9f6dff5ae247a06927538e62f", func := "louver/louverlaw21.GuardFuel", spec := "guardFuel", unfollowed := true, recurses := true, apart := false, narrowed := true }
def GuardFuelUptoSaid : Prop := guardFuelUptoRow.holds Try.pinned (OpenSpec.upto guardFuelSpec)

/-- 'louverlaw21.GuardOwn', WHERE WHAT IT READS IS OF BULK AT MOST 1048576: true; the input reads as it did. -/
def guardOwnUptoRow : OpenClaim := { program := "ytdjekmljjhehhaa", sum := "892b796047549c28b98be0deeff7599fc63a32f9f6dff5ae247a06927538e62f", func := "louver/louverlaw21.GuardOwn", spec := "guardOwn", unfollowed := true, recurses := true, apart := false, narrowed := true }
def GuardOwnUptoSaid : Prop := guardOwnUptoRow.holds Try.pinned (OpenSpec.upto guardOwnSpec)

end Rows
end Go.Proofs.Ytdjekmljjhehhaa
