/-
  No cell of these rows narrows 'for every input' (looked for: loops, veiled, ifaces, maps, wideKeys, modest, calm, conditions, laid).
  DERIVED. THE GIVEN ROWS OF THIS SEAT. 8 by the template 'for every input the law returns true; each argument reads behind the call as it read before'; 0 by the template 'total and deterministic' (their statements: YtdpdlmjlahehoaaTotals.lean).
  GIVEN WITH THE SEED: the statements are not yours to turn. If you find one false, say at which input.
  Laid BY PROGRAM, IN A SANDBOX (cutbox-rows.mjs): the forced cells as the released guide's own fill.sh prints them over the translation 459f96a839d76e52… (all of the seat's roots in one cut). By AI agents, Wed Nov 11 2026. No macro, syntax, notation, axiom, sorry.
-/
import Derived.Test.YtdpdlmjlahehoaaChecked
import GoSem.Claim
import GoSem.ClaimJoined
import GoSem.ClaimMapViews
import Derived.JoinedTies
import Derived.KernelRfl
namespace Go.Proofs.Ytdpdlmjlahehoaa
/- THE CELL 'sum', in the pinned program and in every row, IS THE sha256 OF THE DUMP (.gsa) THAT YtdpdlmjlahehoaaProg.lean LOADS. Nothing in Lean hashes anything: it is a label: what it is worth is what the hold of that sum in a sandbox is worth. -/
noncomputable def Try.pinned : Pinned := { name := "ytdpdlmjlahehoaa", sum := "459f96a839d76e521623c431d908b96baf1b93288353d17a913943b48cf2f340", checked := Try.checked }
namespace Rows
def none {H : Type} : Left H := { results := [], args := [] }

/-- 'louverlaw05.SyntaxEnds': WHATEVER THE INPUT: true; the input reads as it did. -/
def syntaxEndsSpec : ChangeSpec := { name := "syntaxEnds", fn := fun _ => fun
  | [d] => { results := [.lit (.bool true)], args := [d] }
  | _ => none }
def syntaxEndsRow : OpenClaim := { program := "ytdpdlmjlahehoaa", sum := "459f96a839d76e521623c431d908b96baf1b93288353d17a913943b48cf2f340", func := "louver/louverlaw05.SyntaxEnds", spec := "syntaxEnds", apart := false }
def SyntaxEndsSaid : Prop := syntaxEndsRow.holds Try.pinned (OpenSpec.ofChange syntaxEndsSpec)

/-- ITS FALSE NEIGHBOUR: 'it returns false'. Refute it at one input. -/
def syntaxEndsWrong : ChangeSpec := { name := "syntaxEnds", fn := fun _ => fun
  | [d] => { results := [.lit (.bool false)], args := [d] }
  | _ => none }
def SyntaxEndsWrongFalsely : Prop := syntaxEndsRow.holds Try.pinned (OpenSpec.ofChange syntaxEndsWrong)

/-- 'louverlaw26.TrimCode': WHATEVER THE INPUT: true; the input reads as it did. -/
def trimCodeSpec : ChangeSpec := { name := "trimCode", fn := fun _ => fun
  | [d1, d2] => { results := [.lit (.bool true)], args := [d1, d2] }
  | _ => none }
def trimCodeRow : OpenClaim := { program := "ytdpdlmjlahehoaa", sum := "459f96a839d76e521623c431d908b96baf1b93288353d17a913943b48cf2f340", func := "louver/louverlaw26.TrimCode", spec := "trimCode", unfollowed := true, recurses := true, apart := false }
def TrimCodeSaid : Prop := trimCodeRow.holds Try.pinned (OpenSpec.ofChange trimCodeSpec)

/-- ITS FALSE NEIGHBOUR: 'it returns false'. Refute it at one input. -/
def trimCodeWrong : ChangeSpec := { name := "trimCode", fn := fun _ => fun
  | [d1, d2] => { results := [.lit (.bool false)], args := [d1, d2] }
  | _ => none }
def TrimCodeWrongFalsely : Prop := trimCodeRow.holds Try.pinned (OpenSpec.ofChange trimCodeWrong)

/-- 'louverlaw26.TrimOnce': WHATEVER THE INPUT: true; the input reads as it did. -/
def trimOnceSpec : ChangeSpec := { name := "trimOnce", fn := fun _ => fun
  | [d] => { results := [.lit (.bool true)], args := [d] }
  | _ => none }
def trimOnceRow : OpenClaim := { program := "ytdpdlmjlahehoaa", sum := "459f96a839d76e521623c431d908b96baf1b93288353d17a913943b48cf2f340", func := "louver/louverlaw26.TrimOnce", spec := "trimOnce", unfollowed := true, recurses := true, apart := false }
def TrimOnceSaid : Prop := trimOnceRow.holds Try.pinned (OpenSpec.ofChange trimOnceSpec)

/-- ITS FALSE NEIGHBOUR: 'it returns false'. Refute it at one input. -/
def trimOnceWrong : ChangeSpec := { name := "trimOnce", fn := fun _ => fun
  | [d] => { results := [.lit (.bool false)], args := [d] }
  | _ => none }
def TrimOnceWrongFalsely : Prop := trimOnceRow.holds Try.pinned (OpenSpec.ofChange trimOnceWrong)

/-- 'louverlaw27.LinkTwo': WHATEVER THE INPUT: true; the input reads as it did. -/
def linkTwoSpec : ChangeSpec := { name := "linkTwo", fn := fun _ => fun
  | [d1, d2] => { results := [.lit (.bool true)], args := [d1, d2] }
  | _ => none }
def linkTwoRow : OpenClaim := { program := "ytdpdlmjlahehoaa", sum := "459f96a839d76e521623c431d908b96baf1b93288353d17a913943b48cf2f340", func := "louver/louverlaw27.LinkTwo", spec := "linkTwo", unfollowed := true, recurses := true, apart := false }
def LinkTwoSaid : Prop := linkTwoRow.holds Try.pinned (OpenSpec.ofChange linkTwoSpec)

/-- ITS FALSE NEIGHBOUR: 'it returns false'. Refute it at one input. -/
def linkTwoWrong : ChangeSpec := { name := "linkTwo", fn := fun _ => fun
  | [d1, d2] => { results := [.lit (.bool false)], args := [d1, d2] }
  | _ => none }
def LinkTwoWrongFalsely : Prop := linkTwoRow.holds Try.pinned (OpenSpec.ofChange linkTwoWrong)

/-- 'louverlaw27.LinkBinds': WHATEVER THE INPUT: true; the input reads as it did. -/
def linkBindsSpec : ChangeSpec := { name := "linkBinds", fn := fun _ => fun
  | [d1, d2, d3] => { results := [.lit (.bool true)], args := [d1, d2, d3] }
  | _ => none }
def linkBindsRow : OpenClaim := { program := "ytdpdlmjlahehoaa", sum := "459f96a839d76e521623c431d908b96baf1b93288353d17a913943b48cf2f340", func := "louver/louverlaw27.LinkBinds", spec := "linkBinds", unfollowed := true, recurses := true, apart := false }
def LinkBindsSaid : Prop := linkBindsRow.holds Try.pinned (OpenSpec.ofChange linkBindsSpec)

/-- ITS FALSE NEIGHBOUR: 'it returns false'. Refute it at one input. -/
def linkBindsWrong : ChangeSpec := { name := "linkBinds", fn := fun _ => fun
  | [d1, d2, d3] => { results := [.lit (.bool false)], args := [d1, d2, d3] }
  | _ => none }
def LinkBindsWrongFalsely : Prop := linkBindsRow.holds Try.pinned (OpenSpec.ofChange linkBindsWrong)

/-- 'louverlaw27.LinkKnown': WHATEVER THE INPUT: true; the input reads as it did. -/
def linkKnownSpec : ChangeSpec := { name := "linkKnown", fn := fun _ => fun
  | [] => { results := [.lit (.bool true)], args := [] }
  | _ => none }
def linkKnownRow : OpenClaim := { program := "ytdpdlmjlahehoaa", sum := "459f96a839d76e521623c431d908b96baf1b93288353d17a913943b48cf2f340", func := "louver/louverlaw27.LinkKnown", spec := "linkKnown", unfollowed := true, recurses := true, apart := false }
def LinkKnownSaid : Prop := linkKnownRow.holds Try.pinned (OpenSpec.ofChange linkKnownSpec)

/-- ITS FALSE NEIGHBOUR: 'it returns false'. Refute it at one input. -/
def linkKnownWrong : ChangeSpec := { name := "linkKnown", fn := fun _ => fun
  | [] => { results := [.lit (.bool false)], args := [] }
  | _ => none }
def LinkKnownWrongFalsely : Prop := linkKnownRow.holds Try.pinned (OpenSpec.ofChange linkKnownWrong)

/-- 'louverlaw26.TrimModules': WHATEVER THE INPUT: true; the input reads as it did. -/
def trimModulesSpec : ChangeSpec := { name := "trimModules", fn := fun _ => fun
  | [d] => { results := [.lit (.bool true)], args := [d] }
  | _ => none }
def trimModulesRow : OpenClaim := { program := "ytdpdlmjlahehoaa", sum := "459f96a839d76e521623c431d908b96baf1b93288353d17a913943b48cf2f340", func := "louver/louverlaw26.TrimModules", spec := "trimModules", unfollowed := true, recurses := true, apart := false }
def TrimModulesSaid : Prop := trimModulesRow.holds Try.pinned (OpenSpec.ofChange trimModulesSpec)

/-- ITS FALSE NEIGHBOUR: 'it returns false'. Refute it at one input. -/
def trimModulesWrong : ChangeSpec := { name := "trimModules", fn := fun _ => fun
  | [d] => { results := [.lit (.bool false)], args := [d] }
  | _ => none }
def TrimModulesWrongFalsely : Prop := trimModulesRow.holds Try.pinned (OpenSpec.ofChange trimModulesWrong)

/-- 'louverlaw26.TrimKnown': WHATEVER THE INPUT: true; the input reads as it did. -/
def trimKnownSpec : ChangeSpec := { name := "trimKnown", fn := fun _ => fun
  | [] => { results := [.lit (.bool true)], args := [] }
  | _ => none }
def trimKnownRow : OpenClaim := { program := "ytdpdlmjlahehoaa", sum := "459f96a839d76e521623c431d908b96baf1b93288353d17a913943b48cf2f340", func := "louver/louverlaw26.TrimKnown", spec := "trimKnown", unfollowed := true, recurses := true, apart := false }
def TrimKnownSaid : Prop := trimKnownRow.holds Try.pinned (OpenSpec.ofChange trimKnownSpec)

/-- ITS FALSE NEIGHBOUR: 'it returns false'. Refute it at one input. -/
def trimKnownWrong : ChangeSpec := { name := "trimKnown", fn := fun _ => fun
  | [] => { results := [.lit (.bool false)], args := [] }
  | _ => none }
def TrimKnownWrongFalsely : Prop := trimKnownRow.holds Try.pinned (OpenSpec.ofChange trimKnownWrong)

/- THE SECOND FORM. 'bulk': how many values and letters a reading holds, each counted each time it is reached (what is shared counts as often as it is met; a slice's spare places count too). A statement '..UptoSaid' is the law's where the arguments, and the package variables that the reading takes, are together of bulk at most 1048576: NARROWER than '..Said'. Prove '..Said' where nothing that the law and all that it calls make is longer than what came in: it says more and counts as full. Else prove '..UptoSaid'. A law counts once. -/
mutual
def uptoBulk {H : Type} : DataW H → Nat
  | .lit (.string bytes) => bytes.length + 1
  | .lit _ => 1
  | .nil => 1
  | .ptr d => uptoBulk d + 1
  | .slice elems spare => uptoBulkAll elems + uptoBulkAll spare + 1
  | .agg parts => uptoBulkAll parts + 1
  | .iface _ d => uptoBulk d + 1
  | .map entries => uptoBulkEntries entries + 1
  | .held _ => 1
def uptoBulkAll {H : Type} : List (DataW H) → Nat
  | [] => 0
  | d :: r => uptoBulk d + uptoBulkAll r
def uptoBulkEntries {H : Type} : List (Lit × DataW H) → Nat
  | [] => 0
  | x :: r => uptoBulkEntry x + uptoBulkEntries r
def uptoBulkEntry {H : Type} : Lit × DataW H → Nat
  | (.string bytes, d) => bytes.length + uptoBulk d + 1
  | (_, d) => uptoBulk d + 1
 end
def uptoSmall : (H : Type) → List (DataW H) → Bool := fun _ ds => decide (uptoBulkAll ds ≤ 1048576)
def OpenSpec.upto (s : _root_.Go.ChangeSpec) : _root_.Go.OpenSpec := { _root_.Go.OpenSpec.ofChange s with cond := some uptoSmall }

/-- 'louverlaw05.SyntaxEnds', WHERE WHAT IT READS IS OF BULK AT MOST 1048576: true; the input reads as it did. -/
def syntaxEndsUptoRow : OpenClaim := { program := "ytdpdlmjlahehoaa", sum := "459f96a839d76e521623c431d908b96baf1b93288353d17a913943b48cf2f340", func := "louver/louverlaw05.SyntaxEnds", spec := "syntaxEnds", apart := false, narrowed := true }
def SyntaxEndsUptoSaid : Prop := syntaxEndsUptoRow.holds Try.pinned (OpenSpec.upto syntaxEndsSpec)

/-- 'louverlaw26.TrimCode', WHERE WHAT IT READS IS OF BULK AT MOST 1048576: true; the input reads as it did. -/
def trimCodeUptoRow : OpenClaim := { program := "ytdpdlmjlahehoaa", sum := "459f96a839d76e521623c431d908b96baf1b93288353d17a913943b48cf2f340", func := "louver/louverlaw26.TrimCode", spec := "trimCode", unfollowed := true, recurses := true, apart := false, narrowed := true }
def TrimCodeUptoSaid : Prop := trimCodeUptoRow.holds Try.pinned (OpenSpec.upto trimCodeSpec)

/-- 'louverlaw26.TrimOnce', WHERE WHAT IT READS IS OF BULK AT MOST 1048576: true; the input reads as it did. -/
def trimOnceUptoRow : OpenClaim := { program := "ytdpdlmjlahehoaa", sum := "459f96a839d76e521623c431d908b96baf1b93288353d17a913943b48cf2f340", func := "louver/louverlaw26.TrimOnce", spec := "trimOnce", unfollowed := true, recurses := true, apart := false, narrowed := true }
def TrimOnceUptoSaid : Prop := trimOnceUptoRow.holds Try.pinned (OpenSpec.upto trimOnceSpec)

/-- 'louverlaw27.LinkTwo', WHERE WHAT IT READS IS OF BULK AT MOST 1048576: true; the input reads as it did. -/
def linkTwoUptoRow : OpenClaim := { program := "ytdpdlmjlahehoaa", sum := "459f96a839d76e521623c431d908b96baf1b93288353d17a913943b48cf2f340", func := "louver/louverlaw27.LinkTwo", spec := "linkTwo", unfollowed := true, recurses := true, apart := false, narrowed := true }
def LinkTwoUptoSaid : Prop := linkTwoUptoRow.holds Try.pinned (OpenSpec.upto linkTwoSpec)

/-- 'louverlaw27.LinkBinds', WHERE WHAT IT READS IS OF BULK AT MOST 1048576: true; the input reads as it did. -/
def linkBindsUptoRow : OpenClaim := { program := "ytdpdlmjlahehoaa", sum := "459f96a839d76e521623c431d908b96baf1b93288353d17a913943b48cf2f340", func := "louver/louverlaw27.LinkBinds", spec := "linkBinds", unfollowed := true, recurses := true, apart := false, narrowed := true }
def LinkBindsUptoSaid : Prop := linkBindsUptoRow.holds Try.pinned (OpenSpec.upto linkBindsSpec)

/-- 'louverlaw27.LinkKnown', WHERE WHAT IT READS IS OF BULK AT MOST 1048576: true; the input reads as it did. -/
def linkKnownUptoRow : OpenClaim := { program := "ytdpdlmjlahehoaa", sum := "459f96a839d76e521623c431d908b96baf1b93288353d17a913943b48cf2f340", func := "louver/louverlaw27.LinkKnown", spec := "linkKnown", unfollowed := true, recurses := true, apart := false, narrowed := true }
def LinkKnownUptoSaid : Prop := linkKnownUptoRow.holds Try.pinned (OpenSpec.upto linkKnownSpec)

/-- 'louverlaw26.TrimModules', WHERE WHAT IT READS IS OF BULK AT MOST 1048576: true; the input reads as it did. -/
def trimModulesUptoRow : OpenClaim := { program := "ytdpdlmjlahehoaa", sum := "459f96a839d76e521623c431d908b96baf1b93288353d17a913943b48cf2f340", func := "louver/louverlaw26.TrimModules", spec := "trimModules", unfollowed := true, recurses := true, apart := false, narrowed := true }
def TrimModulesUptoSaid : Prop := trimModulesUptoRow.holds Try.pinned (OpenSpec.upto trimModulesSpec)

/-- 'louverlaw26.TrimKnown', WHERE WHAT IT READS IS OF BULK AT MOST 1048576: true; the input reads as it did. -/
def trimKnownUptoRow : OpenClaim := { program := "ytdpdlmjlahehoaa", sum := "459f96a839d76e521623c431d908b96baf1b93288353d17a913943b48cf2f340", func := "louver/louverlaw26.TrimKnown", spec := "trimKnown", unfollowed := true, recurses := true, apart := false, narrowed := true }
def TrimKnownUptoSaid : Prop := trimKnownUptoRow.holds Try.pinned (OpenSpec.upto trimKnownSpec)

end Rows
end Go.Proofs.Ytdpdlmjlahehoaa
