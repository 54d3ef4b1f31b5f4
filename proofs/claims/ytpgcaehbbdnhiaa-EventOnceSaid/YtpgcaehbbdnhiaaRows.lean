/-
  No cell of these rows narrows 'for every input' (looked for: loops, veiled, ifaces, maps, wideKeys, modest, calm, conditions, laid).
  DERIVED. THE GIVEN ROWS OF THIS SEAT. 12 by the template 'for every input the law returns true; each argument reads behind the call as it read before'; 0 by the template 'total and deterministic' (their statements: YtpgcaehbbdnhiaaTotals.lean).
  GIVEN WITH THE SEED: the statements are not yours to turn. If you find one false, say at which input.
  Laid BY PROGRAM, IN A SANDBOX (cutbox-rows.mjs): the forced cells as the released guide's own fill.sh prints them over the translation f354c2e8919ad723… (all of the seat's roots in one cut). By AI agents, Wed Nov 11 2026. No macro, syntax, notation, axiom, sorry.
-/
import Derived.Test.YtpgcaehbbdnhiaaChecked
import GoSem.Claim
import GoSem.ClaimJoined
import GoSem.ClaimMapViews
import Derived.JoinedTies
import Derived.KernelRfl
namespace Go.Proofs.Ytpgcaehbbdnhiaa
/- THE CELL 'sum', in the pinned program and in every row, IS THE sha256 OF THE DUMP (.gsa) THAT YtpgcaehbbdnhiaaProg.lean LOADS. Nothing in Lean hashes anything: it is a label: what it is worth is what the hold of that sum in a sandbox is worth. -/
noncomputable def Try.pinned : Pinned := { name := "ytpgcaehbbdnhiaa", sum := "f354c2e8919ad723cd78d28462881207487c4e612d95b42b8f79611106ed20e2", checked := Try.checked }
namespace Rows
def none {H : Type} : Left H := { results := [], args := [] }

/-- 'counterfoillaw23.EventKinds': WHATEVER THE INPUT: true; the input reads as it did. -/
def eventKindsSpec : ChangeSpec := { name := "eventKinds", fn := fun _ => fun
  | [d] => { results := [.lit (.bool true)], args := [d] }
  | _ => none }
def eventKindsRow : OpenClaim := { program := "ytpgcaehbbdnhiaa", sum := "f354c2e8919ad723cd78d28462881207487c4e612d95b42b8f79611106ed20e2", func := "counterfoil/counterfoillaw23.EventKinds", spec := "eventKinds", apart := false }
def EventKindsSaid : Prop := eventKindsRow.holds Try.pinned (OpenSpec.ofChange eventKindsSpec)

/-- ITS FALSE NEIGHBOUR: 'it returns false'. Refute it at one input. -/
def eventKindsWrong : ChangeSpec := { name := "eventKinds", fn := fun _ => fun
  | [d] => { results := [.lit (.bool false)], args := [d] }
  | _ => none }
def EventKindsWrongFalsely : Prop := eventKindsRow.holds Try.pinned (OpenSpec.ofChange eventKindsWrong)

/-- 'counterfoillaw23.EventPaths': WHATEVER THE INPUT: true; the input reads as it did. -/
def eventPathsSpec : ChangeSpec := { name := "eventPaths", fn := fun _ => fun
  | [d1, d2] => { results := [.lit (.bool true)], args := [d1, d2] }
  | _ => none }
def eventPathsRow : OpenClaim := { program := "ytpgcaehbbdnhiaa", sum := "f354c2e8919ad723cd78d28462881207487c4e612d95b42b8f79611106ed20e2", func := "counterfoil/counterfoillaw23.EventPaths", spec := "eventPaths", unfollowed := true, recurses := true, apart := false }
def EventPathsSaid : Prop := eventPathsRow.holds Try.pinned (OpenSpec.ofChange eventPathsSpec)

/-- ITS FALSE NEIGHBOUR: 'it returns false'. Refute it at one input. -/
def eventPathsWrong : ChangeSpec := { name := "eventPaths", fn := fun _ => fun
  | [d1, d2] => { results := [.lit (.bool false)], args := [d1, d2] }
  | _ => none }
def EventPathsWrongFalsely : Prop := eventPathsRow.holds Try.pinned (OpenSpec.ofChange eventPathsWrong)

/-- 'counterfoillaw23.EventCalls': WHATEVER THE INPUT: true; the input reads as it did. -/
def eventCallsSpec : ChangeSpec := { name := "eventCalls", fn := fun _ => fun
  | [d1, d2, d3] => { results := [.lit (.bool true)], args := [d1, d2, d3] }
  | _ => none }
def eventCallsRow : OpenClaim := { program := "ytpgcaehbbdnhiaa", sum := "f354c2e8919ad723cd78d28462881207487c4e612d95b42b8f79611106ed20e2", func := "counterfoil/counterfoillaw23.EventCalls", spec := "eventCalls", unfollowed := true, recurses := true, apart := false }
def EventCallsSaid : Prop := eventCallsRow.holds Try.pinned (OpenSpec.ofChange eventCallsSpec)

/-- ITS FALSE NEIGHBOUR: 'it returns false'. Refute it at one input. -/
def eventCallsWrong : ChangeSpec := { name := "eventCalls", fn := fun _ => fun
  | [d1, d2, d3] => { results := [.lit (.bool false)], args := [d1, d2, d3] }
  | _ => none }
def EventCallsWrongFalsely : Prop := eventCallsRow.holds Try.pinned (OpenSpec.ofChange eventCallsWrong)

/-- 'counterfoillaw23.EventOnce': WHATEVER THE INPUT: true; the input reads as it did. -/
def eventOnceSpec : ChangeSpec := { name := "eventOnce", fn := fun _ => fun
  | [d1, d2, d3] => { results := [.lit (.bool true)], args := [d1, d2, d3] }
  | _ => none }
def eventOnceRow : OpenClaim := { program := "ytpgcaehbbdnhiaa", sum := "f354c2e8919ad723cd78d28462881207487c4e612d95b42b8f79611106ed20e2", func := "counterfoil/counterfoillaw23.EventOnce", spec := "eventOnce", unfollowed := true, recurses := true, apart := false }
def EventOnceSaid : Prop := eventOnceRow.holds Try.pinned (OpenSpec.ofChange eventOnceSpec)

/-- ITS FALSE NEIGHBOUR: 'it returns false'. Refute it at one input. -/
def eventOnceWrong : ChangeSpec := { name := "eventOnce", fn := fun _ => fun
  | [d1, d2, d3] => { results := [.lit (.bool false)], args := [d1, d2, d3] }
  | _ => none }
def EventOnceWrongFalsely : Prop := eventOnceRow.holds Try.pinned (OpenSpec.ofChange eventOnceWrong)

/-- 'counterfoillaw23.EventMore': WHATEVER THE INPUT: true; the input reads as it did. -/
def eventMoreSpec : ChangeSpec := { name := "eventMore", fn := fun _ => fun
  | [d1, d2, d3] => { results := [.lit (.bool true)], args := [d1, d2, d3] }
  | _ => none }
def eventMoreRow : OpenClaim := { program := "ytpgcaehbbdnhiaa", sum := "f354c2e8919ad723cd78d28462881207487c4e612d95b42b8f79611106ed20e2", func := "counterfoil/counterfoillaw23.EventMore", spec := "eventMore", unfollowed := true, recurses := true, apart := false }
def EventMoreSaid : Prop := eventMoreRow.holds Try.pinned (OpenSpec.ofChange eventMoreSpec)

/-- ITS FALSE NEIGHBOUR: 'it returns false'. Refute it at one input. -/
def eventMoreWrong : ChangeSpec := { name := "eventMore", fn := fun _ => fun
  | [d1, d2, d3] => { results := [.lit (.bool false)], args := [d1, d2, d3] }
  | _ => none }
def EventMoreWrongFalsely : Prop := eventMoreRow.holds Try.pinned (OpenSpec.ofChange eventMoreWrong)

/-- 'counterfoillaw10.TreeRight': WHATEVER THE INPUT: true; the input reads as it did. -/
def treeRightSpec : ChangeSpec := { name := "treeRight", fn := fun _ => fun
  | [d] => { results := [.lit (.bool true)], args := [d] }
  | _ => none }
def treeRightRow : OpenClaim := { program := "ytpgcaehbbdnhiaa", sum := "f354c2e8919ad723cd78d28462881207487c4e612d95b42b8f79611106ed20e2", func := "counterfoil/counterfoillaw10.TreeRight", spec := "treeRight", inPlace := ["slices.overlaps[int]"], unfollowed := true, recurses := true, apart := false }
def TreeRightSaid : Prop := treeRightRow.holds Try.pinned (OpenSpec.ofChange treeRightSpec)

/-- ITS FALSE NEIGHBOUR: 'it returns false'. Refute it at one input. -/
def treeRightWrong : ChangeSpec := { name := "treeRight", fn := fun _ => fun
  | [d] => { results := [.lit (.bool false)], args := [d] }
  | _ => none }
def TreeRightWrongFalsely : Prop := treeRightRow.holds Try.pinned (OpenSpec.ofChange treeRightWrong)

/-- 'counterfoillaw10.TreeOrder': WHATEVER THE INPUT: true; the input reads as it did. -/
def treeOrderSpec : ChangeSpec := { name := "treeOrder", fn := fun _ => fun
  | [d] => { results := [.lit (.bool true)], args := [d] }
  | _ => none }
def treeOrderRow : OpenClaim := { program := "ytpgcaehbbdnhiaa", sum := "f354c2e8919ad723cd78d28462881207487c4e612d95b42b8f79611106ed20e2", func := "counterfoil/counterfoillaw10.TreeOrder", spec := "treeOrder", inPlace := ["slices.overlaps[int]"], unfollowed := true, recurses := true, apart := false }
def TreeOrderSaid : Prop := treeOrderRow.holds Try.pinned (OpenSpec.ofChange treeOrderSpec)

/-- ITS FALSE NEIGHBOUR: 'it returns false'. Refute it at one input. -/
def treeOrderWrong : ChangeSpec := { name := "treeOrder", fn := fun _ => fun
  | [d] => { results := [.lit (.bool false)], args := [d] }
  | _ => none }
def TreeOrderWrongFalsely : Prop := treeOrderRow.holds Try.pinned (OpenSpec.ofChange treeOrderWrong)

/-- 'counterfoillaw10.TreeRemoves': WHATEVER THE INPUT: true; the input reads as it did. -/
def treeRemovesSpec : ChangeSpec := { name := "treeRemoves", fn := fun _ => fun
  | [d1, d2] => { results := [.lit (.bool true)], args := [d1, d2] }
  | _ => none }
def treeRemovesRow : OpenClaim := { program := "ytpgcaehbbdnhiaa", sum := "f354c2e8919ad723cd78d28462881207487c4e612d95b42b8f79611106ed20e2", func := "counterfoil/counterfoillaw10.TreeRemoves", spec := "treeRemoves", inPlace := ["slices.overlaps[int]"], unfollowed := true, recurses := true, apart := false }
def TreeRemovesSaid : Prop := treeRemovesRow.holds Try.pinned (OpenSpec.ofChange treeRemovesSpec)

/-- ITS FALSE NEIGHBOUR: 'it returns false'. Refute it at one input. -/
def treeRemovesWrong : ChangeSpec := { name := "treeRemoves", fn := fun _ => fun
  | [d1, d2] => { results := [.lit (.bool false)], args := [d1, d2] }
  | _ => none }
def TreeRemovesWrongFalsely : Prop := treeRemovesRow.holds Try.pinned (OpenSpec.ofChange treeRemovesWrong)

/-- 'counterfoillaw10.TreeNamed': WHATEVER THE INPUT: true; the input reads as it did. -/
def treeNamedSpec : ChangeSpec := { name := "treeNamed", fn := fun _ => fun
  | [d1, d2] => { results := [.lit (.bool true)], args := [d1, d2] }
  | _ => none }
def treeNamedRow : OpenClaim := { program := "ytpgcaehbbdnhiaa", sum := "f354c2e8919ad723cd78d28462881207487c4e612d95b42b8f79611106ed20e2", func := "counterfoil/counterfoillaw10.TreeNamed", spec := "treeNamed", inPlace := ["slices.overlaps[int]"], unfollowed := true, recurses := true, apart := false }
def TreeNamedSaid : Prop := treeNamedRow.holds Try.pinned (OpenSpec.ofChange treeNamedSpec)

/-- ITS FALSE NEIGHBOUR: 'it returns false'. Refute it at one input. -/
def treeNamedWrong : ChangeSpec := { name := "treeNamed", fn := fun _ => fun
  | [d1, d2] => { results := [.lit (.bool false)], args := [d1, d2] }
  | _ => none }
def TreeNamedWrongFalsely : Prop := treeNamedRow.holds Try.pinned (OpenSpec.ofChange treeNamedWrong)

/-- 'counterfoillaw10.TreeAdds': WHATEVER THE INPUT: true; the input reads as it did. -/
def treeAddsSpec : ChangeSpec := { name := "treeAdds", fn := fun _ => fun
  | [d1, d2, d3] => { results := [.lit (.bool true)], args := [d1, d2, d3] }
  | _ => none }
def treeAddsRow : OpenClaim := { program := "ytpgcaehbbdnhiaa", sum := "f354c2e8919ad723cd78d28462881207487c4e612d95b42b8f79611106ed20e2", func := "counterfoil/counterfoillaw10.TreeAdds", spec := "treeAdds", inPlace := ["slices.overlaps[int]"], unfollowed := true, recurses := true, apart := false }
def TreeAddsSaid : Prop := treeAddsRow.holds Try.pinned (OpenSpec.ofChange treeAddsSpec)

/-- ITS FALSE NEIGHBOUR: 'it returns false'. Refute it at one input. -/
def treeAddsWrong : ChangeSpec := { name := "treeAdds", fn := fun _ => fun
  | [d1, d2, d3] => { results := [.lit (.bool false)], args := [d1, d2, d3] }
  | _ => none }
def TreeAddsWrongFalsely : Prop := treeAddsRow.holds Try.pinned (OpenSpec.ofChange treeAddsWrong)

/-- 'counterfoillaw10.TreeAsks': WHATEVER THE INPUT: true; the input reads as it did. -/
def treeAsksSpec : ChangeSpec := { name := "treeAsks", fn := fun _ => fun
  | [d1, d2, d3] => { results := [.lit (.bool true)], args := [d1, d2, d3] }
  | _ => none }
def treeAsksRow : OpenClaim := { program := "ytpgcaehbbdnhiaa", sum := "f354c2e8919ad723cd78d28462881207487c4e612d95b42b8f79611106ed20e2", func := "counterfoil/counterfoillaw10.TreeAsks", spec := "treeAsks", inPlace := ["slices.overlaps[int]"], unfollowed := true, recurses := true, apart := false }
def TreeAsksSaid : Prop := treeAsksRow.holds Try.pinned (OpenSpec.ofChange treeAsksSpec)

/-- ITS FALSE NEIGHBOUR: 'it returns false'. Refute it at one input. -/
def treeAsksWrong : ChangeSpec := { name := "treeAsks", fn := fun _ => fun
  | [d1, d2, d3] => { results := [.lit (.bool false)], args := [d1, d2, d3] }
  | _ => none }
def TreeAsksWrongFalsely : Prop := treeAsksRow.holds Try.pinned (OpenSpec.ofChange treeAsksWrong)

/-- 'counterfoillaw10.TreeSets': WHATEVER THE INPUT: true; the input reads as it did. -/
def treeSetsSpec : ChangeSpec := { name := "treeSets", fn := fun _ => fun
  | [d1, d2, d3] => { results := [.lit (.bool true)], args := [d1, d2, d3] }
  | _ => none }
def treeSetsRow : OpenClaim := { program := "ytpgcaehbbdnhiaa", sum := "f354c2e8919ad723cd78d28462881207487c4e612d95b42b8f79611106ed20e2", func := "counterfoil/counterfoillaw10.TreeSets", spec := "treeSets", inPlace := ["slices.overlaps[int]"], unfollowed := true, recurses := true, apart := false }
def TreeSetsSaid : Prop := treeSetsRow.holds Try.pinned (OpenSpec.ofChange treeSetsSpec)

/-- ITS FALSE NEIGHBOUR: 'it returns false'. Refute it at one input. -/
def treeSetsWrong : ChangeSpec := { name := "treeSets", fn := fun _ => fun
  | [d1, d2, d3] => { results := [.lit (.bool false)], args := [d1, d2, d3] }
  | _ => none }
def TreeSetsWrongFalsely : Prop := treeSetsRow.holds Try.pinned (OpenSpec.ofChange treeSetsWrong)

/- THE SECOND FORM. 'bulk': how many values and letters a reading holds, each counted each time it is reached (what is shared counts as often as it is met; a slice's spare places count too). A statement '..UptoSaid' is the law's where the arguments, and the package variables that the reading takes, are together of bulk at most 1048576: NARROWER than '..Said'. Prove '..Said' where nothing that the law and all that it calls make is longer than what came in: it says more and counts as full. Else prove '..UptoSaid'. A law counts once. -/
mutual
def uptoBulk {H : Type} : DataW H → Nat
  | .lit (.string bytes) => bytes.length + 1
  | .lit _ => 1
  | .nil => 1
  | .ptr d => uptoBulk d + 1
  | .slice elems spare => uptoBulkAll elems + uptoBulkAll spare + 1
  | .agg parts => uptoBulkAll parts + 1
  | .iface _ d => uptoBulk d + 1
  | .map entries => uptoBulkEntries entries + 1
  | .held _ => 1
def uptoBulkAll {H : Type} : List (DataW H) → Nat
  | [] => 0
  | d :: r => uptoBulk d + uptoBulkAll r
def uptoBulkEntries {H : Type} : List (Lit × DataW H) → Nat
  | [] => 0
  | x :: r => uptoBulkEntry x + uptoBulkEntries r
def uptoBulkEntry {H : Type} : Lit × DataW H → Nat
  | (.string bytes, d) => bytes.length + uptoBulk d + 1
  | (_, d) => uptoBulk d + 1
 end
def uptoSmall : (H : Type) → List (DataW H) → Bool := fun _ ds => decide (uptoBulkAll ds ≤ 1048576)
def OpenSpec.upto (s : _root_.Go.ChangeSpec) : _root_.Go.OpenSpec := { _root_.Go.OpenSpec.ofChange s with cond := some uptoSmall }

/-- 'counterfoillaw23.EventKinds', WHERE WHAT IT READS IS OF BULK AT MOST 1048576: true; the input reads as it did. -/
def eventKindsUptoRow : OpenClaim := { program := "ytpgcaehbbdnhiaa", sum := "f354c2e8919ad723cd78d28462881207487c4e612d95b42b8f79611106ed20e2", func := "counterfoil/counterfoillaw23.EventKinds", spec := "eventKinds", apart := false, narrowed := true }
def EventKindsUptoSaid : Prop := eventKindsUptoRow.holds Try.pinned (OpenSpec.upto eventKindsSpec)

/-- 'counterfoillaw23.EventPaths', WHERE WHAT IT READS IS OF BULK AT MOST 1048576: true; the input reads as it did. -/
def eventPathsUptoRow : OpenClaim := { program := "ytpgcaehbbdnhiaa", sum := "f354c2e8919ad723cd78d28462881207487c4e612d95b42b8f79611106ed20e2", func := "counterfoil/counterfoillaw23.EventPaths", spec := "eventPaths", unfollowed := true, recurses := true, apart := false, narrowed := true }
def EventPathsUptoSaid : Prop := eventPathsUptoRow.holds Try.pinned (OpenSpec.upto eventPathsSpec)

/-- 'counterfoillaw23.EventCalls', WHERE WHAT IT READS IS OF BULK AT MOST 1048576: true; the input reads as it did. -/
def eventCallsUptoRow : OpenClaim := { program := "ytpgcaehbbdnhiaa", sum := "f354c2e8919ad723cd78d28462881207487c4e612d95b42b8f79611106ed20e2", func := "counterfoil/counterfoillaw23.EventCalls", spec := "eventCalls", unfollowed := true, recurses := true, apart := false, narrowed := true }
def EventCallsUptoSaid : Prop := eventCallsUptoRow.holds Try.pinned (OpenSpec.upto eventCallsSpec)

/-- 'counterfoillaw23.EventOnce', WHERE WHAT IT READS IS OF BULK AT MOST 1048576: true; the input reads as it did. -/
def eventOnceUptoRow : OpenClaim := { program := "ytpgcaehbbdnhiaa", sum := "f354c2e8919ad723cd78d28462881207487c4e612d95b42b8f79611106ed20e2", func := "counterfoil/counterfoillaw23.EventOnce", spec := "eventOnce", unfollowed := true, recurses := true, apart := false, narrowed := true }
def EventOnceUptoSaid : Prop := eventOnceUptoRow.holds Try.pinned (OpenSpec.upto eventOnceSpec)

/-- 'counterfoillaw23.EventMore', WHERE WHAT IT READS IS OF BULK AT MOST 1048576: true; the input reads as it did. -/
def eventMoreUptoRow : OpenClaim := { program := "ytpgcaehbbdnhiaa", sum := "f354c2e8919ad723cd78d28462881207487c4e612d95b42b8f79611106ed20e2", func := "counterfoil/counterfoillaw23.EventMore", spec := "eventMore", unfollowed := true, recurses := true, apart := false, narrowed := true }
def EventMoreUptoSaid : Prop := eventMoreUptoRow.holds Try.pinned (OpenSpec.upto eventMoreSpec)

/-- 'counterfoillaw10.TreeRight', WHERE WHAT IT READS IS OF BULK AT MOST 1048576: true; the input reads as it did. -/
def treeRightUptoRow : OpenClaim := { program := "ytpgcaehbbdnhiaa", sum := "f354c2e8919ad723cd78d28462881207487c4e612d95b42b8f79611106ed20e2", func := "counterfoil/counterfoillaw10.TreeRight", spec := "treeRight", inPlace := ["slices.overlaps[int]"], unfollowed := true, recurses := true, apart := false, narrowed := true }
def TreeRightUptoSaid : Prop := treeRightUptoRow.holds Try.pinned (OpenSpec.upto treeRightSpec)

/-- 'counterfoillaw10.TreeOrder', WHERE WHAT IT READS IS OF BULK AT MOST 1048576: true; the input reads as it did. -/
def treeOrderUptoRow : OpenClaim := { program := "ytpgcaehbbdnhiaa", sum := "f354c2e8919ad723cd78d28462881207487c4e612d95b42b8f79611106ed20e2", func := "counterfoil/counterfoillaw10.TreeOrder", spec := "treeOrder", inPlace := ["slices.overlaps[int]"], unfollowed := true, recurses := true, apart := false, narrowed := true }
def TreeOrderUptoSaid : Prop := treeOrderUptoRow.holds Try.pinned (OpenSpec.upto treeOrderSpec)

/-- 'counterfoillaw10.TreeRemoves', WHERE WHAT IT READS IS OF BULK AT MOST 1048576: true; the input reads as it did. -/
def treeRemovesUptoRow : OpenClaim := { program := "ytpgcaehbbdnhiaa", sum := "f354c2e8919ad723cd78d28462881207487c4e612d95b42b8f79611106ed20e2", func := "counterfoil/counterfoillaw10.TreeRemoves", spec := "treeRemoves", inPlace := ["slices.overlaps[int]"], unfollowed := true, recurses := true, apart := false, narrowed := true }
def TreeRemovesUptoSaid : Prop := treeRemovesUptoRow.holds Try.pinned (OpenSpec.upto treeRemovesSpec)

/-- 'counterfoillaw10.TreeNamed', WHERE WHAT IT READS IS OF BULK AT MOST 1048576: true; the input reads as it did. -/
def treeNamedUptoRow : OpenClaim := { program := "ytpgcaehbbdnhiaa", sum := "f354c2e8919ad723cd78d28462881207487c4e612d95b42b8f79611106ed20e2", func := "counterfoil/counterfoillaw10.TreeNamed", spec := "treeNamed", inPlace := ["slices.overlaps[int]"], unfollowed := true, recurses := true, apart := false, narrowed := true }
def TreeNamedUptoSaid : Prop := treeNamedUptoRow.holds Try.pinned (OpenSpec.upto treeNamedSpec)

/-- 'counterfoillaw10.TreeAdds', WHERE WHAT IT READS IS OF BULK AT MOST 1048576: true; the input reads as it did. -/
def treeAddsUptoRow : OpenClaim := { program := "ytpgcaehbbdnhiaa", sum := "f354c2e8919ad723cd78d28462881207487c4e612d95b42b8f79611106ed20e2", func := "counterfoil/counterfoillaw10.TreeAdds", spec := "treeAdds", inPlace := ["slices.overlaps[int]"], unfollowed := true, recurses := true, apart := false, narrowed := true }
def TreeAddsUptoSaid : Prop := treeAddsUptoRow.holds Try.pinned (OpenSpec.upto treeAddsSpec)

/-- 'counterfoillaw10.TreeAsks', WHERE WHAT IT READS IS OF BULK AT MOST 1048576: true; the input reads as it did. -/
def treeAsksUptoRow : OpenClaim := { program := "ytpgcaehbbdnhiaa", sum := "f354c2e8919ad723cd78d28462881207487c4e612d95b42b8f79611106ed20e2", func := "counterfoil/counterfoillaw10.TreeAsks", spec := "treeAsks", inPlace := ["slices.overlaps[int]"], unfollowed := true, recurses := true, apart := false, narrowed := true }
def TreeAsksUptoSaid : Prop := treeAsksUptoRow.holds Try.pinned (OpenSpec.upto treeAsksSpec)

/-- 'counterfoillaw10.TreeSets', WHERE WHAT IT READS IS OF BULK AT MOST 1048576: true; the input reads as it did. -/
def treeSetsUptoRow : OpenClaim := { program := "ytpgcaehbbdnhiaa", sum := "f354c2e8919ad723cd78d28462881207487c4e612d95b42b8f79611106ed20e2", func := "counterfoil/counterfoillaw10.TreeSets", spec := "treeSets", inPlace := ["slices.overlaps[int]"], unfollowed := true, recurses := true, apart := false, narrowed := true }
def TreeSetsUptoSaid : Prop := treeSetsUptoRow.holds Try.pinned (OpenSpec.upto treeSetsSpec)

end Rows
end Go.Proofs.Ytpgcaehbbdnhiaa
