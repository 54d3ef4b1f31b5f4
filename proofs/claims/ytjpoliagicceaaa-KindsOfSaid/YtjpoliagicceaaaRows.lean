/-
  No cell of these rows narrows 'for every input' (looked for: loops, veiled, ifaces, maps, wideKeys, modest, calm, conditions, laid).
  DERIVED. THE GIVEN ROWS OF THIS SEAT. 5 by the template 'for every input the law returns true; each argument reads behind the call as it read before'; 0 by the template 'total and deterministic' (their statements: YtjpoliagicceaaaTotals.lean).
  GIVEN WITH THE SEED: the statements are not yours to turn. If you find one false, say at which input.
  Laid BY PROGRAM, IN A SANDBOX (cutbox-rows.mjs): the forced cells as the released guide's own fill.sh prints them over the translation 62e5ec794d985061… (all of the seat's roots in one cut). By AI agents, Wed Nov 11 2026. No macro, syntax, notation, axiom, sorry.
-/
import Derived.Test.YtjpoliagicceaaaChecked
import GoSem.Claim
import GoSem.ClaimJoined
import GoSem.ClaimMapViews
import Derived.JoinedTies
import Derived.KernelRfl
namespace Go.Proofs.Ytjpoliagicceaaa
/- THE CELL 'sum', in the pinned program and in every row, IS THE sha256 OF THE DUMP (.gsa) THAT YtjpoliagicceaaaProg.lean LOADS. Nothing in Lean hashes anything: it is a label: what it is worth is what the hold of that sum in a sandbox is worth. -/
noncomputable def Try.pinned : Pinned := { name := "ytjpoliagicceaaa", sum := "62e5ec794d98506120f177df24ad1e03f233b4578cd62e85b5b0e51ef13e7bb1", checked := Try.checked }
namespace Rows
def none {H : Type} : Left H := { results := [], args := [] }

/-- 'counterfoillaw11.KindsOf': WHATEVER THE INPUT: true; the input reads as it did. -/
def kindsOfSpec : ChangeSpec := { name := "kindsOf", fn := fun _ => fun
  | [d] => { results := [.lit (.bool true)], args := [d] }
  | _ => none }
def kindsOfRow : OpenClaim := { program := "ytjpoliagicceaaa", sum := "62e5ec794d98506120f177df24ad1e03f233b4578cd62e85b5b0e51ef13e7bb1", func := "counterfoil/counterfoillaw11.KindsOf", spec := "kindsOf", unfollowed := true, recurses := true, apart := false }
def KindsOfSaid : Prop := kindsOfRow.holds Try.pinned (OpenSpec.ofChange kindsOfSpec)

/-- ITS FALSE NEIGHBOUR: 'it returns false'. Refute it at one input. -/
def kindsOfWrong : ChangeSpec := { name := "kindsOf", fn := fun _ => fun
  | [d] => { results := [.lit (.bool false)], args := [d] }
  | _ => none }
def KindsOfWrongFalsely : Prop := kindsOfRow.holds Try.pinned (OpenSpec.ofChange kindsOfWrong)

/-- 'counterfoillaw11.KindsApplies': WHATEVER THE INPUT: true; the input reads as it did. -/
def kindsAppliesSpec : ChangeSpec := { name := "kindsApplies", fn := fun _ => fun
  | [d1, d2] => { results := [.lit (.bool true)], args := [d1, d2] }
  | _ => none }
def kindsAppliesRow : OpenClaim := { program := "ytjpoliagicceaaa", sum := "62e5ec794d98506120f177df24ad1e03f233b4578cd62e85b5b0e51ef13e7bb1", func := "counterfoil/counterfoillaw11.KindsApplies", spec := "kindsApplies", unfollowed := true, recurses := true, apart := false }
def KindsAppliesSaid : Prop := kindsAppliesRow.holds Try.pinned (OpenSpec.ofChange kindsAppliesSpec)

/-- ITS FALSE NEIGHBOUR: 'it returns false'. Refute it at one input. -/
def kindsAppliesWrong : ChangeSpec := { name := "kindsApplies", fn := fun _ => fun
  | [d1, d2] => { results := [.lit (.bool false)], args := [d1, d2] }
  | _ => none }
def KindsAppliesWrongFalsely : Prop := kindsAppliesRow.holds Try.pinned (OpenSpec.ofChange kindsAppliesWrong)

/-- 'counterfoillaw11.KindsModes': WHATEVER THE INPUT: true; the input reads as it did. -/
def kindsModesSpec : ChangeSpec := { name := "kindsModes", fn := fun _ => fun
  | [d] => { results := [.lit (.bool true)], args := [d] }
  | _ => none }
def kindsModesRow : OpenClaim := { program := "ytjpoliagicceaaa", sum := "62e5ec794d98506120f177df24ad1e03f233b4578cd62e85b5b0e51ef13e7bb1", func := "counterfoil/counterfoillaw11.KindsModes", spec := "kindsModes", unfollowed := true, recurses := true, apart := false }
def KindsModesSaid : Prop := kindsModesRow.holds Try.pinned (OpenSpec.ofChange kindsModesSpec)

/-- ITS FALSE NEIGHBOUR: 'it returns false'. Refute it at one input. -/
def kindsModesWrong : ChangeSpec := { name := "kindsModes", fn := fun _ => fun
  | [d] => { results := [.lit (.bool false)], args := [d] }
  | _ => none }
def KindsModesWrongFalsely : Prop := kindsModesRow.holds Try.pinned (OpenSpec.ofChange kindsModesWrong)

/-- 'counterfoillaw11.KindsAsks': WHATEVER THE INPUT: true; the input reads as it did. -/
def kindsAsksSpec : ChangeSpec := { name := "kindsAsks", fn := fun _ => fun
  | [d] => { results := [.lit (.bool true)], args := [d] }
  | _ => none }
def kindsAsksRow : OpenClaim := { program := "ytjpoliagicceaaa", sum := "62e5ec794d98506120f177df24ad1e03f233b4578cd62e85b5b0e51ef13e7bb1", func := "counterfoil/counterfoillaw11.KindsAsks", spec := "kindsAsks", unfollowed := true, recurses := true, apart := false }
def KindsAsksSaid : Prop := kindsAsksRow.holds Try.pinned (OpenSpec.ofChange kindsAsksSpec)

/-- ITS FALSE NEIGHBOUR: 'it returns false'. Refute it at one input. -/
def kindsAsksWrong : ChangeSpec := { name := "kindsAsks", fn := fun _ => fun
  | [d] => { results := [.lit (.bool false)], args := [d] }
  | _ => none }
def KindsAsksWrongFalsely : Prop := kindsAsksRow.holds Try.pinned (OpenSpec.ofChange kindsAsksWrong)

/-- 'counterfoillaw11.KindsTypes': WHATEVER THE INPUT: true; the input reads as it did. -/
def kindsTypesSpec : ChangeSpec := { name := "kindsTypes", fn := fun _ => fun
  | [d] => { results := [.lit (.bool true)], args := [d] }
  | _ => none }
def kindsTypesRow : OpenClaim := { program := "ytjpoliagicceaaa", sum := "62e5ec794d98506120f177df24ad1e03f233b4578cd62e85b5b0e51ef13e7bb1", func := "counterfoil/counterfoillaw11.KindsTypes", spec := "kindsTypes", unfollowed := true, recurses := true, apart := false }
def KindsTypesSaid : Prop := kindsTypesRow.holds Try.pinned (OpenSpec.ofChange kindsTypesSpec)

/-- ITS FALSE NEIGHBOUR: 'it returns false'. Refute it at one input. -/
def kindsTypesWrong : ChangeSpec := { name := "kindsTypes", fn := fun _ => fun
  | [d] => { results := [.lit (.bool false)], args := [d] }
  | _ => none }
def KindsTypesWrongFalsely : Prop := kindsTypesRow.holds Try.pinned (OpenSpec.ofChange kindsTypesWrong)

/- THE SECOND FORM. 'bulk': how many values and letters a reading holds, each counted each time it is reached (what is shared counts as often as it is met; a slice's spare places count too). A statement '..UptoSaid' is the law's where the arguments, and the package variables that the reading takes, are together of bulk at most 1048576: NARROWER than '..Said'. Prove '..Said' where nothing that the law and all that it calls make is longer than what came in: it says more and counts as full. Else prove '..UptoSaid'. A law counts once. -/
mutual
def uptoBulk {H : Type} : DataW H → Nat
  | .lit (.string bytes) => bytes.length + 1
  | .lit _ => 1
  | .nil => 1
  | .ptr d => uptoBulk d + 1
  | .slice elems spare => uptoBulkAll elems + uptoBulkAll spare + 1
  | .agg parts => uptoBulkAll parts + 1
  | .iface _ d => uptoBulk d + 1
  | .map entries => uptoBulkEntries entries + 1
  | .held _ => 1
def uptoBulkAll {H : Type} : List (DataW H) → Nat
  | [] => 0
  | d :: r => uptoBulk d + uptoBulkAll r
def uptoBulkEntries {H : Type} : List (Lit × DataW H) → Nat
  | [] => 0
  | x :: r => uptoBulkEntry x + uptoBulkEntries r
def uptoBulkEntry {H : Type} : Lit × DataW H → Nat
  | (.string bytes, d) => bytes.length + uptoBulk d + 1
  | (_, d) => uptoBulk d + 1
 end
def uptoSmall : (H : Type) → List (DataW H) → Bool := fun _ ds => decide (uptoBulkAll ds ≤ 1048576)
def OpenSpec.upto (s : _root_.Go.ChangeSpec) : _root_.Go.OpenSpec := { _root_.Go.OpenSpec.ofChange s with cond := some uptoSmall }

/-- 'counterfoillaw11.KindsOf', WHERE WHAT IT READS IS OF BULK AT MOST 1048576: true; the input reads as it did. -/
def kindsOfUptoRow : OpenClaim := { program := "ytjpoliagicceaaa", sum := "62e5ec794d98506120f177df24ad1e03f233b4578cd62e85b5b0e51ef13e7bb1", func := "counterfoil/counterfoillaw11.KindsOf", spec := "kindsOf", unfollowed := true, recurses := true, apart := false, narrowed := true }
def KindsOfUptoSaid : Prop := kindsOfUptoRow.holds Try.pinned (OpenSpec.upto kindsOfSpec)

/-- 'counterfoillaw11.KindsApplies', WHERE WHAT IT READS IS OF BULK AT MOST 1048576: true; the input reads as it did. -/
def kindsAppliesUptoRow : OpenClaim := { program := "ytjpoliagicceaaa", sum := "62e5ec794d98506120f177df24ad1e03f233b4578cd62e85b5b0e51ef13e7bb1", func := "counterfoil/counterfoillaw11.KindsApplies", spec := "kindsApplies", unfollowed := true, recurses := true, apart := false, narrowed := true }
def KindsAppliesUptoSaid : Prop := kindsAppliesUptoRow.holds Try.pinned (OpenSpec.upto kindsAppliesSpec)

/-- 'counterfoillaw11.KindsModes', WHERE WHAT IT READS IS OF BULK AT MOST 1048576: true; the input reads as it did. -/
def kindsModesUptoRow : OpenClaim := { program := "ytjpoliagicceaaa", sum := "62e5ec794d98506120f177df24ad1e03f233b4578cd62e85b5b0e51ef13e7bb1", func := "counterfoil/counterfoillaw11.KindsModes", spec := "kindsModes", unfollowed := true, recurses := true, apart := false, narrowed := true }
def KindsModesUptoSaid : Prop := kindsModesUptoRow.holds Try.pinned (OpenSpec.upto kindsModesSpec)

/-- 'counterfoillaw11.KindsAsks', WHERE WHAT IT READS IS OF BULK AT MOST 1048576: true; the input reads as it did. -/
def kindsAsksUptoRow : OpenClaim := { program := "ytjpoliagicceaaa", sum := "62e5ec794d98506120f177df24ad1e03f233b4578cd62e85b5b0e51ef13e7bb1", func := "counterfoil/counterfoillaw11.KindsAsks", spec := "kindsAsks", unfollowed := true, recurses := true, apart := false, narrowed := true }
def KindsAsksUptoSaid : Prop := kindsAsksUptoRow.holds Try.pinned (OpenSpec.upto kindsAsksSpec)

/-- 'counterfoillaw11.KindsTypes', WHERE WHAT IT READS IS OF BULK AT MOST 1048576: true; the input reads as it did. -/
def kindsTypesUptoRow : OpenClaim := { program := "ytjpoliagicceaaa", sum := "62e5ec794d98506120f177df24ad1e03f233b4578cd62e85b5b0e51ef13e7bb1", func := "counterfoil/counterfoillaw11.KindsTypes", spec := "kindsTypes", unfollowed := true, recurses := true, apart := false, narrowed := true }
def KindsTypesUptoSaid : Prop := kindsTypesUptoRow.holds Try.pinned (OpenSpec.upto kindsTypesSpec)

end Rows
end Go.Proofs.Ytjpoliagicceaaa
