/-
  No cell of these rows narrows 'for every input' (looked for: loops, veiled, ifaces, maps, wideKeys, modest, calm, conditions, laid).
  DERIVED. THE GIVEN ROWS OF THIS SEAT. 6 by the template 'for every input the law returns true; each argument reads behind the call as it read before'; 0 by the template 'total and deterministic' (their statements: YteehokamajkklaaTotals.lean).
  GIVEN WITH THE SEED: the statements are not yours to turn. If you find one false, say at which input.
  Laid BY PROGRAM, IN A SANDBOX (cutbox-rows.mjs): the forced cells as the released guide's own fill.sh prints them over the translation 58966e7e482fbb3f… (all of the seat's roots in one cut). By AI agents, Wed Nov 11 2026. No macro, syntax, notation, axiom, sorry.
-/
import Derived.Test.YteehokamajkklaaChecked
import GoSem.Claim
import GoSem.ClaimJoined
import GoSem.ClaimMapViews
import Derived.JoinedTies
import Derived.KernelRfl
namespace Go.Proofs.Yteehokamajkklaa
/- THE CELL 'sum', in the pinned program and in every row, IS THE sha256 OF THE DUMP (.gsa) THAT YteehokamajkklaaProg.lean LOADS. Nothing in Lean hashes anything: it is a label: what it is worth is what the hold of that sum in a sandbox is worth. -/
noncomputable def Try.pinned : Pinned := { name := "yteehokamajkklaa", sum := "58966e7e482fbb3f82ea760eac0a842ce99a0373935d24e8a6bbe11149413f93", checked := Try.checked }
namespace Rows
def none {H : Type} : Left H := { results := [], args := [] }

/-- 'counterfoillaw04.DaysWeekdays': WHATEVER THE INPUT: true; the input reads as it did. -/
def daysWeekdaysSpec : ChangeSpec := { name := "daysWeekdays", fn := fun _ => fun
  | [d] => { results := [.lit (.bool true)], args := [d] }
  | _ => none }
def daysWeekdaysRow : OpenClaim := { program := "yteehokamajkklaa", sum := "58966e7e482fbb3f82ea760eac0a842ce99a0373935d24e8a6bbe11149413f93", func := "counterfoil/counterfoillaw04.DaysWeekdays", spec := "daysWeekdays", apart := false }
def DaysWeekdaysSaid : Prop := daysWeekdaysRow.holds Try.pinned (OpenSpec.ofChange daysWeekdaysSpec)

/-- ITS FALSE NEIGHBOUR: 'it returns false'. Refute it at one input. -/
def daysWeekdaysWrong : ChangeSpec := { name := "daysWeekdays", fn := fun _ => fun
  | [d] => { results := [.lit (.bool false)], args := [d] }
  | _ => none }
def DaysWeekdaysWrongFalsely : Prop := daysWeekdaysRow.holds Try.pinned (OpenSpec.ofChange daysWeekdaysWrong)

/-- 'counterfoillaw04.DaysLengths': WHATEVER THE INPUT: true; the input reads as it did. -/
def daysLengthsSpec : ChangeSpec := { name := "daysLengths", fn := fun _ => fun
  | [d1, d2] => { results := [.lit (.bool true)], args := [d1, d2] }
  | _ => none }
def daysLengthsRow : OpenClaim := { program := "yteehokamajkklaa", sum := "58966e7e482fbb3f82ea760eac0a842ce99a0373935d24e8a6bbe11149413f93", func := "counterfoil/counterfoillaw04.DaysLengths", spec := "daysLengths", apart := false }
def DaysLengthsSaid : Prop := daysLengthsRow.holds Try.pinned (OpenSpec.ofChange daysLengthsSpec)

/-- ITS FALSE NEIGHBOUR: 'it returns false'. Refute it at one input. -/
def daysLengthsWrong : ChangeSpec := { name := "daysLengths", fn := fun _ => fun
  | [d1, d2] => { results := [.lit (.bool false)], args := [d1, d2] }
  | _ => none }
def DaysLengthsWrongFalsely : Prop := daysLengthsRow.holds Try.pinned (OpenSpec.ofChange daysLengthsWrong)

/-- 'counterfoillaw04.DaysNumbers': WHATEVER THE INPUT: true; the input reads as it did. -/
def daysNumbersSpec : ChangeSpec := { name := "daysNumbers", fn := fun _ => fun
  | [d1, d2, d3] => { results := [.lit (.bool true)], args := [d1, d2, d3] }
  | _ => none }
def daysNumbersRow : OpenClaim := { program := "yteehokamajkklaa", sum := "58966e7e482fbb3f82ea760eac0a842ce99a0373935d24e8a6bbe11149413f93", func := "counterfoil/counterfoillaw04.DaysNumbers", spec := "daysNumbers", apart := false }
def DaysNumbersSaid : Prop := daysNumbersRow.holds Try.pinned (OpenSpec.ofChange daysNumbersSpec)

/-- ITS FALSE NEIGHBOUR: 'it returns false'. Refute it at one input. -/
def daysNumbersWrong : ChangeSpec := { name := "daysNumbers", fn := fun _ => fun
  | [d1, d2, d3] => { results := [.lit (.bool false)], args := [d1, d2, d3] }
  | _ => none }
def DaysNumbersWrongFalsely : Prop := daysNumbersRow.holds Try.pinned (OpenSpec.ofChange daysNumbersWrong)

/-- 'counterfoillaw04.DaysDates': WHATEVER THE INPUT: true; the input reads as it did. -/
def daysDatesSpec : ChangeSpec := { name := "daysDates", fn := fun _ => fun
  | [d] => { results := [.lit (.bool true)], args := [d] }
  | _ => none }
def daysDatesRow : OpenClaim := { program := "yteehokamajkklaa", sum := "58966e7e482fbb3f82ea760eac0a842ce99a0373935d24e8a6bbe11149413f93", func := "counterfoil/counterfoillaw04.DaysDates", spec := "daysDates", apart := false }
def DaysDatesSaid : Prop := daysDatesRow.holds Try.pinned (OpenSpec.ofChange daysDatesSpec)

/-- ITS FALSE NEIGHBOUR: 'it returns false'. Refute it at one input. -/
def daysDatesWrong : ChangeSpec := { name := "daysDates", fn := fun _ => fun
  | [d] => { results := [.lit (.bool false)], args := [d] }
  | _ => none }
def DaysDatesWrongFalsely : Prop := daysDatesRow.holds Try.pinned (OpenSpec.ofChange daysDatesWrong)

/-- 'counterfoillaw04.DaysMondays': WHATEVER THE INPUT: true; the input reads as it did. -/
def daysMondaysSpec : ChangeSpec := { name := "daysMondays", fn := fun _ => fun
  | [d1, d2] => { results := [.lit (.bool true)], args := [d1, d2] }
  | _ => none }
def daysMondaysRow : OpenClaim := { program := "yteehokamajkklaa", sum := "58966e7e482fbb3f82ea760eac0a842ce99a0373935d24e8a6bbe11149413f93", func := "counterfoil/counterfoillaw04.DaysMondays", spec := "daysMondays", apart := false }
def DaysMondaysSaid : Prop := daysMondaysRow.holds Try.pinned (OpenSpec.ofChange daysMondaysSpec)

/-- ITS FALSE NEIGHBOUR: 'it returns false'. Refute it at one input. -/
def daysMondaysWrong : ChangeSpec := { name := "daysMondays", fn := fun _ => fun
  | [d1, d2] => { results := [.lit (.bool false)], args := [d1, d2] }
  | _ => none }
def DaysMondaysWrongFalsely : Prop := daysMondaysRow.holds Try.pinned (OpenSpec.ofChange daysMondaysWrong)

/-- 'counterfoillaw04.DaysWeeks': WHATEVER THE INPUT: true; the input reads as it did. -/
def daysWeeksSpec : ChangeSpec := { name := "daysWeeks", fn := fun _ => fun
  | [d] => { results := [.lit (.bool true)], args := [d] }
  | _ => none }
def daysWeeksRow : OpenClaim := { program := "yteehokamajkklaa", sum := "58966e7e482fbb3f82ea760eac0a842ce99a0373935d24e8a6bbe11149413f93", func := "counterfoil/counterfoillaw04.DaysWeeks", spec := "daysWeeks", apart := false }
def DaysWeeksSaid : Prop := daysWeeksRow.holds Try.pinned (OpenSpec.ofChange daysWeeksSpec)

/-- ITS FALSE NEIGHBOUR: 'it returns false'. Refute it at one input. -/
def daysWeeksWrong : ChangeSpec := { name := "daysWeeks", fn := fun _ => fun
  | [d] => { results := [.lit (.bool false)], args := [d] }
  | _ => none }
def DaysWeeksWrongFalsely : Prop := daysWeeksRow.holds Try.pinned (OpenSpec.ofChange daysWeeksWrong)

/- THE SECOND FORM. 'bulk': how many values and letters a reading holds, each counted each time it is reached (what is shared counts as often as it is met; a slice's spare places count too). A statement '..UptoSaid' is the law's where the arguments, and the package variables that the reading takes, are together of bulk at most 1048576: NARROWER than '..Said'. Prove '..Said' where nothing that the law and all that it calls make is longer than what came in: it says more and counts as full. Else prove '..UptoSaid'. A law counts once. -/
mutual
def uptoBulk {H : Type} : DataW H → Nat
  | .lit (.string bytes) => bytes.length + 1
  | .lit _ => 1
  | .nil => 1
  | .ptr d => uptoBulk d + 1
  | .slice elems spare => uptoBulkAll elems + uptoBulkAll spare + 1
  | .agg parts => uptoBulkAll parts + 1
  | .iface _ d => uptoBulk d + 1
  | .map entries => uptoBulkEntries entries + 1
  | .held _ => 1
def uptoBulkAll {H : Type} : List (DataW H) → Nat
  | [] => 0
  | d :: r => uptoBulk d + uptoBulkAll r
def uptoBulkEntries {H : Type} : List (Lit × DataW H) → Nat
  | [] => 0
  | x :: r => uptoBulkEntry x + uptoBulkEntries r
def uptoBulkEntry {H : Type} : Lit × DataW H → Nat
  | (.string bytes, d) => bytes.length + uptoBulk d + 1
  | (_, d) => uptoBulk d + 1
 end
def uptoSmall : (H : Type) → List (DataW H) → Bool := fun _ ds => decide (uptoBulkAll ds ≤ 1048576)
def OpenSpec.upto (s : _root_.Go.ChangeSpec) : _root_.Go.OpenSpec := { _root_.Go.OpenSpec.ofChange s with cond := some uptoSmall }

/-- 'counterfoillaw04.DaysWeekdays', WHERE WHAT IT READS IS OF BULK AT MOST 1048576: true; the input reads as it did. -/
def daysWeekdaysUptoRow : OpenClaim := { program := "yteehokamajkklaa", sum := "58966e7e482fbb3f82ea760eac0a842ce99a0373935d24e8a6bbe11149413f93", func := "counterfoil/counterfoillaw04.DaysWeekdays", spec := "daysWeekdays", apart := false, narrowed := true }
def DaysWeekdaysUptoSaid : Prop := daysWeekdaysUptoRow.holds Try.pinned (OpenSpec.upto daysWeekdaysSpec)

/-- 'counterfoillaw04.DaysLengths', WHERE WHAT IT READS IS OF BULK AT MOST 1048576: true; the input reads as it did. -/
def daysLengthsUptoRow : OpenClaim := { program := "yteehokamajkklaa", sum := "58966e7e482fbb3f82ea760eac0a842ce99a0373935d24e8a6bbe11149413f93", func := "counterfoil/counterfoillaw04.DaysLengths", spec := "daysLengths", apart := false, narrowed := true }
def DaysLengthsUptoSaid : Prop := daysLengthsUptoRow.holds Try.pinned (OpenSpec.upto daysLengthsSpec)

/-- 'counterfoillaw04.DaysNumbers', WHERE WHAT IT READS IS OF BULK AT MOST 1048576: true; the input reads as it did. -/
def daysNumbersUptoRow : OpenClaim := { program := "yteehokamajkklaa", sum := "58966e7e482fbb3f82ea760eac0a842ce99a0373935d24e8a6bbe11149413f93", func := "counterfoil/counterfoillaw04.DaysNumbers", spec := "daysNumbers", apart := false, narrowed := true }
def DaysNumbersUptoSaid : Prop := daysNumbersUptoRow.holds Try.pinned (OpenSpec.upto daysNumbersSpec)

/-- 'counterfoillaw04.DaysDates', WHERE WHAT IT READS IS OF BULK AT MOST 1048576: true; the input reads as it did. -/
def daysDatesUptoRow : OpenClaim := { program := "yteehokamajkklaa", sum := "58966e7e482fbb3f82ea760eac0a842ce99a0373935d24e8a6bbe11149413f93", func := "counterfoil/counterfoillaw04.DaysDates", spec := "daysDates", apart := false, narrowed := true }
def DaysDatesUptoSaid : Prop := daysDatesUptoRow.holds Try.pinned (OpenSpec.upto daysDatesSpec)

/-- 'counterfoillaw04.DaysMondays', WHERE WHAT IT READS IS OF BULK AT MOST 1048576: true; the input reads as it did. -/
def daysMondaysUptoRow : OpenClaim := { program := "yteehokamajkklaa", sum := "58966e7e482fbb3f82ea760eac0a842ce99a0373935d24e8a6bbe11149413f93", func := "counterfoil/counterfoillaw04.DaysMondays", spec := "daysMondays", apart := false, narrowed := true }
def DaysMondaysUptoSaid : Prop := daysMondaysUptoRow.holds Try.pinned (OpenSpec.upto daysMondaysSpec)

/-- 'counterfoillaw04.DaysWeeks', WHERE WHAT IT READS IS OF BULK AT MOST 1048576: true; the input reads as it did. -/
def daysWeeksUptoRow : OpenClaim := { program := "yteehokamajkklaa", sum := "58966e7e482fbb3f82ea760eac0a842ce99a0373935d24e8a6bbe11149413f93", func := "counterfoil/counterfoillaw04.DaysWeeks", spec := "daysWeeks", apart := false, narrowed := true }
def DaysWeeksUptoSaid : Prop := daysWeeksUptoRow.holds Try.pinned (OpenSpec.upto daysWeeksSpec)

end Rows
end Go.Proofs.Yteehokamajkklaa
