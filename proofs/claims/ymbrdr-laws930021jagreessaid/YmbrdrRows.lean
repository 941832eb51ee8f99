/-
  No cell of these rows narrows 'for every input' (looked for: loops, veiled, ifaces, maps, wideKeys, modest, calm, conditions, laid).
  DERIVED. THE GIVEN ROWS OF THIS SEAT. 11 by the template 'for every input the law returns true; each argument reads behind the call as it read before'; 0 by the template 'total and deterministic' (their statements: YmbrdrTotals.lean).
  GIVEN WITH THE SEED: the statements are not yours to turn. If you find one false, say at which input.
  Laid BY PROGRAM, IN A SANDBOX (cutbox-rows.mjs): the forced cells as the released guide's own fill.sh prints them over the translation 8471e4ab91f2a2f3… (all of the seat's roots in one cut). By AI agents, Wed Nov 11 2026. No macro, syntax, notation, axiom, sorry.
-/
import Derived.Test.YmbrdrChecked
import GoSem.Claim
import GoSem.ClaimJoined
import GoSem.ClaimMapViews
import Derived.JoinedTies
import Derived.KernelRfl
namespace Go.Proofs.Ymbrdr
/- THE CELL 'sum', in the pinned program and in every row, IS THE sha256 OF THE DUMP (.gsa) THAT YmbrdrProg.lean LOADS. Nothing in Lean hashes anything: it is a label: what it is worth is what the hold of that sum in a sandbox is worth. -/
noncomputable def Ydrm.pinned : Pinned := { name := "ymbrdr", sum := "8471e4ab91f2a2f3650ef8e8c1917075828bdb9bd04ef9405eef5c2e46e65954", checked := Ydrm.checked }
namespace Rows
def none {H : Type} : Left H := { results := [], args := [] }

/-- 'topo.LawS930021IFresh': WHATEVER THE INPUT: true; the input reads as it did. -/
def lawS930021IFreshSpec : ChangeSpec := { name := "lawS930021IFresh", fn := fun _ => fun
  | [d] => { results := [.lit (.bool true)], args := [d] }
  | _ => none }
def lawS930021IFreshRow : OpenClaim := { program := "ymbrdr", sum := "8471e4ab91f2a2f3650ef8e8c1917075828bdb9bd04ef9405eef5c2e46e65954", func := "example.com/own/topo.LawS930021IFresh", spec := "lawS930021IFresh", apart := false }
def LawS930021IFreshSaid : Prop := lawS930021IFreshRow.holds Ydrm.pinned (OpenSpec.ofChange lawS930021IFreshSpec)

/-- ITS FALSE NEIGHBOUR: 'it returns false'. Refute it at one input. -/
def lawS930021IFreshWrong : ChangeSpec := { name := "lawS930021IFresh", fn := fun _ => fun
  | [d] => { results := [.lit (.bool false)], args := [d] }
  | _ => none }
def LawS930021IFreshWrongFalsely : Prop := lawS930021IFreshRow.holds Ydrm.pinned (OpenSpec.ofChange lawS930021IFreshWrong)

/-- 'topo.LawS930021IPivot': WHATEVER THE INPUT: true; the input reads as it did. -/
def lawS930021IPivotSpec : ChangeSpec := { name := "lawS930021IPivot", fn := fun _ => fun
  | [d1, d2, d3] => { results := [.lit (.bool true)], args := [d1, d2, d3] }
  | _ => none }
def lawS930021IPivotRow : OpenClaim := { program := "ymbrdr", sum := "8471e4ab91f2a2f3650ef8e8c1917075828bdb9bd04ef9405eef5c2e46e65954", func := "example.com/own/topo.LawS930021IPivot", spec := "lawS930021IPivot", apart := false }
def LawS930021IPivotSaid : Prop := lawS930021IPivotRow.holds Ydrm.pinned (OpenSpec.ofChange lawS930021IPivotSpec)

/-- ITS FALSE NEIGHBOUR: 'it returns false'. Refute it at one input. -/
def lawS930021IPivotWrong : ChangeSpec := { name := "lawS930021IPivot", fn := fun _ => fun
  | [d1, d2, d3] => { results := [.lit (.bool false)], args := [d1, d2, d3] }
  | _ => none }
def LawS930021IPivotWrongFalsely : Prop := lawS930021IPivotRow.holds Ydrm.pinned (OpenSpec.ofChange lawS930021IPivotWrong)

/-- 'topo.LawS930021JSimple': WHATEVER THE INPUT: true; the input reads as it did. -/
def lawS930021JSimpleSpec : ChangeSpec := { name := "lawS930021JSimple", fn := fun _ => fun
  | [d1, d2] => { results := [.lit (.bool true)], args := [d1, d2] }
  | _ => none }
def lawS930021JSimpleRow : OpenClaim := { program := "ymbrdr", sum := "8471e4ab91f2a2f3650ef8e8c1917075828bdb9bd04ef9405eef5c2e46e65954", func := "example.com/own/topo.LawS930021JSimple", spec := "lawS930021JSimple", apart := false }
def LawS930021JSimpleSaid : Prop := lawS930021JSimpleRow.holds Ydrm.pinned (OpenSpec.ofChange lawS930021JSimpleSpec)

/-- ITS FALSE NEIGHBOUR: 'it returns false'. Refute it at one input. -/
def lawS930021JSimpleWrong : ChangeSpec := { name := "lawS930021JSimple", fn := fun _ => fun
  | [d1, d2] => { results := [.lit (.bool false)], args := [d1, d2] }
  | _ => none }
def LawS930021JSimpleWrongFalsely : Prop := lawS930021JSimpleRow.holds Ydrm.pinned (OpenSpec.ofChange lawS930021JSimpleWrong)

/-- 'topo.LawS930021JExact': WHATEVER THE INPUT: true; the input reads as it did. -/
def lawS930021JExactSpec : ChangeSpec := { name := "lawS930021JExact", fn := fun _ => fun
  | [d1, d2] => { results := [.lit (.bool true)], args := [d1, d2] }
  | _ => none }
def lawS930021JExactRow : OpenClaim := { program := "ymbrdr", sum := "8471e4ab91f2a2f3650ef8e8c1917075828bdb9bd04ef9405eef5c2e46e65954", func := "example.com/own/topo.LawS930021JExact", spec := "lawS930021JExact", apart := false }
def LawS930021JExactSaid : Prop := lawS930021JExactRow.holds Ydrm.pinned (OpenSpec.ofChange lawS930021JExactSpec)

/-- ITS FALSE NEIGHBOUR: 'it returns false'. Refute it at one input. -/
def lawS930021JExactWrong : ChangeSpec := { name := "lawS930021JExact", fn := fun _ => fun
  | [d1, d2] => { results := [.lit (.bool false)], args := [d1, d2] }
  | _ => none }
def LawS930021JExactWrongFalsely : Prop := lawS930021JExactRow.holds Ydrm.pinned (OpenSpec.ofChange lawS930021JExactWrong)

/-- 'topo.LawS930021JAgrees': WHATEVER THE INPUT: true; the input reads as it did. -/
def lawS930021JAgreesSpec : ChangeSpec := { name := "lawS930021JAgrees", fn := fun _ => fun
  | [d1, d2] => { results := [.lit (.bool true)], args := [d1, d2] }
  | _ => none }
def lawS930021JAgreesRow : OpenClaim := { program := "ymbrdr", sum := "8471e4ab91f2a2f3650ef8e8c1917075828bdb9bd04ef9405eef5c2e46e65954", func := "example.com/own/topo.LawS930021JAgrees", spec := "lawS930021JAgrees", apart := false }
def LawS930021JAgreesSaid : Prop := lawS930021JAgreesRow.holds Ydrm.pinned (OpenSpec.ofChange lawS930021JAgreesSpec)

/-- ITS FALSE NEIGHBOUR: 'it returns false'. Refute it at one input. -/
def lawS930021JAgreesWrong : ChangeSpec := { name := "lawS930021JAgrees", fn := fun _ => fun
  | [d1, d2] => { results := [.lit (.bool false)], args := [d1, d2] }
  | _ => none }
def LawS930021JAgreesWrongFalsely : Prop := lawS930021JAgreesRow.holds Ydrm.pinned (OpenSpec.ofChange lawS930021JAgreesWrong)

/-- 'topo.LawS930021KVerdict': WHATEVER THE INPUT: true; the input reads as it did. -/
def lawS930021KVerdictSpec : ChangeSpec := { name := "lawS930021KVerdict", fn := fun _ => fun
  | [d1, d2, d3] => { results := [.lit (.bool true)], args := [d1, d2, d3] }
  | _ => none }
def lawS930021KVerdictRow : OpenClaim := { program := "ymbrdr", sum := "8471e4ab91f2a2f3650ef8e8c1917075828bdb9bd04ef9405eef5c2e46e65954", func := "example.com/own/topo.LawS930021KVerdict", spec := "lawS930021KVerdict", apart := false }
def LawS930021KVerdictSaid : Prop := lawS930021KVerdictRow.holds Ydrm.pinned (OpenSpec.ofChange lawS930021KVerdictSpec)

/-- ITS FALSE NEIGHBOUR: 'it returns false'. Refute it at one input. -/
def lawS930021KVerdictWrong : ChangeSpec := { name := "lawS930021KVerdict", fn := fun _ => fun
  | [d1, d2, d3] => { results := [.lit (.bool false)], args := [d1, d2, d3] }
  | _ => none }
def LawS930021KVerdictWrongFalsely : Prop := lawS930021KVerdictRow.holds Ydrm.pinned (OpenSpec.ofChange lawS930021KVerdictWrong)

/-- 'topo.LawS930021KInverse': WHATEVER THE INPUT: true; the input reads as it did. -/
def lawS930021KInverseSpec : ChangeSpec := { name := "lawS930021KInverse", fn := fun _ => fun
  | [d] => { results := [.lit (.bool true)], args := [d] }
  | _ => none }
def lawS930021KInverseRow : OpenClaim := { program := "ymbrdr", sum := "8471e4ab91f2a2f3650ef8e8c1917075828bdb9bd04ef9405eef5c2e46e65954", func := "example.com/own/topo.LawS930021KInverse", spec := "lawS930021KInverse", apart := false }
def LawS930021KInverseSaid : Prop := lawS930021KInverseRow.holds Ydrm.pinned (OpenSpec.ofChange lawS930021KInverseSpec)

/-- ITS FALSE NEIGHBOUR: 'it returns false'. Refute it at one input. -/
def lawS930021KInverseWrong : ChangeSpec := { name := "lawS930021KInverse", fn := fun _ => fun
  | [d] => { results := [.lit (.bool false)], args := [d] }
  | _ => none }
def LawS930021KInverseWrongFalsely : Prop := lawS930021KInverseRow.holds Ydrm.pinned (OpenSpec.ofChange lawS930021KInverseWrong)

/-- 'topo.LawS930021KSpoil': WHATEVER THE INPUT: true; the input reads as it did. -/
def lawS930021KSpoilSpec : ChangeSpec := { name := "lawS930021KSpoil", fn := fun _ => fun
  | [d1, d2, d3, d4] => { results := [.lit (.bool true)], args := [d1, d2, d3, d4] }
  | _ => none }
def lawS930021KSpoilRow : OpenClaim := { program := "ymbrdr", sum := "8471e4ab91f2a2f3650ef8e8c1917075828bdb9bd04ef9405eef5c2e46e65954", func := "example.com/own/topo.LawS930021KSpoil", spec := "lawS930021KSpoil", apart := false }
def LawS930021KSpoilSaid : Prop := lawS930021KSpoilRow.holds Ydrm.pinned (OpenSpec.ofChange lawS930021KSpoilSpec)

/-- ITS FALSE NEIGHBOUR: 'it returns false'. Refute it at one input. -/
def lawS930021KSpoilWrong : ChangeSpec := { name := "lawS930021KSpoil", fn := fun _ => fun
  | [d1, d2, d3, d4] => { results := [.lit (.bool false)], args := [d1, d2, d3, d4] }
  | _ => none }
def LawS930021KSpoilWrongFalsely : Prop := lawS930021KSpoilRow.holds Ydrm.pinned (OpenSpec.ofChange lawS930021KSpoilWrong)

/-- 'topo.LawS930021LExact': WHATEVER THE INPUT: true; the input reads as it did. -/
def lawS930021LExactSpec : ChangeSpec := { name := "lawS930021LExact", fn := fun _ => fun
  | [d1, d2, d3, d4, d5] => { results := [.lit (.bool true)], args := [d1, d2, d3, d4, d5] }
  | _ => none }
def lawS930021LExactRow : OpenClaim := { program := "ymbrdr", sum := "8471e4ab91f2a2f3650ef8e8c1917075828bdb9bd04ef9405eef5c2e46e65954", func := "example.com/own/topo.LawS930021LExact", spec := "lawS930021LExact", apart := false }
def LawS930021LExactSaid : Prop := lawS930021LExactRow.holds Ydrm.pinned (OpenSpec.ofChange lawS930021LExactSpec)

/-- ITS FALSE NEIGHBOUR: 'it returns false'. Refute it at one input. -/
def lawS930021LExactWrong : ChangeSpec := { name := "lawS930021LExact", fn := fun _ => fun
  | [d1, d2, d3, d4, d5] => { results := [.lit (.bool false)], args := [d1, d2, d3, d4, d5] }
  | _ => none }
def LawS930021LExactWrongFalsely : Prop := lawS930021LExactRow.holds Ydrm.pinned (OpenSpec.ofChange lawS930021LExactWrong)

/-- 'topo.LawS930021LRing': WHATEVER THE INPUT: true; the input reads as it did. -/
def lawS930021LRingSpec : ChangeSpec := { name := "lawS930021LRing", fn := fun _ => fun
  | [d1, d2, d3, d4, d5, d6] => { results := [.lit (.bool true)], args := [d1, d2, d3, d4, d5, d6] }
  | _ => none }
def lawS930021LRingRow : OpenClaim := { program := "ymbrdr", sum := "8471e4ab91f2a2f3650ef8e8c1917075828bdb9bd04ef9405eef5c2e46e65954", func := "example.com/own/topo.LawS930021LRing", spec := "lawS930021LRing", apart := false }
def LawS930021LRingSaid : Prop := lawS930021LRingRow.holds Ydrm.pinned (OpenSpec.ofChange lawS930021LRingSpec)

/-- ITS FALSE NEIGHBOUR: 'it returns false'. Refute it at one input. -/
def lawS930021LRingWrong : ChangeSpec := { name := "lawS930021LRing", fn := fun _ => fun
  | [d1, d2, d3, d4, d5, d6] => { results := [.lit (.bool false)], args := [d1, d2, d3, d4, d5, d6] }
  | _ => none }
def LawS930021LRingWrongFalsely : Prop := lawS930021LRingRow.holds Ydrm.pinned (OpenSpec.ofChange lawS930021LRingWrong)

/-- 'topo.LawS930021LReverse': WHATEVER THE INPUT: true; the input reads as it did. -/
def lawS930021LReverseSpec : ChangeSpec := { name := "lawS930021LReverse", fn := fun _ => fun
  | [d1, d2, d3, d4, d5] => { results := [.lit (.bool true)], args := [d1, d2, d3, d4, d5] }
  | _ => none }
def lawS930021LReverseRow : OpenClaim := { program := "ymbrdr", sum := "8471e4ab91f2a2f3650ef8e8c1917075828bdb9bd04ef9405eef5c2e46e65954", func := "example.com/own/topo.LawS930021LReverse", spec := "lawS930021LReverse", apart := false }
def LawS930021LReverseSaid : Prop := lawS930021LReverseRow.holds Ydrm.pinned (OpenSpec.ofChange lawS930021LReverseSpec)

/-- ITS FALSE NEIGHBOUR: 'it returns false'. Refute it at one input. -/
def lawS930021LReverseWrong : ChangeSpec := { name := "lawS930021LReverse", fn := fun _ => fun
  | [d1, d2, d3, d4, d5] => { results := [.lit (.bool false)], args := [d1, d2, d3, d4, d5] }
  | _ => none }
def LawS930021LReverseWrongFalsely : Prop := lawS930021LReverseRow.holds Ydrm.pinned (OpenSpec.ofChange lawS930021LReverseWrong)

end Rows
end Go.Proofs.Ymbrdr
