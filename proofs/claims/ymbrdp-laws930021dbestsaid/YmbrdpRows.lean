/-
  No cell of these rows narrows 'for every input' (looked for: loops, veiled, ifaces, maps, wideKeys, modest, calm, conditions, laid).
  DERIVED. THE GIVEN ROWS OF THIS SEAT. 12 by the template 'for every input the law returns true; each argument reads behind the call as it read before'; 0 by the template 'total and deterministic' (their statements: YmbrdpTotals.lean).
  GIVEN WITH THE SEED: the statements are not yours to turn. If you find one false, say at which input.
  Laid BY PROGRAM, IN A SANDBOX (cutbox-rows.mjs): the forced cells as the released guide's own fill.sh prints them over the translation 214bedccd5f3a2f2… (all of the seat's roots in one cut). By AI agents, Wed Nov 11 2026. No macro, syntax, notation, axiom, sorry.
-/
import Derived.Test.YmbrdpChecked
import GoSem.Claim
import GoSem.ClaimJoined
import GoSem.ClaimMapViews
import Derived.JoinedTies
import Derived.KernelRfl
namespace Go.Proofs.Ymbrdp
/- THE CELL 'sum', in the pinned program and in every row, IS THE sha256 OF THE DUMP (.gsa) THAT YmbrdpProg.lean LOADS. Nothing in Lean hashes anything: it is a label: what it is worth is what the hold of that sum in a sandbox is worth. -/
noncomputable def Ydpm.pinned : Pinned := { name := "ymbrdp", sum := "214bedccd5f3a2f231086aac60bbd81722a861bb20126b6189968dc3adb730d6", checked := Ydpm.checked }
namespace Rows
def none {H : Type} : Left H := { results := [], args := [] }

/-- 'topo.LawS930021AExact': WHATEVER THE INPUT: true; the input reads as it did. -/
def lawS930021AExactSpec : ChangeSpec := { name := "lawS930021AExact", fn := fun _ => fun
  | [d1, d2, d3, d4] => { results := [.lit (.bool true)], args := [d1, d2, d3, d4] }
  | _ => none }
def lawS930021AExactRow : OpenClaim := { program := "ymbrdp", sum := "214bedccd5f3a2f231086aac60bbd81722a861bb20126b6189968dc3adb730d6", func := "example.com/own/topo.LawS930021AExact", spec := "lawS930021AExact", apart := false }
def LawS930021AExactSaid : Prop := lawS930021AExactRow.holds Ydpm.pinned (OpenSpec.ofChange lawS930021AExactSpec)

/-- ITS FALSE NEIGHBOUR: 'it returns false'. Refute it at one input. -/
def lawS930021AExactWrong : ChangeSpec := { name := "lawS930021AExact", fn := fun _ => fun
  | [d1, d2, d3, d4] => { results := [.lit (.bool false)], args := [d1, d2, d3, d4] }
  | _ => none }
def LawS930021AExactWrongFalsely : Prop := lawS930021AExactRow.holds Ydpm.pinned (OpenSpec.ofChange lawS930021AExactWrong)

/-- 'topo.LawS930021AUndo': WHATEVER THE INPUT: true; the input reads as it did. -/
def lawS930021AUndoSpec : ChangeSpec := { name := "lawS930021AUndo", fn := fun _ => fun
  | [d1, d2, d3, d4, d5, d6] => { results := [.lit (.bool true)], args := [d1, d2, d3, d4, d5, d6] }
  | _ => none }
def lawS930021AUndoRow : OpenClaim := { program := "ymbrdp", sum := "214bedccd5f3a2f231086aac60bbd81722a861bb20126b6189968dc3adb730d6", func := "example.com/own/topo.LawS930021AUndo", spec := "lawS930021AUndo", apart := false }
def LawS930021AUndoSaid : Prop := lawS930021AUndoRow.holds Ydpm.pinned (OpenSpec.ofChange lawS930021AUndoSpec)

/-- ITS FALSE NEIGHBOUR: 'it returns false'. Refute it at one input. -/
def lawS930021AUndoWrong : ChangeSpec := { name := "lawS930021AUndo", fn := fun _ => fun
  | [d1, d2, d3, d4, d5, d6] => { results := [.lit (.bool false)], args := [d1, d2, d3, d4, d5, d6] }
  | _ => none }
def LawS930021AUndoWrongFalsely : Prop := lawS930021AUndoRow.holds Ydpm.pinned (OpenSpec.ofChange lawS930021AUndoWrong)

/-- 'topo.LawS930021ACommute': WHATEVER THE INPUT: true; the input reads as it did. -/
def lawS930021ACommuteSpec : ChangeSpec := { name := "lawS930021ACommute", fn := fun _ => fun
  | [d1, d2, d3, d4, d5, d6] => { results := [.lit (.bool true)], args := [d1, d2, d3, d4, d5, d6] }
  | _ => none }
def lawS930021ACommuteRow : OpenClaim := { program := "ymbrdp", sum := "214bedccd5f3a2f231086aac60bbd81722a861bb20126b6189968dc3adb730d6", func := "example.com/own/topo.LawS930021ACommute", spec := "lawS930021ACommute", apart := false }
def LawS930021ACommuteSaid : Prop := lawS930021ACommuteRow.holds Ydpm.pinned (OpenSpec.ofChange lawS930021ACommuteSpec)

/-- ITS FALSE NEIGHBOUR: 'it returns false'. Refute it at one input. -/
def lawS930021ACommuteWrong : ChangeSpec := { name := "lawS930021ACommute", fn := fun _ => fun
  | [d1, d2, d3, d4, d5, d6] => { results := [.lit (.bool false)], args := [d1, d2, d3, d4, d5, d6] }
  | _ => none }
def LawS930021ACommuteWrongFalsely : Prop := lawS930021ACommuteRow.holds Ydpm.pinned (OpenSpec.ofChange lawS930021ACommuteWrong)

/-- 'topo.LawS930021BExact': WHATEVER THE INPUT: true; the input reads as it did. -/
def lawS930021BExactSpec : ChangeSpec := { name := "lawS930021BExact", fn := fun _ => fun
  | [d1, d2, d3, d4, d5] => { results := [.lit (.bool true)], args := [d1, d2, d3, d4, d5] }
  | _ => none }
def lawS930021BExactRow : OpenClaim := { program := "ymbrdp", sum := "214bedccd5f3a2f231086aac60bbd81722a861bb20126b6189968dc3adb730d6", func := "example.com/own/topo.LawS930021BExact", spec := "lawS930021BExact", apart := false }
def LawS930021BExactSaid : Prop := lawS930021BExactRow.holds Ydpm.pinned (OpenSpec.ofChange lawS930021BExactSpec)

/-- ITS FALSE NEIGHBOUR: 'it returns false'. Refute it at one input. -/
def lawS930021BExactWrong : ChangeSpec := { name := "lawS930021BExact", fn := fun _ => fun
  | [d1, d2, d3, d4, d5] => { results := [.lit (.bool false)], args := [d1, d2, d3, d4, d5] }
  | _ => none }
def LawS930021BExactWrongFalsely : Prop := lawS930021BExactRow.holds Ydpm.pinned (OpenSpec.ofChange lawS930021BExactWrong)

/-- 'topo.LawS930021BUndo': WHATEVER THE INPUT: true; the input reads as it did. -/
def lawS930021BUndoSpec : ChangeSpec := { name := "lawS930021BUndo", fn := fun _ => fun
  | [d1, d2, d3, d4] => { results := [.lit (.bool true)], args := [d1, d2, d3, d4] }
  | _ => none }
def lawS930021BUndoRow : OpenClaim := { program := "ymbrdp", sum := "214bedccd5f3a2f231086aac60bbd81722a861bb20126b6189968dc3adb730d6", func := "example.com/own/topo.LawS930021BUndo", spec := "lawS930021BUndo", apart := false }
def LawS930021BUndoSaid : Prop := lawS930021BUndoRow.holds Ydpm.pinned (OpenSpec.ofChange lawS930021BUndoSpec)

/-- ITS FALSE NEIGHBOUR: 'it returns false'. Refute it at one input. -/
def lawS930021BUndoWrong : ChangeSpec := { name := "lawS930021BUndo", fn := fun _ => fun
  | [d1, d2, d3, d4] => { results := [.lit (.bool false)], args := [d1, d2, d3, d4] }
  | _ => none }
def LawS930021BUndoWrongFalsely : Prop := lawS930021BUndoRow.holds Ydpm.pinned (OpenSpec.ofChange lawS930021BUndoWrong)

/-- 'topo.LawS930021BScript': WHATEVER THE INPUT: true; the input reads as it did. -/
def lawS930021BScriptSpec : ChangeSpec := { name := "lawS930021BScript", fn := fun _ => fun
  | [d1, d2] => { results := [.lit (.bool true)], args := [d1, d2] }
  | _ => none }
def lawS930021BScriptRow : OpenClaim := { program := "ymbrdp", sum := "214bedccd5f3a2f231086aac60bbd81722a861bb20126b6189968dc3adb730d6", func := "example.com/own/topo.LawS930021BScript", spec := "lawS930021BScript", apart := false }
def LawS930021BScriptSaid : Prop := lawS930021BScriptRow.holds Ydpm.pinned (OpenSpec.ofChange lawS930021BScriptSpec)

/-- ITS FALSE NEIGHBOUR: 'it returns false'. Refute it at one input. -/
def lawS930021BScriptWrong : ChangeSpec := { name := "lawS930021BScript", fn := fun _ => fun
  | [d1, d2] => { results := [.lit (.bool false)], args := [d1, d2] }
  | _ => none }
def LawS930021BScriptWrongFalsely : Prop := lawS930021BScriptRow.holds Ydpm.pinned (OpenSpec.ofChange lawS930021BScriptWrong)

/-- 'topo.LawS930021CExact': WHATEVER THE INPUT: true; the input reads as it did. -/
def lawS930021CExactSpec : ChangeSpec := { name := "lawS930021CExact", fn := fun _ => fun
  | [d1, d2] => { results := [.lit (.bool true)], args := [d1, d2] }
  | _ => none }
def lawS930021CExactRow : OpenClaim := { program := "ymbrdp", sum := "214bedccd5f3a2f231086aac60bbd81722a861bb20126b6189968dc3adb730d6", func := "example.com/own/topo.LawS930021CExact", spec := "lawS930021CExact", apart := false }
def LawS930021CExactSaid : Prop := lawS930021CExactRow.holds Ydpm.pinned (OpenSpec.ofChange lawS930021CExactSpec)

/-- ITS FALSE NEIGHBOUR: 'it returns false'. Refute it at one input. -/
def lawS930021CExactWrong : ChangeSpec := { name := "lawS930021CExact", fn := fun _ => fun
  | [d1, d2] => { results := [.lit (.bool false)], args := [d1, d2] }
  | _ => none }
def LawS930021CExactWrongFalsely : Prop := lawS930021CExactRow.holds Ydpm.pinned (OpenSpec.ofChange lawS930021CExactWrong)

/-- 'topo.LawS930021CBounds': WHATEVER THE INPUT: true; the input reads as it did. -/
def lawS930021CBoundsSpec : ChangeSpec := { name := "lawS930021CBounds", fn := fun _ => fun
  | [d1, d2, d3] => { results := [.lit (.bool true)], args := [d1, d2, d3] }
  | _ => none }
def lawS930021CBoundsRow : OpenClaim := { program := "ymbrdp", sum := "214bedccd5f3a2f231086aac60bbd81722a861bb20126b6189968dc3adb730d6", func := "example.com/own/topo.LawS930021CBounds", spec := "lawS930021CBounds", apart := false }
def LawS930021CBoundsSaid : Prop := lawS930021CBoundsRow.holds Ydpm.pinned (OpenSpec.ofChange lawS930021CBoundsSpec)

/-- ITS FALSE NEIGHBOUR: 'it returns false'. Refute it at one input. -/
def lawS930021CBoundsWrong : ChangeSpec := { name := "lawS930021CBounds", fn := fun _ => fun
  | [d1, d2, d3] => { results := [.lit (.bool false)], args := [d1, d2, d3] }
  | _ => none }
def LawS930021CBoundsWrongFalsely : Prop := lawS930021CBoundsRow.holds Ydpm.pinned (OpenSpec.ofChange lawS930021CBoundsWrong)

/-- 'topo.LawS930021COrder': WHATEVER THE INPUT: true; the input reads as it did. -/
def lawS930021COrderSpec : ChangeSpec := { name := "lawS930021COrder", fn := fun _ => fun
  | [d1, d2, d3] => { results := [.lit (.bool true)], args := [d1, d2, d3] }
  | _ => none }
def lawS930021COrderRow : OpenClaim := { program := "ymbrdp", sum := "214bedccd5f3a2f231086aac60bbd81722a861bb20126b6189968dc3adb730d6", func := "example.com/own/topo.LawS930021COrder", spec := "lawS930021COrder", apart := false }
def LawS930021COrderSaid : Prop := lawS930021COrderRow.holds Ydpm.pinned (OpenSpec.ofChange lawS930021COrderSpec)

/-- ITS FALSE NEIGHBOUR: 'it returns false'. Refute it at one input. -/
def lawS930021COrderWrong : ChangeSpec := { name := "lawS930021COrder", fn := fun _ => fun
  | [d1, d2, d3] => { results := [.lit (.bool false)], args := [d1, d2, d3] }
  | _ => none }
def LawS930021COrderWrongFalsely : Prop := lawS930021COrderRow.holds Ydpm.pinned (OpenSpec.ofChange lawS930021COrderWrong)

/-- 'topo.LawS930021DExact': WHATEVER THE INPUT: true; the input reads as it did. -/
def lawS930021DExactSpec : ChangeSpec := { name := "lawS930021DExact", fn := fun _ => fun
  | [d1, d2] => { results := [.lit (.bool true)], args := [d1, d2] }
  | _ => none }
def lawS930021DExactRow : OpenClaim := { program := "ymbrdp", sum := "214bedccd5f3a2f231086aac60bbd81722a861bb20126b6189968dc3adb730d6", func := "example.com/own/topo.LawS930021DExact", spec := "lawS930021DExact", apart := false }
def LawS930021DExactSaid : Prop := lawS930021DExactRow.holds Ydpm.pinned (OpenSpec.ofChange lawS930021DExactSpec)

/-- ITS FALSE NEIGHBOUR: 'it returns false'. Refute it at one input. -/
def lawS930021DExactWrong : ChangeSpec := { name := "lawS930021DExact", fn := fun _ => fun
  | [d1, d2] => { results := [.lit (.bool false)], args := [d1, d2] }
  | _ => none }
def LawS930021DExactWrongFalsely : Prop := lawS930021DExactRow.holds Ydpm.pinned (OpenSpec.ofChange lawS930021DExactWrong)

/-- 'topo.LawS930021DBest': WHATEVER THE INPUT: true; the input reads as it did. -/
def lawS930021DBestSpec : ChangeSpec := { name := "lawS930021DBest", fn := fun _ => fun
  | [d1, d2] => { results := [.lit (.bool true)], args := [d1, d2] }
  | _ => none }
def lawS930021DBestRow : OpenClaim := { program := "ymbrdp", sum := "214bedccd5f3a2f231086aac60bbd81722a861bb20126b6189968dc3adb730d6", func := "example.com/own/topo.LawS930021DBest", spec := "lawS930021DBest", apart := false }
def LawS930021DBestSaid : Prop := lawS930021DBestRow.holds Ydpm.pinned (OpenSpec.ofChange lawS930021DBestSpec)

/-- ITS FALSE NEIGHBOUR: 'it returns false'. Refute it at one input. -/
def lawS930021DBestWrong : ChangeSpec := { name := "lawS930021DBest", fn := fun _ => fun
  | [d1, d2] => { results := [.lit (.bool false)], args := [d1, d2] }
  | _ => none }
def LawS930021DBestWrongFalsely : Prop := lawS930021DBestRow.holds Ydpm.pinned (OpenSpec.ofChange lawS930021DBestWrong)

/-- 'topo.LawS930021EExact': WHATEVER THE INPUT: true; the input reads as it did. -/
def lawS930021EExactSpec : ChangeSpec := { name := "lawS930021EExact", fn := fun _ => fun
  | [d1, d2, d3, d4] => { results := [.lit (.bool true)], args := [d1, d2, d3, d4] }
  | _ => none }
def lawS930021EExactRow : OpenClaim := { program := "ymbrdp", sum := "214bedccd5f3a2f231086aac60bbd81722a861bb20126b6189968dc3adb730d6", func := "example.com/own/topo.LawS930021EExact", spec := "lawS930021EExact", apart := false }
def LawS930021EExactSaid : Prop := lawS930021EExactRow.holds Ydpm.pinned (OpenSpec.ofChange lawS930021EExactSpec)

/-- ITS FALSE NEIGHBOUR: 'it returns false'. Refute it at one input. -/
def lawS930021EExactWrong : ChangeSpec := { name := "lawS930021EExact", fn := fun _ => fun
  | [d1, d2, d3, d4] => { results := [.lit (.bool false)], args := [d1, d2, d3, d4] }
  | _ => none }
def LawS930021EExactWrongFalsely : Prop := lawS930021EExactRow.holds Ydpm.pinned (OpenSpec.ofChange lawS930021EExactWrong)

end Rows
end Go.Proofs.Ymbrdp
