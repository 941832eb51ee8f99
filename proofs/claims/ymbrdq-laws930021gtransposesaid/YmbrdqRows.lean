/-
  No cell of these rows narrows 'for every input' (looked for: loops, veiled, ifaces, maps, wideKeys, modest, calm, conditions, laid).
  DERIVED. THE GIVEN ROWS OF THIS SEAT. 12 by the template 'for every input the law returns true; each argument reads behind the call as it read before'; 0 by the template 'total and deterministic' (their statements: YmbrdqTotals.lean).
  GIVEN WITH THE SEED: the statements are not yours to turn. If you find one false, say at which input.
  Laid BY PROGRAM, IN A SANDBOX (cutbox-rows.mjs): the forced cells as the released guide's own fill.sh prints them over the translation 43fab201915852e7… (all of the seat's roots in one cut). By AI agents, Wed Nov 11 2026. No macro, syntax, notation, axiom, sorry.
-/
import Derived.Test.YmbrdqChecked
import GoSem.Claim
import GoSem.ClaimJoined
import GoSem.ClaimMapViews
import Derived.JoinedTies
import Derived.KernelRfl
namespace Go.Proofs.Ymbrdq
/- THE CELL 'sum', in the pinned program and in every row, IS THE sha256 OF THE DUMP (.gsa) THAT YmbrdqProg.lean LOADS. Nothing in Lean hashes anything: it is a label: what it is worth is what the hold of that sum in a sandbox is worth. -/
noncomputable def Ydqm.pinned : Pinned := { name := "ymbrdq", sum := "43fab201915852e7b666a7e4fc253a0088d3eadb57ac686ba00bd6e257a57d49", checked := Ydqm.checked }
namespace Rows
def none {H : Type} : Left H := { results := [], args := [] }

/-- 'topo.LawS930021EAntisymmetric': WHATEVER THE INPUT: true; the input reads as it did. -/
def lawS930021EAntisymmetricSpec : ChangeSpec := { name := "lawS930021EAntisymmetric", fn := fun _ => fun
  | [d1, d2, d3, d4] => { results := [.lit (.bool true)], args := [d1, d2, d3, d4] }
  | _ => none }
def lawS930021EAntisymmetricRow : OpenClaim := { program := "ymbrdq", sum := "43fab201915852e7b666a7e4fc253a0088d3eadb57ac686ba00bd6e257a57d49", func := "example.com/own/topo.LawS930021EAntisymmetric", spec := "lawS930021EAntisymmetric", apart := false }
def LawS930021EAntisymmetricSaid : Prop := lawS930021EAntisymmetricRow.holds Ydqm.pinned (OpenSpec.ofChange lawS930021EAntisymmetricSpec)

/-- ITS FALSE NEIGHBOUR: 'it returns false'. Refute it at one input. -/
def lawS930021EAntisymmetricWrong : ChangeSpec := { name := "lawS930021EAntisymmetric", fn := fun _ => fun
  | [d1, d2, d3, d4] => { results := [.lit (.bool false)], args := [d1, d2, d3, d4] }
  | _ => none }
def LawS930021EAntisymmetricWrongFalsely : Prop := lawS930021EAntisymmetricRow.holds Ydqm.pinned (OpenSpec.ofChange lawS930021EAntisymmetricWrong)

/-- 'topo.LawS930021ETransitive': WHATEVER THE INPUT: true; the input reads as it did. -/
def lawS930021ETransitiveSpec : ChangeSpec := { name := "lawS930021ETransitive", fn := fun _ => fun
  | [d1, d2, d3, d4, d5, d6] => { results := [.lit (.bool true)], args := [d1, d2, d3, d4, d5, d6] }
  | _ => none }
def lawS930021ETransitiveRow : OpenClaim := { program := "ymbrdq", sum := "43fab201915852e7b666a7e4fc253a0088d3eadb57ac686ba00bd6e257a57d49", func := "example.com/own/topo.LawS930021ETransitive", spec := "lawS930021ETransitive", apart := false }
def LawS930021ETransitiveSaid : Prop := lawS930021ETransitiveRow.holds Ydqm.pinned (OpenSpec.ofChange lawS930021ETransitiveSpec)

/-- ITS FALSE NEIGHBOUR: 'it returns false'. Refute it at one input. -/
def lawS930021ETransitiveWrong : ChangeSpec := { name := "lawS930021ETransitive", fn := fun _ => fun
  | [d1, d2, d3, d4, d5, d6] => { results := [.lit (.bool false)], args := [d1, d2, d3, d4, d5, d6] }
  | _ => none }
def LawS930021ETransitiveWrongFalsely : Prop := lawS930021ETransitiveRow.holds Ydqm.pinned (OpenSpec.ofChange lawS930021ETransitiveWrong)

/-- 'topo.LawS930021FCount': WHATEVER THE INPUT: true; the input reads as it did. -/
def lawS930021FCountSpec : ChangeSpec := { name := "lawS930021FCount", fn := fun _ => fun
  | [d1, d2, d3, d4] => { results := [.lit (.bool true)], args := [d1, d2, d3, d4] }
  | _ => none }
def lawS930021FCountRow : OpenClaim := { program := "ymbrdq", sum := "43fab201915852e7b666a7e4fc253a0088d3eadb57ac686ba00bd6e257a57d49", func := "example.com/own/topo.LawS930021FCount", spec := "lawS930021FCount", apart := false }
def LawS930021FCountSaid : Prop := lawS930021FCountRow.holds Ydqm.pinned (OpenSpec.ofChange lawS930021FCountSpec)

/-- ITS FALSE NEIGHBOUR: 'it returns false'. Refute it at one input. -/
def lawS930021FCountWrong : ChangeSpec := { name := "lawS930021FCount", fn := fun _ => fun
  | [d1, d2, d3, d4] => { results := [.lit (.bool false)], args := [d1, d2, d3, d4] }
  | _ => none }
def LawS930021FCountWrongFalsely : Prop := lawS930021FCountRow.holds Ydqm.pinned (OpenSpec.ofChange lawS930021FCountWrong)

/-- 'topo.LawS930021FBoundary': WHATEVER THE INPUT: true; the input reads as it did. -/
def lawS930021FBoundarySpec : ChangeSpec := { name := "lawS930021FBoundary", fn := fun _ => fun
  | [d1, d2, d3, d4] => { results := [.lit (.bool true)], args := [d1, d2, d3, d4] }
  | _ => none }
def lawS930021FBoundaryRow : OpenClaim := { program := "ymbrdq", sum := "43fab201915852e7b666a7e4fc253a0088d3eadb57ac686ba00bd6e257a57d49", func := "example.com/own/topo.LawS930021FBoundary", spec := "lawS930021FBoundary", apart := false }
def LawS930021FBoundarySaid : Prop := lawS930021FBoundaryRow.holds Ydqm.pinned (OpenSpec.ofChange lawS930021FBoundarySpec)

/-- ITS FALSE NEIGHBOUR: 'it returns false'. Refute it at one input. -/
def lawS930021FBoundaryWrong : ChangeSpec := { name := "lawS930021FBoundary", fn := fun _ => fun
  | [d1, d2, d3, d4] => { results := [.lit (.bool false)], args := [d1, d2, d3, d4] }
  | _ => none }
def LawS930021FBoundaryWrongFalsely : Prop := lawS930021FBoundaryRow.holds Ydqm.pinned (OpenSpec.ofChange lawS930021FBoundaryWrong)

/-- 'topo.LawS930021FIndex': WHATEVER THE INPUT: true; the input reads as it did. -/
def lawS930021FIndexSpec : ChangeSpec := { name := "lawS930021FIndex", fn := fun _ => fun
  | [d1, d2] => { results := [.lit (.bool true)], args := [d1, d2] }
  | _ => none }
def lawS930021FIndexRow : OpenClaim := { program := "ymbrdq", sum := "43fab201915852e7b666a7e4fc253a0088d3eadb57ac686ba00bd6e257a57d49", func := "example.com/own/topo.LawS930021FIndex", spec := "lawS930021FIndex", apart := false }
def LawS930021FIndexSaid : Prop := lawS930021FIndexRow.holds Ydqm.pinned (OpenSpec.ofChange lawS930021FIndexSpec)

/-- ITS FALSE NEIGHBOUR: 'it returns false'. Refute it at one input. -/
def lawS930021FIndexWrong : ChangeSpec := { name := "lawS930021FIndex", fn := fun _ => fun
  | [d1, d2] => { results := [.lit (.bool false)], args := [d1, d2] }
  | _ => none }
def LawS930021FIndexWrongFalsely : Prop := lawS930021FIndexRow.holds Ydqm.pinned (OpenSpec.ofChange lawS930021FIndexWrong)

/-- 'topo.LawS930021GExact': WHATEVER THE INPUT: true; the input reads as it did. -/
def lawS930021GExactSpec : ChangeSpec := { name := "lawS930021GExact", fn := fun _ => fun
  | [d1, d2, d3, d4, d5, d6] => { results := [.lit (.bool true)], args := [d1, d2, d3, d4, d5, d6] }
  | _ => none }
def lawS930021GExactRow : OpenClaim := { program := "ymbrdq", sum := "43fab201915852e7b666a7e4fc253a0088d3eadb57ac686ba00bd6e257a57d49", func := "example.com/own/topo.LawS930021GExact", spec := "lawS930021GExact", apart := false }
def LawS930021GExactSaid : Prop := lawS930021GExactRow.holds Ydqm.pinned (OpenSpec.ofChange lawS930021GExactSpec)

/-- ITS FALSE NEIGHBOUR: 'it returns false'. Refute it at one input. -/
def lawS930021GExactWrong : ChangeSpec := { name := "lawS930021GExact", fn := fun _ => fun
  | [d1, d2, d3, d4, d5, d6] => { results := [.lit (.bool false)], args := [d1, d2, d3, d4, d5, d6] }
  | _ => none }
def LawS930021GExactWrongFalsely : Prop := lawS930021GExactRow.holds Ydqm.pinned (OpenSpec.ofChange lawS930021GExactWrong)

/-- 'topo.LawS930021GTranspose': WHATEVER THE INPUT: true; the input reads as it did. -/
def lawS930021GTransposeSpec : ChangeSpec := { name := "lawS930021GTranspose", fn := fun _ => fun
  | [d1, d2, d3, d4, d5, d6] => { results := [.lit (.bool true)], args := [d1, d2, d3, d4, d5, d6] }
  | _ => none }
def lawS930021GTransposeRow : OpenClaim := { program := "ymbrdq", sum := "43fab201915852e7b666a7e4fc253a0088d3eadb57ac686ba00bd6e257a57d49", func := "example.com/own/topo.LawS930021GTranspose", spec := "lawS930021GTranspose", apart := false }
def LawS930021GTransposeSaid : Prop := lawS930021GTransposeRow.holds Ydqm.pinned (OpenSpec.ofChange lawS930021GTransposeSpec)

/-- ITS FALSE NEIGHBOUR: 'it returns false'. Refute it at one input. -/
def lawS930021GTransposeWrong : ChangeSpec := { name := "lawS930021GTranspose", fn := fun _ => fun
  | [d1, d2, d3, d4, d5, d6] => { results := [.lit (.bool false)], args := [d1, d2, d3, d4, d5, d6] }
  | _ => none }
def LawS930021GTransposeWrongFalsely : Prop := lawS930021GTransposeRow.holds Ydqm.pinned (OpenSpec.ofChange lawS930021GTransposeWrong)

/-- 'topo.LawS930021GOrder': WHATEVER THE INPUT: true; the input reads as it did. -/
def lawS930021GOrderSpec : ChangeSpec := { name := "lawS930021GOrder", fn := fun _ => fun
  | [d1, d2, d3, d4, d5, d6] => { results := [.lit (.bool true)], args := [d1, d2, d3, d4, d5, d6] }
  | _ => none }
def lawS930021GOrderRow : OpenClaim := { program := "ymbrdq", sum := "43fab201915852e7b666a7e4fc253a0088d3eadb57ac686ba00bd6e257a57d49", func := "example.com/own/topo.LawS930021GOrder", spec := "lawS930021GOrder", apart := false }
def LawS930021GOrderSaid : Prop := lawS930021GOrderRow.holds Ydqm.pinned (OpenSpec.ofChange lawS930021GOrderSpec)

/-- ITS FALSE NEIGHBOUR: 'it returns false'. Refute it at one input. -/
def lawS930021GOrderWrong : ChangeSpec := { name := "lawS930021GOrder", fn := fun _ => fun
  | [d1, d2, d3, d4, d5, d6] => { results := [.lit (.bool false)], args := [d1, d2, d3, d4, d5, d6] }
  | _ => none }
def LawS930021GOrderWrongFalsely : Prop := lawS930021GOrderRow.holds Ydqm.pinned (OpenSpec.ofChange lawS930021GOrderWrong)

/-- 'topo.LawS930021HGreedy': WHATEVER THE INPUT: true; the input reads as it did. -/
def lawS930021HGreedySpec : ChangeSpec := { name := "lawS930021HGreedy", fn := fun _ => fun
  | [d1, d2] => { results := [.lit (.bool true)], args := [d1, d2] }
  | _ => none }
def lawS930021HGreedyRow : OpenClaim := { program := "ymbrdq", sum := "43fab201915852e7b666a7e4fc253a0088d3eadb57ac686ba00bd6e257a57d49", func := "example.com/own/topo.LawS930021HGreedy", spec := "lawS930021HGreedy", apart := false }
def LawS930021HGreedySaid : Prop := lawS930021HGreedyRow.holds Ydqm.pinned (OpenSpec.ofChange lawS930021HGreedySpec)

/-- ITS FALSE NEIGHBOUR: 'it returns false'. Refute it at one input. -/
def lawS930021HGreedyWrong : ChangeSpec := { name := "lawS930021HGreedy", fn := fun _ => fun
  | [d1, d2] => { results := [.lit (.bool false)], args := [d1, d2] }
  | _ => none }
def LawS930021HGreedyWrongFalsely : Prop := lawS930021HGreedyRow.holds Ydqm.pinned (OpenSpec.ofChange lawS930021HGreedyWrong)

/-- 'topo.LawS930021HSound': WHATEVER THE INPUT: true; the input reads as it did. -/
def lawS930021HSoundSpec : ChangeSpec := { name := "lawS930021HSound", fn := fun _ => fun
  | [d1, d2] => { results := [.lit (.bool true)], args := [d1, d2] }
  | _ => none }
def lawS930021HSoundRow : OpenClaim := { program := "ymbrdq", sum := "43fab201915852e7b666a7e4fc253a0088d3eadb57ac686ba00bd6e257a57d49", func := "example.com/own/topo.LawS930021HSound", spec := "lawS930021HSound", apart := false }
def LawS930021HSoundSaid : Prop := lawS930021HSoundRow.holds Ydqm.pinned (OpenSpec.ofChange lawS930021HSoundSpec)

/-- ITS FALSE NEIGHBOUR: 'it returns false'. Refute it at one input. -/
def lawS930021HSoundWrong : ChangeSpec := { name := "lawS930021HSound", fn := fun _ => fun
  | [d1, d2] => { results := [.lit (.bool false)], args := [d1, d2] }
  | _ => none }
def LawS930021HSoundWrongFalsely : Prop := lawS930021HSoundRow.holds Ydqm.pinned (OpenSpec.ofChange lawS930021HSoundWrong)

/-- 'topo.LawS930021HAcyclic': WHATEVER THE INPUT: true; the input reads as it did. -/
def lawS930021HAcyclicSpec : ChangeSpec := { name := "lawS930021HAcyclic", fn := fun _ => fun
  | [d1, d2, d3] => { results := [.lit (.bool true)], args := [d1, d2, d3] }
  | _ => none }
def lawS930021HAcyclicRow : OpenClaim := { program := "ymbrdq", sum := "43fab201915852e7b666a7e4fc253a0088d3eadb57ac686ba00bd6e257a57d49", func := "example.com/own/topo.LawS930021HAcyclic", spec := "lawS930021HAcyclic", apart := false }
def LawS930021HAcyclicSaid : Prop := lawS930021HAcyclicRow.holds Ydqm.pinned (OpenSpec.ofChange lawS930021HAcyclicSpec)

/-- ITS FALSE NEIGHBOUR: 'it returns false'. Refute it at one input. -/
def lawS930021HAcyclicWrong : ChangeSpec := { name := "lawS930021HAcyclic", fn := fun _ => fun
  | [d1, d2, d3] => { results := [.lit (.bool false)], args := [d1, d2, d3] }
  | _ => none }
def LawS930021HAcyclicWrongFalsely : Prop := lawS930021HAcyclicRow.holds Ydqm.pinned (OpenSpec.ofChange lawS930021HAcyclicWrong)

/-- 'topo.LawS930021IExact': WHATEVER THE INPUT: true; the input reads as it did. -/
def lawS930021IExactSpec : ChangeSpec := { name := "lawS930021IExact", fn := fun _ => fun
  | [d] => { results := [.lit (.bool true)], args := [d] }
  | _ => none }
def lawS930021IExactRow : OpenClaim := { program := "ymbrdq", sum := "43fab201915852e7b666a7e4fc253a0088d3eadb57ac686ba00bd6e257a57d49", func := "example.com/own/topo.LawS930021IExact", spec := "lawS930021IExact", apart := false }
def LawS930021IExactSaid : Prop := lawS930021IExactRow.holds Ydqm.pinned (OpenSpec.ofChange lawS930021IExactSpec)

/-- ITS FALSE NEIGHBOUR: 'it returns false'. Refute it at one input. -/
def lawS930021IExactWrong : ChangeSpec := { name := "lawS930021IExact", fn := fun _ => fun
  | [d] => { results := [.lit (.bool false)], args := [d] }
  | _ => none }
def LawS930021IExactWrongFalsely : Prop := lawS930021IExactRow.holds Ydqm.pinned (OpenSpec.ofChange lawS930021IExactWrong)

end Rows
end Go.Proofs.Ymbrdq
