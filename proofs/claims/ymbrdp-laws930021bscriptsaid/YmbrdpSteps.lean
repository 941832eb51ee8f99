/- A slice of steps (a bool and two uint8), as a walk reads it. -/
import Derived.Test.YmbrdpBel
namespace Go.Proofs.Ymbrdp
open Go.ChangeShapes Go.WideShapes Go.ChangeAt Go.RowKit

def nthA (rs : List (Bool × Int × Int)) (i : Nat) : Bool := (rs.getD i (false, 0, 0)).1
def nthU (rs : List (Bool × Int × Int)) (i : Nat) : Int := (rs.getD i (false, 0, 0)).2.1
def nthV (rs : List (Bool × Int × Int)) (i : Nat) : Int := (rs.getD i (false, 0, 0)).2.2
def StepsAt (w : World) (B : Nat) (ao : Option Addr) (rs : List (Bool × Int × Int)) : Prop :=
  rs.length = 0 ∨ ∃ b off, b < B ∧ ao = some ⟨b, off, none⟩ ∧ ∀ i, i < rs.length → w.cell? ⟨b, off + i * 3, none⟩ = some (.bool (nthA rs i)) ∧ w.cell? ⟨b, off + i * 3 + 1, none⟩ = some (.int .u8 (nthU rs i)) ∧ w.cell? ⟨b, off + i * 3 + 2, none⟩ = some (.int .u8 (nthV rs i))
theorem StepsAt.below {w w' : World} {B : Nat} {ao : Option Addr} {rs : List (Bool × Int × Int)} (h : StepsAt w B ao rs) (hb : Below B w w') : StepsAt w' B ao rs :=
  h.imp id fun ⟨b, off, h1, h2, h3⟩ => ⟨b, off, h1, h2, fun i hi => ⟨(hb.cell h1).trans (h3 i hi).1, (hb.cell h1).trans (h3 i hi).2.1, (hb.cell h1).trans (h3 i hi).2.2⟩⟩
end Go.Proofs.Ymbrdp
