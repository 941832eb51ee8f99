/- Edges, their order, and where find stops: no Go in sight. -/
import Derived.Test.YmbrdrCmp
import Derived.Test.YmbrdrHeap
namespace Go.Proofs.Ymbrdr

/-- a comes before b -/
def ltE (a b : Int × Int) : Prop := a.1 < b.1 ∨ (a.1 = b.1 ∧ a.2 < b.2)
theorem ltE_cmp (a b : Int × Int) : ltE a b ↔ cmpE a.1 a.2 b.1 b.2 < 0 := by unfold ltE cmpE; repeat (first | omega | split)
theorem ltE_irrefl (a : Int × Int) : ¬ ltE a a := by unfold ltE; omega
theorem ltE_trans {a b c : Int × Int} (h : ltE a b) (h' : ltE b c) : ltE a c := by unfold ltE at *; omega
theorem ltE_total {a b : Int × Int} (h : ¬ ltE a b) (hne : a ≠ b) : ltE b a := by
  unfold ltE at *
  have : ¬ (a.1 = b.1 ∧ a.2 = b.2) := fun h => hne (Prod.ext h.1 h.2)
  omega
/-- the i-th edge -/
def nthE (es : List (Int × Int)) (i : Nat) : Int × Int := (nthF es i, nthT es i)
theorem nthE_eq {es : List (Int × Int)} {i : Nat} (h : i < es.length) : nthE es i = es[i] := by
  unfold nthE; rw [nthF_eq h, nthT_eq h]
def eqE (a b : Int × Int) : Bool := decide (a = b)

/-- what find answers, on any list -/
structure FindAt (es : List (Int × Int)) (e : Int × Int) (lo : Nat) (ok : Bool) : Prop where
  le : lo ≤ es.length
  left : 0 < lo → ltE (nthE es (lo - 1)) e
  right : lo < es.length → ¬ ltE (nthE es lo) e
  ok_iff : ok = true ↔ lo < es.length ∧ nthE es lo = e
end Go.Proofs.Ymbrdr
