/- CompareEdges computes 'cmpE'. -/
import Derived.Test.YmbrdrRows
import Derived.WalkKit
import Derived.ProofKit
namespace Go.Proofs.Ymbrdr
open Go.ChangeShapes Go.WideShapes Go.ChangeAt Go.RowKit

def cmpE (af at_ bf bt : Int) : Int := if af < bf then -1 else if bf < af then 1 else if at_ < bt then -1 else if bt < at_ then 1 else 0

theorem ret_int {k : IntKind} {a b : Int} (h : a = b) : Ending.returned (.int k a) = .returned (.int k b) := by rw [h]

theorem cmp_flip (a b c d : Int) : cmpE c d a b = - cmpE a b c d := by unfold cmpE; repeat (first | omega | split)
theorem cmp_rng (a b c d : Int) : -1 ≤ cmpE a b c d ∧ cmpE a b c d ≤ 1 := by unfold cmpE; repeat (first | omega | split)
theorem cmp_self (a b : Int) : cmpE a b a b = 0 := by unfold cmpE; repeat (first | omega | split)
theorem cmp_zero (a b c d : Int) : cmpE a b c d = 0 ↔ a = c ∧ b = d := by unfold cmpE; repeat (first | omega | split)

set_option maxHeartbeats 400000 in
theorem cmp_any (af at_ bf bt : Int) (w : World) :
    Calls Ydrm.prog 40 #[.agg #[.int .i64 af, .int .i64 at_], .agg #[.int .i64 bf, .int .i64 bt]] w fun e w' => e = .returned (.int .i64 (cmpE af at_ bf bt)) ∧ w' = ((w.alloc (.cells #[.int .i64 af, .int .i64 at_] 45)).alloc (.cells #[.int .i64 bf, .int .i64 bt] 45)) := by
  go_enter Ydrm.func40, Ydrm.ntmps40
  go_wp2
  all_goals go_ret
  all_goals (refine ⟨ret_int ?_, rfl⟩; unfold cmpE; repeat (first | omega | split))
end Go.Proofs.Ymbrdr
