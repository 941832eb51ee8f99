/- The walk of LawS930021EAntisymmetric. -/
import Derived.Test.YmbrdqCmp
namespace Go.Proofs.Ymbrdq
open Go.ChangeShapes Go.WideShapes Go.ChangeAt Go.RowKit

set_option maxHeartbeats 400000 in
theorem eAnti_walk (a0 a1 a2 a3 : Int) (w : World) :
    Calls Ydqm.prog 3 #[.int .i64 a0, .int .i64 a1, .int .i64 a2, .int .i64 a3] w fun e w' => e = .returned (.bool true) ∧ Grown w w' := by
  have h1 := cmp_rng a0 a1 a2 a3
  have h2 := cmp_flip a0 a1 a2 a3
  by_cases ha : a0 = a2 ∧ a1 = a3
  · obtain ⟨rfl, rfl⟩ := ha
    have h3 := cmp_self a0 a1
    clear h1 h2
    go_enter Ydqm.func3, Ydqm.ntmps3
    go_wp2_with fail
    refine (cmp_any _ _ _ _ _).mono ?_
    rintro e w' ⟨rfl, rfl⟩
    go_wp2_with fail
    refine (cmp_any _ _ _ _ _).mono ?_
    rintro e w' ⟨rfl, rfl⟩
    go_wp2_with fail
    refine (cmp_any _ _ _ _ _).mono ?_
    rintro e w' ⟨rfl, rfl⟩
    go_wp2_with fail
    go_ret
    exact ⟨by simp, by repeat (first | exact Grown.refl _ | apply Grown.drew | apply Grown.alloc)⟩
  · have h3 : (cmpE a0 a1 a2 a3 == 0) = false := by
      rw [beq_eq_false_iff_ne]; intro h; exact ha ((cmp_zero _ _ _ _).1 h)
    have h4 := cmp_self a0 a1
    have h5 := cmp_self a2 a1
    go_enter Ydqm.func3, Ydqm.ntmps3
    go_wp2_with fail
    refine (cmp_any _ _ _ _ _).mono ?_
    rintro e w' ⟨rfl, rfl⟩
    go_wp2_with fail
    refine (cmp_any _ _ _ _ _).mono ?_
    rintro e w' ⟨rfl, rfl⟩
    go_wp2_with fail
    all_goals
      refine (cmp_any _ _ _ _ _).mono ?_
      rintro e w' ⟨rfl, rfl⟩
      go_wp2_with fail
      go_ret
      exact ⟨by simp, by repeat (first | exact Grown.refl _ | apply Grown.drew | apply Grown.alloc)⟩
end Go.Proofs.Ymbrdq
