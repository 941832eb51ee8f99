/- The walk of LawS930021EExact. -/
import Derived.Test.YmbrdpCmp
namespace Go.Proofs.Ymbrdp
open Go.ChangeShapes Go.WideShapes Go.ChangeAt Go.RowKit

def sgn (x y : Int) : Int := if y < x then (if x < y then 0 else 1) else (if x < y then -1 else 0)
theorem sgn_rng (x y : Int) : -1 ≤ sgn x y ∧ sgn x y ≤ 1 := by unfold sgn; repeat (first | omega | split)

set_option maxHeartbeats 400000 in
theorem sign_any (x y : Int) (w : World) :
    Calls Ydpm.prog 29 #[.int .i64 x, .int .i64 y] w fun e w' => e = .returned (.int .i64 (sgn x y)) ∧ w' = w := by
  go_enter Ydpm.func29, Ydpm.ntmps29
  go_wp2
  all_goals go_ret
  all_goals (refine ⟨ret_int ?_, rfl⟩; unfold sgn; repeat (first | omega | split))

theorem exact1 (a b c d : Int) : (cmpE a b c d != sgn (2 * sgn a c + sgn b d) 0) = false := by
  rw [bne_eq_false_iff_eq]; unfold cmpE sgn; repeat (first | omega | split)
theorem exact2 (a b d : Int) : (cmpE a b a d == sgn b d) = true := by
  rw [beq_iff_eq]; unfold cmpE sgn; repeat (first | omega | split)

set_option maxHeartbeats 400000 in
theorem eExact_walk (a0 a1 a2 a3 : Int) (w : World) :
    Calls Ydpm.prog 14 #[.int .i64 a0, .int .i64 a1, .int .i64 a2, .int .i64 a3] w fun e w' => e = .returned (.bool true) ∧ Grown w w' := by
  have h1 := sgn_rng a0 a2
  have h2 := sgn_rng a1 a3
  have h3 := exact1 a0 a1 a2 a3
  have h4 := exact2 a0 a1 a3
  go_enter Ydpm.func14, Ydpm.ntmps14
  go_wp2_with fail
  refine (sign_any _ _ _).mono ?_
  rintro e w' ⟨rfl, rfl⟩
  go_wp2_with fail
  refine (sign_any _ _ _).mono ?_
  rintro e w' ⟨rfl, rfl⟩
  go_wp2_with fail
  refine (cmp_any _ _ _ _ _).mono ?_
  rintro e w' ⟨rfl, rfl⟩
  go_wp2_with fail
  refine (sign_any _ _ _).mono ?_
  rintro e w' ⟨rfl, rfl⟩
  go_wp2_with fail
  refine (cmp_any _ _ _ _ _).mono ?_
  rintro e w' ⟨rfl, rfl⟩
  go_wp2_with fail
  refine (sign_any _ _ _).mono ?_
  rintro e w' ⟨rfl, rfl⟩
  go_wp2_with fail
  go_ret
  exact ⟨by simp, by repeat (first | exact Grown.refl _ | apply Grown.drew | apply Grown.alloc)⟩
end Go.Proofs.Ymbrdp
