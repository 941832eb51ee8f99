/- The proof of 'Rows.LawS930021CBoundsSaid': the walk lies in YmbrdpCExact,YmbrdpFin2. -/
import Derived.Test.YmbrdpRows
import Derived.Test.YmbrdpCExact
import Derived.Test.YmbrdpFin2
import Derived.WalkKit
import Derived.ProofKit
import Derived.OpenShut
import Derived.ShutString
import Derived.ChangeOld
import Derived.Below
namespace Go.Proofs.Ymbrdp.lawS930021CBounds
open Go.ChangeShapes Go.WideShapes Go.ChangeAt Go.RowKit
open Go.ChangeMaps (open_string shut_string)
set_option linter.unusedVariables false

theorem own : ownKnob Ydpm.prog.godebug = none := by kernel_rfl
theorem laidOut : laidOutB Ydpm.prog = true := by kernel_rfl

set_option maxRecDepth 100000 in
theorem lifted (os : Os) (started : os.Started) (H : Type) (enc : TypeId × Value → H) :
    ReturnsInHanded {} Ydpm.checked os 10 .any (Rows.lawS930021CBoundsSpec.pre6 enc Ydpm.prog Ydpm.f10 Rows.lawS930021CBoundsRow.domain false) (Rows.lawS930021CBoundsSpec.post enc Ydpm.prog Ydpm.f10 false true false false) := by
  refine returnsInHanded_of_change (C := Ydpm.checked) own started (by kernel_rfl) Ydpm.func10
    (ChangeSpec.witness6 (enc := enc) (C := Ydpm.checked) false ⟨#[], #[.bool false, .int .i8 0, .slice none 0 0], []⟩ 8 (by kernel_rfl) (by kernel_rfl) (by kernel_rfl) (by kernel_rfl)) ?_
  intro W base args ds gs before hval0 hW hcnd _
  have hval : ∀ (j : Nat) t v, Ydpm.f10.params[j]? = some t → args[j]? = some v → Value.okWide Ydpm.prog W .any base t v := hval0
  have hW' := hW
  obtain ⟨p, q, hA0, hV, rfl, hfz, hnd⟩ := hW
  have hA : DataW.TrodAll enc Ydpm.prog W 0 (fun _ => true) true Ydpm.f10.params.toList args.toList ds p := hA0
  rw [Ydpm.params10] at hA hval
  obtain ⟨v0, vs0, d0, ds0, p0, q0, hargs, rfl, rfl, h0, r0⟩ := trodAll_cons hA
  obtain ⟨v1, vs1, d1, ds1, p1, q1, rfl, rfl, rfl, h1, r1⟩ := trodAll_cons r0
  obtain ⟨v2, vs2, d2, ds2, p2, q2, rfl, rfl, rfl, h2, r2⟩ := trodAll_cons r1
  obtain ⟨rfl, rfl, rfl⟩ := trodAll_nil r2
  obtain rfl : args = #[v0, v1, v2] := by cases args; simp_all
  obtain ⟨rfl, rfl⟩ := trodVars_none hV
  obtain ⟨x0, rfl, rfl, rfl⟩ := open_bool Ydpm.underlying4 (hval 0 4 v0 rfl rfl) h0
  obtain ⟨x1, rfl, rfl, rfl, w1⟩ := open_int Ydpm.underlying54 (hval 1 54 v1 rfl rfl) h1
  obtain ⟨a2, len2, cap2, rfl⟩ := okWide_slice Ydpm.underlying55 (hval 2 55 v2 rfl rfl)
  have k2 := h2
  have lt2 : ∀ x ∈ p2, x.block < W.heap.size := by obtain ⟨m, hm⟩ := k2; exact DataW.trod_lt m _ _ _ hm
  obtain ⟨rs2, rfl, s2, f2, l2⟩ := sl_of_pairs Ydpm.underlying55 Ydpm.underlying57 (by kernel_rfl) rfl rfl (by kernel_rfl) (by kernel_rfl) Ydpm.underlying22 Ydpm.underlying22 h2
  clear hA0 hval0
  refine (cBounds_walk x0 x1 rs2 cap2 a2 W (wf_i8 w1) l2 (fun k hk => ⟨wf_u16 (f2 k hk).1, wf_u16 (f2 k hk).2⟩) s2).mono fun e W' ⟨he, bel⟩ => ?_
  subst he
  exact ⟨_, rfl, _, _, _, [], _, [], hW', trodAll_mk1 (shut_bool Ydpm.underlying4 _), (trodAll_cons_mk (shut_bool Ydpm.underlying4 x0) (trodAll_cons_mk (shut_int Ydpm.underlying54 w1) (trodAll_cons_mk (Below.trod laidOut (by kernel_rfl) (of_decide_eq_true (by kernel_rfl)) k2 bel lt2) trodAll_mk0))), rfl, bel.frame _, fun h => by cases h⟩

theorem over : Rows.lawS930021CBoundsRow.holds Ydpm.pinned (OpenSpec.ofChange Rows.lawS930021CBoundsSpec) :=
  OpenClaim.holds_of_wide 10 Ydpm.f10 rfl rfl rfl rfl rfl rfl rfl ⟨rfl, rfl, rfl, rfl, rfl⟩ rfl rfl rfl rfl rfl (by kernel_rfl) Ydpm.func10 (by kernel_rfl)
    (of_decide_eq_true (by kernel_rfl)) (by unfold Func.isWrapper; first | (rw [if_pos (by decide +kernel)]; kernel_rfl) | (rw [if_neg (by decide +kernel)]; exact ⟨rfl, rfl⟩))
    (fun os started H enc _ => lifted os started H enc)

theorem proved : Rows.LawS930021CBoundsSaid := over
#print axioms proved
end Go.Proofs.Ymbrdp.lawS930021CBounds
