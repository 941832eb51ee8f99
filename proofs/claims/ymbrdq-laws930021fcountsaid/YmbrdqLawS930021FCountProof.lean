/- The proof of 'Rows.LawS930021FCountSaid': the walk lies in YmbrdqFCount,YmbrdqFin2. -/
import Derived.Test.YmbrdqRows
import Derived.Test.YmbrdqFCount
import Derived.Test.YmbrdqFin2
import Derived.WalkKit
import Derived.ProofKit
import Derived.OpenShut
import Derived.ShutString
import Derived.ChangeOld
import Derived.Below
namespace Go.Proofs.Ymbrdq.lawS930021FCount
open Go.ChangeShapes Go.WideShapes Go.ChangeAt Go.RowKit
open Go.ChangeMaps (open_string shut_string)
set_option linter.unusedVariables false

theorem own : ownKnob Ydqm.prog.godebug = none := by kernel_rfl
theorem laidOut : laidOutB Ydqm.prog = true := by kernel_rfl

set_option maxRecDepth 100000 in
theorem lifted (os : Os) (started : os.Started) (H : Type) (enc : TypeId × Value → H) :
    ReturnsInHanded {} Ydqm.checked os 5 .any (Rows.lawS930021FCountSpec.pre6 enc Ydqm.prog Ydqm.f5 Rows.lawS930021FCountRow.domain false) (Rows.lawS930021FCountSpec.post enc Ydqm.prog Ydqm.f5 false true false false) := by
  refine returnsInHanded_of_change (C := Ydqm.checked) own started (by kernel_rfl) Ydqm.func5
    (ChangeSpec.witness6 (enc := enc) (C := Ydqm.checked) false ⟨#[], #[.slice none 0 0, .int .u64 0, .int .i64 0, .int .i64 0], []⟩ 8 (by kernel_rfl) (by kernel_rfl) (by kernel_rfl) (by kernel_rfl)) ?_
  intro W base args ds gs before hval0 hW hcnd _
  have hval : ∀ (j : Nat) t v, Ydqm.f5.params[j]? = some t → args[j]? = some v → Value.okWide Ydqm.prog W .any base t v := hval0
  have hW' := hW
  obtain ⟨p, q, hA0, hV, rfl, hfz, hnd⟩ := hW
  have hA : DataW.TrodAll enc Ydqm.prog W 0 (fun _ => true) true Ydqm.f5.params.toList args.toList ds p := hA0
  rw [Ydqm.params5] at hA hval
  obtain ⟨v0, vs0, d0, ds0, p0, q0, hargs, rfl, rfl, h0, r0⟩ := trodAll_cons hA
  obtain ⟨v1, vs1, d1, ds1, p1, q1, rfl, rfl, rfl, h1, r1⟩ := trodAll_cons r0
  obtain ⟨v2, vs2, d2, ds2, p2, q2, rfl, rfl, rfl, h2, r2⟩ := trodAll_cons r1
  obtain ⟨v3, vs3, d3, ds3, p3, q3, rfl, rfl, rfl, h3, r3⟩ := trodAll_cons r2
  obtain ⟨rfl, rfl, rfl⟩ := trodAll_nil r3
  obtain rfl : args = #[v0, v1, v2, v3] := by cases args; simp_all
  obtain ⟨rfl, rfl⟩ := trodVars_none hV
  obtain ⟨a0, len0, cap0, rfl⟩ := okWide_slice Ydqm.underlying27 (hval 0 27 v0 rfl rfl)
  have k0 := h0
  have lt0 : ∀ x ∈ p0, x.block < W.heap.size := by obtain ⟨m, hm⟩ := k0; exact DataW.trod_lt m _ _ _ hm
  obtain ⟨rs0, rfl, s0, f0, l0⟩ := sl_of_pairs Ydqm.underlying27 Ydqm.underlying23 (by kernel_rfl) rfl rfl (by kernel_rfl) (by kernel_rfl) Ydqm.underlying3 Ydqm.underlying3 h0
  obtain ⟨x1, rfl, rfl, rfl, w1⟩ := open_int Ydqm.underlying28 (hval 1 28 v1 rfl rfl) h1
  obtain ⟨x2, rfl, rfl, rfl, w2⟩ := open_int Ydqm.underlying3 (hval 2 3 v2 rfl rfl) h2
  obtain ⟨x3, rfl, rfl, rfl, w3⟩ := open_int Ydqm.underlying3 (hval 3 3 v3 rfl rfl) h3
  clear hA0 hval0
  refine (fCount_walk rs0 x1 x2 x3 cap0 a0 W l0 (wf_u64 w1) s0).mono fun e W' ⟨he, bel⟩ => ?_
  subst he
  exact ⟨_, rfl, _, _, _, [], _, [], hW', trodAll_mk1 (shut_bool Ydqm.underlying4 _), (trodAll_cons_mk (Below.trod laidOut (by kernel_rfl) (of_decide_eq_true (by kernel_rfl)) k0 bel lt0) (trodAll_cons_mk (shut_int Ydqm.underlying28 w1) (trodAll_cons_mk (shut_int Ydqm.underlying3 w2) (trodAll_cons_mk (shut_int Ydqm.underlying3 w3) trodAll_mk0)))), rfl, bel.frame _, fun h => by cases h⟩

theorem over : Rows.lawS930021FCountRow.holds Ydqm.pinned (OpenSpec.ofChange Rows.lawS930021FCountSpec) :=
  OpenClaim.holds_of_wide 5 Ydqm.f5 rfl rfl rfl rfl rfl rfl rfl ⟨rfl, rfl, rfl, rfl, rfl⟩ rfl rfl rfl rfl rfl (by kernel_rfl) Ydqm.func5 (by kernel_rfl)
    (of_decide_eq_true (by kernel_rfl)) (by unfold Func.isWrapper; first | (rw [if_pos (by decide +kernel)]; kernel_rfl) | (rw [if_neg (by decide +kernel)]; exact ⟨rfl, rfl⟩))
    (fun os started H enc _ => lifted os started H enc)

theorem proved : Rows.LawS930021FCountSaid := over
#print axioms proved
end Go.Proofs.Ymbrdq.lawS930021FCount
