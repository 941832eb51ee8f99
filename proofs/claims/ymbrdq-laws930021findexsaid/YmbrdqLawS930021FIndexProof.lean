/- The proof of 'Rows.LawS930021FIndexSaid': the walk lies in YmbrdqFIndex,YmbrdqFin2. -/
import Derived.Test.YmbrdqRows
import Derived.Test.YmbrdqFIndex
import Derived.Test.YmbrdqFin2
import Derived.WalkKit
import Derived.ProofKit
import Derived.OpenShut
import Derived.ShutString
import Derived.ChangeOld
import Derived.Below
namespace Go.Proofs.Ymbrdq.lawS930021FIndex
open Go.ChangeShapes Go.WideShapes Go.ChangeAt Go.RowKit
open Go.ChangeMaps (open_string shut_string)
set_option linter.unusedVariables false

theorem own : ownKnob Ydqm.prog.godebug = none := by kernel_rfl
theorem laidOut : laidOutB Ydqm.prog = true := by kernel_rfl

set_option maxRecDepth 100000 in
theorem lifted (os : Os) (started : os.Started) (H : Type) (enc : TypeId × Value → H) :
    ReturnsInHanded {} Ydqm.checked os 7 .any (Rows.lawS930021FIndexSpec.pre6 enc Ydqm.prog Ydqm.f7 Rows.lawS930021FIndexRow.domain false) (Rows.lawS930021FIndexSpec.post enc Ydqm.prog Ydqm.f7 false true false false) := by
  refine returnsInHanded_of_change (C := Ydqm.checked) own started (by kernel_rfl) Ydqm.func7
    (ChangeSpec.witness6 (enc := enc) (C := Ydqm.checked) false ⟨#[], #[.slice none 0 0, .int .u64 0], []⟩ 8 (by kernel_rfl) (by kernel_rfl) (by kernel_rfl) (by kernel_rfl)) ?_
  intro W base args ds gs before hval0 hW hcnd _
  have hval : ∀ (j : Nat) t v, Ydqm.f7.params[j]? = some t → args[j]? = some v → Value.okWide Ydqm.prog W .any base t v := hval0
  have hW' := hW
  obtain ⟨p, q, hA0, hV, rfl, hfz, hnd⟩ := hW
  have hA : DataW.TrodAll enc Ydqm.prog W 0 (fun _ => true) true Ydqm.f7.params.toList args.toList ds p := hA0
  rw [Ydqm.params7] at hA hval
  obtain ⟨v0, vs0, d0, ds0, p0, q0, hargs, rfl, rfl, h0, r0⟩ := trodAll_cons hA
  obtain ⟨v1, vs1, d1, ds1, p1, q1, rfl, rfl, rfl, h1, r1⟩ := trodAll_cons r0
  obtain ⟨rfl, rfl, rfl⟩ := trodAll_nil r1
  obtain rfl : args = #[v0, v1] := by cases args; simp_all
  obtain ⟨rfl, rfl⟩ := trodVars_none hV
  obtain ⟨a0, len0, cap0, rfl⟩ := okWide_slice Ydqm.underlying27 (hval 0 27 v0 rfl rfl)
  have k0 := h0
  have lt0 : ∀ x ∈ p0, x.block < W.heap.size := by obtain ⟨m, hm⟩ := k0; exact DataW.trod_lt m _ _ _ hm
  obtain ⟨rs0, rfl, s0, f0, l0⟩ := sl_of_pairs Ydqm.underlying27 Ydqm.underlying23 (by kernel_rfl) rfl rfl (by kernel_rfl) (by kernel_rfl) Ydqm.underlying3 Ydqm.underlying3 h0
  obtain ⟨x1, rfl, rfl, rfl, w1⟩ := open_int Ydqm.underlying28 (hval 1 28 v1 rfl rfl) h1
  clear hA0 hval0
  refine (fIndex_walk rs0 x1 cap0 a0 W l0 (wf_u64 w1) s0).mono fun e W' ⟨he, bel⟩ => ?_
  subst he
  exact ⟨_, rfl, _, _, _, [], _, [], hW', trodAll_mk1 (shut_bool Ydqm.underlying4 _), (trodAll_cons_mk (Below.trod laidOut (by kernel_rfl) (of_decide_eq_true (by kernel_rfl)) k0 bel lt0) (trodAll_cons_mk (shut_int Ydqm.underlying28 w1) trodAll_mk0)), rfl, bel.frame _, fun h => by cases h⟩

theorem over : Rows.lawS930021FIndexRow.holds Ydqm.pinned (OpenSpec.ofChange Rows.lawS930021FIndexSpec) :=
  OpenClaim.holds_of_wide 7 Ydqm.f7 rfl rfl rfl rfl rfl rfl rfl ⟨rfl, rfl, rfl, rfl, rfl⟩ rfl rfl rfl rfl rfl (by kernel_rfl) Ydqm.func7 (by kernel_rfl)
    (of_decide_eq_true (by kernel_rfl)) (by unfold Func.isWrapper; first | (rw [if_pos (by decide +kernel)]; kernel_rfl) | (rw [if_neg (by decide +kernel)]; exact ⟨rfl, rfl⟩))
    (fun os started H enc _ => lifted os started H enc)

theorem proved : Rows.LawS930021FIndexSaid := over
#print axioms proved
end Go.Proofs.Ymbrdq.lawS930021FIndex
