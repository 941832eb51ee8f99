/- The proof of 'Rows.LawS930021HAcyclicSaid': the walk lies in YmbrdqHAcyclic,YmbrdqFin2. -/
import Derived.Test.YmbrdqRows
import Derived.Test.YmbrdqHAcyclic
import Derived.Test.YmbrdqFin2
import Derived.WalkKit
import Derived.ProofKit
import Derived.OpenShut
import Derived.ShutString
import Derived.ChangeOld
import Derived.Below
namespace Go.Proofs.Ymbrdq.lawS930021HAcyclic
open Go.ChangeShapes Go.WideShapes Go.ChangeAt Go.RowKit
open Go.ChangeMaps (open_string shut_string)
set_option linter.unusedVariables false

theorem own : ownKnob Ydqm.prog.godebug = none := by kernel_rfl
theorem laidOut : laidOutB Ydqm.prog = true := by kernel_rfl

set_option maxRecDepth 100000 in
theorem lifted (os : Os) (started : os.Started) (H : Type) (enc : TypeId × Value → H) :
    ReturnsInHanded {} Ydqm.checked os 13 .any (Rows.lawS930021HAcyclicSpec.pre6 enc Ydqm.prog Ydqm.f13 Rows.lawS930021HAcyclicRow.domain false) (Rows.lawS930021HAcyclicSpec.post enc Ydqm.prog Ydqm.f13 false true false false) := by
  refine returnsInHanded_of_change (C := Ydqm.checked) own started (by kernel_rfl) Ydqm.func13
    (ChangeSpec.witness6 (enc := enc) (C := Ydqm.checked) false ⟨#[], #[.int .u16 0, .slice none 0 0, .bool false], []⟩ 8 (by kernel_rfl) (by kernel_rfl) (by kernel_rfl) (by kernel_rfl)) ?_
  intro W base args ds gs before hval0 hW hcnd _
  have hval : ∀ (j : Nat) t v, Ydqm.f13.params[j]? = some t → args[j]? = some v → Value.okWide Ydqm.prog W .any base t v := hval0
  have hW' := hW
  obtain ⟨p, q, hA0, hV, rfl, hfz, hnd⟩ := hW
  have hA : DataW.TrodAll enc Ydqm.prog W 0 (fun _ => true) true Ydqm.f13.params.toList args.toList ds p := hA0
  rw [Ydqm.params13] at hA hval
  obtain ⟨v0, vs0, d0, ds0, p0, q0, hargs, rfl, rfl, h0, r0⟩ := trodAll_cons hA
  obtain ⟨v1, vs1, d1, ds1, p1, q1, rfl, rfl, rfl, h1, r1⟩ := trodAll_cons r0
  obtain ⟨v2, vs2, d2, ds2, p2, q2, rfl, rfl, rfl, h2, r2⟩ := trodAll_cons r1
  obtain ⟨rfl, rfl, rfl⟩ := trodAll_nil r2
  obtain rfl : args = #[v0, v1, v2] := by cases args; simp_all
  obtain ⟨rfl, rfl⟩ := trodVars_none hV
  obtain ⟨x0, rfl, rfl, rfl, w0⟩ := open_int Ydqm.underlying38 (hval 0 38 v0 rfl rfl) h0
  obtain ⟨a1, len1, cap1, rfl⟩ := okWide_slice Ydqm.underlying54 (hval 1 54 v1 rfl rfl)
  have k1 := h1
  have lt1 : ∀ x ∈ p1, x.block < W.heap.size := by obtain ⟨m, hm⟩ := k1; exact DataW.trod_lt m _ _ _ hm
  obtain ⟨rs1, rfl, s1, f1, l1⟩ := sl_of_pairs Ydqm.underlying54 Ydqm.underlying69 (by kernel_rfl) rfl rfl (by kernel_rfl) (by kernel_rfl) Ydqm.underlying38 Ydqm.underlying38 h1
  obtain ⟨x2, rfl, rfl, rfl⟩ := open_bool Ydqm.underlying4 (hval 2 4 v2 rfl rfl) h2
  clear hA0 hval0
  refine (hAcyclic_walk x0 rs1 x2 cap1 a1 W (wf_u16 w0) (fun k hk => ⟨wf_u16 (f1 k hk).1, wf_u16 (f1 k hk).2⟩) s1).mono fun e W' ⟨he, bel⟩ => ?_
  subst he
  exact ⟨_, rfl, _, _, _, [], _, [], hW', trodAll_mk1 (shut_bool Ydqm.underlying4 _), (trodAll_cons_mk (shut_int Ydqm.underlying38 w0) (trodAll_cons_mk (Below.trod laidOut (by kernel_rfl) (of_decide_eq_true (by kernel_rfl)) k1 bel lt1) (trodAll_cons_mk (shut_bool Ydqm.underlying4 x2) trodAll_mk0))), rfl, bel.frame _, fun h => by cases h⟩

theorem over : Rows.lawS930021HAcyclicRow.holds Ydqm.pinned (OpenSpec.ofChange Rows.lawS930021HAcyclicSpec) :=
  OpenClaim.holds_of_wide 13 Ydqm.f13 rfl rfl rfl rfl rfl rfl rfl ⟨rfl, rfl, rfl, rfl, rfl⟩ rfl rfl rfl rfl rfl (by kernel_rfl) Ydqm.func13 (by kernel_rfl)
    (of_decide_eq_true (by kernel_rfl)) (by unfold Func.isWrapper; first | (rw [if_pos (by decide +kernel)]; kernel_rfl) | (rw [if_neg (by decide +kernel)]; exact ⟨rfl, rfl⟩))
    (fun os started H enc _ => lifted os started H enc)

theorem proved : Rows.LawS930021HAcyclicSaid := over
#print axioms proved
end Go.Proofs.Ymbrdq.lawS930021HAcyclic
