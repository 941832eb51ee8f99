/- The proof of 'Rows.LawS930021JAgreesSaid': the walk lies in YmbrdrJAgrees,YmbrdrFin2. -/
import Derived.Test.YmbrdrRows
import Derived.Test.YmbrdrJAgrees
import Derived.Test.YmbrdrFin2
import Derived.WalkKit
import Derived.ProofKit
import Derived.OpenShut
import Derived.ShutString
import Derived.ChangeOld
import Derived.Below
namespace Go.Proofs.Ymbrdr.lawS930021JAgrees
open Go.ChangeShapes Go.WideShapes Go.ChangeAt Go.RowKit
open Go.ChangeMaps (open_string shut_string)
set_option linter.unusedVariables false

theorem own : ownKnob Ydrm.prog.godebug = none := by kernel_rfl
theorem laidOut : laidOutB Ydrm.prog = true := by kernel_rfl

set_option maxRecDepth 100000 in
theorem lifted (os : Os) (started : os.Started) (H : Type) (enc : TypeId × Value → H) :
    ReturnsInHanded {} Ydrm.checked os 7 .any (Rows.lawS930021JAgreesSpec.pre6 enc Ydrm.prog Ydrm.f7 Rows.lawS930021JAgreesRow.domain false) (Rows.lawS930021JAgreesSpec.post enc Ydrm.prog Ydrm.f7 false true false false) := by
  refine returnsInHanded_of_change (C := Ydrm.checked) own started (by kernel_rfl) Ydrm.func7
    (ChangeSpec.witness6 (enc := enc) (C := Ydrm.checked) false ⟨#[], #[.int .u8 0, .slice none 0 0], []⟩ 8 (by kernel_rfl) (by kernel_rfl) (by kernel_rfl) (by kernel_rfl)) ?_
  intro W base args ds gs before hval0 hW hcnd _
  have hval : ∀ (j : Nat) t v, Ydrm.f7.params[j]? = some t → args[j]? = some v → Value.okWide Ydrm.prog W .any base t v := hval0
  have hW' := hW
  obtain ⟨p, q, hA0, hV, rfl, hfz, hnd⟩ := hW
  have hA : DataW.TrodAll enc Ydrm.prog W 0 (fun _ => true) true Ydrm.f7.params.toList args.toList ds p := hA0
  rw [Ydrm.params7] at hA hval
  obtain ⟨v0, vs0, d0, ds0, p0, q0, hargs, rfl, rfl, h0, r0⟩ := trodAll_cons hA
  obtain ⟨v1, vs1, d1, ds1, p1, q1, rfl, rfl, rfl, h1, r1⟩ := trodAll_cons r0
  obtain ⟨rfl, rfl, rfl⟩ := trodAll_nil r1
  obtain rfl : args = #[v0, v1] := by cases args; simp_all
  obtain ⟨rfl, rfl⟩ := trodVars_none hV
  obtain ⟨x0, rfl, rfl, rfl, w0⟩ := open_int Ydrm.underlying5 (hval 0 5 v0 rfl rfl) h0
  obtain ⟨a1, len1, cap1, rfl⟩ := okWide_slice Ydrm.underlying29 (hval 1 29 v1 rfl rfl)
  have k1 := h1
  have lt1 : ∀ x ∈ p1, x.block < W.heap.size := by obtain ⟨m, hm⟩ := k1; exact DataW.trod_lt m _ _ _ hm
  obtain ⟨rs1, rfl, s1, f1, l1⟩ := sl_of_pairs Ydrm.underlying29 Ydrm.underlying64 (by kernel_rfl) rfl rfl (by kernel_rfl) (by kernel_rfl) Ydrm.underlying5 Ydrm.underlying5 h1
  clear hA0 hval0
  refine (jAgrees_walk x0 rs1 cap1 a1 W (wf_u8 w0) l1 (fun k hk => ⟨wf_u8 (f1 k hk).1, wf_u8 (f1 k hk).2⟩) s1).mono fun e W' ⟨he, bel⟩ => ?_
  subst he
  exact ⟨_, rfl, _, _, _, [], _, [], hW', trodAll_mk1 (shut_bool Ydrm.underlying4 _), (trodAll_cons_mk (shut_int Ydrm.underlying5 w0) (trodAll_cons_mk (Below.trod laidOut (by kernel_rfl) (of_decide_eq_true (by kernel_rfl)) k1 bel lt1) trodAll_mk0)), rfl, bel.frame _, fun h => by cases h⟩

theorem over : Rows.lawS930021JAgreesRow.holds Ydrm.pinned (OpenSpec.ofChange Rows.lawS930021JAgreesSpec) :=
  OpenClaim.holds_of_wide 7 Ydrm.f7 rfl rfl rfl rfl rfl rfl rfl ⟨rfl, rfl, rfl, rfl, rfl⟩ rfl rfl rfl rfl rfl (by kernel_rfl) Ydrm.func7 (by kernel_rfl)
    (of_decide_eq_true (by kernel_rfl)) (by unfold Func.isWrapper; first | (rw [if_pos (by decide +kernel)]; kernel_rfl) | (rw [if_neg (by decide +kernel)]; exact ⟨rfl, rfl⟩))
    (fun os started H enc _ => lifted os started H enc)

theorem proved : Rows.LawS930021JAgreesSaid := over
#print axioms proved
end Go.Proofs.Ymbrdr.lawS930021JAgrees
