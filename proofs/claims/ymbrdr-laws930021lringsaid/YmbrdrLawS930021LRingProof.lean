/- The proof of 'Rows.LawS930021LRingSaid': the walk lies in YmbrdrLRing,YmbrdrFin2. -/
import Derived.Test.YmbrdrRows
import Derived.Test.YmbrdrLRing
import Derived.Test.YmbrdrFin2
import Derived.WalkKit
import Derived.ProofKit
import Derived.OpenShut
import Derived.ShutString
import Derived.ChangeOld
import Derived.Below
namespace Go.Proofs.Ymbrdr.lawS930021LRing
open Go.ChangeShapes Go.WideShapes Go.ChangeAt Go.RowKit
open Go.ChangeMaps (open_string shut_string)
set_option linter.unusedVariables false

theorem own : ownKnob Ydrm.prog.godebug = none := by kernel_rfl
theorem laidOut : laidOutB Ydrm.prog = true := by kernel_rfl

set_option maxRecDepth 100000 in
theorem lifted (os : Os) (started : os.Started) (H : Type) (enc : TypeId × Value → H) :
    ReturnsInHanded {} Ydrm.checked os 12 .any (Rows.lawS930021LRingSpec.pre6 enc Ydrm.prog Ydrm.f12 Rows.lawS930021LRingRow.domain false) (Rows.lawS930021LRingSpec.post enc Ydrm.prog Ydrm.f12 false true false false) := by
  refine returnsInHanded_of_change (C := Ydrm.checked) own started (by kernel_rfl) Ydrm.func12
    (ChangeSpec.witness6 (enc := enc) (C := Ydrm.checked) false ⟨#[], #[.int .u8 0, .int .u8 0, .int .u8 0, .int .u8 0, .int .u8 0, .slice none 0 0], []⟩ 8 (by kernel_rfl) (by kernel_rfl) (by kernel_rfl) (by kernel_rfl)) ?_
  intro W base args ds gs before hval0 hW hcnd _
  have hval : ∀ (j : Nat) t v, Ydrm.f12.params[j]? = some t → args[j]? = some v → Value.okWide Ydrm.prog W .any base t v := hval0
  have hW' := hW
  obtain ⟨p, q, hA0, hV, rfl, hfz, hnd⟩ := hW
  have hA : DataW.TrodAll enc Ydrm.prog W 0 (fun _ => true) true Ydrm.f12.params.toList args.toList ds p := hA0
  rw [Ydrm.params12] at hA hval
  obtain ⟨v0, vs0, d0, ds0, p0, q0, hargs, rfl, rfl, h0, r0⟩ := trodAll_cons hA
  obtain ⟨v1, vs1, d1, ds1, p1, q1, rfl, rfl, rfl, h1, r1⟩ := trodAll_cons r0
  obtain ⟨v2, vs2, d2, ds2, p2, q2, rfl, rfl, rfl, h2, r2⟩ := trodAll_cons r1
  obtain ⟨v3, vs3, d3, ds3, p3, q3, rfl, rfl, rfl, h3, r3⟩ := trodAll_cons r2
  obtain ⟨v4, vs4, d4, ds4, p4, q4, rfl, rfl, rfl, h4, r4⟩ := trodAll_cons r3
  obtain ⟨v5, vs5, d5, ds5, p5, q5, rfl, rfl, rfl, h5, r5⟩ := trodAll_cons r4
  obtain ⟨rfl, rfl, rfl⟩ := trodAll_nil r5
  obtain rfl : args = #[v0, v1, v2, v3, v4, v5] := by cases args; simp_all
  obtain ⟨rfl, rfl⟩ := trodVars_none hV
  obtain ⟨x0, rfl, rfl, rfl, w0⟩ := open_int Ydrm.underlying5 (hval 0 5 v0 rfl rfl) h0
  obtain ⟨x1, rfl, rfl, rfl, w1⟩ := open_int Ydrm.underlying5 (hval 1 5 v1 rfl rfl) h1
  obtain ⟨x2, rfl, rfl, rfl, w2⟩ := open_int Ydrm.underlying5 (hval 2 5 v2 rfl rfl) h2
  obtain ⟨x3, rfl, rfl, rfl, w3⟩ := open_int Ydrm.underlying5 (hval 3 5 v3 rfl rfl) h3
  obtain ⟨x4, rfl, rfl, rfl, w4⟩ := open_int Ydrm.underlying5 (hval 4 5 v4 rfl rfl) h4
  obtain ⟨a5, len5, cap5, rfl⟩ := okWide_slice Ydrm.underlying55 (hval 5 55 v5 rfl rfl)
  have k5 := h5
  have lt5 : ∀ x ∈ p5, x.block < W.heap.size := by obtain ⟨m, hm⟩ := k5; exact DataW.trod_lt m _ _ _ hm
  obtain ⟨rs5, rfl, s5, f5, l5⟩ := sl_of_pairs Ydrm.underlying55 Ydrm.underlying69 (by kernel_rfl) rfl rfl (by kernel_rfl) (by kernel_rfl) Ydrm.underlying5 Ydrm.underlying5 h5
  clear hA0 hval0
  refine (lRing_walk x0 x1 x2 x3 x4 rs5 cap5 a5 W (wf_u8 w0) (wf_u8 w1) (wf_u8 w2) (wf_u8 w3) (wf_u8 w4) l5 (fun k hk => ⟨wf_u8 (f5 k hk).1, wf_u8 (f5 k hk).2⟩) s5).mono fun e W' ⟨he, bel⟩ => ?_
  subst he
  exact ⟨_, rfl, _, _, _, [], _, [], hW', trodAll_mk1 (shut_bool Ydrm.underlying4 _), (trodAll_cons_mk (shut_int Ydrm.underlying5 w0) (trodAll_cons_mk (shut_int Ydrm.underlying5 w1) (trodAll_cons_mk (shut_int Ydrm.underlying5 w2) (trodAll_cons_mk (shut_int Ydrm.underlying5 w3) (trodAll_cons_mk (shut_int Ydrm.underlying5 w4) (trodAll_cons_mk (Below.trod laidOut (by kernel_rfl) (of_decide_eq_true (by kernel_rfl)) k5 bel lt5) trodAll_mk0)))))), rfl, bel.frame _, fun h => by cases h⟩

theorem over : Rows.lawS930021LRingRow.holds Ydrm.pinned (OpenSpec.ofChange Rows.lawS930021LRingSpec) :=
  OpenClaim.holds_of_wide 12 Ydrm.f12 rfl rfl rfl rfl rfl rfl rfl ⟨rfl, rfl, rfl, rfl, rfl⟩ rfl rfl rfl rfl rfl (by kernel_rfl) Ydrm.func12 (by kernel_rfl)
    (of_decide_eq_true (by kernel_rfl)) (by unfold Func.isWrapper; first | (rw [if_pos (by decide +kernel)]; kernel_rfl) | (rw [if_neg (by decide +kernel)]; exact ⟨rfl, rfl⟩))
    (fun os started H enc _ => lifted os started H enc)

theorem proved : Rows.LawS930021LRingSaid := over
#print axioms proved
end Go.Proofs.Ymbrdr.lawS930021LRing
