/- The proof of 'Rows.LawS930021LReverseSaid': the walk lies in YmbrdrLReverse,YmbrdrFin2. -/
import Derived.Test.YmbrdrRows
import Derived.Test.YmbrdrLReverse
import Derived.Test.YmbrdrFin2
import Derived.WalkKit
import Derived.ProofKit
import Derived.OpenShut
import Derived.ShutString
import Derived.ChangeOld
import Derived.Below
namespace Go.Proofs.Ymbrdr.lawS930021LReverse
open Go.ChangeShapes Go.WideShapes Go.ChangeAt Go.RowKit
open Go.ChangeMaps (open_string shut_string)
set_option linter.unusedVariables false

theorem own : ownKnob Ydrm.prog.godebug = none := by kernel_rfl
theorem laidOut : laidOutB Ydrm.prog = true := by kernel_rfl

set_option maxRecDepth 100000 in
theorem lifted (os : Os) (started : os.Started) (H : Type) (enc : TypeId × Value → H) :
    ReturnsInHanded {} Ydrm.checked os 13 .any (Rows.lawS930021LReverseSpec.pre6 enc Ydrm.prog Ydrm.f13 Rows.lawS930021LReverseRow.domain false) (Rows.lawS930021LReverseSpec.post enc Ydrm.prog Ydrm.f13 false true false false) := by
  refine returnsInHanded_of_change (C := Ydrm.checked) own started (by kernel_rfl) Ydrm.func13
    (ChangeSpec.witness6 (enc := enc) (C := Ydrm.checked) false ⟨#[], #[.int .u8 0, .slice none 0 0, .slice none 0 0, .bool false, .int .u8 0], []⟩ 8 (by kernel_rfl) (by kernel_rfl) (by kernel_rfl) (by kernel_rfl)) ?_
  intro W base args ds gs before hval0 hW hcnd _
  have hval : ∀ (j : Nat) t v, Ydrm.f13.params[j]? = some t → args[j]? = some v → Value.okWide Ydrm.prog W .any base t v := hval0
  have hW' := hW
  obtain ⟨p, q, hA0, hV, rfl, hfz, hnd⟩ := hW
  have hA : DataW.TrodAll enc Ydrm.prog W 0 (fun _ => true) true Ydrm.f13.params.toList args.toList ds p := hA0
  rw [Ydrm.params13] at hA hval
  obtain ⟨v0, vs0, d0, ds0, p0, q0, hargs, rfl, rfl, h0, r0⟩ := trodAll_cons hA
  obtain ⟨v1, vs1, d1, ds1, p1, q1, rfl, rfl, rfl, h1, r1⟩ := trodAll_cons r0
  obtain ⟨v2, vs2, d2, ds2, p2, q2, rfl, rfl, rfl, h2, r2⟩ := trodAll_cons r1
  obtain ⟨v3, vs3, d3, ds3, p3, q3, rfl, rfl, rfl, h3, r3⟩ := trodAll_cons r2
  obtain ⟨v4, vs4, d4, ds4, p4, q4, rfl, rfl, rfl, h4, r4⟩ := trodAll_cons r3
  obtain ⟨rfl, rfl, rfl⟩ := trodAll_nil r4
  obtain rfl : args = #[v0, v1, v2, v3, v4] := by cases args; simp_all
  obtain ⟨rfl, rfl⟩ := trodVars_none hV
  obtain ⟨x0, rfl, rfl, rfl, w0⟩ := open_int Ydrm.underlying5 (hval 0 5 v0 rfl rfl) h0
  obtain ⟨a1, len1, cap1, rfl⟩ := okWide_slice Ydrm.underlying55 (hval 1 55 v1 rfl rfl)
  have k1 := h1
  have lt1 : ∀ x ∈ p1, x.block < W.heap.size := by obtain ⟨m, hm⟩ := k1; exact DataW.trod_lt m _ _ _ hm
  obtain ⟨rs1, rfl, s1, f1, l1⟩ := sl_of_pairs Ydrm.underlying55 Ydrm.underlying69 (by kernel_rfl) rfl rfl (by kernel_rfl) (by kernel_rfl) Ydrm.underlying5 Ydrm.underlying5 h1
  obtain ⟨a2, len2, cap2, rfl⟩ := okWide_slice Ydrm.underlying22 (hval 2 22 v2 rfl rfl)
  have k2 := h2
  have lt2 : ∀ x ∈ p2, x.block < W.heap.size := by obtain ⟨m, hm⟩ := k2; exact DataW.trod_lt m _ _ _ hm
  obtain ⟨rs2, rfl, s2, f2, l2⟩ := sl_of_ints (k := .i64) Ydrm.underlying22 (by kernel_rfl) Ydrm.underlying3 h2
  obtain ⟨x3, rfl, rfl, rfl⟩ := open_bool Ydrm.underlying4 (hval 3 4 v3 rfl rfl) h3
  obtain ⟨x4, rfl, rfl, rfl, w4⟩ := open_int Ydrm.underlying5 (hval 4 5 v4 rfl rfl) h4
  clear hA0 hval0
  refine (lReverse_walk x0 rs1 rs2 x3 x4 cap1 cap2 a1 a2 W (wf_u8 w0) (wf_u8 w4) l1 l2 (fun k hk => ⟨wf_u8 (f1 k hk).1, wf_u8 (f1 k hk).2⟩) (fun k hk => wf_i64 (f2 _ (by rw [nth_eq hk]; exact List.getElem_mem hk))) s1 s2).mono fun e W' ⟨he, bel⟩ => ?_
  subst he
  exact ⟨_, rfl, _, _, _, [], _, [], hW', trodAll_mk1 (shut_bool Ydrm.underlying4 _), (trodAll_cons_mk (shut_int Ydrm.underlying5 w0) (trodAll_cons_mk (Below.trod laidOut (by kernel_rfl) (of_decide_eq_true (by kernel_rfl)) k1 bel lt1) (trodAll_cons_mk (Below.trod laidOut (by kernel_rfl) (of_decide_eq_true (by kernel_rfl)) k2 bel lt2) (trodAll_cons_mk (shut_bool Ydrm.underlying4 x3) (trodAll_cons_mk (shut_int Ydrm.underlying5 w4) trodAll_mk0))))), rfl, bel.frame _, fun h => by cases h⟩

theorem over : Rows.lawS930021LReverseRow.holds Ydrm.pinned (OpenSpec.ofChange Rows.lawS930021LReverseSpec) :=
  OpenClaim.holds_of_wide 13 Ydrm.f13 rfl rfl rfl rfl rfl rfl rfl ⟨rfl, rfl, rfl, rfl, rfl⟩ rfl rfl rfl rfl rfl (by kernel_rfl) Ydrm.func13 (by kernel_rfl)
    (of_decide_eq_true (by kernel_rfl)) (by unfold Func.isWrapper; first | (rw [if_pos (by decide +kernel)]; kernel_rfl) | (rw [if_neg (by decide +kernel)]; exact ⟨rfl, rfl⟩))
    (fun os started H enc _ => lifted os started H enc)

theorem proved : Rows.LawS930021LReverseSaid := over
#print axioms proved
end Go.Proofs.Ymbrdr.lawS930021LReverse
