/- The proof of 'Rows.LawS930021GTransposeSaid': the walk lies in YmbrdqGTranspose,YmbrdqFin2. -/
import Derived.Test.YmbrdqRows
import Derived.Test.YmbrdqGTranspose
import Derived.Test.YmbrdqFin2
import Derived.WalkKit
import Derived.ProofKit
import Derived.OpenShut
import Derived.ShutString
import Derived.ChangeOld
import Derived.Below
namespace Go.Proofs.Ymbrdq.lawS930021GTranspose
open Go.ChangeShapes Go.WideShapes Go.ChangeAt Go.RowKit
open Go.ChangeMaps (open_string shut_string)
set_option linter.unusedVariables false

theorem own : ownKnob Ydqm.prog.godebug = none := by kernel_rfl
theorem laidOut : laidOutB Ydqm.prog = true := by kernel_rfl

set_option maxRecDepth 100000 in
theorem lifted (os : Os) (started : os.Started) (H : Type) (enc : TypeId × Value → H) :
    ReturnsInHanded {} Ydqm.checked os 9 .any (Rows.lawS930021GTransposeSpec.pre6 enc Ydqm.prog Ydqm.f9 Rows.lawS930021GTransposeRow.domain false) (Rows.lawS930021GTransposeSpec.post enc Ydqm.prog Ydqm.f9 false true false false) := by
  refine returnsInHanded_of_change (C := Ydqm.checked) own started (by kernel_rfl) Ydqm.func9
    (ChangeSpec.witness6 (enc := enc) (C := Ydqm.checked) false ⟨#[], #[.slice none 0 0, .slice none 0 0, .bool false, .int .u8 0, .int .u16 0, .int .i64 0], []⟩ 8 (by kernel_rfl) (by kernel_rfl) (by kernel_rfl) (by kernel_rfl)) ?_
  intro W base args ds gs before hval0 hW hcnd _
  have hval : ∀ (j : Nat) t v, Ydqm.f9.params[j]? = some t → args[j]? = some v → Value.okWide Ydqm.prog W .any base t v := hval0
  have hW' := hW
  obtain ⟨p, q, hA0, hV, rfl, hfz, hnd⟩ := hW
  have hA : DataW.TrodAll enc Ydqm.prog W 0 (fun _ => true) true Ydqm.f9.params.toList args.toList ds p := hA0
  rw [Ydqm.params9] at hA hval
  obtain ⟨v0, vs0, d0, ds0, p0, q0, hargs, rfl, rfl, h0, r0⟩ := trodAll_cons hA
  obtain ⟨v1, vs1, d1, ds1, p1, q1, rfl, rfl, rfl, h1, r1⟩ := trodAll_cons r0
  obtain ⟨v2, vs2, d2, ds2, p2, q2, rfl, rfl, rfl, h2, r2⟩ := trodAll_cons r1
  obtain ⟨v3, vs3, d3, ds3, p3, q3, rfl, rfl, rfl, h3, r3⟩ := trodAll_cons r2
  obtain ⟨v4, vs4, d4, ds4, p4, q4, rfl, rfl, rfl, h4, r4⟩ := trodAll_cons r3
  obtain ⟨v5, vs5, d5, ds5, p5, q5, rfl, rfl, rfl, h5, r5⟩ := trodAll_cons r4
  obtain ⟨rfl, rfl, rfl⟩ := trodAll_nil r5
  obtain rfl : args = #[v0, v1, v2, v3, v4, v5] := by cases args; simp_all
  obtain ⟨rfl, rfl⟩ := trodVars_none hV
  obtain ⟨a0, len0, cap0, rfl⟩ := okWide_slice Ydqm.underlying36 (hval 0 36 v0 rfl rfl)
  have k0 := h0
  have lt0 : ∀ x ∈ p0, x.block < W.heap.size := by obtain ⟨m, hm⟩ := k0; exact DataW.trod_lt m _ _ _ hm
  obtain ⟨rs0, rfl, s0, f0, l0⟩ := sl_of_ints (k := .u16) Ydqm.underlying36 (by kernel_rfl) Ydqm.underlying38 h0
  obtain ⟨a1, len1, cap1, rfl⟩ := okWide_slice Ydqm.underlying37 (hval 1 37 v1 rfl rfl)
  have k1 := h1
  have lt1 : ∀ x ∈ p1, x.block < W.heap.size := by obtain ⟨m, hm⟩ := k1; exact DataW.trod_lt m _ _ _ hm
  obtain ⟨rs1, rfl, s1, f1, l1⟩ := sl_of_arr2 Ydqm.underlying37 Ydqm.underlying64 (by kernel_rfl) (by kernel_rfl) Ydqm.underlying38 h1
  obtain ⟨x2, rfl, rfl, rfl⟩ := open_bool Ydqm.underlying4 (hval 2 4 v2 rfl rfl) h2
  obtain ⟨x3, rfl, rfl, rfl, w3⟩ := open_int Ydqm.underlying5 (hval 3 5 v3 rfl rfl) h3
  obtain ⟨x4, rfl, rfl, rfl, w4⟩ := open_int Ydqm.underlying38 (hval 4 38 v4 rfl rfl) h4
  obtain ⟨x5, rfl, rfl, rfl, w5⟩ := open_int Ydqm.underlying3 (hval 5 3 v5 rfl rfl) h5
  clear hA0 hval0
  refine (gTranspose_walk rs0 rs1 x2 x3 x4 x5 cap0 cap1 a0 a1 W l0 l1 (fun k hk => wf_u16 (f0 _ (by rw [nth_eq hk]; exact List.getElem_mem hk))) (fun k hk => ⟨wf_u16 (f1 k hk).1, wf_u16 (f1 k hk).2⟩) (wf_u8 w3) (wf_u16 w4) s0 s1).mono fun e W' ⟨he, bel⟩ => ?_
  subst he
  exact ⟨_, rfl, _, _, _, [], _, [], hW', trodAll_mk1 (shut_bool Ydqm.underlying4 _), (trodAll_cons_mk (Below.trod laidOut (by kernel_rfl) (of_decide_eq_true (by kernel_rfl)) k0 bel lt0) (trodAll_cons_mk (Below.trod laidOut (by kernel_rfl) (of_decide_eq_true (by kernel_rfl)) k1 bel lt1) (trodAll_cons_mk (shut_bool Ydqm.underlying4 x2) (trodAll_cons_mk (shut_int Ydqm.underlying5 w3) (trodAll_cons_mk (shut_int Ydqm.underlying38 w4) (trodAll_cons_mk (shut_int Ydqm.underlying3 w5) trodAll_mk0)))))), rfl, bel.frame _, fun h => by cases h⟩

theorem over : Rows.lawS930021GTransposeRow.holds Ydqm.pinned (OpenSpec.ofChange Rows.lawS930021GTransposeSpec) :=
  OpenClaim.holds_of_wide 9 Ydqm.f9 rfl rfl rfl rfl rfl rfl rfl ⟨rfl, rfl, rfl, rfl, rfl⟩ rfl rfl rfl rfl rfl (by kernel_rfl) Ydqm.func9 (by kernel_rfl)
    (of_decide_eq_true (by kernel_rfl)) (by unfold Func.isWrapper; first | (rw [if_pos (by decide +kernel)]; kernel_rfl) | (rw [if_neg (by decide +kernel)]; exact ⟨rfl, rfl⟩))
    (fun os started H enc _ => lifted os started H enc)

theorem proved : Rows.LawS930021GTransposeSaid := over
#print axioms proved
end Go.Proofs.Ymbrdq.lawS930021GTranspose
