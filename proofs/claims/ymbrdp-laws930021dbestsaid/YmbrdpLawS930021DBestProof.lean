/- The proof of 'Rows.LawS930021DBestSaid': the walk lies in YmbrdpDBest,YmbrdpFin2. -/
import Derived.Test.YmbrdpRows
import Derived.Test.YmbrdpDBest
import Derived.Test.YmbrdpFin2
import Derived.WalkKit
import Derived.ProofKit
import Derived.OpenShut
import Derived.ShutString
import Derived.ChangeOld
import Derived.Below
namespace Go.Proofs.Ymbrdp.lawS930021DBest
open Go.ChangeShapes Go.WideShapes Go.ChangeAt Go.RowKit
open Go.ChangeMaps (open_string shut_string)
set_option linter.unusedVariables false

theorem own : ownKnob Ydpm.prog.godebug = none := by kernel_rfl
theorem laidOut : laidOutB Ydpm.prog = true := by kernel_rfl

set_option maxRecDepth 100000 in
theorem lifted (os : Os) (started : os.Started) (H : Type) (enc : TypeId × Value → H) :
    ReturnsInHanded {} Ydpm.checked os 13 .any (Rows.lawS930021DBestSpec.pre6 enc Ydpm.prog Ydpm.f13 Rows.lawS930021DBestRow.domain false) (Rows.lawS930021DBestSpec.post enc Ydpm.prog Ydpm.f13 false true false false) := by
  refine returnsInHanded_of_change (C := Ydpm.checked) own started (by kernel_rfl) Ydpm.func13
    (ChangeSpec.witness6 (enc := enc) (C := Ydpm.checked) false ⟨#[], #[.slice none 0 0, .slice none 0 0], []⟩ 8 (by kernel_rfl) (by kernel_rfl) (by kernel_rfl) (by kernel_rfl)) ?_
  intro W base args ds gs before hval0 hW hcnd _
  have hval : ∀ (j : Nat) t v, Ydpm.f13.params[j]? = some t → args[j]? = some v → Value.okWide Ydpm.prog W .any base t v := hval0
  have hW' := hW
  obtain ⟨p, q, hA0, hV, rfl, hfz, hnd⟩ := hW
  have hA : DataW.TrodAll enc Ydpm.prog W 0 (fun _ => true) true Ydpm.f13.params.toList args.toList ds p := hA0
  rw [Ydpm.params13] at hA hval
  obtain ⟨v0, vs0, d0, ds0, p0, q0, hargs, rfl, rfl, h0, r0⟩ := trodAll_cons hA
  obtain ⟨v1, vs1, d1, ds1, p1, q1, rfl, rfl, rfl, h1, r1⟩ := trodAll_cons r0
  obtain ⟨rfl, rfl, rfl⟩ := trodAll_nil r1
  obtain rfl : args = #[v0, v1] := by cases args; simp_all
  obtain ⟨rfl, rfl⟩ := trodVars_none hV
  obtain ⟨a0, len0, cap0, rfl⟩ := okWide_slice Ydpm.underlying68 (hval 0 68 v0 rfl rfl)
  have k0 := h0
  have lt0 : ∀ x ∈ p0, x.block < W.heap.size := by obtain ⟨m, hm⟩ := k0; exact DataW.trod_lt m _ _ _ hm
  obtain ⟨rs0, rfl, s0, f0, l0⟩ := sl_of_ints (k := .u16) Ydpm.underlying68 (by kernel_rfl) Ydpm.underlying22 h0
  obtain ⟨a1, len1, cap1, rfl⟩ := okWide_slice Ydpm.underlying60 (hval 1 60 v1 rfl rfl)
  have k1 := h1
  have lt1 : ∀ x ∈ p1, x.block < W.heap.size := by obtain ⟨m, hm⟩ := k1; exact DataW.trod_lt m _ _ _ hm
  obtain ⟨rs1, rfl, s1, f1, l1⟩ := sl_of_pairs Ydpm.underlying60 Ydpm.underlying62 (by kernel_rfl) rfl rfl (by kernel_rfl) (by kernel_rfl) Ydpm.underlying22 Ydpm.underlying22 h1
  clear hA0 hval0
  refine (dBest_walk rs0 rs1 cap0 cap1 a0 a1 W l0 l1 (fun k hk => wf_u16 (f0 _ (by rw [nth_eq hk]; exact List.getElem_mem hk))) (fun k hk => ⟨wf_u16 (f1 k hk).1, wf_u16 (f1 k hk).2⟩) s0 s1).mono fun e W' ⟨he, bel⟩ => ?_
  subst he
  exact ⟨_, rfl, _, _, _, [], _, [], hW', trodAll_mk1 (shut_bool Ydpm.underlying4 _), (trodAll_cons_mk (Below.trod laidOut (by kernel_rfl) (of_decide_eq_true (by kernel_rfl)) k0 bel lt0) (trodAll_cons_mk (Below.trod laidOut (by kernel_rfl) (of_decide_eq_true (by kernel_rfl)) k1 bel lt1) trodAll_mk0)), rfl, bel.frame _, fun h => by cases h⟩

theorem over : Rows.lawS930021DBestRow.holds Ydpm.pinned (OpenSpec.ofChange Rows.lawS930021DBestSpec) :=
  OpenClaim.holds_of_wide 13 Ydpm.f13 rfl rfl rfl rfl rfl rfl rfl ⟨rfl, rfl, rfl, rfl, rfl⟩ rfl rfl rfl rfl rfl (by kernel_rfl) Ydpm.func13 (by kernel_rfl)
    (of_decide_eq_true (by kernel_rfl)) (by unfold Func.isWrapper; first | (rw [if_pos (by decide +kernel)]; kernel_rfl) | (rw [if_neg (by decide +kernel)]; exact ⟨rfl, rfl⟩))
    (fun os started H enc _ => lifted os started H enc)

theorem proved : Rows.LawS930021DBestSaid := over
#print axioms proved
end Go.Proofs.Ymbrdp.lawS930021DBest
