/- The walk of LawS930021KSpoil. -/
import Derived.Test.YmbrdrKParts
import Derived.WalkSpells
import Derived.Deep.DeepCutAuto
namespace Go.Proofs.Ymbrdr
open Go.ChangeShapes Go.WideShapes Go.ChangeAt Go.RowKit
set_option linter.unusedVariables false
set_option linter.unusedSimpArgs false

theorem set_nth (xs : List Int) (k : Nat) (hk : k < xs.length) : xs.set k (nth xs k) = xs := by
  rw [nth_eq hk]; simp

set_option maxHeartbeats 2000000 in
theorem kSpoil_walk (rs : List Int) (at_ x : Int) (wild : Bool) (cap : Nat) (ao : Option Addr) (w : World) (hr : ∀ x ∈ rs, 0 ≤ x ∧ x ≤ 18446744073709551615) (hat : 0 ≤ at_ ∧ at_ ≤ 18446744073709551615) (hs : Sl w w.heap.size ao rs.length cap 1 (cellsK .u64 rs)) :
    Calls Ydrm.prog 10 #[.slice ao rs.length cap, .int .u64 at_, .int .i64 x, .bool wild] w fun e w' => e = .returned (.bool true) ∧ Below w.heap.size w w' := by
  by_cases hbig : 1024 < rs.length
  · clear hr
    go_enter Ydrm.func10, Ydrm.ntmps10
    go_wp2_with fail
    go_ret
    exact ⟨rfl, Below.refl _ _⟩
  have HR : Hid (∀ x ∈ rs, 0 ≤ x ∧ x ≤ 18446744073709551615) := hr
  clear hr
  obtain ⟨N, hN⟩ : ∃ N, rs.length = N := ⟨_, rfl⟩
  have hne : ((N : Int) == (N : Int)) = true := by simp
  have HN : Hid (rs.length = N) := hN
  have hb0 : N ≤ 1024 := by omega
  have hnil := fun (w : World) (a : Option Addr) (l c : Nat) => Lib.run_eql_slice_nil (P := Ydrm.prog) w 22 3 a l c 0 0 Ydrm.underlying22
  by_cases h0 : N = 0
  · have hz : ((N : Int) == 0) = true := by simp [h0]
    clear h0
    go_enter Ydrm.func10, Ydrm.ntmps10
    rw [hN] at hs hbig ⊢
    clear hN
    go_wp2_with fail
    go_ret
    exact ⟨rfl, Below.refl _ _⟩
  have hz : ((N : Int) == 0) = false := by rw [beq_eq_false_iff_ne]; omega
  have hpos : 0 < N := by omega
  go_enter Ydrm.func10, Ydrm.ntmps10
  rw [hN] at hs hbig ⊢
  clear hN
  go_wp2_with fail
  have hk := kperm_any rs cap ao w (by rw [HN.out]; omega) HR.out (by rw [HN.out]; exact hs)
  rw [HN.out] at hk
  refine hk.mono ?_
  clear hk
  rintro e w1 ⟨g0, ps, rfl, ho1, hl1, hp1, hg0, hb1⟩
  have HL1 : Hid (N = ps.length) := hl1.symm
  have HP1 : Hid (IsPerm N ps) := hp1
  clear hl1 hp1
  obtain ⟨k, hk, hkN⟩ : ∃ k : Nat, at_ % (N : Int) = (k : Int) ∧ k < N := by
    have h1 := Int.emod_nonneg at_ (show (N : Int) ≠ 0 by omega)
    have h2 := Int.emod_lt_of_pos at_ (show 0 < (N : Int) by omega)
    exact ⟨(at_ % (N : Int)).toNat, by omega, by omega⟩
  go_upto_if 33 with fail
  go_cut [2] (fun t w' => (∃ X : Int, t = .int .i64 X) ∧ w1 = w')
  case first =>
    cases wild
    · go_wp2_with fail
      go_meet
      case rel => exact ⟨⟨_, rfl⟩, rfl⟩
    · go_wp2_with fail
      go_meet
      case rel => exact ⟨⟨_, rfl⟩, rfl⟩
  case rest =>
    obtain ⟨⟨X, rfl⟩, rfl⟩ := hcut
    have c1 := ho1.cell k (by rw [← HL1.out]; exact hkN)
    have f1 := ho1.frozen k
    have ho2 := ho1.set k X
    have hb2 : Below w.heap.size w (w1.setCell ⟨g0, k, none⟩ (.int .i64 X)) := hb1.setCell hg0 _
    have hlt2 := ho2.lt
    have HO2 : Hid (OwnI (w1.setCell ⟨g0, k, none⟩ (.int .i64 X)) g0 N (ps.set k X)) := ho2
    have HB2 : Hid _ := hb2
    have HLT2 : Hid _ := hlt2
    clear ho2 hb2 hlt2
    by_cases hX : X = nth ps k
    · have hXb : (X != nth ps k) = false := by simp [hX]
      have HX : Hid (X = nth ps k) := hX
      clear hX
      have hset : ps.set k X = ps := by rw [HX.out]; exact set_nth ps k (by rw [← HL1.out]; exact hkN)
      have HS : Hid (ps.set k X = ps) := hset
      clear hset
      go_wp2_with fail
      refine (pos_yes N (ps.set k X) N N _ _ (by rw [HS.out]; exact HL1.out) (by omega) (HO2.out.sl (by rw [HS.out]; exact HL1.out) HLT2.out) (by rw [HS.out]; exact HP1.out)).mono ?_
      rintro e w3 ⟨hb3, g1, qs, rfl, ho3, hg1, hpos3⟩
      rw [HS.out] at hpos3
      have hbf := HB2.out.trans (hb3.mono HB2.out.size)
      obtain ⟨p1, p2, p3⟩ := hpos3.2 k (by rw [← HL1.out]; exact hkN)
      have hql := hpos3.1
      rw [← HX.out, ← HL1.out] at p2
      rw [← HX.out] at p1 p3
      obtain ⟨m, hm⟩ := Int.eq_ofNat_of_zero_le p1
      subst hm
      simp only [Int.toNat_natCast] at p3
      have c4 := ho3.cell m (by rw [hql, ← HL1.out]; omega)
      rw [p3] at c4
      clear p3 hpos3 hql
      have hkk : ((k : Int) == (k : Int)) = true := by simp
      go_wp2_with fail
      go_ret
      exact ⟨rfl, hbf⟩
    · have hXb : (X != nth ps k) = true := by simp [hX]
      have HX : Hid (¬ X = nth ps k) := hX
      clear hX
      go_wp2_with fail
      refine (pos_no N (ps.set k X) N N _ _ (by simp; exact HL1.out) (by omega) (HO2.out.sl (by simp; exact HL1.out) HLT2.out) (by
        have h1 := HP1.out
        rw [HL1.out] at h1 ⊢
        exact perm_set h1 (by rw [← HL1.out]; exact hkN) HX.out)).mono ?_
      rintro e w3 ⟨hb3, rfl⟩
      have hbf := HB2.out.trans (hb3.mono HB2.out.size)
      go_wp2_with fail
      go_ret
      exact ⟨rfl, hbf⟩
end Go.Proofs.Ymbrdr
