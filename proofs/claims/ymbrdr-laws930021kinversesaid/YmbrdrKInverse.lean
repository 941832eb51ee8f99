/- The walk of LawS930021KInverse. -/
import Derived.Test.YmbrdrKParts
import Derived.WalkSpells
namespace Go.Proofs.Ymbrdr
open Go.ChangeShapes Go.WideShapes Go.ChangeAt Go.RowKit
set_option linter.unusedVariables false
set_option linter.unusedSimpArgs false

set_option maxHeartbeats 2000000 in
theorem kInverse_walk (rs : List Int) (cap : Nat) (ao : Option Addr) (w : World) (hr : ∀ x ∈ rs, 0 ≤ x ∧ x ≤ 18446744073709551615) (hs : Sl w w.heap.size ao rs.length cap 1 (cellsK .u64 rs)) :
    Calls Ydrm.prog 9 #[.slice ao rs.length cap] w fun e w' => e = .returned (.bool true) ∧ Below w.heap.size w w' := by
  by_cases hbig : 1024 < rs.length
  · clear hr
    go_enter Ydrm.func9, Ydrm.ntmps9
    go_wp2_with fail
    go_ret
    exact ⟨rfl, Below.refl _ _⟩
  have HR : Hid (∀ x ∈ rs, 0 ≤ x ∧ x ≤ 18446744073709551615) := hr
  clear hr
  obtain ⟨N, hN⟩ : ∃ N, rs.length = N := ⟨_, rfl⟩
  have hne : ((N : Int) != (N : Int)) = false := by simp
  have HN : Hid (rs.length = N) := hN
  have hb0 : N ≤ 1024 := by omega
  go_enter Ydrm.func9, Ydrm.ntmps9
  rw [hN] at hs hbig ⊢
  clear hN
  go_wp2_with fail
  have hk := kperm_any rs cap ao w (by rw [HN.out]; omega) HR.out (by rw [HN.out]; exact hs)
  rw [HN.out] at hk
  refine hk.mono ?_
  clear hk
  rintro e w1 ⟨g0, ps, rfl, ho1, hl1, hp1, hg0, hb1⟩
  have HL1 : Hid (N = ps.length) := hl1.symm
  have HP1 : Hid (IsPerm N ps) := hp1
  clear hl1 hp1
  go_wp2_with fail
  refine (pos_yes N ps N N _ w1 HL1.out (by omega) (ho1.sl HL1.out ho1.lt) HP1.out).mono ?_
  rintro e w2 ⟨hb2, g1, qs, rfl, ho2, hg1, hpos⟩
  have HQ : Hid (PosOf ps qs) := hpos
  clear hpos
  have hp2 := ho1.below hb2 ho1.lt
  have hlt1 := ho1.lt
  clear ho1
  have hb12 := hb1.trans (hb2.mono hb1.size)
  go_wp2_with fail
  go_loop [7] (fun i => ∃ k : Nat, k ≤ N ∧ i = .int .i64 k) (fun i => N - (intOf i).toNat)
  case atStart => exact ⟨0, by omega, rfl⟩
  case round =>
    obtain ⟨k, hk, rfl⟩ := hrel
    by_cases hlt : k < N
    · have c1 := hp2.cell k (by rw [← HL1.out]; exact hlt)
      obtain ⟨p1, p2, p3⟩ := HQ.out.2 k (by rw [← HL1.out]; exact hlt)
      rw [← HL1.out] at p2
      obtain ⟨m, hm⟩ := Int.eq_ofNat_of_zero_le p1
      rw [hm] at c1 p1 p2 p3
      simp only [Int.toNat_natCast] at p3
      have c2 := ho2.cell m (by rw [HQ.out.1, ← HL1.out]; omega)
      rw [p3] at c2
      clear p3 hm
      have c3 := ho2.cell k (by rw [HQ.out.1, ← HL1.out]; exact hlt)
      obtain ⟨r1, r2, r3⟩ := HQ.out.symm.2 k (by rw [HQ.out.1, ← HL1.out]; exact hlt)
      rw [HQ.out.1, ← HL1.out] at r2
      obtain ⟨m2, hm2⟩ := Int.eq_ofNat_of_zero_le r1
      rw [hm2] at c3 r1 r2 r3
      simp only [Int.toNat_natCast] at r3
      have c4 := hp2.cell m2 (by rw [← HL1.out]; omega)
      rw [r3] at c4
      clear r3 hm2
      have hkk : ((k : Int) != (k : Int)) = false := by simp
      go_wp2_with fail
      go_round
      case rel => exact ⟨k + 1, by omega, by go_num⟩
      case measure => simp [intOf]; omega
    · go_wp2_with fail
      refine (pos_yes N qs N N _ w2 (by rw [HQ.out.1]; exact HL1.out) (by omega) (ho2.sl (by rw [HQ.out.1]; exact HL1.out) ho2.lt) (by have := HQ.out.symm.perm; rw [HQ.out.1, ← HL1.out] at this; exact this)).mono ?_
      rintro e w3 ⟨hb3, g2, bs, rfl, ho3, hg2, hpos⟩
      obtain rfl : bs = ps := hpos.uniq HQ.out.symm
      clear hpos
      have hp3 := hp2.below hb3 hp2.lt
      have hb13 := hb12.trans (hb3.mono hb12.size)
      go_wp2_with fail
      go_loopw [11] (fun i wr => ∃ k q : Nat, k ≤ N ∧ i = .int .i64 k ∧ wr = w3.drewN q) (fun i _ => N - (intOf i).toNat)
      case atStart => exact ⟨0, 0, by omega, rfl, rfl⟩
      case round =>
        obtain ⟨k, q, hk2, rfl, rfl⟩ := hrel
        by_cases hlt3 : k < N
        · have c1 := ho3.cell k (by rw [← HL1.out]; exact hlt3)
          have c2 := hp3.cell k (by rw [← HL1.out]; exact hlt3)
          have hkk : (nth bs k != nth bs k) = false := by simp
          go_wp2_with fail
          go_quiet (fail)
          go_wp2_with fail
          go_roundw
          case rel => exact ⟨k + 1, _, by omega, by go_num, rfl⟩
          case measure => simp [intOf]; omega
        · go_wp2_with fail
          go_ret
          exact ⟨rfl, below_drewN hb13 _⟩
end Go.Proofs.Ymbrdr
