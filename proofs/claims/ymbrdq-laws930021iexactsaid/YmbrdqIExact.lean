/- The walk of LawS930021IExact. -/
import Derived.Test.YmbrdqRotPlain
import Derived.WalkSpells
import Derived.WalkSmall
namespace Go.Proofs.Ymbrdq
open Go.ChangeShapes Go.WideShapes Go.ChangeAt Go.RowKit

set_option maxHeartbeats 1000000 in
theorem iExact_walk (xs : List Int) (cap : Nat) (ao : Option Addr) (w : World) (hs : Sl w w.heap.size ao xs.length cap 1 (cellsI xs)) :
    Calls Ydqm.prog 14 #[.slice ao xs.length cap] w fun e w' => e = .returned (.bool true) ∧ Below w.heap.size w w' := by
  have hle := hs.le
  by_cases hbig : 1024 < xs.length
  · go_enter Ydqm.func14, Ydqm.ntmps14
    go_wp2_with fail
    go_ret
    exact ⟨rfl, Below.refl _ _⟩
  · have hnil := fun (w : World) (a : Option Addr) (l c : Nat) => Lib.run_eql_slice_nil (P := Ydqm.prog) w 39 3 a l c 0 0 Ydqm.underlying39
    by_cases h0 : xs.length = 0
    · have hz0 : ((xs.length : Int) == 0) = true := by simp [h0]
      clear h0
      go_enter Ydqm.func14, Ydqm.ntmps14
      go_wp2_with fail
      refine (rot_any xs cap ao w (by omega) hs).mono ?_
      rintro e w1 ⟨g, rfl, ho1, hg1, hb1⟩
      go_wp2_with fail
      go_ret
      exact ⟨rfl, hb1⟩
    · have hz0 : ((xs.length : Int) == 0) = false := by rw [beq_eq_false_iff_ne]; omega
      go_enter Ydqm.func14, Ydqm.ntmps14
      go_wp2_with fail
      refine (rot_any xs cap ao w (by omega) hs).mono ?_
      rintro e w1 ⟨g, rfl, ho1, hg1, hb1⟩
      have hs1 := hs.below hb1
      obtain ⟨b, off, hbB, rfl, hc⟩ := Sl.intsAt hs1 (by omega)
      have c0 := hc 0 (by omega)
      simp only [Nat.add_zero] at c0
      have HC := show Hid (∀ i, i < xs.length → w1.cell? ⟨b, off + i, none⟩ = some (.int .i64 (nth xs i))) from hc
      clear hc
      go_wp2_with fail
      clear hnil
      go_loop [5, 6] (fun m i => ∃ k : Nat, 1 ≤ k ∧ k ≤ xs.length ∧ i = .int .i64 k ∧ m = .int .i64 (nth xs (minAt xs k))) (fun _ i => xs.length - (intOf i).toNat)
      case atStart => exact ⟨1, by omega, by omega, rfl, by rw [minAt_succ]; simp [minAt]⟩
      case round =>
        obtain ⟨k, hk1, hk, rfl, rfl⟩ := hrel
        by_cases hlt : k < xs.length
        · have c1 := HC.out k hlt
          go_wp2_with fail
          go_round
          case rel =>
            refine ⟨k + 1, by omega, by omega, by go_num, ?_⟩
            rw [minAt_succ]
            by_cases h : nth xs k < nth xs (minAt xs k)
            · rw [if_pos h, if_pos h]
            · rw [if_neg h, if_neg h]
          case measure => simp [intOf]; omega
        · obtain rfl : k = xs.length := by omega
          have hml := minAt_lt xs xs.length (by omega)
          have hfirst := minAt_first xs xs.length
          have hrot := nth_rotMin xs
          have hrl := length_rotMin xs
          generalize minAt xs xs.length = m at *
          have HF := show Hid (∀ j, j < m → nth xs m < nth xs j) from hfirst
          have HR := show Hid (∀ i, i < xs.length → nth (rotMin xs) i = nth xs ((m + i) % xs.length)) from hrot
          have HL := show Hid ((rotMin xs).length = xs.length) from hrl
          clear hfirst hrot hrl
          go_wp2_with fail
          go_loop [7] (fun k => ∃ j : Nat, j ≤ m ∧ k = .int .i64 j) (fun k => m - (intOf k).toNat)
          case atStart => exact ⟨0, by omega, rfl⟩
          case round =>
            obtain ⟨j, hj, rfl⟩ := hrel
            have c1 := HC.out j (by omega)
            by_cases hlt2 : j < m
            · have hne : (nth xs j != nth xs m) = true := by have := HF.out j hlt2; simp; omega
              go_wp2_with fail
              go_round
              case rel => exact ⟨j + 1, by omega, by go_num⟩
              case measure => simp [intOf]; omega
            · obtain rfl : j = m := by omega
              have hne : (nth xs j != nth xs j) = false := by simp
              go_wp2_with fail
              go_loopw [8] (fun i wr => ∃ k q : Nat, k ≤ xs.length ∧ i = .int .i64 k ∧ wr = w1.drewN q) (fun i _ => xs.length - (intOf i).toNat)
              case atStart => exact ⟨0, 0, by omega, rfl, rfl⟩
              case round =>
                obtain ⟨k, q, hk2, rfl, rfl⟩ := hrel
                by_cases hlt3 : k < xs.length
                · have hmod : (j + k) % xs.length < xs.length := Nat.mod_lt _ (by omega)
                  have hmz : ((j : Int) + (k : Int)) % (xs.length : Int) = (((j + k) % xs.length : Nat) : Int) := by rw [Int.natCast_emod, Int.natCast_add]
                  have hm1 : (0 : Int) ≤ ((j : Int) + (k : Int)) % (xs.length : Int) := by omega
                  have hm2 : ((j : Int) + (k : Int)) % (xs.length : Int) < (xs.length : Int) := by omega
                  clear hmz
                  have c2 := HC.out ((j + k) % xs.length) hmod
                  have c3 := ho1.cell k (by rw [HL.out]; exact hlt3)
                  rw [HR.out k hlt3] at c3
                  go_wp2_with fail
                  go_quiet (fail)
                  go_wp2_with fail
                  go_roundw
                  case rel => exact ⟨k + 1, _, by omega, by go_num, rfl⟩
                  case measure => simp [intOf]; omega
                · go_wp2_with fail
                  go_ret
                  exact ⟨rfl, below_drewN hb1 _⟩
end Go.Proofs.Ymbrdq
