/- The walks of LawS930021CExact and LawS930021CBounds. -/
import Derived.Test.YmbrdpCMeets
namespace Go.Proofs.Ymbrdp
open Go.ChangeShapes Go.WideShapes Go.ChangeAt Go.RowKit
set_option linter.unusedVariables false
set_option linter.unusedSimpArgs false

set_option maxRecDepth 20000 in
set_option maxHeartbeats 4000000 in
theorem cExact_walk (n : Int) (es : List (Int × Int)) (ec : Nat) (eo : Option Addr) (w : World) (hes : es.length ≤ 9223372036854775807) (hs : Sl w w.heap.size eo es.length ec 2 (cellsE es)) :
    Calls Ydpm.prog 9 #[.int .i64 n, .slice eo es.length ec] w fun e w' => e = .returned (.bool true) ∧ Below w.heap.size w w' := by
  by_cases hbig : es.length > 1024
  · go_enter Ydpm.func9, Ydpm.ntmps9
    go_wp2_with fail
    go_ret
    exact ⟨by simp, Below.refl _ _⟩
  · go_enter Ydpm.func9, Ydpm.ntmps9
    go_wp2_with fail
    refine (cmeets_any n es ec eo w (by omega) hs).mono ?_
    rintro e w' ⟨rfl, hb⟩
    go_wp2_with fail
    go_ret
    exact ⟨by simp, hb⟩

set_option maxRecDepth 20000 in
set_option maxHeartbeats 4000000 in
theorem cBounds_walk (high : Bool) (d : Int) (rs : List (Int × Int)) (ec : Nat) (eo : Option Addr) (w : World) (hd : -128 ≤ d ∧ d ≤ 127) (hrs : rs.length ≤ 9223372036854775807) (hr : ∀ k, k < rs.length → (0 ≤ nthF rs k ∧ nthF rs k ≤ 65535) ∧ (0 ≤ nthT rs k ∧ nthT rs k ≤ 65535)) (hs : Sl w w.heap.size eo rs.length ec 2 (cellsP .u16 rs)) :
    Calls Ydpm.prog 10 #[.bool high, .int .i8 d, .slice eo rs.length ec] w fun e w' => e = .returned (.bool true) ∧ Below w.heap.size w w' := by
  have HR : Hid _ := hr
  clear hr
  obtain ⟨d1, d2⟩ := hd
  by_cases hbig : rs.length > 1024
  · go_enter Ydpm.func10, Ydpm.ntmps10
    go_wp2_with fail
    go_ret
    exact ⟨by simp, Below.refl _ _⟩
  · obtain ⟨N, HN, hN1, hN2⟩ : ∃ N : Int, Hid (N = if high = true then 4096 + d else d) ∧ -128 ≤ N ∧ N ≤ 4223 := ⟨_, rfl, by split <;> omega, by split <;> omega⟩
    go_enter Ydpm.func10, Ydpm.ntmps10
    go_upto_if 17 with fail
    go_cut [7] (fun t w' => t = .int .i64 N ∧ w = w')
    case first =>
      cases high
      · go_wp2_with fail
        go_meet
        case rel => exact ⟨by rw [HN.out]; simp, rfl⟩
      · go_wp2_with fail
        go_meet
        case rel => exact ⟨by rw [HN.out]; simp, rfl⟩
    case rest =>
    obtain ⟨rfl, rfl⟩ := hcut
    go_wp2_with (at_make; refine wpl_makeE0 rfl _ _ rfl rs.length _ (by rfl) (by rfl) (by omega) (by omega) ?_; intro w1 ho1 hb1 hz1)
    go_loopw [8, 9] (fun v i wr => ∃ (k : Nat) (os : List (Int × Int)), k ≤ rs.length ∧ i = .int .i64 k ∧ v = .slice (some ⟨w.heap.size, 0, none⟩) os.length rs.length ∧ os.length ≤ k ∧ OwnE wr w.heap.size rs.length os ∧ BelowA w.heap.size w wr) (fun _ i _ => rs.length - (intOf i).toNat)
    case atStart => exact ⟨0, [], by omega, rfl, rfl, by simp, ho1, hb1, by omega⟩
    case round =>
      obtain ⟨k, os, hk, rfl, rfl, hol, ho, hb⟩ := hrel
      have hz := ho.lt
      by_cases hlt : k < rs.length
      · obtain ⟨bb, off, hbB, rfl, hc⟩ := Sl.pairsAt (hs.below hb.1) (by omega)
        obtain ⟨c1, c2⟩ := hc k hlt
        obtain ⟨⟨q1, q2⟩, q3, q4⟩ := HR.out k hlt
        clear hc
        by_cases hp : 0 < N
        · have i1 : decide (N > 0) = true := by simp; omega
          have hn0 : ¬ N = 0 := by omega
          have t1 : (nthF rs k).tmod N = nthF rs k % N := Int.tmod_eq_emod_of_nonneg q1
          have t2 : (nthT rs k).tmod N = nthT rs k % N := Int.tmod_eq_emod_of_nonneg q3
          have m1 := Int.emod_nonneg (nthF rs k) hn0
          have m2 := Int.emod_lt_of_pos (nthF rs k) hp
          have m3 := Int.emod_nonneg (nthT rs k) hn0
          have m4 := Int.emod_lt_of_pos (nthT rs k) hp
          have v1 : IntKind.i64.wrap (nthF rs k % N) = nthF rs k % N := by rw [IntKind.wrap_i64]; omega
          have v2 : IntKind.i64.wrap (nthT rs k % N) = nthT rs k % N := by rw [IntKind.wrap_i64]; omega
          clear hp m1 m2 m3 m4
          go_wp2_with (at_builtin; go_must (refine wpl_appE rfl (.tmp 50) (.tmp 54) rfl w.heap.size rs.length os.length os (nthF rs k % N, nthT rs k % N) (by rfl) rfl (ho.alloc _) wr.heap.size 1 (by rfl) (cell_new2 rfl) (by omega) ?_); intro w8 ho8 hg8)
          go_roundw
          case rel => exact ⟨k + 1, _, by omega, by simp, by simp, by simp; omega, ho8, (hb.alloc _).grown hg8 (Nat.le_refl _) (by rw [size_alloc]; omega)⟩
          case measure => simp [intOf]; omega
        · have i1 : decide (N > 0) = false := by simp; omega
          clear hp
          go_wp2_with (at_builtin; go_must (refine wpl_appE rfl (.tmp 50) (.tmp 54) rfl w.heap.size rs.length os.length os (nthF rs k, nthT rs k) (by rfl) rfl (ho.alloc _) wr.heap.size 1 (by rfl) (cell_new2 rfl) (by omega) ?_); intro w8 ho8 hg8)
          go_roundw
          case rel => exact ⟨k + 1, _, by omega, by simp, by simp, by simp; omega, ho8, (hb.alloc _).grown hg8 (Nat.le_refl _) (by rw [size_alloc]; omega)⟩
          case measure => simp [intOf]; omega
      · go_wp2_with fail
        refine (cmeets_any N os rs.length _ _ (by omega) (ho.sl rfl hz)).mono ?_
        rintro e w' ⟨rfl, hb9⟩
        go_wp2_with fail
        go_ret
        exact ⟨by simp, (hb.next hb9).1⟩
end Go.Proofs.Ymbrdp
