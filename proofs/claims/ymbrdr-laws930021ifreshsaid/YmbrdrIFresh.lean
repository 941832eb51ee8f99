/- The walk of LawS930021IFresh. -/
import Derived.Test.YmbrdrRotPlain
import Derived.Test.YmbrdrISame
import Derived.WalkSpells
namespace Go.Proofs.Ymbrdr
open Go.ChangeShapes Go.WideShapes Go.ChangeAt Go.RowKit
set_option linter.unusedVariables false
set_option linter.unusedSimpArgs false

set_option maxHeartbeats 1000000 in
theorem iFresh_walk (xs : List Int) (cap : Nat) (ao : Option Addr) (w : World) (hs : Sl w w.heap.size ao xs.length cap 1 (cellsI xs)) :
    Calls Ydrm.prog 3 #[.slice ao xs.length cap] w fun e w' => e = .returned (.bool true) ∧ Below w.heap.size w w' := by
  have hle := hs.le
  by_cases hbig : 1024 < xs.length
  · go_enter Ydrm.func3, Ydrm.ntmps3
    go_wp2_with fail
    go_ret
    exact ⟨rfl, Below.refl _ _⟩
  · have hnil := fun (w : World) (a : Option Addr) (l c : Nat) => run_neq_slice_nil_any (P := Ydrm.prog) w 22 3 a l c 0 0 Ydrm.underlying22
    have hrl := length_rotMin xs
    have HL : Hid ((rotMin xs).length = xs.length) := hrl
    have hsame1 : sameI xs xs = true := by simp [sameI]
    have hsame2 : sameI (rotMin (rotMin xs)) (rotMin xs) = true := by simp [sameI, rotMin_idem]
    clear hrl
    go_enter Ydrm.func3, Ydrm.ntmps3
    go_wp2_with (first
      | (at_make; refine wpl_makeI rfl _ _ rfl xs.length _ _ (by rfl) (by rfl) rfl rfl (by omega) ?_; intro w1 ho1 hb1 hz1)
      | (refine wpl_copyI rfl (.tmp 13) (.tmp 14) rfl w.heap.size (List.replicate xs.length 0) xs w.heap.size cap ao xs.length (by simp) (by simp) (by rfl) (by rfl) (by simpa using ho1) (hs.below hb1) (Nat.le_refl _) ?_; intro w2 ho2 hb2; simp only [List.length_replicate] at ho2))
    have hb12 := hb1.trans hb2
    have hl2 := ho2.lt
    refine (rot_len xs xs.length xs.length _ w2 rfl (by omega) (ho2.sl rfl hl2)).mono ?_
    rintro e w3 ⟨g1, rfl, ho3, hg1, hb3⟩
    have hi3 := ho2.below hb3 hl2
    have hb13 := hb12.trans (hb3.mono (Nat.le_of_lt hl2))
    clear ho1 hz1 ho2 hb1 hb2 hb12
    go_wp2_with fail
    refine (isame_len xs xs _ _ _ _ _ _ w3 rfl rfl (by omega) (by omega) (hi3.sl rfl hi3.lt) ((hs.below hb13).mono hb13.size)).mono ?_
    rintro e w4 ⟨rfl, q4, rfl⟩
    go_wp2_with fail
    refine (rot_len (rotMin xs) xs.length xs.length _ (w3.drewN q4) HL.out.symm (by omega) ((ho3.drewN q4).sl HL.out.symm ho3.lt)).mono ?_
    rintro e w5 ⟨g2, rfl, ho5, hg2, hb5⟩
    have hi5 := (hi3.drewN q4).below hb5 hi3.lt
    have ho5' := (ho3.drewN q4).below hb5 ho3.lt
    have hb15 := (below_drewN hb13 q4).trans (hb5.mono hb13.size)
    clear hi3 ho3
    go_wp2_with fail
    refine (isame_len (rotMin (rotMin xs)) (rotMin xs) _ _ _ _ _ _ w5 (by rw [length_rotMin, HL.out]) HL.out.symm (by omega) (by omega) (ho5.sl (by rw [length_rotMin, HL.out]) ho5.lt) (ho5'.sl HL.out.symm ho5'.lt)).mono ?_
    rintro e w6 ⟨rfl, q6, rfl⟩
    go_wp2_with fail
    have hlt1 := ho5'.lt
    go_loopw [6] (fun i wr => ∃ (k : Nat) (zs : List Int), k ≤ xs.length ∧ i = .int .i64 k ∧ Hid (zs.length = xs.length) ∧ OwnI wr g1 xs.length zs ∧ Below g1 w5 wr) (fun i _ => xs.length - (intOf i).toNat)
    case atStart => exact ⟨0, rotMin xs, by omega, rfl, HL, ho5', below_drewN (Below.refl _ _) _⟩
    case round =>
      obtain ⟨k, zs, hk, rfl, HZ, ho7, hb7⟩ := hrel
      by_cases hlt : k < xs.length
      · have c1 := ho7.cell k (by rw [HZ.out]; exact hlt)
        have f1 := ho7.frozen k
        go_wp2_with fail
        go_roundw
        case rel => exact ⟨k + 1, zs.set k _, by omega, by go_num, by show (zs.set k _).length = _; rw [List.length_set]; exact HZ.out, ho7.set k _, hb7.setCell (Nat.le_refl _) _⟩
        case measure => simp [intOf]; omega
      · have hi7 := hi5.below hb7 (by omega)
        have hb17 := hb15.trans (hb7.mono (by omega))
        go_wp2_with fail
        refine (isame_len xs xs _ _ _ _ _ _ wr rfl rfl (by omega) (by omega) (hi7.sl rfl hi7.lt) ((hs.below hb17).mono hb17.size)).mono ?_
        rintro e w8 ⟨rfl, q8, rfl⟩
        go_wp2_with fail
        go_ret
        exact ⟨by simp, below_drewN hb17 _⟩
end Go.Proofs.Ymbrdr
