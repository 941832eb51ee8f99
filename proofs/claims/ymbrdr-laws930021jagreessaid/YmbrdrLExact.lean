/- The walk of LawS930021LExact. -/
import Derived.Test.YmbrdrLCyc
namespace Go.Proofs.Ymbrdr
open Go.ChangeShapes Go.WideShapes Go.ChangeAt Go.RowKit
set_option linter.unusedVariables false
set_option linter.unusedSimpArgs false
attribute [local go_sem ↓] Go.wp_at_zero Go.wp_at_succ

theorem InE.rng {n : Nat} {es : List (Int × Int)} (h : ∀ x ∈ es, inB n x.1 x.2 = true) : Rng n es := fun k hk => by
  have := inB_true.1 (h (nthE es k) (mem_nthE.2 ⟨k, hk, rfl⟩))
  exact ⟨⟨this.1, this.2.1⟩, this.2.2.1, this.2.2.2⟩

set_option maxRecDepth 20000 in
set_option maxHeartbeats 8000000 in
theorem lExact_walk (nr : Int) (rs : List (Int × Int)) (cs : List Int) (fold : Bool) (lay : Int) (rc cc : Nat) (ro co : Option Addr) (w : World) (hnr : 0 ≤ nr ∧ nr ≤ 255) (hlay : 0 ≤ lay ∧ lay ≤ 255) (hrs : rs.length ≤ 9223372036854775807) (hcs : cs.length ≤ 9223372036854775807) (hr : ∀ k, k < rs.length → (0 ≤ nthF rs k ∧ nthF rs k ≤ 255) ∧ (0 ≤ nthT rs k ∧ nthT rs k ≤ 255)) (hc : ∀ k, k < cs.length → -9223372036854775808 ≤ nth cs k ∧ nth cs k ≤ 9223372036854775807)
    (hsr : Sl w w.heap.size ro rs.length rc 2 (cellsP .u8 rs)) (hsc : Sl w w.heap.size co cs.length cc 1 (cellsI cs)) :
    Calls Ydrm.prog 11 #[.int .u8 nr, .slice ro rs.length rc, .slice co cs.length cc, .bool fold, .int .u8 lay] w fun e w' => e = .returned (.bool true) ∧ Below w.heap.size w w' := by
  have HR : Hid _ := hr
  have HC : Hid _ := hc
  clear hr hc
  by_cases hb1 : rs.length > 512
  · go_enter Ydrm.func11, Ydrm.ntmps11
    go_wp2_with fail
    go_ret
    exact ⟨by simp, Below.refl _ _⟩
  by_cases hb2 : cs.length > 512
  · go_enter Ydrm.func11, Ydrm.ntmps11
    go_wp2_with fail
    go_ret
    exact ⟨by simp, Below.refl _ _⟩
  obtain ⟨N, hN, hN1⟩ : ∃ N : Nat, nr % 17 = (N : Int) ∧ N ≤ 16 := ⟨(nr % 17).toNat, by omega, by omega⟩
  have hN2 : nr.tmod 17 = (N : Int) := by rw [Int.tmod_eq_emod_of_nonneg hnr.1]; exact hN
  obtain ⟨L, hL⟩ := Int.eq_ofNat_of_zero_le hlay.1
  have hL2 : L ≤ 255 := by omega
  subst hL
  go_enter Ydrm.func11, Ydrm.ntmps11
  go_wp2_with fail
  refine (llist_any N cs fold cc co w (by omega) (by omega) HC.out hsc).mono ?_
  rintro e w1 ⟨hw1, g1, c1, xs, rfl, ho1, hg1, hxl⟩
  have hz1 := hw1.size
  have hgl1 := ho1.lt
  go_wp2_with fail
  refine (ledges_any N rs rc ro w1 (by omega) (by omega) HR.out ((hsr.below hw1).mono hz1)).mono ?_
  rintro e w2 ⟨hw2, g2, c2, es, rfl, ho2, hei, hg2, hel⟩
  have HEI : Hid _ := hei
  clear hei
  have hz2 := hw2.size
  have hgl2 := ho2.lt
  have o12 := ho1.below hw2 hgl1
  go_wp2_with fail
  refine (llay_any N es xs L g2 c2 c1 _ w2 (by omega) (by omega) (by omega) (by omega) HEI.out ho2 (fun a ha => by cases ha; dsimp only; omega) (o12.sl rfl o12.lt)).mono ?_
  rintro e w3 ⟨hw3, g3, c3, fs, rfl, ho3, hlay3, hg3, hfl⟩
  have HIN : Hid (InE N fs) := hlay3.1
  clear hlay3
  have hz3 := hw3.size
  have o13 : OwnI w3 g1 c1 xs := o12.grown hw3 (fun e => by cases e; omega)
  have hbA : BelowA w.heap.size w w3 := by
    have h2 : BelowA w.heap.size w w2 := BelowA.next ⟨hw1, hz1⟩ hw2
    exact ⟨h2.1.trans (hw3.below (by omega) h2.2), by have := h2.2; omega⟩
  have hgl3 := ho3.lt
  have hgl13 := o13.lt
  clear o12 ho1 ho2 hw1 hw2 hw3
  go_wp2_with fail
  refine (fromEdges_any N fs c3 _ w3 (by omega) (ho3.sl rfl ho3.lt)).mono ?_
  rintro e w4 ⟨hb4, ⟨hok, fo, fc, rfl, hsf, hlf⟩ | ⟨hno, rfl⟩⟩
  · have hfl2 := length_insAll fs
    have HS : Hid (Srt (insAll fs)) := srt_insAll fs
    have HRN : Hid (Rng N (insAll fs)) := InE.rng (fun x hx => HIN.out x (mem_insAll.1 hx))
    have HIFF : Hid (IsCyc (insAll fs) xs ↔ LCyc fs xs) := by show _ ↔ _; rw [lcyc_iff]; exact isCyc_mem (fun x => mem_insAll)
    generalize insAll fs = gs at *
    have hz4 := hb4.size
    have hG := gr_new (n := (N : Int)) (t := 33) hsf
    have hb5 : Below w4.heap.size w4 (w4.alloc (.cells #[.int .i64 N, .slice fo gs.length fc] 33)) := (Below.refl _ _).alloc (Nat.le_refl _) _
    have hb45 := hb4.trans (hb5.mono hz4)
    have hsx := ((o13.below hb45 hgl13).sl rfl (show g1 < (w4.alloc (.cells #[.int .i64 N, .slice fo gs.length fc] 33)).heap.size by rw [size_alloc]; omega))
    have hsfs := ((ho3.below hb45 hgl3).sl rfl (show g3 < (w4.alloc (.cells #[.int .i64 N, .slice fo gs.length fc] 33)).heap.size by rw [size_alloc]; omega))
    have hbB := hbA.next hb45
    rw [← size_alloc w4 (.cells #[.int .i64 N, .slice fo gs.length fc] 33)] at hG
    clear hok hsf hlf hb4 hb5 hb45 hbA
    go_wp2_with fail
    generalize w4.alloc (.cells #[.int .i64 N, .slice fo gs.length fc] 33) = W5 at *
    refine (isCycle_any N w4.heap.size _ fc gs xs _ c1 _ (by omega) (by omega) (by omega) HRN.out HS.out hG hsx).mono ?_
    rintro e w6 ⟨hb6, b6, rfl, hi6⟩
    have HI6 : Hid _ := hi6
    clear hi6
    go_wp2_with fail
    refine (lcycle_any fs xs c3 c1 _ _ _ (by omega) (by omega) ((hsfs.below hb6).mono hb6.size) ((hsx.below hb6).mono hb6.size)).mono ?_
    rintro e w7 ⟨hb7, b7, rfl, hi7⟩
    obtain rfl : b6 = b7 := by
      have := HI6.out
      rw [Bool.eq_iff_iff, this, hi7, HIFF.out]
    clear hi7
    go_wp2_with fail
    go_ret
    exact ⟨by simp, ((hbB.next hb6).next hb7).1⟩
  · exact absurd ⟨by omega, by omega, fun i hi => HIN.out _ (mem_nthE.2 ⟨i, hi, rfl⟩)⟩ hno
end Go.Proofs.Ymbrdr
