/- The walk of LawS930021LReverse. -/
import Derived.Test.YmbrdrLExact
import Derived.Test.YmbrdrGTrans
namespace Go.Proofs.Ymbrdr
open Go.ChangeShapes Go.WideShapes Go.ChangeAt Go.RowKit
set_option linter.unusedVariables false
set_option linter.unusedSimpArgs false
attribute [local go_sem ↓] Go.wp_at_zero Go.wp_at_succ

theorem nth_reverse {xs : List Int} {i : Nat} (h : i < xs.length) : nth xs.reverse i = nth xs (xs.length - 1 - i) := by
  rw [nth_eq (by simpa using h), nth_eq (by omega)]; simp
theorem rev_take {xs : List Int} {k : Nat} (h : k < xs.length) : xs.reverse.take (k + 1) = xs.reverse.take k ++ [nth xs (xs.length - 1 - k)] := by
  rw [List.take_succ_eq_append_getElem (by simpa using h), ← nth_eq (by simpa using h), nth_reverse h]
theorem trE_trE {es : List (Int × Int)} (hs : Srt es) : trE (trE es) = es := srt_ext (srt_trE _) hs (fun x => by obtain ⟨a, b⟩ := x; rw [mem_trE, mem_trE])
theorem cyc_reverse1 {es : List (Int × Int)} {xs : List Int} (h : IsCyc es xs) : IsCyc (trE es) xs.reverse := by
  obtain ⟨h0, h1, h2⟩ := h
  refine ⟨by rw [List.length_reverse]; exact h0, fun i hi => ?_, fun i j hij hj => ?_⟩
  · rw [List.length_reverse] at hi ⊢
    rw [nth_reverse hi, nth_reverse (nxt_lt hi), mem_trE]
    by_cases h : i + 1 < xs.length
    · rw [nxt_mid h]
      have := h1 (xs.length - 1 - (i + 1)) (by omega)
      rw [nxt_mid (by omega), show xs.length - 1 - (i + 1) + 1 = xs.length - 1 - i by omega] at this
      exact this
    · rw [nxt_last hi h]
      have := h1 (xs.length - 1) (by omega)
      rw [nxt_last (by omega) (by omega)] at this
      rw [show xs.length - 1 - i = 0 by omega, Nat.sub_zero]
      exact this
  · rw [List.length_reverse] at hj
    rw [nth_reverse (by omega), nth_reverse hj]
    exact fun e => h2 (xs.length - 1 - j) (xs.length - 1 - i) (by omega) (by omega) e.symm
theorem cyc_reverse {es : List (Int × Int)} {xs : List Int} (hs : Srt es) : IsCyc (trE es) xs.reverse ↔ IsCyc es xs := by
  constructor
  · intro h
    have := cyc_reverse1 h
    rwa [trE_trE hs, List.reverse_reverse] at this
  · exact cyc_reverse1

set_option maxRecDepth 20000 in
set_option maxHeartbeats 8000000 in
theorem lReverse_walk (nr : Int) (rs : List (Int × Int)) (cs : List Int) (fold : Bool) (lay : Int) (rc cc : Nat) (ro co : Option Addr) (w : World) (hnr : 0 ≤ nr ∧ nr ≤ 255) (hlay : 0 ≤ lay ∧ lay ≤ 255) (hrs : rs.length ≤ 9223372036854775807) (hcs : cs.length ≤ 9223372036854775807) (hr : ∀ k, k < rs.length → (0 ≤ nthF rs k ∧ nthF rs k ≤ 255) ∧ (0 ≤ nthT rs k ∧ nthT rs k ≤ 255)) (hc : ∀ k, k < cs.length → -9223372036854775808 ≤ nth cs k ∧ nth cs k ≤ 9223372036854775807)
    (hsr : Sl w w.heap.size ro rs.length rc 2 (cellsP .u8 rs)) (hsc : Sl w w.heap.size co cs.length cc 1 (cellsI cs)) :
    Calls Ydrm.prog 13 #[.int .u8 nr, .slice ro rs.length rc, .slice co cs.length cc, .bool fold, .int .u8 lay] w fun e w' => e = .returned (.bool true) ∧ Below w.heap.size w w' := by
  have HR : Hid _ := hr
  have HC : Hid _ := hc
  clear hr hc
  by_cases hb1 : rs.length > 512
  · go_enter Ydrm.func13, Ydrm.ntmps13
    go_wp2_with fail
    go_ret
    exact ⟨by simp, Below.refl _ _⟩
  by_cases hb2 : cs.length > 512
  · go_enter Ydrm.func13, Ydrm.ntmps13
    go_wp2_with fail
    go_ret
    exact ⟨by simp, Below.refl _ _⟩
  obtain ⟨N, hN, hN1⟩ : ∃ N : Nat, nr % 17 = (N : Int) ∧ N ≤ 16 := ⟨(nr % 17).toNat, by omega, by omega⟩
  have hN2 : nr.tmod 17 = (N : Int) := by rw [Int.tmod_eq_emod_of_nonneg hnr.1]; exact hN
  obtain ⟨L, hL⟩ := Int.eq_ofNat_of_zero_le hlay.1
  have hL2 : L ≤ 255 := by omega
  subst hL
  go_enter Ydrm.func13, Ydrm.ntmps13
  go_wp2_with fail
  refine (llist_any N cs fold cc co w (by omega) (by omega) HC.out hsc).mono ?_
  rintro e w1 ⟨hw1, g1, c1, xs, rfl, ho1, hg1, hxl⟩
  have hz1 := hw1.size
  have hgl1 := ho1.lt
  go_wp2_with fail
  refine (ledges_any N rs rc ro w1 (by omega) (by omega) HR.out ((hsr.below hw1).mono hz1)).mono ?_
  rintro e w2 ⟨hw2, g2, c2, es, rfl, ho2, hei, hg2, hel⟩
  have HEI : Hid _ := hei
  clear hei
  have hz2 := hw2.size
  have hgl2 := ho2.lt
  have o12 := ho1.below hw2 hgl1
  go_wp2_with fail
  refine (llay_any N es xs L g2 c2 c1 _ w2 (by omega) (by omega) (by omega) (by omega) HEI.out ho2 (fun a ha => by cases ha; dsimp only; omega) (o12.sl rfl o12.lt)).mono ?_
  rintro e w3 ⟨hw3, g3, c3, fs, rfl, ho3, hlay3, hg3, hfl⟩
  have HIN : Hid (InE N fs) := hlay3.1
  clear hlay3
  have hz3 := hw3.size
  have o13 : OwnI w3 g1 c1 xs := o12.grown hw3 (fun e => by cases e; omega)
  have hbA : BelowA w.heap.size w w3 := by
    have h2 : BelowA w.heap.size w w2 := BelowA.next ⟨hw1, hz1⟩ hw2
    exact ⟨h2.1.trans (hw3.below (by omega) h2.2), by have := h2.2; omega⟩
  have hgl3 := ho3.lt
  have hgl13 := o13.lt
  clear o12 ho1 ho2 hw1 hw2 hw3
  go_wp2_with fail
  refine (fromEdges_any N fs c3 _ w3 (by omega) (ho3.sl rfl ho3.lt)).mono ?_
  rintro e w4 ⟨hb4, ⟨hok, fo, fc, rfl, hsf, hlf⟩ | ⟨hno, rfl⟩⟩
  · have hfl2 := length_insAll fs
    have HS : Hid (Srt (insAll fs)) := srt_insAll fs
    have HRN : Hid (Rng N (insAll fs)) := InE.rng (fun x hx => HIN.out x (mem_insAll.1 hx))
    have HIFF : Hid (IsCyc (trE (insAll fs)) xs.reverse ↔ IsCyc (insAll fs) xs) := cyc_reverse (srt_insAll fs)
    generalize insAll fs = gs at *
    have hz4 := hb4.size
    have hG := gr_new (n := (N : Int)) (t := 33) hsf
    have hb5 : Below w4.heap.size w4 (w4.alloc (.cells #[.int .i64 N, .slice fo gs.length fc] 33)) := (Below.refl _ _).alloc (Nat.le_refl _) _
    have hb45 := hb4.trans (hb5.mono hz4)
    have hsx := ((o13.below hb45 hgl13).sl rfl (show g1 < (w4.alloc (.cells #[.int .i64 N, .slice fo gs.length fc] 33)).heap.size by rw [size_alloc]; omega))
    have hbB := hbA.next hb45
    rw [← size_alloc w4 (.cells #[.int .i64 N, .slice fo gs.length fc] 33)] at hG
    clear hok hsf hlf hb4 hb5 hb45 hbA
    go_wp2_with fail
    have ho6 := ownI_empty (w4.alloc (.cells #[.int .i64 N, .slice fo gs.length fc] 33))
    have hszW : (w4.alloc (.cells #[.int .i64 N, .slice fo gs.length fc] 33)).heap.size = w4.heap.size + 1 := size_alloc _ _
    generalize w4.alloc (.cells #[.int .i64 N, .slice fo gs.length fc] 33) = W5 at *
    have hbe : BelowA W5.heap.size W5 (W5.alloc (.cells #[] 3)) := (BelowA.refl W5).alloc _
    obtain ⟨G, hGG⟩ : ∃ G, w4.heap.size = G := ⟨_, rfl⟩
    rw [hGG] at hG hszW ⊢
    clear hGG
    have HSW : Hid _ := hszW
    rw [← hszW]
    clear hszW
    generalize W5.alloc (.cells #[] 3) = W6 at *
    go_loopw [16, 17] (fun t i wr => ∃ (k g cap : Nat) (ts : List Int), k ≤ xs.length ∧ i = .int .i64 ((xs.length : Int) - 1 - (k : Int)) ∧ t = .slice (some ⟨g, 0, none⟩) ts.length cap ∧ ts.length ≤ k ∧ Hid (ts = xs.reverse.take k) ∧ OwnI wr g cap ts ∧ W5.heap.size ≤ g ∧ BelowA W5.heap.size W5 wr) (fun _ i _ => (intOf i + 1).toNat)
    case atStart => exact ⟨0, W5.heap.size, 0, [], by omega, by simp, rfl, by simp, by show _ = _; simp, ho6, Nat.le_refl _, hbe⟩
    case round =>
      obtain ⟨k, g, cap, ts, hk, rfl, rfl, htl, HT, ho, hgg, hb⟩ := hrel
      have hz := ho.lt
      by_cases hlt : k < xs.length
      · obtain ⟨p, HP⟩ : ∃ p : Nat, Hid (p = xs.length - 1 - k) := ⟨_, rfl⟩
        have hpp : (xs.length : Int) - 1 - (k : Int) = (p : Int) := by rw [HP.out]; omega
        have hpl : p < xs.length := by rw [HP.out]; omega
        rw [hpp]
        have hpp2 : Hid ((xs.length : Int) - 1 - ((k + 1 : Nat) : Int) = (p : Int) - 1) := by show _ = _; omega
        have hp0 : (0 : Int) ≤ (p : Int) := by omega
        have c1' := (hsx.below hb.1).intsAt (by omega)
        obtain ⟨bb, off, hbB2, hbe2, hc⟩ := c1'
        cases hbe2
        have c1 := hc p hpl
        rw [Nat.zero_add] at c1
        clear hc hpp
        go_wp2_with (at_builtin; go_must (refine wpl_appIg rfl (.tmp 58) (.tmp 63) rfl g cap ts.length ts (nth xs p) (by rfl) rfl (ho.alloc _) wr.heap.size 1 (by rfl) (cell_new1 rfl) (by omega) ?_); intro g' cap' w8 ho8 hg8 hg9)
        have hgg' : W5.heap.size ≤ g' := by
          rcases hg9 with h | h
          · omega
          · rw [h, size_alloc]; have := hb.2; omega
        clear hg9
        go_roundw
        case rel => exact ⟨k + 1, g', cap', _, by omega, by rw [hpp2.out], by simp, by simp; omega, by show _ = _; rw [rev_take hlt, HT.out, HP.out], ho8, hgg', (hb.alloc _).grown hg8 hgg (by rw [size_alloc]; omega)⟩
        case measure => simp [intOf] <;> omega
      · obtain rfl : k = xs.length := by omega
        have hts : ts = xs.reverse := by have := HT.out; rw [List.take_of_length_le (by simp)] at this; exact this
        have HTS : Hid _ := hts
        clear hts
        have hi0 : (xs.length : Int) - 1 - (xs.length : Int) = -1 := by omega
        rw [hi0]
        clear hi0
        have hG7 := (hG.below hb.1).mono hb.2
        have hsx7 := (hsx.below hb.1).mono hb.2
        have hst7 : Sl wr wr.heap.size (some ⟨g, 0, none⟩) ts.length cap 1 (cellsI ts) := ho.sl rfl hz
        have hbC := hbB.next hb.1
        go_wp2_with fail
        refine (transpose_any N G gs fc fo _ (by omega) HRN.out hG7).mono ?_
        rintro e w8 ⟨hb8, tto, tc, rfl, hst, hlt2⟩
        have htl2 := length_trE gs
        have HRT : Hid (Rng N (trE gs)) := InE.rng (fun x hx => by
          obtain ⟨a, b⟩ := x
          have hm := mem_trE.1 hx
          obtain ⟨k, hk, e⟩ := mem_nthE.1 hm
          obtain ⟨⟨a1, a2⟩, b1, b2⟩ := HRN.out k hk
          have e1 : nthF gs k = b := congrArg Prod.fst e
          have e2 : nthT gs k = a := congrArg Prod.snd e
          exact inB_true.2 ⟨by omega, by omega, by omega, by omega⟩)
        have HST : Hid (Srt (trE gs)) := srt_trE gs
        rw [← HTS.out] at HIFF
        generalize trE gs = hs at *
        have hz8 := hb8.size
        have hT := gr_new (n := (N : Int)) (t := 33) hst
        have hb9 : Below w8.heap.size w8 (w8.alloc (.cells #[.int .i64 N, .slice tto hs.length tc] 33)) := (Below.refl _ _).alloc (Nat.le_refl _) _
        have hb89 := hb8.trans (hb9.mono hz8)
        have hG9 := (hG7.below hb89).mono hb89.size
        have hsx9 := (hsx7.below hb89).mono hb89.size
        have hst9 := (hst7.below hb89).mono hb89.size
        have hbD := hbC.next hb89
        rw [← size_alloc w8 (.cells #[.int .i64 N, .slice tto hs.length tc] 33)] at hT
        clear hst hlt2 hb8 hb9 hG7 hsx7 hst7 hbC hb89
        go_wp2_with fail
        generalize w8.alloc (.cells #[.int .i64 N, .slice tto hs.length tc] 33) = W9 at *
        refine (isCycle_any N G _ fc gs xs _ c1 _ (by omega) (by omega) (by omega) HRN.out HS.out hG9 hsx9).mono ?_
        rintro e w10 ⟨hb10, b10, rfl, hi10⟩
        have HI10 : Hid _ := hi10
        clear hi10
        have hT10 := (hT.below hb10).mono hb10.size
        have hst10 := (hst9.below hb10).mono hb10.size
        have hbE := hbD.next hb10
        clear hG9 hT hsx9 hst9 hbD hb10
        go_wp2_with fail
        refine (isCycle_any N w8.heap.size _ tc hs ts _ cap _ (by omega) (by omega) (by omega) HRT.out HST.out hT10 hst10).mono ?_
        rintro e w11 ⟨hb11, b11, rfl, hi11⟩
        obtain rfl : b10 = b11 := by
          have := HI10.out
          rw [Bool.eq_iff_iff, this, hi11, HIFF.out]
        clear hi11
        go_wp2_with fail
        go_ret
        exact ⟨by simp, (hbE.next hb11).1⟩
  · exact absurd ⟨by omega, by omega, fun i hi => HIN.out _ (mem_nthE.2 ⟨i, hi, rfl⟩)⟩ hno
end Go.Proofs.Ymbrdr
