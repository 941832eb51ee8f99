/- The walk of LawS930021JExact. -/
import Derived.Test.YmbrdrJExactP
namespace Go.Proofs.Ymbrdr
open Go.ChangeShapes Go.WideShapes Go.ChangeAt Go.RowKit
set_option linter.unusedVariables false
set_option linter.unusedSimpArgs false
attribute [local go_sem ↓] Go.wp_at_zero Go.wp_at_succ

set_option maxRecDepth 20000 in
set_option maxHeartbeats 8000000 in
theorem jExact_walk (sz : Int) (rs : List (Int × Int)) (rc : Nat) (ro : Option Addr) (w : World) (hsz : 0 ≤ sz ∧ sz ≤ 255) (hrs : rs.length ≤ 9223372036854775807) (hr : ∀ k, k < rs.length → (0 ≤ nthF rs k ∧ nthF rs k ≤ 255) ∧ (0 ≤ nthT rs k ∧ nthT rs k ≤ 255))
    (hsr : Sl w w.heap.size ro rs.length rc 2 (cellsP .u8 rs)) :
    Calls Ydrm.prog 6 #[.int .u8 sz, .slice ro rs.length rc] w fun e w' => e = .returned (.bool true) ∧ Below w.heap.size w w' := by
  have HR : Hid _ := hr
  clear hr
  by_cases hb1 : rs.length > 1024
  · go_enter Ydrm.func6, Ydrm.ntmps6
    go_wp2_with fail
    go_ret
    exact ⟨by simp, Below.refl _ _⟩
  obtain ⟨N, rfl⟩ := Int.eq_ofNat_of_zero_le hsz.1
  have hN1 : N ≤ 255 := by omega
  clear hsz
  go_enter Ydrm.func6, Ydrm.ntmps6
  go_wp2_with fail
  refine (jedges_any N rs rc ro w (by omega) (by omega) HR.out hsr).mono ?_
  rintro e w1 ⟨hbw1, es, rfl, ho, hin, hel⟩
  have HE : Hid (AllIn N es) := hin
  clear hin
  have hb : BelowA w.heap.size w w1 := ⟨hbw1, hbw1.size⟩
  clear hbw1
  go_wp2_with fail
  refine (fromEdges_any N es rs.length _ w1 (by omega) (ho.sl rfl ho.lt)).mono ?_
  rintro e w4 ⟨hb4, ⟨hok, fo, fc, rfl, hsf, hlf⟩ | ⟨hno, rfl⟩⟩
  · have hfl2 := length_insAll es
    have HRN : Hid (Rng N es) := HE.out.rng
    have HRG : Hid (Rng N (insAll es)) := HE.out.rng.ins
    obtain ⟨gs, hgs⟩ : ∃ gs, insAll es = gs := ⟨_, rfl⟩
    rw [hgs] at hfl2 HRG hsf ⊢
    have HGS : Hid _ := hgs
    have hgl2 : gs.length ≤ 1024 := by omega
    clear hgs hfl2
    have hz := ho.lt
    have hz4 := hb4.size
    have hG := gr_new (n := (N : Int)) (t := 33) hsf
    have hb5 : Below w4.heap.size w4 (w4.alloc (.cells #[.int .i64 N, .slice fo gs.length fc] 33)) := (Below.refl _ _).alloc (Nat.le_refl _) _
    have hb45 := hb4.trans (hb5.mono hz4)
    have ho5 := ho.below hb45 hz
    have hse5 : Sl (w4.alloc (.cells #[.int .i64 N, .slice fo gs.length fc] 33)) (w4.alloc (.cells #[.int .i64 N, .slice fo gs.length fc] 33)).heap.size _ es.length rs.length 2 (cellsE es) := ho5.sl rfl ho5.lt
    have hbB := hb.next hb45
    rw [← size_alloc w4 (.cells #[.int .i64 N, .slice fo gs.length fc] 33)] at hG
    clear hok hsf hlf hb4 hb5 hb45 hb ho ho5
    go_wp2_with fail
    generalize w4.alloc (.cells #[.int .i64 N, .slice fo gs.length fc] 33) = W5 at *
    refine (cycle_any N w4.heap.size _ fc gs _ (by omega) (by omega) HRG.out hG).mono ?_
    rintro e w6 ⟨hb6, os, tk, hpe, hor⟩
    have HPE : Hid (Peeled N gs os tk) := hpe
    clear hpe
    obtain ⟨G, hGG⟩ : ∃ G, w4.heap.size = G := ⟨_, rfl⟩
    rw [hGG] at hG ⊢
    have hG6 := (hG.below hb6).mono hb6.size
    have hbC := hbB.next hb6
    have k16 := hG6.c1
    clear hGG hG hse5 hb6 hbB
    rcases hor with ⟨hol, rfl⟩ | ⟨hol, g6, c, v0, rfl, ho6, hg6, hfu, hans⟩
    · have HOL : Hid (os.length = N) := hol
      clear hol
      go_wp2_with fail
      refine (jalive_any N gs fc _ _ (by omega) (by omega) HRG.out hG6.sl).mono ?_
      rintro e w7 ⟨hb7, g7, bs, rfl, ho7, hbl, hal, hg7⟩
      have HBL : Hid (bs.length = N) := hbl
      have HAL : Hid (∀ v : Nat, v < N → (nthB bs v = true ↔ Alive gs N v)) := hal
      clear hbl hal
      have hbD := hbC.next hb7
      clear hb7 hbC
      go_wp2_with fail
      refine (jfirst_len N bs N _ w7 HBL.out.symm (by omega) (ho7.sl HBL.out.symm ho7.lt)).mono ?_
      rintro e w8 ⟨hb8, v, rfl, hv1, hv2, hv3⟩
      have hvN : v = N := first_none HPE.out HRG.out HAL.out HOL.out (by rw [← HBL.out]; exact hv1) (by rw [← HBL.out]; exact hv3)
      subst hvN
      clear hv1 hv2 hv3
      have i1 : ((v : Int) == (v : Int)) = true := by simp
      have qT : ∀ w a n c n' c', (binOp .eql 22 (.slice a n c) (.slice none n' c')).run Ydrm.prog w = .ok (.bool a.isNone) w := fun w a n c n' c' => Lib.run_eql_slice_nil w _ _ a n c n' c' Ydrm.underlying22
      go_wp2_with fail
      go_ret
      exact ⟨by simp, (hbD.next hb8).1⟩
    · have HFU : Hid (FirstU N tk v0) := hfu
      have hv0 := hfu.1
      have hfc := hans.facts
      have hc0 := hfc.pos
      have hcN := hfc.le
      obtain ⟨it, hit⟩ : ∃ it, itr gs (left tk) v0 = it := ⟨_, rfl⟩
      have HIT : Hid (∀ i, 0 ≤ it i ∧ it i < N) := fun i => by
        rw [← hit]
        have := HPE.out.itr HRG.out hfu.inU i
        exact ⟨this.1, this.2.1⟩
      have HI0 : Hid (it 0 = (v0 : Int)) := by show _ = _; rw [← hit]; rfl
      have HIS : Hid (∀ i, bk gs (left tk) (it i) = it (i + 1)) := fun i => by rw [← hit]; rfl
      have HFB : Hid (FCyc (bk gs (left tk)) c) := hfc.back
      have HINJ : Hid (∀ i j, i < j → j < c.length → nth c i ≠ nth c j) := hfc.inj
      have HLST : Hid (∀ x, LeastTo it N N x → x = nth c 0) := fun x hx => by rw [← hit] at hx; exact hfc.leastTo hx
      clear hit hfc hans hol hfu
      go_wp2_with fail
      refine (jalive_any N gs fc _ _ (by omega) (by omega) HRG.out hG6.sl).mono ?_
      rintro e w7 ⟨hb7, g7, bs, rfl, ho7, hbl, hal, hg7⟩
      have HBL : Hid (bs.length = N) := hbl
      have HAL : Hid (∀ v : Nat, v < N → (nthB bs v = true ↔ Alive gs N v)) := hal
      have HBK : Hid (∀ v, bk gs (mark bs) v = bk gs (left tk) v) := bk_marks HPE.out HRG.out hal
      clear hbl hal
      have hbD := hbC.next hb7
      have ho67 := ho6.below hb7 ho6.lt
      have hG7 := (hG6.below hb7).mono hb7.size
      clear hb7 hbC hG6 ho6 k16
      go_wp2_with fail
      refine (jfirst_len N bs N _ w7 HBL.out.symm (by omega) (ho7.sl HBL.out.symm ho7.lt)).mono ?_
      rintro e w8 ⟨hb8, v, rfl, hv1, hv2, hv3⟩
      obtain rfl : v = v0 := first_some HPE.out HRG.out HAL.out HFU.out (by rw [← HBL.out]; exact hv1) hv2 (by rw [← HBL.out]; exact hv3)
      clear hv1 hv2 hv3
      have ho8 := ho67.below hb8 ho67.lt
      have hG8 := (hG7.below hb8).mono hb8.size
      have ho78 := ho7.below hb8 ho7.lt
      have hbE := hbD.next hb8
      have hsb8 : Sl w8 w8.heap.size (some ⟨g7, 0, none⟩) N N 1 (cellsB bs) := ho78.sl HBL.out.symm ho78.lt
      have hsc8 : Sl w8 w8.heap.size (some ⟨g6, 0, none⟩) c.length c.length 1 (cellsI c) := ho8.sl rfl ho8.lt
      have hg6l := ho8.lt
      have hGl := hG8.lt
      clear hb8 hbD hG7 ho67 ho7 ho78
      have i1 : ((v : Int) == (N : Int)) = false := by rw [beq_eq_false_iff_ne]; omega
      have i2 : ((c.length : Int) == 0) = false := by rw [beq_eq_false_iff_ne]; omega
      go_wp2_with fail
      clear i1 i2
      go_loopw [11, 12] (fun v11 v12 wr => ∃ (k : Nat) (x : Int), k ≤ N ∧ v12 = .int .i64 k ∧ v11 = .int .i64 x ∧ Hid (x = it k) ∧ BelowA w8.heap.size w8 wr) (fun _ v12 _ => N - (intOf v12).toNat)
      case atStart => exact ⟨0, (v : Int), by omega, rfl, rfl, HI0.out.symm, BelowA.refl w8⟩
      case round =>
        obtain ⟨k, x, hk, rfl, rfl, HX, hb⟩ := hrel
        have hGr := (hG8.below hb.1).mono hb.2
        have k1 := hGr.c1
        by_cases hlt : k < N
        · go_wp2_with fail
          refine (jback_len N gs bs x fc N _ _ _ HBL.out.symm (by omega) (by omega) HRG.out hGr.sl ((hsb8.below hb.1).mono hb.2)).mono ?_
          rintro e w9 ⟨hb9, rfl⟩
          have HNX : Hid (bk gs (mark bs) x = it (k + 1)) := by show _ = _; rw [HBK.out, HX.out, HIS.out]
          generalize bk gs (mark bs) x = x2 at *
          go_wp2_with fail
          go_roundw
          case rel => exact ⟨k + 1, x2, by omega, by simp, rfl, HNX, hb.next hb9⟩
          case measure => simp [intOf]; omega
        · obtain rfl : N = k := by omega
          clear hlt hk
          have HL0 : Hid (LeastTo it N 0 x) := ⟨⟨0, by omega, HX.out⟩, fun d hd => by rw [show d = 0 by omega, HX.out]; exact Int.le_refl _⟩
          go_wp2_with fail
          go_loopw [11, 13, 14] (fun v11 v13 v14 wr => ∃ (k : Nat) (x l : Int), k ≤ N ∧ v14 = .int .i64 k ∧ v11 = .int .i64 x ∧ v13 = .int .i64 l ∧ Hid (x = it (N + k)) ∧ Hid (LeastTo it N k l) ∧ BelowA w8.heap.size w8 wr) (fun _ _ v14 _ => N - (intOf v14).toNat)
          case atStart => exact ⟨0, x, x, by omega, rfl, rfl, rfl, HX, HL0, hb⟩
          case round =>
            clear HL0 HX hb k1 hGr
            obtain ⟨k, x, l, hk, rfl, rfl, rfl, HX, HLT, hb⟩ := hrel
            have hGr := (hG8.below hb.1).mono hb.2
            have k1 := hGr.c1
            by_cases hlt : k < N
            · go_wp2_with fail
              refine (jback_len N gs bs x fc N _ _ _ HBL.out.symm (by omega) (by omega) HRG.out hGr.sl ((hsb8.below hb.1).mono hb.2)).mono ?_
              rintro e w9 ⟨hb9, rfl⟩
              have HNX : Hid (bk gs (mark bs) x = it (N + (k + 1))) := by show _ = _; rw [HBK.out, HX.out, HIS.out]; rfl
              generalize bk gs (mark bs) x = x2 at *
              have HLS := HLT.out.step
              rw [← HNX.out] at HLS
              by_cases hxl : x2 < l
              · have i1 : decide (x2 < l) = true := by simp; omega
                rw [if_pos hxl] at HLS
                have HLS2 : Hid (LeastTo it N (k + 1) x2) := HLS
                clear HLS
                go_wp2_with fail
                go_roundw
                case rel => exact ⟨k + 1, x2, x2, by omega, by simp, rfl, rfl, HNX, HLS2, hb.next hb9⟩
                case measure => simp [intOf]; omega
              · have i1 : decide (x2 < l) = false := by simp; omega
                rw [if_neg hxl] at HLS
                have HLS2 : Hid (LeastTo it N (k + 1) l) := HLS
                clear HLS
                go_wp2_with fail
                go_roundw
                case rel => exact ⟨k + 1, x2, l, by omega, by simp, rfl, rfl, HNX, HLS2, hb.next hb9⟩
                case measure => simp [intOf]; omega
            · obtain rfl : N = k := by omega
              clear hlt hk
              obtain rfl : l = nth c 0 := HLST.out l HLT.out
              clear HLT HX
              go_wp2_with fail
              go_loopw [15, 16] (fun v15 v16 wr => ∃ (t : Nat) (y : Int), t ≤ c.length ∧ v16 = .int .i64 ((c.length : Int) - 1 - (t : Int)) ∧ v15 = .int .i64 y ∧ Hid (y = backAt c t) ∧ BelowA w8.heap.size w8 wr) (fun _ v16 _ => (intOf v16 + 1).toNat)
              case atStart => exact ⟨0, nth c 0, by omega, by simp, rfl, rfl, hb⟩
              case round =>
                clear hb k1 hGr
                obtain ⟨t, y, ht, rfl, rfl, HY, hb⟩ := hrel
                have hGr := (hG8.below hb.1).mono hb.2
                have k1 := hGr.c1
                by_cases hlt : t < c.length
                · obtain ⟨p, HPE2⟩ : ∃ p : Nat, Hid (p = c.length - 1 - t) := ⟨_, rfl⟩
                  have hpp : (c.length : Int) - 1 - (t : Int) = (p : Int) := by rw [HPE2.out]; omega
                  have hpl : p < c.length := by rw [HPE2.out]; omega
                  have hpp2 : Hid ((c.length : Int) - 1 - ((t + 1 : Nat) : Int) = (p : Int) - 1) := by show _ = _; omega
                  rw [hpp]
                  clear hpp
                  have hp0 : (0 : Int) ≤ (p : Int) := by omega
                  have i0 : decide ((p : Int) ≥ 0) = true := by simp
                  go_wp2_with fail
                  refine (jback_len N gs bs y fc N _ _ _ HBL.out.symm (by omega) (by omega) HRG.out hGr.sl ((hsb8.below hb.1).mono hb.2)).mono ?_
                  rintro e w9 ⟨hb9, rfl⟩
                  obtain ⟨e1, e2⟩ := backAt_succ HFB.out hlt
                  have hnx : bk gs (mark bs) y = nth c p := by rw [HBK.out, HY.out, e1, HPE2.out]
                  have HNX : Hid (nth c p = backAt c (t + 1)) := by show _ = _; rw [e2, HPE2.out]
                  rw [hnx]
                  clear hnx e1 e2 i0
                  have hb9' := hb.next hb9
                  have hoc9 := ho8.below hb9'.1 ho8.lt
                  have c1 := hoc9.cell p hpl
                  have hg69 : g6 < w9.heap.size := by have := hb9'.2; omega
                  have i1 : (nth c p != nth c p) = false := by simp
                  by_cases hp1 : 0 < p
                  · have i2 : decide ((p : Int) > 0) = true := by simp; omega
                    have hne := HINJ.out 0 p hp1 hpl
                    have i3 : (nth c p == nth c 0) = false := by rw [beq_eq_false_iff_ne]; exact fun e => hne e.symm
                    clear hne
                    go_wp2_with fail
                    go_roundw
                    case rel => exact ⟨t + 1, nth c p, by omega, by rw [hpp2.out], rfl, HNX, hb9'⟩
                    case measure => simp [intOf] <;> omega
                  · have i2 : decide ((p : Int) > 0) = false := by simp; omega
                    go_wp2_with fail
                    go_roundw
                    case rel => exact ⟨t + 1, nth c p, by omega, by rw [hpp2.out], rfl, HNX, hb9'⟩
                    case measure => simp [intOf] <;> omega
                · obtain rfl : c.length = t := by omega
                  have hi0 : (c.length : Int) - 1 - (c.length : Int) = -1 := by omega
                  rw [hi0]
                  clear hi0
                  have hyb : y = nth c 0 := by
                    rw [HY.out]; unfold backAt; rw [if_neg (by omega), Nat.sub_self]
                  rw [hyb]
                  clear hyb
                  have i1 : (nth c 0 == nth c 0) = true := by simp
                  go_wp2_with fail
                  go_ret
                  exact ⟨by simp, (hbE.next hb.1).1⟩
  · exact absurd ⟨by omega, by omega, HE.out⟩ hno
end Go.Proofs.Ymbrdr
