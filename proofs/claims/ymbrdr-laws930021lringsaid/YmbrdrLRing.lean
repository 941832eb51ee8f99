/- The walk of LawS930021LRing. -/
import Derived.Test.YmbrdrLRingP
import Derived.Test.YmbrdrLExact
namespace Go.Proofs.Ymbrdr
open Go.ChangeShapes Go.WideShapes Go.ChangeAt Go.RowKit
set_option linter.unusedVariables false
set_option linter.unusedSimpArgs false
attribute [local go_sem ↓] Go.wp_at_zero Go.wp_at_succ

set_option maxRecDepth 20000 in
set_option maxHeartbeats 8000000 in
theorem lRing_walk (st sp sz tn ct : Int) (rs : List (Int × Int)) (rc : Nat) (ro : Option Addr) (w : World) (hst : 0 ≤ st ∧ st ≤ 255) (hsp : 0 ≤ sp ∧ sp ≤ 255) (hsz : 0 ≤ sz ∧ sz ≤ 255) (htn : 0 ≤ tn ∧ tn ≤ 255) (hct : 0 ≤ ct ∧ ct ≤ 255) (hrs : rs.length ≤ 9223372036854775807) (hr : ∀ k, k < rs.length → (0 ≤ nthF rs k ∧ nthF rs k ≤ 255) ∧ (0 ≤ nthT rs k ∧ nthT rs k ≤ 255))
    (hsr : Sl w w.heap.size ro rs.length rc 2 (cellsP .u8 rs)) :
    Calls Ydrm.prog 12 #[.int .u8 st, .int .u8 sp, .int .u8 sz, .int .u8 tn, .int .u8 ct, .slice ro rs.length rc] w fun e w' => e = .returned (.bool true) ∧ Below w.heap.size w w' := by
  have HR : Hid _ := hr
  clear hr
  by_cases hb1 : rs.length > 512
  · go_enter Ydrm.func12, Ydrm.ntmps12
    go_wp2_with fail
    go_ret
    exact ⟨by simp, Below.refl _ _⟩
  obtain ⟨P, hP, hP1⟩ : ∃ P : Nat, sz.tmod 11 = (P : Int) ∧ P ≤ 10 := by
    rw [Int.tmod_eq_emod_of_nonneg hsz.1]; exact ⟨(sz % 11).toNat, by omega, by omega⟩
  obtain ⟨U, hU, hU1⟩ : ∃ U : Nat, sp.tmod 10 = (U : Int) ∧ U ≤ 9 := by
    rw [Int.tmod_eq_emod_of_nonneg hsp.1]; exact ⟨(sp % 10).toNat, by omega, by omega⟩
  obtain ⟨A, rfl⟩ := Int.eq_ofNat_of_zero_le hst.1
  obtain ⟨T, rfl⟩ := Int.eq_ofNat_of_zero_le htn.1
  obtain ⟨C, rfl⟩ := Int.eq_ofNat_of_zero_le hct.1
  have hA2 : A ≤ 255 := by omega
  have hT2 : T ≤ 255 := by omega
  have hC2 : C ≤ 255 := by omega
  clear hst htn hct
  go_enter Ydrm.func12, Ydrm.ntmps12
  go_wp2_with fail
  obtain ⟨K, hK, hK0, hK1⟩ : ∃ K : Nat, 1 + (P : Int) = (K : Int) ∧ 0 < K ∧ K ≤ 11 := ⟨1 + P, by omega, by omega, by omega⟩
  obtain ⟨S, hS, hS0, hS1⟩ : ∃ S : Nat, 1 + (U : Int) = (S : Int) ∧ 0 < S ∧ S ≤ 10 := ⟨1 + U, by omega, by omega, by omega⟩
  rw [hK, hS]
  clear hK hS hP hU hP1 hU1 hsp hsz
  have ho1 := ownI_empty w
  have hbA : BelowA w.heap.size w (w.alloc (.cells #[] 3)) := (BelowA.refl w).alloc _
  generalize w.alloc (.cells #[] 3) = W1 at *
  go_loopw [15, 16] (fun t i wr => ∃ (k g cap : Nat) (xs : List Int), k ≤ K ∧ i = .int .i64 k ∧ t = .slice (some ⟨g, 0, none⟩) xs.length cap ∧ xs.length ≤ k ∧ Hid (xs.length = k) ∧ Hid (Ring A S xs) ∧ OwnI wr g cap xs ∧ w.heap.size ≤ g ∧ BelowA w.heap.size w wr) (fun _ i _ => K - (intOf i).toNat)
  case atStart => exact ⟨0, w.heap.size, 0, [], by omega, rfl, rfl, by simp, by show _ = _; rfl, fun i hi => absurd hi (by simp), ho1, Nat.le_refl _, hbA⟩
  case round =>
    obtain ⟨k, g, cap, xs, hk, rfl, rfl, hxl, HL, HG, ho, hg, hb⟩ := hrel
    have hz := ho.lt
    by_cases hlt : k < K
    · obtain ⟨M, hM, hM1⟩ : ∃ M : Nat, (k : Int) * (S : Int) = (M : Int) ∧ M ≤ 110 := ⟨k * S, by simp, Nat.le_trans (Nat.mul_le_mul (show k ≤ 11 by omega) hS1) (Nat.le_refl _)⟩
      have HM : Hid (M = k * S) := by show _ = _; exact_mod_cast hM.symm
      obtain ⟨R, hR, HRR⟩ : ∃ R : Nat, ((A : Int) + (M : Int)).tmod 11 = (R : Int) ∧ Hid (R = (A + k * S) % 11) := by
        refine ⟨(A + M) % 11, ?_, by show _ = _; rw [HM.out]⟩
        rw [Int.tmod_eq_emod_of_nonneg (by omega)]; omega
      go_wp2_with (at_builtin; go_must (refine wpl_appIg rfl (.tmp 42) (.tmp 50) rfl g cap xs.length xs (R : Int) (by rfl) rfl (ho.alloc _) wr.heap.size 1 (by rfl) (cell_new1 rfl) (by omega) ?_); intro g' cap' w8 ho8 hg8 hgg)
      have hgg' : w.heap.size ≤ g' := by
        rcases hgg with h | h
        · omega
        · rw [h, size_alloc]; have := hb.2; omega
      clear hgg
      go_roundw
      case rel => exact ⟨k + 1, g', cap', _, by omega, by simp, by simp, by simp; omega, by show _ = _; simp [HL.out], by rw [HRR.out]; exact HG.out.snoc HL.out, ho8, hgg', (hb.alloc _).grown hg8 hg (by rw [size_alloc]; omega)⟩
      case measure => simp [intOf]; omega
    · obtain rfl : k = K := by omega
      obtain rfl : k = xs.length := HL.out.symm
      clear HL hlt hxl hk
      go_wp2_with fail
      refine (ledges_any 11 rs rc ro wr (by omega) (by omega) HR.out ((hsr.below hb.1).mono hb.2)).mono ?_
      rintro e w2 ⟨hw2, g2, c2, es, rfl, ho2, hei, hg2, hel⟩
      have HEI : Hid _ := hei
      clear hei
      have hz2 := hw2.size
      have hgl2 := ho2.lt
      have o12 := ho.below hw2 hz
      go_wp2_with fail
      refine (llay_any 11 es xs xs.length g2 c2 cap _ w2 (by omega) (by omega) (by omega) (by omega) HEI.out ho2 (fun a ha => by cases ha; dsimp only; omega) (o12.sl rfl o12.lt)).mono ?_
      rintro e w3 ⟨hw3, g3, c3, fs, rfl, ho3, hlay3, hg3, hfl⟩
      have HIN : Hid (InE 11 fs) := hlay3.1
      have HCY : Hid (IsCyc (insAll fs) xs) := HG.out.cyc hS0 hS1 hK0 hK1 hlay3
      clear hlay3
      have hz3 := hw3.size
      have o13 : OwnI w3 g cap xs := o12.grown hw3 (fun e => by cases e; omega)
      have hbA : BelowA w.heap.size w w3 := by
        have h2 : BelowA w.heap.size w w2 := hb.next hw2
        exact ⟨h2.1.trans (hw3.below (by omega) h2.2), by have := h2.2; omega⟩
      have hgl3 := ho3.lt
      have hgl13 := o13.lt
      clear o12 ho ho2 hb hw2 hw3 HG HEI
      go_wp2_with fail
      refine (fromEdges_any 11 fs c3 _ w3 (by omega) (ho3.sl rfl ho3.lt)).mono ?_
      rintro e w4 ⟨hb4, ⟨hok, fo, fc, rfl, hsf, hlf⟩ | ⟨hno, rfl⟩⟩
      · have hfl2 := length_insAll fs
        have HS : Hid (Srt (insAll fs)) := srt_insAll fs
        have HRN : Hid (Rng 11 (insAll fs)) := InE.rng (fun x hx => HIN.out x (mem_insAll.1 hx))
        generalize insAll fs = gs at *
        have hz4 := hb4.size
        have hgsl : gs.length ≤ 1000 := by omega
        have hG := grw_new (n := (11 : Int)) (t := 33) hsf (fun a ha => by have := hlf a ha; omega)
        have hb5 : Below w4.heap.size w4 (w4.alloc (.cells #[.int .i64 11, .slice fo gs.length fc] 33)) := (Below.refl _ _).alloc (Nat.le_refl _) _
        have hb45 := hb4.trans (hb5.mono hz4)
        have hsx := ((o13.below hb45 hgl13).sl rfl (show g < (w4.alloc (.cells #[.int .i64 11, .slice fo gs.length fc] 33)).heap.size by rw [size_alloc]; omega))
        have hbB := hbA.next hb45
        clear hok hb4 hb5 hb45 hbA
        go_wp2_with fail
        have hszW : (w4.alloc (.cells #[.int .i64 11, .slice fo gs.length fc] 33)).heap.size = w4.heap.size + 1 := size_alloc _ _
        generalize w4.alloc (.cells #[.int .i64 11, .slice fo gs.length fc] 33) = W5 at *
        obtain ⟨G, hGG⟩ : ∃ G, w4.heap.size = G := ⟨_, rfl⟩
        rw [hGG] at hG hszW ⊢
        have hgG : g < G := by omega
        clear hGG
        have ho6 := ownI_empty W5
        have hbe : BelowA W5.heap.size W5 (W5.alloc (.cells #[] 3)) := (BelowA.refl W5).alloc _
        have hsz6 : (W5.alloc (.cells #[] 3)).heap.size = W5.heap.size + 1 := size_alloc _ _
        generalize W5.alloc (.cells #[] 3) = W6 at *
        have ho7 := ownI_empty W6
        have ho67 := ho6.alloc (.cells #[] 3)
        have hbe7 : BelowA W5.heap.size W5 (W6.alloc (.cells #[] 3)) := hbe.alloc _
        generalize W6.alloc (.cells #[] 3) = W7 at *
        rw [hsz6] at ho7
        rw [hszW] at ho7 ho67 hbe7 hsx
        have HSW : Hid _ := hszW
        clear hszW hsz6 hbe ho6 hlf hsf ho3 o13 HIN hz4 hz3 hz2 hg3 hg2 hgl2 hgl3 hgl13 hel hfl hz ho1 hbA
        go_loopw [20, 22] (fun t i wr => ∃ (k g' cap' : Nat) (ts : List Int), k ≤ xs.length ∧ i = .int .i64 k ∧ t = .slice (some ⟨g', 0, none⟩) ts.length cap' ∧ ts.length ≤ k ∧ Hid (ts.length = k) ∧ Hid (Turned T xs.length xs ts) ∧ OwnI wr g' cap' ts ∧ G + 1 ≤ g' ∧ g' ≠ G + 1 + 1 ∧ OwnI wr (G + 1 + 1) 0 [] ∧ BelowA (G + 1) W5 wr) (fun _ i _ => xs.length - (intOf i).toNat)
        case atStart => exact ⟨0, G + 1, 0, [], by omega, rfl, rfl, by simp, by show _ = _; rfl, fun i hi => absurd hi (by simp), ho67, Nat.le_refl _, by omega, ho7, hbe7⟩
        case round =>
          obtain ⟨k, g', cap', ts, hk, rfl, rfl, htl, HL, HT, ho, hgg, hgn, hoE, hb⟩ := hrel
          have hz := ho.lt
          have hzE := hoE.lt
          by_cases hlt : k < xs.length
          · obtain ⟨q, hq, hq1, HQ⟩ : ∃ q : Nat, ((k : Int) + (T : Int)).tmod (xs.length : Int) = (q : Int) ∧ q < xs.length ∧ Hid (q = (k + T) % xs.length) := by
              refine ⟨(k + T) % xs.length, ?_, Nat.mod_lt _ hK0, rfl⟩
              rw [Int.tmod_eq_emod_of_nonneg (by omega)]; exact_mod_cast rfl
            have x0 : ¬ ((xs.length : Int) = 0) := by omega
            obtain ⟨bb, off, hbB2, hbe2, hc⟩ := (hsx.below hb.1).intsAt (by omega)
            cases hbe2
            have c1 := hc q hq1
            rw [Nat.zero_add] at c1
            clear hc
            go_wp2_with (at_builtin; go_must (refine wpl_appIg rfl (.tmp 71) (.tmp 81) rfl g' cap' ts.length ts (nth xs q) (by rfl) rfl (ho.alloc _) wr.heap.size 1 (by rfl) (cell_new1 rfl) (by omega) ?_); intro g8 cap8 w8 ho8 hg8 hg9)
            have hgg8 : G + 1 ≤ g8 ∧ g8 ≠ G + 1 + 1 := by
              rcases hg9 with h | h
              · omega
              · rw [h, size_alloc]; have := hb.2; omega
            clear hg9
            go_roundw
            case rel => exact ⟨k + 1, g8, cap8, _, by omega, by simp, by simp, by simp; omega, by show _ = _; simp [HL.out], HT.out.snoc HL.out (by rw [HQ.out]), ho8, hgg8.1, hgg8.2, (hoE.alloc _).grown hg8 (fun e => by cases e; omega), (hb.alloc _).grown hg8 hgg (by rw [size_alloc]; omega)⟩
            case measure => simp [intOf]; omega
          · have HLL : Hid (ts.length = xs.length) := by show _ = _; rw [HL.out]; omega
            have i1 : decide ((k : Int) < (xs.length : Int)) = false := by simp; omega
            clear HL
            go_wp2_with fail
            rename World => W8
            go_loopw [21, 23] (fun t i wr => ∃ (k g1 cap1 : Nat) (us : List Int), k ≤ 2 * xs.length ∧ i = .int .i64 k ∧ t = .slice (some ⟨g1, 0, none⟩) us.length cap1 ∧ us.length ≤ k ∧ Hid (us.length = k) ∧ Hid (Turned 0 xs.length xs us) ∧ OwnI wr g1 cap1 us ∧ G + 1 ≤ g1 ∧ g' ≠ g1 ∧ OwnI wr g' cap' ts ∧ BelowA (G + 1) W5 wr) (fun _ i _ => 2 * xs.length - (intOf i).toNat)
            case atStart => exact ⟨0, G + 1 + 1, 0, [], by omega, rfl, rfl, by simp, by show _ = _; rfl, fun i hi => absurd hi (by simp), hoE, by omega, hgn, ho, hb⟩
            case round =>
              obtain ⟨m, g1, cap1, us, hm, rfl, rfl, hul, HU, HTU, hoU, hgU, hgne, hoT, hbU⟩ := hrel
              have hzU := hoU.lt
              have hzT := hoT.lt
              by_cases hlt2 : m < 2 * xs.length
              · obtain ⟨q, hq, hq1, HQ⟩ : ∃ q : Nat, (m : Int).tmod (xs.length : Int) = (q : Int) ∧ q < xs.length ∧ Hid (q = (m + 0) % xs.length) := by
                  refine ⟨m % xs.length, ?_, Nat.mod_lt _ hK0, rfl⟩
                  rw [Int.tmod_eq_emod_of_nonneg (by omega)]; exact_mod_cast rfl
                have x0 : ¬ ((xs.length : Int) = 0) := by omega
                have i2 : decide ((m : Int) < 2 * (xs.length : Int)) = true := by simp; omega
                obtain ⟨bb, off, hbB2, hbe2, hc⟩ := (hsx.below hbU.1).intsAt (by omega)
                cases hbe2
                have c1 := hc q hq1
                rw [Nat.zero_add] at c1
                clear hc
                go_wp2_with (at_builtin; go_must (refine wpl_appIg rfl (.tmp 89) (.tmp 96) rfl g1 cap1 us.length us (nth xs q) (by rfl) rfl (hoU.alloc _) wr.heap.size 1 (by rfl) (cell_new1 rfl) (by omega) ?_); intro g8 cap8 w8 ho8 hg8 hg9)
                have hgg8 : G + 1 ≤ g8 ∧ g' ≠ g8 := by
                  rcases hg9 with h | h
                  · omega
                  · rw [h, size_alloc]; have := hbU.2; omega
                clear hg9
                go_roundw
                case rel => exact ⟨m + 1, g8, cap8, _, by omega, by simp, by simp, by simp; omega, by show _ = _; simp [HU.out], HTU.out.snoc HU.out (by rw [HQ.out]), ho8, hgg8.1, hgg8.2, (hoT.alloc _).grown hg8 (fun e => by cases e; omega), (hbU.alloc _).grown hg8 hgU (by rw [size_alloc]; omega)⟩
                case measure => simp [intOf]; omega
              · have HUL : Hid (us.length = 2 * xs.length) := by show _ = _; rw [HU.out]; omega
                have i2 : decide ((m : Int) < 2 * (xs.length : Int)) = false := by simp; omega
                clear HU
                go_wp2_with fail
                clear i1 i2 hlt hlt2 hm hul htl hk hfl2
                have hGw := hG.below (show Below W5.heap.size W5 wr by rw [HSW.out]; exact hbU.1)
                have hsX := (hsx.below hbU.1).mono hbU.2
                have hsT : Sl wr wr.heap.size (some ⟨g', 0, none⟩) ts.length cap' 1 (cellsI ts) := hoT.sl rfl hzT
                have hsU : Sl wr wr.heap.size (some ⟨g1, 0, none⟩) us.length cap1 1 (cellsI us) := hoU.sl rfl hzU
                have htl : ts.length ≤ 100 := by have := HLL.out; omega
                have hul : us.length ≤ 100 := by have := HUL.out; omega
                have hbC : BelowA w.heap.size w wr := by
                  have h1 := hbB.next (show Below W5.heap.size W5 wr by rw [HSW.out]; exact hbU.1)
                  exact h1
                have hgb : w.heap.size ≤ G := by omega
                clear hG hsx hoT hoU hbU hbB hoE ho hb ho7 ho67 hbe7 hzE hz
                refine (isCycle_any 11 G _ fc gs xs _ cap _ (by omega) (by omega) (by omega) HRN.out HS.out hGw.gr hsX).mono ?_
                rintro e w9 ⟨hb9, b9, rfl, hi9⟩
                obtain rfl : b9 = true := hi9.2 HCY.out
                clear hi9
                have hG9 := hGw.below hb9
                have hsX9 := (hsX.below hb9).mono hb9.size
                have hsT9 := (hsT.below hb9).mono hb9.size
                have hsU9 := (hsU.below hb9).mono hb9.size
                have hb9' := hbC.next hb9
                clear hGw hsX hsT hsU hbC hb9
                go_wp2_with fail
                refine (isCycle_any 11 G _ fc gs ts _ cap' _ (by omega) (by omega) (by omega) HRN.out HS.out hG9.gr hsT9).mono ?_
                rintro e w10 ⟨hb10, b10, rfl, hi10⟩
                obtain rfl : b10 = true := hi10.2 (HCY.out.turned HT.out HLL.out)
                clear hi10
                have hG10 := hG9.below hb10
                have hsX10 := (hsX9.below hb10).mono hb10.size
                have hsT10 := (hsT9.below hb10).mono hb10.size
                have hsU10 := (hsU9.below hb10).mono hb10.size
                have hb10' := hb9'.next hb10
                clear hG9 hsX9 hsT9 hsU9 hb9' hb10
                go_wp2_with fail
                refine (isCycle_any 11 G _ fc gs us _ cap1 _ (by omega) (by omega) (by omega) HRN.out HS.out hG10.gr hsU10).mono ?_
                rintro e w11 ⟨hb11, b11, rfl, hi11⟩
                obtain rfl : b11 = false := by
                  cases b11
                  · rfl
                  · exact absurd (hi11.1 rfl) (not_twice hK0 HTU.out HUL.out)
                clear hi11
                have hG11 := hG10.below hb11
                have hsX11 := (hsX10.below hb11).mono hb11.size
                have hsT11 := (hsT10.below hb11).mono hb11.size
                have hb11' := hb10'.next hb11
                clear hG10 hsX10 hsT10 hsU10 hb10' hb11
                obtain ⟨J, hJ, hJ1⟩ : ∃ J : Nat, (C : Int).tmod (xs.length : Int) = (J : Int) ∧ J < xs.length := by
                  refine ⟨C % xs.length, ?_, Nat.mod_lt _ hK0⟩
                  rw [Int.tmod_eq_emod_of_nonneg (by omega)]; exact_mod_cast rfl
                have x0 : ¬ ((xs.length : Int) = 0) := by omega
                go_upto_region 27 with fail
                clear hJ
                obtain ⟨q, HQ⟩ : ∃ q : Nat, Hid (q = nxt xs.length J) := ⟨_, rfl⟩
                have hq : q < xs.length := by rw [HQ.out]; exact nxt_lt hJ1
                have t1 : ((J + 1 : Nat) : Int).tmod (xs.length : Int) = (q : Int) := by
                  rw [HQ.out, Int.tmod_eq_emod_of_nonneg (by omega)]
                  unfold nxt
                  exact_mod_cast rfl
                obtain ⟨p1, hp1⟩ : ∃ p1 : Nat, p1 = J + 1 := ⟨_, rfl⟩
                rw [← hp1] at t1
                have t2 : IntKind.i64.wrap ((J : Int) + 1) = (p1 : Int) := by rw [IntKind.wrap_i64]; omega
                have x1 : ¬ xs.length = 0 := by omega
                clear hp1
                obtain ⟨bb, off, hbB2, hbe2, hc⟩ := hsX11.intsAt (by omega)
                cases hbe2
                have c1 := hc J hJ1
                have c2 := hc q hq
                rw [Nat.zero_add] at c1 c2
                clear hc
                have HMM : Hid ( decide ((nth xs J, nth xs q) ∈ gs) = true) := decide_eq_true (by have := HCY.out.2.1 J hJ1; rw [← HQ.out] at this; exact this)
                go_region_held3 (fun w' => w'.cell? ⟨g, J, none⟩ = some (.int .i64 (nth xs J)) ∧ w'.cell? ⟨g, q, none⟩ = some (.int .i64 (nth xs q)))
                  (first | go_keep | (go_split_ands; all_goals assumption))
                  (first
                    | (go_at_call 34; refine (removeEdge_any G 11 fo fc gs (nth xs J) (nth xs q) _ (by omega) HS.out (hG11.drewN 1)).mono ?_; rintro e w12 ⟨hb12, fo', fc', rfl, hG12, hno12⟩
                       rw [HMM.out]
                       have s1 := (hb12.cell (a := ⟨g, J, none⟩) (by exact hbB2) (by dsimp only; omega)).trans c1
                       have s2 := (hb12.cell (a := ⟨g, q, none⟩) (by exact hbB2) (by dsimp only; omega)).trans c2))
                have HN1 : Hid (¬ IsCyc (delE gs (nth xs J, nth xs q)) xs) := by show ¬ _; rw [HQ.out]; exact not_cut hJ1
                have HN2 : Hid (¬ IsCyc (delE gs (nth xs J, nth xs q)) ts) := by show ¬ _; rw [HQ.out]; exact not_cut_turned hJ1 HT.out HLL.out
                have HSD : Hid (Srt (delE gs (nth xs J, nth xs q))) := srt_delE HS.out
                have hdl : (delE gs (nth xs J, nth xs q)).length ≤ gs.length := List.length_filter_le _ _
                have HRD : Hid (Rng 11 (delE gs (nth xs J, nth xs q))) := InE.rng (fun x hx => by
                  obtain ⟨kk, hkk, e⟩ := mem_nthE.1 (mem_delE.1 hx).1
                  obtain ⟨⟨a1, a2⟩, b1, b2⟩ := HRN.out kk hkk
                  have e1 : nthF gs kk = x.1 := congrArg Prod.fst e
                  have e2 : nthT gs kk = x.2 := congrArg Prod.snd e
                  exact inB_true.2 ⟨by omega, by omega, by omega, by omega⟩)
                generalize delE gs (nth xs J, nth xs q) = ds at *
                have hsX12 := (Sl.but (w := w11.drewN 1) (hsX11.drewN 1) hb12 (Nat.le_refl _) (fun a ha => by cases ha; dsimp only; omega)).mono hb12.size
                have hsT12 := (Sl.but (w := w11.drewN 1) (hsT11.drewN 1) hb12 (Nat.le_refl _) (fun a ha => by cases ha; dsimp only; omega)).mono hb12.size
                have hb12' : BelowA w.heap.size w w12 := by
                  have h1 := hb11'.drewN 1
                  exact ⟨h1.1.trans (hb12.below hgb h1.2), by have h3 := hb12.size; have h4 := h1.2; omega⟩
                clear hb12 hno12 s1 s2 c1 c2 t1 t2 hsX11 hsT11 hG11 hb11'
                go_wp2_with fail
                refine (isCycle_any 11 G _ fc' ds xs _ cap _ (by omega) (by omega) (by omega) HRD.out HSD.out hG12.gr hsX12).mono ?_
                rintro e w13 ⟨hb13, b13, rfl, hi13⟩
                obtain rfl : b13 = false := by
                  cases b13
                  · rfl
                  · exact absurd (hi13.1 rfl) HN1.out
                clear hi13
                have hG13 := hG12.below hb13
                have hsT13 := (hsT12.below hb13).mono hb13.size
                have hb13' := hb12'.next hb13
                clear hG12 hsX12 hsT12 hb12' hb13
                go_wp2_with fail
                refine (isCycle_any 11 G _ fc' ds ts _ cap' _ (by omega) (by omega) (by omega) HRD.out HSD.out hG13.gr hsT13).mono ?_
                rintro e w14 ⟨hb14, b14, rfl, hi14⟩
                obtain rfl : b14 = false := by
                  cases b14
                  · rfl
                  · exact absurd (hi14.1 rfl) HN2.out
                clear hi14
                go_wp2_with fail
                go_ret
                exact ⟨by simp, (hb13'.next hb14).1⟩
      · exact absurd ⟨by omega, by omega, fun i hi => HIN.out _ (mem_nthE.2 ⟨i, hi, rfl⟩)⟩ hno
end Go.Proofs.Ymbrdr
