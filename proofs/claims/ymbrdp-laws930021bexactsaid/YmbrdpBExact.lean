/- The walk of LawS930021BExact. -/
import Derived.Test.YmbrdpBEdges
import Derived.Test.YmbrdpGRem
import Derived.Deep.DeepCutAuto
namespace Go.Proofs.Ymbrdp
open Go.ChangeShapes Go.WideShapes Go.ChangeAt Go.RowKit
set_option linter.unusedVariables false
set_option linter.unusedSimpArgs false
attribute [local go_sem ↓] Go.wp_at_zero Go.wp_at_succ

set_option maxRecDepth 20000 in
set_option maxHeartbeats 4000000 in
theorem bExact_walk (sz : Int) (bs : List Bool) (hit : Bool) (u v : Int) (bc : Nat) (bo : Option Addr) (w : World) (hsz : 0 ≤ sz ∧ sz ≤ 255) (hbs : bs.length ≤ 9223372036854775807) (hs : Sl w w.heap.size bo bs.length bc 1 (cellsB bs)) :
    Calls Ydpm.prog 6 #[.int .u8 sz, .slice bo bs.length bc, .bool hit, .int .i64 u, .int .i64 v] w fun e w' => e = .returned (.bool true) ∧ Below w.heap.size w w' := by
  by_cases hbig : bs.length > 1024
  · go_enter Ydpm.func6, Ydpm.ntmps6
    go_wp2_with fail
    go_ret
    exact ⟨by simp, Below.refl _ _⟩
  obtain ⟨N, hN, hN0, hN1⟩ : ∃ N : Nat, 1 + sz % 16 = (N : Int) ∧ 0 < N ∧ N ≤ 16 := ⟨(1 + sz % 16).toNat, by omega, by omega, by omega⟩
  go_enter Ydpm.func6, Ydpm.ntmps6
  go_wp2_with fail
  refine (bedges_any N bs (-1) bc bo w hN0 (by omega) (by omega) hs).mono ?_
  rintro e w1 ⟨hb1, g, cap, rfl, ho1, hg1⟩
  have hlen := tab_le N bs (-1)
  obtain ⟨es, HES⟩ : ∃ es, Hid (tab N bs (-1) = es) := ⟨_, rfl⟩
  rw [HES.out] at ho1 hlen ⊢
  have hgl := ho1.lt
  have hz1 := hb1.size
  have hs1 := ho1.sl rfl ho1.lt
  have hG := grw_new (n := (N : Int)) (t := 29) hs1 (fun a ha => by cases ha; dsimp only; omega)
  have hG2 := hG.alloc (.cells #[.int .i64 N, .slice (some ⟨g, 0, none⟩) es.length cap] 29)
  have hO := gr_new (n := (N : Int)) (t := 29) (hG.gr.sl)
  rw [size_alloc] at hO
  have hbA : BelowA w.heap.size w ((w1.alloc (.cells #[.int .i64 N, .slice (some ⟨g, 0, none⟩) es.length cap] 29)).alloc (.cells #[.int .i64 N, .slice (some ⟨g, 0, none⟩) es.length cap] 29)) := (BelowA.alloc ⟨hb1, hz1⟩ _).alloc _
  have ho3 := (ho1.alloc (.cells #[.int .i64 N, .slice (some ⟨g, 0, none⟩) es.length cap] 29)).alloc (.cells #[.int .i64 N, .slice (some ⟨g, 0, none⟩) es.length cap] 29)
  have hsz2 : ((w1.alloc (.cells #[.int .i64 N, .slice (some ⟨g, 0, none⟩) es.length cap] 29)).alloc (.cells #[.int .i64 N, .slice (some ⟨g, 0, none⟩) es.length cap] 29)).heap.size = w1.heap.size + 1 + 1 := by rw [size_alloc, size_alloc]
  obtain ⟨HB, HHB⟩ : ∃ HB : Bool, Hid (HB = (hit && decide (0 < es.length))) := ⟨_, rfl⟩
  go_upto_region 7 with fail
  generalize (w1.alloc (.cells #[.int .i64 N, .slice (some ⟨g, 0, none⟩) es.length cap] 29)).alloc (.cells #[.int .i64 N, .slice (some ⟨g, 0, none⟩) es.length cap] 29) = W2 at *
  rw [← hsz2] at hO
  have hs2 := (hs.below hbA.1).mono hbA.2
  obtain ⟨G, hGG⟩ : ∃ G, w1.heap.size = G := ⟨_, rfl⟩
  rw [hGG] at hG2 hO hsz2 hgl ⊢
  clear hG hs1 ho1 hb1 hz1 hGG
  go_cut [38] (fun t w' => t = .bool HB ∧ W2 = w')
  case first =>
    cases hit
    · go_wp2_with fail
      go_meet
      case rel => exact ⟨by rw [HHB.out]; simp, rfl⟩
    · go_wp2_with fail
      go_meet
      case rel => exact ⟨by rw [HHB.out]; simp, rfl⟩
  case rest =>
  obtain ⟨rfl, rfl⟩ := hcut
  go_upto_if 38 with fail
  go_cut [3, 4] (fun a b w' => ∃ x y : Int, a = .int .i64 x ∧ b = .int .i64 y ∧ Below W2.heap.size W2 w')
  case first =>
    cases HB
    · go_wp2_with fail
      go_meet
      case rel => exact ⟨u, v, rfl, rfl, Below.refl _ _⟩
    · have hl0 : 0 < es.length := by
        have := HHB.out
        simp at this
        omega
      obtain ⟨j, hj, hjl⟩ : ∃ j : Nat, (IntKind.u64.wrap u).tmod (es.length : Int) = (j : Int) ∧ j < es.length := by
        have e0 : 0 ≤ IntKind.u64.wrap u := by rw [IntKind.wrap_u64]; omega
        rw [Int.tmod_eq_emod_of_nonneg e0]
        have e1 := Int.emod_nonneg (IntKind.u64.wrap u) (show (es.length : Int) ≠ 0 by omega)
        have e2 := Int.emod_lt_of_pos (IntKind.u64.wrap u) (show 0 < (es.length : Int) by omega)
        exact ⟨((IntKind.u64.wrap u) % (es.length : Int)).toNat, by omega, by omega⟩
      obtain ⟨c1, c2⟩ := ho3.cell j hjl
      go_wp2_with fail
      go_meet
      case rel => exact ⟨nthF es j, nthT es j, rfl, rfl, (Below.refl _ _).alloc (Nat.le_refl _) _⟩
  case rest =>
  obtain ⟨x, y, rfl, rfl, hb3⟩ := hcut
  have hz3 := hb3.size
  obtain ⟨SK, HSK⟩ : ∃ SK : Int, Hid (SK = skipOf N x y) := ⟨_, rfl⟩
  have hG3 := hG2.below hb3
  have hO3 := (hO.below hb3).mono hz3
  have hs3 := (hs2.below hb3).mono hz3
  have hbB := hbA.next hb3
  clear hG2 hO hs2 hbA ho3 hb3 hN HHB
  go_upto_region 12 with fail
  go_cut [68] (fun t w' => t = .bool (inB N x y) ∧ wc = w')
  case first =>
    by_cases h1 : 0 ≤ x
    · have i1 : decide (x ≥ 0) = true := by simp; omega
      by_cases h2 : x < N
      · have i2 : decide (x < (N : Int)) = true := by simp; omega
        by_cases h3 : 0 ≤ y
        · have i3 : decide (y ≥ 0) = true := by simp; omega
          by_cases h4 : y < N
          · have i4 : decide (y < (N : Int)) = true := by simp; omega
            have i5 : inB N x y = true := inB_true.2 ⟨h1, h2, h3, h4⟩
            clear h1 h2 h3 h4
            go_wp2_with fail
            go_meet
            case rel => exact ⟨by rw [i5], rfl⟩
          · have i4 : decide (y < (N : Int)) = false := by simp; omega
            have i5 : inB N x y = false := inB_false.2 (by omega)
            clear h1 h2 h3 h4
            go_wp2_with fail
            go_meet
            case rel => exact ⟨by rw [i5], rfl⟩
        · have i3 : decide (y ≥ 0) = false := by simp; omega
          have i5 : inB N x y = false := inB_false.2 (by omega)
          clear h1 h2 h3
          go_wp2_with fail
          go_meet
          case rel => exact ⟨by rw [i5], rfl⟩
      · have i2 : decide (x < (N : Int)) = false := by simp; omega
        have i5 : inB N x y = false := inB_false.2 (by omega)
        clear h1 h2
        go_wp2_with fail
        go_meet
        case rel => exact ⟨by rw [i5], rfl⟩
    · have i1 : decide (x ≥ 0) = false := by simp; omega
      have i5 : inB N x y = false := inB_false.2 (by omega)
      clear h1
      go_wp2_with fail
      go_meet
      case rel => exact ⟨by rw [i5], rfl⟩
  case rest =>
  obtain ⟨rfl, rfl⟩ := hcut
  rename World => W4
  go_upto_if 68 with fail
  go_cut [16] (fun t w' => t = .int .i64 SK ∧ W4 = w')
  case first =>
    cases hin : inB N x y
    · have hsk : SK = -1 := by rw [HSK.out]; unfold skipOf; rw [if_neg (inB_false.1 hin)]
      go_wp2_with fail
      go_meet
      case rel => exact ⟨by rw [hsk], rfl⟩
    · obtain ⟨a1, a2, a3, a4⟩ := inB_true.1 hin
      obtain ⟨p, rfl⟩ := Int.eq_ofNat_of_zero_le a1
      obtain ⟨q, rfl⟩ := Int.eq_ofNat_of_zero_le a3
      obtain ⟨P, HP⟩ : ∃ P : Nat, Hid (P = p * N) := ⟨_, rfl⟩
      have hP2 : P ≤ 256 := by rw [HP.out]; exact Nat.le_trans (Nat.mul_le_mul (show p ≤ 16 by omega) hN1) (by omega)
      have hPP : (p : Int) * (N : Int) = (P : Int) := by rw [HP.out]; exact_mod_cast rfl
      have hsk : SK = (P : Int) + (q : Int) := by rw [HSK.out]; unfold skipOf; rw [if_pos ⟨a1, a2, a3, a4⟩, hPP]
      have HSK2 : Hid _ := hsk
      clear hsk
      go_wp2_with fail
      go_meet
      case rel => exact ⟨by rw [HSK2.out], rfl⟩
  case rest =>
  obtain ⟨rfl, rfl⟩ := hcut
  rename World => W5
  go_upto_region 14 with fail
  go_cut [17] (fun t w' => t = .bool (decide ((x, y) ∈ es)) ∧ W5 = w')
  case first =>
    by_cases h0 : 0 ≤ SK
    · have i0 : decide (SK ≥ 0) = true := by simp; omega
      obtain ⟨s, rfl⟩ := Int.eq_ofNat_of_zero_le h0
      clear h0
      by_cases h1 : s < bs.length
      · have i1 : decide ((s : Int) < (bs.length : Int)) = true := by simp; omega
        obtain ⟨b, off, hbB2, rfl, hc⟩ := Sl.boolsAt hs3 (by omega)
        have c1 := hc s h1
        clear hc
        have hm : decide ((x, y) ∈ es) = nthB bs s := by
          rw [Bool.eq_iff_iff, decide_eq_true_iff, ← HES.out, mem_tab_iff hN0]
          constructor
          · rintro ⟨s', e1, e2, e3⟩
            have : s' = s := by have := HSK.out; omega
            rw [← this]; exact e3
          · intro h; exact ⟨s, HSK.out.symm, h1, h⟩
        have HMM : Hid _ := hm
        clear hm
        go_wp2_with fail
        go_meet
        case rel => exact ⟨by rw [HMM.out], rfl⟩
      · have i1 : decide ((s : Int) < (bs.length : Int)) = false := by simp; omega
        have hm : decide ((x, y) ∈ es) = false := by
          rw [decide_eq_false_iff_not, ← HES.out, mem_tab_iff hN0]
          rintro ⟨s', e1, e2, e3⟩
          have := HSK.out
          omega
        have HMM : Hid _ := hm
        clear hm
        go_wp2_with fail
        go_meet
        case rel => exact ⟨by rw [HMM.out], rfl⟩
    · have i0 : decide (SK ≥ 0) = false := by simp; omega
      have hm : decide ((x, y) ∈ es) = false := by
        rw [decide_eq_false_iff_not, ← HES.out, mem_tab_iff hN0]
        rintro ⟨s', e1, e2, e3⟩
        have := HSK.out
        omega
      have HMM : Hid _ := hm
      clear hm h0
      go_wp2_with fail
      go_meet
      case rel => exact ⟨by rw [HMM.out], rfl⟩
  case rest =>
  obtain ⟨rfl, rfl⟩ := hcut
  rename World => W6
  go_wp2_with fail
  have HSR : Hid (Srt es) := by have := srt_tab hN0 bs (-1); rw [HES.out] at this; exact this
  refine (removeEdge_any G N _ cap es x y _ (by omega) HSR.out hG3).mono ?_
  rintro e w7 ⟨hb7, fo, fc, rfl, hG7, hno⟩
  generalize decide ((x, y) ∈ es) = WB at *
  have HDEL : Hid (delE es (x, y) = tab N bs SK) := by show _ = _; rw [← HES.out, del_tab hN0, HSK.out]
  rw [HDEL.out] at hG7
  have hO7 : Gr w7 w7.heap.size (G + 1) N (some ⟨g, 0, none⟩) cap es := by
    have hz7 := hb7.size
    have hlt := hO3.lt
    refine ⟨by omega, ?_, ?_, (hO3.sl.but hb7 (Nat.le_refl _) (fun a ha => by cases ha; dsimp only; omega)).mono hz7⟩
    · rw [hb7.cell (a := ⟨G + 1, 0, none⟩) hlt (by dsimp only; omega)]; exact hO3.c0
    · rw [hb7.cell (a := ⟨G + 1, 1, none⟩) hlt (by dsimp only; omega)]; exact hO3.c1
  have hwG : w.heap.size ≤ G := by omega
  have hbC : BelowA w.heap.size w w7 := ⟨hbB.1.trans (hb7.below hwG hbB.2), by have := hb7.size; have := hbB.2; omega⟩
  have hs7 := (hs.below hbC.1).mono hbC.2
  have hlen2 := tab_le N bs SK
  clear hG3 hO3 hs3 hbB hb7 hno HSR
  have j0 := hG7.gr.c0
  have j1 := hG7.gr.c1
  have j2 := hO7.c0
  have j3 := hO7.c1
  have b1 : (WB != WB) = false := by simp
  have b2 : ((N : Int) != (N : Int)) = false := by simp
  go_upto_region 18 with fail
  have hgl7 := hG7.gr.lt
  go_region_held3 (fun w' => w'.cell? ⟨G, 1, none⟩ = some (.slice fo (tab N bs SK).length fc))
    (first | go_keep | assumption)
    (first
      | (go_at_call 21; refine (bedges_any N bs SK bc bo _ hN0 (by omega) (by omega) (hs7.drewN 1)).mono ?_; rintro e w8 ⟨hb8, g8, cap8, rfl, ho8, hg8⟩
         have hG8 := (hG7.drewN 1).below hb8
         have s1 := hG8.gr.c1)
      | (go_at_call 22; refine (bsame_any (tab N bs SK) (tab N bs SK) fc cap8 _ _ _ (by omega) (by omega) hG8.gr.sl (ho8.sl rfl ho8.lt)).mono ?_; rintro e w9 ⟨hb9, rfl⟩
         have s2 := (hG8.below hb9).gr.c1
         have hbW := hb8.trans (hb9.mono hb8.size)))
  rename_i hHeld
  clear hHeld
  have hbV : Below w7.heap.size w7 w9 := (below_drewN (Below.refl _ _) 1).trans hbW
  have hO9 := (hO7.below hbV).mono hbV.size
  have hbD := hbC.next hbV
  have hs9 := (hs.below hbD.1).mono hbD.2
  have k3 := hO9.c1
  have hlt9 := hO9.lt
  clear hb8 hb9 hbW hG8 s1 s2 ho8 hg8 hbV
  go_upto_region 20 with fail
  go_region_held3 (fun w' => w'.cell? ⟨G + 1, 1, none⟩ = some (.slice (some ⟨g, 0, none⟩) es.length cap))
    (first | go_keep | assumption)
    (first
      | (go_at_call 21; refine (bedges_any N bs (-1) bc bo _ hN0 (by omega) (by omega) (hs9.drewN 1)).mono ?_; rintro e w10 ⟨hb10, g10, cap10, rfl, ho10, hg10⟩
         rw [HES.out] at ho10 ⊢
         have hO10 := ((hO9.drewN 1).below hb10).mono hb10.size
         have s1 := hO10.c1)
      | (go_at_call 22; refine (bsame_any es es cap cap10 _ _ _ (by omega) (by omega) hO10.sl (ho10.sl rfl ho10.lt)).mono ?_; rintro e w11 ⟨hb11, rfl⟩
         have s2 := ((hO10.below hb11).mono hb11.size).c1
         have hbW := hb10.trans (hb11.mono hb10.size)))
  go_wp2_with fail
  go_ret
  exact ⟨by simp, (hbD.1.trans (((below_drewN (Below.refl w9.heap.size w9) 1).trans hbW).mono hbD.2))⟩
end Go.Proofs.Ymbrdp
