/- The walk of LawS930021DBest. -/
import Derived.Test.YmbrdpDBestP
import Derived.Deep.DeepCutAuto
import Derived.Deep.RegionHeld3
namespace Go.Proofs.Ymbrdp
open Go.ChangeShapes Go.WideShapes Go.ChangeAt Go.RowKit
set_option linter.unusedVariables false
set_option linter.unusedSimpArgs false
attribute [local go_sem ↓] Go.wp_at_zero Go.wp_at_succ

set_option maxRecDepth 20000 in
set_option maxHeartbeats 8000000 in
theorem dBest_walk (pk : List Int) (rs : List (Int × Int)) (pc rc : Nat) (po ro : Option Addr) (w : World) (hpk : pk.length ≤ 9223372036854775807) (hrs : rs.length ≤ 9223372036854775807) (hp : ∀ k, k < pk.length → 0 ≤ nth pk k ∧ nth pk k ≤ 65535) (hr : ∀ k, k < rs.length → (0 ≤ nthF rs k ∧ nthF rs k ≤ 65535) ∧ (0 ≤ nthT rs k ∧ nthT rs k ≤ 65535))
    (hsp : Sl w w.heap.size po pk.length pc 1 (cellsK .u16 pk)) (hsr : Sl w w.heap.size ro rs.length rc 2 (cellsP .u16 rs)) :
    Calls Ydpm.prog 13 #[.slice po pk.length pc, .slice ro rs.length rc] w fun e w' => e = .returned (.bool true) ∧ Below w.heap.size w w' := by
  have HR : Hid _ := hr
  have HPK : Hid _ := hp
  clear hr hp
  by_cases hb1 : pk.length > 512
  · go_enter Ydpm.func13, Ydpm.ntmps13
    go_wp2_with fail
    go_ret
    exact ⟨by simp, Below.refl _ _⟩
  by_cases hb2 : rs.length > 1024
  · go_enter Ydpm.func13, Ydpm.ntmps13
    go_wp2_with fail
    go_ret
    exact ⟨by simp, Below.refl _ _⟩
  go_enter Ydpm.func13, Ydpm.ntmps13
  go_wp2_with (at_make; refine wpl_makeI rfl _ _ rfl pk.length _ _ (by rfl) (by rfl) rfl rfl (by omega) ?_; intro w1 ho1 hb3 hz1)
  have hbA : BelowA w.heap.size w w1 := ⟨hb3, by omega⟩
  clear hb3 hz1
  go_loopw [7] (fun i wr => ∃ (k : Nat) (cs : List Int), k ≤ pk.length ∧ i = .int .i64 k ∧ Hid (cs.length = pk.length) ∧ Hid (PermTo cs k) ∧ OwnI wr w.heap.size pk.length cs ∧ BelowA w.heap.size w wr) (fun i _ => pk.length - (intOf i).toNat)
  case atStart => exact ⟨0, _, by omega, rfl, by show _ = _; simp, ⟨fun t ht => by omega, fun s t _ ht => by omega⟩, ho1, hbA⟩
  case round =>
    clear ho1 hbA
    obtain ⟨k, cs, hk, rfl, HL, HP, ho, hb⟩ := hrel
    have hz := ho.lt
    by_cases hlt : k < pk.length
    · obtain ⟨pb, poff, hpB, rfl, hc⟩ := Sl.intsAt (hsp.below hb.1) (by omega)
      have c1 := hc k hlt
      clear hc
      obtain ⟨q1, q2⟩ := HPK.out k hlt
      obtain ⟨a, ha, hak⟩ : ∃ a : Nat, (nth pk k).tmod ((k : Int) + 1) = (a : Int) ∧ a ≤ k := by
        have e1 := Int.emod_nonneg (nth pk k) (show (k : Int) + 1 ≠ 0 by omega)
        have e2 := Int.emod_lt_of_pos (nth pk k) (show 0 < (k : Int) + 1 by omega)
        exact ⟨(nth pk k % ((k : Int) + 1)).toNat, by rw [Int.tmod_eq_emod_of_nonneg q1]; omega, by omega⟩
      have n0 : ¬ ((k : Int) + 1 = 0) := by omega
      have hpb : pb < wr.heap.size := by have := hb.2; omega
      go_wp2_with fail
      clear ha
      rename World => W1
      go_loopw [9] (fun v wr => ∃ (j : Nat) (ds : List Int), a ≤ j ∧ j ≤ k ∧ v = .int .i64 j ∧ Hid (ds.length = pk.length) ∧ Hid (Sh cs ds k j) ∧ OwnI wr w.heap.size pk.length ds ∧ BelowA w.heap.size w wr) (fun v _ => (intOf v).toNat)
      case atStart => exact ⟨k, cs, hak, by omega, rfl, HL, Sh.start cs k, ho, hb⟩
      case round =>
        clear ho hb hz c1 q1 q2
        obtain ⟨j, ds, haj, hjk, rfl, HLD, HS, ho, hb⟩ := hrel
        have hz := ho.lt
        by_cases hlt2 : a < j
        · have i1 : decide ((j : Int) > (a : Int)) = true := by simp; omega
          obtain ⟨p, HPP⟩ : ∃ p : Nat, Hid (p = j - 1) := ⟨_, rfl⟩
          have hp1 : (j : Int) - 1 = (p : Int) := by rw [HPP.out]; omega
          have hpn : p < pk.length := by rw [HPP.out]; omega
          have hjn : j < pk.length := by omega
          have d1 := ho.cell p (by rw [HLD.out]; exact hpn)
          have d2 := ho.cell j (by rw [HLD.out]; exact hjn)
          have f1 := ho.frozen j
          have hp3 : p < j := by rw [HPP.out]; omega
          go_wp2_with fail
          go_roundw
          case rel =>
            refine ⟨p, ds.set j (nth ds p), by rw [HPP.out]; omega, by omega, by simp [hp1], by show _ = _; rw [List.length_set]; exact HLD.out, ?_, ho.set j _, hb.setC (a := ⟨w.heap.size, j, none⟩) (Nat.le_refl _) _⟩
            rw [HPP.out]
            exact HS.out.step (by rw [HLD.out, HL.out]) (by omega) hjk (by rw [HL.out]; exact hlt) rfl
          case measure => simp [intOf] <;> omega
        · obtain rfl : j = a := by omega
          have hjn : j < pk.length := by omega
          have d2 := ho.cell j (by rw [HLD.out]; exact hjn)
          have f1 := ho.frozen j
          go_wp2_with fail
          go_roundw
          case rel => exact ⟨k + 1, ds.set j (k : Int), by omega, by simp, by show _ = _; rw [List.length_set]; exact HLD.out, HP.out.ins HS.out (by rw [HLD.out, HL.out]) hjk (by rw [HL.out]; exact hlt), ho.set j _, hb.setC (a := ⟨w.heap.size, j, none⟩) (Nat.le_refl _) _⟩
          case measure => simp [intOf]; omega
    · have HPN : Hid (PermTo cs cs.length) := by show PermTo _ _; rw [HL.out, show pk.length = k by omega]; exact HP.out
      clear HP
      have i1 : decide ((k : Int) < (pk.length : Int)) = false := by simp; omega
      go_upto_if 69 with (at_make; refine wpl_makeE0 rfl _ _ rfl rs.length _ (by rfl) (by rfl) rfl (by omega) ?_; intro w2 ho2 hb3 hz2)
      clear i1 hlt hk
      have hbB : BelowA w.heap.size w w2 := hb.next hb3
      have ho22 := ho.below hb3 hz
      obtain ⟨G, hG⟩ : ∃ G, wr.heap.size = G := ⟨_, rfl⟩
      have hwG : w.heap.size < G := by omega
      rw [hG] at ho2 hz2 ⊢
      clear hb3 ho hb hz hG hsp HPK
      have hN512 : pk.length ≤ 512 := by omega
      clear hb1 hpk
      obtain ⟨N, hN⟩ : ∃ N, pk.length = N := ⟨_, rfl⟩
      rw [hN] at HL ho22 hN512
      simp only [hN] at *
      clear hN
      have hbG : BelowA G w2 w2 := ⟨Below.refl _ _, by omega⟩
      have hsr2 := hsr.below hbB.1
      go_cut [10] (fun t w' => ∃ es : List (Int × Int), t = .slice (some ⟨G, 0, none⟩) es.length rs.length ∧ es.length ≤ rs.length ∧ Hid (Along cs es) ∧ OwnE w' G rs.length es ∧ BelowA G w2 w')
      case first =>
        by_cases h0 : N = 0
        · have i0 : decide ((N : Int) > 0) = false := by simp; omega
          go_wp2_with fail
          go_meet
          case rel => exact ⟨[], rfl, by simp, fun i hi => absurd hi (by simp), ho2, hbG⟩
        · have i0 : decide ((N : Int) > 0) = true := by simp; omega
          have hn0 : 0 < N := by omega
          rw [decide_eq_true hn0]
          go_wp2_with fail
          go_loopw [10, 72] (fun t i wr => ∃ (k : Nat) (es : List (Int × Int)), k ≤ rs.length ∧ i = .int .i64 k ∧ t = .slice (some ⟨G, 0, none⟩) es.length rs.length ∧ es.length ≤ k ∧ Hid (Along cs es) ∧ OwnE wr G rs.length es ∧ BelowA G w2 wr) (fun _ i _ => rs.length - (intOf i).toNat)
          case atStart => exact ⟨0, [], by omega, rfl, rfl, by simp, fun i hi => absurd hi (by simp), ho2, hbG⟩
          case round =>
            obtain ⟨k, es, hk, rfl, rfl, hel, HE, ho, hb⟩ := hrel
            have hz := ho.lt
            by_cases hlt : k < rs.length
            · obtain ⟨b, off, hbB3, rfl, hc⟩ := Sl.pairsAt (hsr2.below (hb.1.mono (Nat.le_of_lt hwG))) (by omega)
              obtain ⟨c1, c2⟩ := hc k hlt
              clear hc
              obtain ⟨⟨q1, q2⟩, q3, q4⟩ := HR.out k hlt
              have n0 : ¬ N = 0 := by omega
              obtain ⟨x, hx, hxN⟩ : ∃ x : Nat, (nthF rs k).tmod (N : Int) = (x : Int) ∧ x < N := by
                have e1 := Int.emod_nonneg (nthF rs k) (show (N : Int) ≠ 0 by omega)
                have e2 := Int.emod_lt_of_pos (nthF rs k) (show 0 < (N : Int) by omega)
                exact ⟨(nthF rs k % (N : Int)).toNat, by rw [Int.tmod_eq_emod_of_nonneg q1]; omega, by omega⟩
              obtain ⟨y, hy, hyN⟩ : ∃ y : Nat, (nthT rs k).tmod (N : Int) = (y : Int) ∧ y < N := by
                have e1 := Int.emod_nonneg (nthT rs k) (show (N : Int) ≠ 0 by omega)
                have e2 := Int.emod_lt_of_pos (nthT rs k) (show 0 < (N : Int) by omega)
                exact ⟨(nthT rs k % (N : Int)).toNat, by rw [Int.tmod_eq_emod_of_nonneg q3]; omega, by omega⟩
              have hoC := ho22.below hb.1 hwG
              have d1 := hoC.cell x (by rw [HL.out]; exact hxN)
              have d2 := hoC.cell y (by rw [HL.out]; exact hyN)
              have hbw : b < wr.heap.size := by omega
              have hcw : w.heap.size < wr.heap.size := by omega
              have HXL : Hid (x < cs.length) := by show _ < _; rw [HL.out]; exact hxN
              have HYL : Hid (y < cs.length) := by show _ < _; rw [HL.out]; exact hyN
              have i1 : (0 : Int) ≤ (x : Int) := by omega
              have i2 : (x : Int) < (N : Int) := by omega
              have i3 : (0 : Int) ≤ (y : Int) := by omega
              have i4 : (y : Int) < (N : Int) := by omega
              go_upto_region 21 with fail
              clear hx hy q1 q2 q3 q4 c1 c2 n0
              rcases Nat.lt_trichotomy x y with hxy | hxy | hxy
              · have j1 : decide ((x : Int) < (y : Int)) = true := by simp; omega
                have HXY : Hid (∃ a b, a < b ∧ b < cs.length ∧ nth cs x = nth cs a ∧ nth cs y = nth cs b) := ⟨x, y, hxy, HYL.out, rfl, rfl⟩
                go_upto_region 22 with fail
                go_region_held3 (fun w' => w'.cell? ⟨w.heap.size, x, none⟩ = some (.int .i64 (nth cs x)) ∧ w'.cell? ⟨w.heap.size, y, none⟩ = some (.int .i64 (nth cs y)))
                  (first
                    | go_keep
                    | (go_split_ands
                       refine ⟨?_, ?_⟩
                       · (rw [hg2.cell_far _ (by simp; omega) (by simp; omega)]; assumption)
                       · (rw [hg2.cell_far _ (by simp; omega) (by simp; omega)]; assumption)))
                  ((refine step_appE rfl _ _ (by rfl) G rs.length es.length es (nth cs x, nth cs y) (by rfl) rfl (by first | exact ((ho.alloc _).alloc _).drewN 1 | exact (ho.alloc _).alloc _ ) (wr.heap.size + 1) 1 (by rfl) (by exact cell_new2 (size_alloc _ _).symm) (by omega) ?_; intro w3 ho3 hg2))
                rename_i hHeld
                clear hHeld
                go_wp2_with fail
                go_roundw
                case rel => exact ⟨k + 1, _, by omega, by simp, by simp, by simp; omega, AllE.snoc HE.out HXY.out, ho3, (((hb.alloc _).alloc _).drew).grown hg2 (Nat.le_refl _) (by show G < ((wr.alloc _).alloc _).heap.size; rw [size_alloc, size_alloc]; omega)⟩
                case measure => simp [intOf]; omega
              · have j1 : decide ((x : Int) < (y : Int)) = false := by simp; omega
                have j2 : decide ((y : Int) < (x : Int)) = false := by simp; omega
                go_wp2_with fail
                go_roundw
                case rel => exact ⟨k + 1, es, by omega, by simp, rfl, by omega, HE, ho.alloc _, hb.alloc _⟩
                case measure => simp [intOf]; omega
              · have j1 : decide ((x : Int) < (y : Int)) = false := by simp; omega
                have j2 : decide ((y : Int) < (x : Int)) = true := by simp; omega
                have HXY : Hid (∃ a b, a < b ∧ b < cs.length ∧ nth cs y = nth cs a ∧ nth cs x = nth cs b) := ⟨y, x, hxy, HXL.out, rfl, rfl⟩
                go_upto_region 24 with fail
                go_region_held3 (fun w' => w'.cell? ⟨w.heap.size, x, none⟩ = some (.int .i64 (nth cs x)) ∧ w'.cell? ⟨w.heap.size, y, none⟩ = some (.int .i64 (nth cs y)))
                  (first
                    | go_keep
                    | (go_split_ands
                       refine ⟨?_, ?_⟩
                       · (rw [hg2.cell_far _ (by simp; omega) (by simp; omega)]; assumption)
                       · (rw [hg2.cell_far _ (by simp; omega) (by simp; omega)]; assumption)))
                  ((refine step_appE rfl _ _ (by rfl) G rs.length es.length es (nth cs y, nth cs x) (by rfl) rfl (by first | exact ((ho.alloc _).alloc _).drewN 1 | exact (ho.alloc _).alloc _ ) (wr.heap.size + 1) 1 (by rfl) (by exact cell_new2 (size_alloc _ _).symm) (by omega) ?_; intro w3 ho3 hg2))
                rename_i hHeld
                clear hHeld
                go_wp2_with fail
                go_roundw
                case rel => exact ⟨k + 1, _, by omega, by simp, by simp, by simp; omega, AllE.snoc HE.out HXY.out, ho3, (((hb.alloc _).alloc _).drew).grown hg2 (Nat.le_refl _) (by show G < ((wr.alloc _).alloc _).heap.size; rw [size_alloc, size_alloc]; omega)⟩
                case measure => simp [intOf]; omega
            · obtain rfl : k = rs.length := by omega
              go_wp2_with fail
              go_meet
              case rel => exact ⟨es, rfl, hel, HE, ho, hb⟩
      case rest =>
      obtain ⟨es, rfl, hel, HE, ho, hb⟩ := hcut
      rename World => W3
      have hoC := ho22.below hb.1 hwG
      have hbC : BelowA w.heap.size w W3 := ⟨hbB.1.trans (hb.1.mono (Nat.le_of_lt hwG)), by have := hb.2; omega⟩
      have HRN : Hid (Rng N es) := by have := HE.out.rng HPN.out; rw [HL.out] at this; exact this
      have HIN : Hid (AllIn N es) := fun i hi => by have := HRN.out i hi; exact inB_true.2 ⟨this.1.1, this.1.2, this.2.1, this.2.2⟩
      have hz := ho.lt
      have hzC := hoC.lt
      clear ho22 ho2 hbB hbG hb hsr2 hz2
      go_wp2_with fail
      refine (fromEdges_any N es rs.length _ W3 (by omega) (ho.sl rfl ho.lt)).mono ?_
      rintro e w4 ⟨hb4, ⟨hok, fo, fc, rfl, hsf, hlf⟩ | ⟨hno, rfl⟩⟩
      · have hfl2 := length_insAll es
        have HRG : Hid (Rng N (insAll es)) := HRN.out.ins
        obtain ⟨gs, hgs⟩ : ∃ gs, insAll es = gs := ⟨_, rfl⟩
        rw [hgs] at hfl2 HRG hsf ⊢
        have HGS : Hid _ := hgs
        have hgl2 : gs.length ≤ 1024 := by omega
        clear hgs hfl2
        have hz4 := hb4.size
        have hG := gr_new (n := (N : Int)) (t := 29) hsf
        have hb5 : Below w4.heap.size w4 (w4.alloc (.cells #[.int .i64 N, .slice fo gs.length fc] 29)) := (Below.refl _ _).alloc (Nat.le_refl _) _
        have hb45 := hb4.trans (hb5.mono hz4)
        have ho5 := ho.below hb45 hz
        have hoC5 := hoC.below hb45 hzC
        have hse5 : Sl (w4.alloc (.cells #[.int .i64 N, .slice fo gs.length fc] 29)) (w4.alloc (.cells #[.int .i64 N, .slice fo gs.length fc] 29)).heap.size _ es.length rs.length 2 (cellsE es) := ho5.sl rfl ho5.lt
        have hbD := hbC.next hb45
        rw [← size_alloc w4 (.cells #[.int .i64 N, .slice fo gs.length fc] 29)] at hG
        clear hok hsf hlf hb4 hb5 hb45 hbC ho ho5 hoC
        go_wp2_with fail
        generalize w4.alloc (.cells #[.int .i64 N, .slice fo gs.length fc] 29) = W5 at *
        refine (order_any N w4.heap.size _ fc gs _ (by omega) (by omega) HRG.out hG).mono ?_
        rintro e w6 ⟨hb6, os, tk, hpe, hor⟩
        have HPE : Hid (Peeled N gs os tk) := hpe
        have hol : os.length = N := by
          have hp := hpe
          rw [← HGS.out, ← HL.out] at hp
          rw [← HL.out]
          exact hp.of_along HE.out HPN.out
        clear hpe
        rcases hor with ⟨_, g6, rfl, ho6, hg6⟩ | ⟨hol2, rfl⟩
        · have HOL : Hid (os.length = N) := hol
          have hse6 := (hse5.below hb6).mono hb6.size
          have hoC6 := hoC5.below hb6 hoC5.lt
          have hbE := hbD.next hb6
          have hso6 : Sl w6 w6.heap.size (some ⟨g6, 0, none⟩) N N 1 (cellsI os) := ho6.sl HOL.out.symm ho6.lt
          have HP : Hid (IsPerm N os) := HPE.out.perm HOL.out
          have HF : Hid (Fwd os es) := by have hp := HPE.out; rw [← HGS.out] at hp; exact hp.fwdE
          have HLE : Hid (Least os es) := by have hp := HPE.out; rw [← HGS.out] at hp; exact hp.leastE
          clear hse5 hb6 hbD hG hoC5
          rw [hol]
          clear hol
          go_wp2_with fail
          refine (dtop_len N es os rs.length N _ _ _ HOL.out.symm (by omega) (by omega) HRN.out HP.out HF.out hse6 hso6).mono ?_
          rintro e w8 ⟨hb8, g8, ps, rfl, _, _, _⟩
          have ho8 := ho6.below hb8 ho6.lt
          have hoC8 := hoC6.below hb8 hoC6.lt
          have hbF := hbE.next hb8
          clear ho6 hoC6 hbE hb8 hse6 hso6
          go_wp2_with fail
          go_loopw [21] (fun i wr => ∃ (k : Nat), k ≤ N ∧ i = .int .i64 k ∧ Hid (∀ j, j < k → nth os j = nth cs j) ∧ OwnI wr g6 N os ∧ OwnI wr w.heap.size N cs ∧ BelowA w.heap.size w wr) (fun i _ => N - (intOf i).toNat)
          case atStart => exact ⟨0, by omega, rfl, fun j hj => by omega, ho8, hoC8, hbF⟩
          case round =>
            clear ho8 hoC8 hbF
            obtain ⟨k, hk, rfl, HEQ, ho, hoC, hb⟩ := hrel
            have hz1 := ho.lt
            have hz2 := hoC.lt
            by_cases hlt : k < N
            · have d1 := ho.cell k (by rw [HOL.out]; exact hlt)
              have d2 := hoC.cell k (by rw [HL.out]; exact hlt)
              by_cases hne : nth os k = nth cs k
              · have HNE : Hid _ := hne
                rw [hne] at d1
                clear hne
                have i1 : (nth cs k != nth cs k) = false := by simp
                go_upto_region 38 with fail
                go_quiet (fail)
                go_wp2_with fail
                go_roundw
                case rel =>
                  refine ⟨k + 1, by omega, by simp, fun j hj => ?_, ho.drewN _, hoC.drewN _, hb.drewN _⟩
                  rcases Nat.lt_or_ge j k with h | h
                  · exact HEQ.out j h
                  · obtain rfl : j = k := by omega
                    exact HNE.out
                case measure => simp [intOf]; omega
              · have i1 : (nth os k != nth cs k) = true := by simp [hne]
                have hbest : nth os k < nth cs k := best HLE.out HE.out HPN.out (by rw [HOL.out, HL.out]) (by rw [HL.out]; exact hlt) HEQ.out hne
                have i2 : decide (nth os k < nth cs k) = true := by simp; omega
                go_upto_region 38 with fail
                go_quiet (fail)
                go_upto_region 39 with fail
                go_quiet (fail)
                go_wp2_with fail
                go_ret
                exact ⟨by simp, ((hb.drewN _).drewN _).1⟩
            · go_wp2_with fail
              go_ret
              exact ⟨by simp, hb.1⟩
        · exact absurd hol hol2
      · exact absurd ⟨by omega, by omega, HIN.out⟩ hno
end Go.Proofs.Ymbrdp
