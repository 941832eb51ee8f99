/- The walk of LawS930021DExact. -/
import Derived.Test.YmbrdpDPlain
import Derived.Lib.SliceRun
import Derived.Deep.DeepCutAuto
import Derived.Deep.RegionHeld3
namespace Go.Proofs.Ymbrdp
open Go.ChangeShapes Go.WideShapes Go.ChangeAt Go.RowKit
set_option linter.unusedVariables false
set_option linter.unusedSimpArgs false
attribute [local go_sem ↓] Go.wp_at_zero Go.wp_at_succ

set_option maxRecDepth 20000 in
set_option maxHeartbeats 8000000 in
theorem dExact_walk (sz : Int) (rs : List (Int × Int)) (rc : Nat) (ro : Option Addr) (w : World) (hsz : 0 ≤ sz ∧ sz ≤ 65535) (hrs : rs.length ≤ 9223372036854775807) (hr : ∀ k, k < rs.length → (0 ≤ nthF rs k ∧ nthF rs k ≤ 65535) ∧ (0 ≤ nthT rs k ∧ nthT rs k ≤ 65535))
    (hsr : Sl w w.heap.size ro rs.length rc 2 (cellsP .u16 rs)) :
    Calls Ydpm.prog 12 #[.int .u16 sz, .slice ro rs.length rc] w fun e w' => e = .returned (.bool true) ∧ Below w.heap.size w w' := by
  have HR : Hid _ := hr
  clear hr
  by_cases hb1 : rs.length > 1024
  · go_enter Ydpm.func12, Ydpm.ntmps12
    go_wp2_with fail
    go_ret
    exact ⟨by simp, Below.refl _ _⟩
  obtain ⟨N, hN, hN1⟩ : ∃ N : Nat, sz.tmod 300 = (N : Int) ∧ N ≤ 299 := by
    rw [Int.tmod_eq_emod_of_nonneg hsz.1]; exact ⟨(sz % 300).toNat, by omega, by omega⟩
  go_enter Ydpm.func12, Ydpm.ntmps12
  go_upto_if 25 with (at_make; refine wpl_makeE0 rfl _ _ rfl rs.length _ (by rfl) (by rfl) rfl (by omega) ?_; intro w1 ho1 hb2 hz1)
  clear hN hsz
  have hbA : BelowA w.heap.size w w1 := ⟨hb2, by omega⟩
  clear hb2
  go_cut [6] (fun t w' => ∃ es : List (Int × Int), t = .slice (some ⟨w.heap.size, 0, none⟩) es.length rs.length ∧ es.length ≤ rs.length ∧ Hid (AllIn N es) ∧ OwnE w' w.heap.size rs.length es ∧ BelowA w.heap.size w w')
  case first =>
    by_cases h0 : N = 0
    · have i0 : decide ((N : Int) > 0) = false := by simp; omega
      go_wp2_with fail
      go_meet
      case rel => exact ⟨[], rfl, by simp, fun i hi => absurd hi (by simp), ho1, hbA⟩
    · have i0 : decide ((N : Int) > 0) = true := by simp; omega
      have hn0 : 0 < N := by omega
      rw [decide_eq_true hn0]
      go_wp2_with fail
      go_loopw [6, 28] (fun t i wr => ∃ (k : Nat) (es : List (Int × Int)), k ≤ rs.length ∧ i = .int .i64 k ∧ t = .slice (some ⟨w.heap.size, 0, none⟩) es.length rs.length ∧ es.length ≤ k ∧ Hid (AllIn N es) ∧ OwnE wr w.heap.size rs.length es ∧ BelowA w.heap.size w wr) (fun _ i _ => rs.length - (intOf i).toNat)
      case atStart => exact ⟨0, [], by omega, rfl, rfl, by simp, fun i hi => absurd hi (by simp), ho1, hbA⟩
      case round =>
        obtain ⟨k, es, hk, rfl, rfl, hel, HE, ho, hb⟩ := hrel
        have hz := ho.lt
        by_cases hlt : k < rs.length
        · obtain ⟨b, off, hbB, rfl, hc⟩ := Sl.pairsAt (hsr.below hb.1) (by omega)
          obtain ⟨c1, c2⟩ := hc k hlt
          clear hc
          obtain ⟨⟨q1, q2⟩, q3, q4⟩ := HR.out k hlt
          have n0 : ¬ N = 0 := by omega
          obtain ⟨t1, v1, x1⟩ := rem_facts (nthF rs k) N q1 (by omega) hn0 (by omega)
          obtain ⟨t2, v2, x2⟩ := rem_facts (nthT rs k) N q3 (by omega) hn0 (by omega)
          have hxin : inB N (nthF rs k % N) (nthT rs k % N) = true := inB_true.2 ⟨Int.emod_nonneg _ (by omega), Int.emod_lt_of_pos _ (by omega), Int.emod_nonneg _ (by omega), Int.emod_lt_of_pos _ (by omega)⟩
          have HXIN : Hid _ := hxin
          clear hxin
          go_upto_region 9 with fail
          go_region_held3 (fun w' => w'.cell? ⟨wr.heap.size, 0, none⟩ = some (.int .u16 (nthF rs k)) ∧ w'.cell? ⟨wr.heap.size, 1, none⟩ = some (.int .u16 (nthT rs k)))
            (first
              | go_keep
              | (go_split_ands
                 refine ⟨?_, ?_⟩
                 · (rw [hg2.cell_far _ (by simp; omega) (by simp; omega)]; assumption)
                 · (rw [hg2.cell_far _ (by simp; omega) (by simp; omega)]; assumption)))
            ((refine step_appE rfl _ _ (by rfl) w.heap.size rs.length es.length es (nthF rs k % N, nthT rs k % N) (by rfl) rfl (((ho.alloc _).alloc _).drewN 1) (wr.heap.size + 1) 1 (by rfl) (by exact cell_new2 (size_alloc _ _).symm) (by omega) ?_; intro w2 ho2 hg2))
          rename_i hHeld
          clear hHeld t1 v1 x1 t2 v2 x2 q1 q2 q3 q4
          go_wp2_with fail
          go_roundw
          case rel => exact ⟨k + 1, _, by omega, by simp, by simp, by simp; omega, AllE.snoc (p := fun f t => inB N f t = true) HE.out HXIN.out, ho2, (((hb.alloc _).alloc _).drew).grown hg2 (Nat.le_refl _) (by show w.heap.size < ((wr.alloc _).alloc _).heap.size; rw [size_alloc, size_alloc]; omega)⟩
          case measure => simp [intOf]; omega
        · obtain rfl : k = rs.length := by omega
          go_wp2_with fail
          go_meet
          case rel => exact ⟨es, rfl, hel, HE, ho, hb⟩
  case rest =>
  obtain ⟨es, rfl, hel, HE, ho, hb⟩ := hcut
  rename World => W2
  go_wp2_with fail
  refine (fromEdges_any N es rs.length _ W2 (by omega) (ho.sl rfl ho.lt)).mono ?_
  rintro e w4 ⟨hb4, ⟨hok, fo, fc, rfl, hsf, hlf⟩ | ⟨hno, rfl⟩⟩
  · have hfl2 := length_insAll es
    have HRN : Hid (Rng N es) := HE.out.rng
    have HRG : Hid (Rng N (insAll es)) := HE.out.rng.ins
    obtain ⟨gs, hgs⟩ : ∃ gs, insAll es = gs := ⟨_, rfl⟩
    rw [hgs] at hfl2 HRG hsf ⊢
    have HGS : Hid _ := hgs
    have hgl2 : gs.length ≤ 1024 := by omega
    clear hgs hfl2
    have hz := ho.lt
    have hz4 := hb4.size
    have hG := gr_new (n := (N : Int)) (t := 29) hsf
    have hb5 : Below w4.heap.size w4 (w4.alloc (.cells #[.int .i64 N, .slice fo gs.length fc] 29)) := (Below.refl _ _).alloc (Nat.le_refl _) _
    have hb45 := hb4.trans (hb5.mono hz4)
    have ho5 := ho.below hb45 hz
    have hse5 : Sl (w4.alloc (.cells #[.int .i64 N, .slice fo gs.length fc] 29)) (w4.alloc (.cells #[.int .i64 N, .slice fo gs.length fc] 29)).heap.size _ es.length rs.length 2 (cellsE es) := ho5.sl rfl ho5.lt
    have hbB := hb.next hb45
    rw [← size_alloc w4 (.cells #[.int .i64 N, .slice fo gs.length fc] 29)] at hG
    clear hok hsf hlf hb4 hb5 hb45 hb ho ho5
    go_wp2_with fail
    generalize w4.alloc (.cells #[.int .i64 N, .slice fo gs.length fc] 29) = W5 at *
    refine (order_any N w4.heap.size _ fc gs _ (by omega) (by omega) HRG.out hG).mono ?_
    rintro e w6 ⟨hb6, os, tk, hpe, ⟨hol, g6, rfl, ho6, hg6⟩ | ⟨hol, rfl⟩⟩
    · have HPE : Hid (Peeled N gs os tk) := hpe
      have HOL : Hid (os.length = N) := hol
      clear hpe
      have hse6 := (hse5.below hb6).mono hb6.size
      have hbC := hbB.next hb6
      clear hse5 hb6 hbB hG
      rw [hol]
      clear hol
      go_wp2_with fail
      refine (dcyc_any N es rs.length _ _ (by omega) (by omega) HRN.out hse6).mono ?_
      rintro e w7 ⟨hb7, b7, rfl, h71, h72⟩
      obtain rfl : b7 = false := by
        cases b7
        · rfl
        · have hp := HPE.out
          rw [← HGS.out] at hp
          obtain ⟨p, hp2⟩ := hp.rank HRN.out HOL.out
          exact absurd hp2 (h71 rfl p)
      clear h71 h72
      have ho7 := ho6.below hb7 ho6.lt
      have hso7 : Sl w7 w7.heap.size (some ⟨g6, 0, none⟩) N N 1 (cellsI os) := ho7.sl HOL.out.symm ho7.lt
      have hse7 := (hse6.below hb7).mono hb7.size
      have hbD := hbC.next hb7
      have HP : Hid (IsPerm N os) := HPE.out.perm HOL.out
      have HF : Hid (Fwd os es) := by have hp := HPE.out; rw [← HGS.out] at hp; exact hp.fwdE
      have HLE : Hid (Least os es) := by have hp := HPE.out; rw [← HGS.out] at hp; exact hp.leastE
      clear ho6 hse6 hbC hb7
      go_wp2_with fail
      refine (dtop_len N es os rs.length N _ _ _ HOL.out.symm (by omega) (by omega) HRN.out HP.out HF.out hse7 hso7).mono ?_
      rintro e w8 ⟨hb8, g8, ps, rfl, ho8, hps, hg8⟩
      have HPS : Hid (PosOf os ps) := hps
      clear hps
      rw [HOL.out] at ho8 ⊢
      have hso8 := (hso7.below hb8).mono hb8.size
      have hse8 := (hse7.below hb8).mono hb8.size
      have hsp8 : Sl w8 w8.heap.size (some ⟨g8, 0, none⟩) N N 1 (cellsI ps) := ho8.sl (by rw [HPS.out.1, HOL.out]) ho8.lt
      have hbE := hbD.next hb8
      clear hso7 hse7 hbD hb8 ho8
      go_wp2_with fail
      refine (dgr_len N es os ps rs.length N N _ _ _ _ HOL.out.symm (by omega) (by omega) HRN.out HP.out HPS.out HLE.out hse8 hso8 hsp8).mono ?_
      rintro e w9 ⟨hb9, rfl⟩
      go_wp2_with fail
      go_ret
      exact ⟨by simp, (hbE.next hb9).1⟩
    · have HPE : Hid (Peeled N gs os tk) := hpe
      have HOL : Hid (¬ os.length = N) := hol
      clear hpe hol
      have hse6 := (hse5.below hb6).mono hb6.size
      have hbC := hbB.next hb6
      clear hse5 hb6 hbB hG
      go_wp2_with fail
      refine (dcyc_any N es rs.length _ _ (by omega) (by omega) HRN.out hse6).mono ?_
      rintro e w7 ⟨hb7, b7, rfl, h71, h72⟩
      obtain rfl : b7 = true := by
        cases b7
        · obtain ⟨ls, l1, l2⟩ := h72 rfl
          have hp := HPE.out
          rw [← HGS.out] at hp
          exact absurd (hp.of_okay HRN.out l1 l2) HOL.out
        · rfl
      clear h71 h72
      have qT : ∀ w a n c n' c', (binOp .eql 24 (.slice a n c) (.slice none n' c')).run Ydpm.prog w = .ok (.bool a.isNone) w := fun w a n c n' c' => Lib.run_eql_slice_nil w _ _ a n c n' c' Ydpm.underlying24
      go_wp2_with fail
      go_ret
      exact ⟨by simp, (hbC.next hb7).1⟩
  · exact absurd ⟨by omega, by omega, HE.out⟩ hno
end Go.Proofs.Ymbrdp
