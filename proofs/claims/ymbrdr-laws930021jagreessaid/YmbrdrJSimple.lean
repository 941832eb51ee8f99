/- The walk of LawS930021JSimple. -/
import Derived.Test.YmbrdrJParts
import Derived.Test.YmbrdrLExact
import Derived.Lib.SliceRun
namespace Go.Proofs.Ymbrdr
open Go.ChangeShapes Go.WideShapes Go.ChangeAt Go.RowKit
set_option linter.unusedVariables false
set_option linter.unusedSimpArgs false
attribute [local go_sem ↓] Go.wp_at_zero Go.wp_at_succ

theorem AllIn.rng {n : Nat} {es : List (Int × Int)} (h : AllIn n es) : Rng n es := fun k hk => by
  have := inB_true.1 (h k hk)
  omega
theorem Rng.ins {n : Nat} {es : List (Int × Int)} (h : Rng n es) : Rng n (insAll es) := fun k hk => by
  obtain ⟨j, hj, e⟩ := mem_nthE.1 (mem_insAll.1 (mem_nthE.2 ⟨k, hk, rfl⟩))
  have e1 : nthF es j = nthF (insAll es) k := congrArg Prod.fst e
  have e2 : nthT es j = nthT (insAll es) k := congrArg Prod.snd e
  have := h j hj
  rw [e1, e2] at this
  exact this
/-- the first marked vertex, of the marks that jalive gives -/
theorem first_none {n : Nat} {gs : List (Int × Int)} {os : List Int} {tk bs : List Bool} (h : Peeled n gs os tk) (hr : Rng n gs) (ha : ∀ v : Nat, v < n → (nthB bs v = true ↔ Alive gs n v)) (hl : os.length = n) {v : Nat} (hv : v ≤ n) (h2 : v < n → nthB bs v = true) : v = n := by
  rcases Nat.lt_or_ge v n with h1 | h1
  · have h3 := (h.alive hr h1).1 ((ha v h1).1 (h2 h1))
    have hp := h.perm hl
    have hp' : IsPerm os.length os := by rw [hl]; exact hp
    obtain ⟨i, hi, e⟩ := hp'.surj v (by omega)
    have := (h.tko v h1).2 ⟨i, hi, e⟩
    rw [this] at h3; cases h3
  · omega
theorem first_some {n : Nat} {gs : List (Int × Int)} {os : List Int} {tk bs : List Bool} (h : Peeled n gs os tk) (hr : Rng n gs) (ha : ∀ v : Nat, v < n → (nthB bs v = true ↔ Alive gs n v)) {v0 : Nat} (hf : FirstU n tk v0) {v : Nat} (hv : v ≤ n) (h1 : ∀ u, u < v → nthB bs u = false) (h2 : v < n → nthB bs v = true) : v = v0 := by
  have hv0 := (ha v0 hf.1).2 ((h.alive hr hf.1).2 hf.2.1)
  have hle : v ≤ v0 := Nat.le_of_not_lt fun hlt => by rw [h1 v0 hlt] at hv0; cases hv0
  have hf1 := hf.1
  have h3 := (h.alive hr (show v < n by omega)).1 ((ha v (by omega)).1 (h2 (by omega)))
  rcases Nat.lt_or_ge v v0 with h4 | h4
  · have := hf.2.2 v h4
    rw [this] at h3; cases h3
  · omega
/-- all that JSimple asks of the answer -/
theorem CycAns.simple {n : Nat} {es : List (Int × Int)} {os : List Int} {tk : List Bool} (h : Peeled n (insAll es) os tk) (hr : Rng n es) {v0 : Nat} (hf : FirstU n tk v0) {c : List Int} (hc : CycAns n (itr (insAll es) (left tk) v0) c) :
    0 < c.length ∧ c.length ≤ n ∧ (∀ i, i < c.length → nth c 0 ≤ nth c i ∧ 0 ≤ nth c i ∧ nth c i < n) ∧ IsCyc es c := by
  have hfc := hc.facts
  have hcy := hfc.isCyc h hr.ins hf.inU
  refine ⟨hfc.pos, hfc.le, fun i hi => ⟨hfc.least i hi, ?_⟩, (isCyc_mem (fun x => mem_insAll)).1 hcy⟩
  obtain ⟨j, hj⟩ := hfc.from_ i hi
  have := h.itr hr.ins hf.inU j
  rw [hj]
  exact ⟨this.1, this.2.1⟩

set_option maxRecDepth 20000 in
set_option maxHeartbeats 8000000 in
theorem jSimple_walk (sz : Int) (rs : List (Int × Int)) (rc : Nat) (ro : Option Addr) (w : World) (hsz : 0 ≤ sz ∧ sz ≤ 255) (hrs : rs.length ≤ 9223372036854775807) (hr : ∀ k, k < rs.length → (0 ≤ nthF rs k ∧ nthF rs k ≤ 255) ∧ (0 ≤ nthT rs k ∧ nthT rs k ≤ 255))
    (hsr : Sl w w.heap.size ro rs.length rc 2 (cellsP .u8 rs)) :
    Calls Ydrm.prog 5 #[.int .u8 sz, .slice ro rs.length rc] w fun e w' => e = .returned (.bool true) ∧ Below w.heap.size w w' := by
  have HR : Hid _ := hr
  clear hr
  by_cases hb1 : rs.length > 1024
  · go_enter Ydrm.func5, Ydrm.ntmps5
    go_wp2_with fail
    go_ret
    exact ⟨by simp, Below.refl _ _⟩
  obtain ⟨N, rfl⟩ := Int.eq_ofNat_of_zero_le hsz.1
  have hN1 : N ≤ 255 := by omega
  clear hsz
  go_enter Ydrm.func5, Ydrm.ntmps5
  go_wp2_with fail
  refine (jedges_any N rs rc ro w (by omega) (by omega) HR.out hsr).mono ?_
  rintro e w1 ⟨hbw1, es, rfl, ho, hin, hel⟩
  have HE : Hid (AllIn N es) := hin
  clear hin
  have hb : BelowA w.heap.size w w1 := ⟨hbw1, hbw1.size⟩
  clear hbw1
  go_wp2_with fail
  refine (fromEdges_any N es rs.length _ w1 (by omega) (ho.sl rfl ho.lt)).mono ?_
  rintro e w4 ⟨hb4, ⟨hok, fo, fc, rfl, hsf, hlf⟩ | ⟨hno, rfl⟩⟩
  · have hfl2 := length_insAll es
    have HRN : Hid (Rng N es) := HE.out.rng
    have HRG : Hid (Rng N (insAll es)) := HE.out.rng.ins
    obtain ⟨gs, hgs⟩ : ∃ gs, insAll es = gs := ⟨_, rfl⟩
    rw [hgs] at hfl2 HRG hsf ⊢
    have HGS : Hid _ := hgs
    have hgl2 : gs.length ≤ 1024 := by omega
    clear hgs hfl2
    have hz := ho.lt
    have hz4 := hb4.size
    have hG := gr_new (n := (N : Int)) (t := 33) hsf
    have hb5 : Below w4.heap.size w4 (w4.alloc (.cells #[.int .i64 N, .slice fo gs.length fc] 33)) := (Below.refl _ _).alloc (Nat.le_refl _) _
    have hb45 := hb4.trans (hb5.mono hz4)
    have ho5 := ho.below hb45 hz
    have hse5 : Sl (w4.alloc (.cells #[.int .i64 N, .slice fo gs.length fc] 33)) (w4.alloc (.cells #[.int .i64 N, .slice fo gs.length fc] 33)).heap.size _ es.length rs.length 2 (cellsE es) := ho5.sl rfl ho5.lt
    have hbB := hb.next hb45
    rw [← size_alloc w4 (.cells #[.int .i64 N, .slice fo gs.length fc] 33)] at hG
    clear hok hsf hlf hb4 hb5 hb45 hb ho ho5
    go_wp2_with fail
    generalize w4.alloc (.cells #[.int .i64 N, .slice fo gs.length fc] 33) = W5 at *
    refine (cycle_any N w4.heap.size _ fc gs _ (by omega) (by omega) HRG.out hG).mono ?_
    rintro e w6 ⟨hb6, os, tk, hpe, ⟨hol, rfl⟩ | ⟨hol, g6, c, v0, rfl, ho6, hg6, hfu, hans⟩⟩
    · have HPE : Hid (Peeled N gs os tk) := hpe
      have HOL : Hid (os.length = N) := hol
      clear hpe hol
      have hse6 := (hse5.below hb6).mono hb6.size
      have hbC := hbB.next hb6
      clear hse5 hb6 hbB hG
      go_wp2_with fail
      refine (jalive_any N es rs.length _ _ (by omega) (by omega) HRN.out hse6).mono ?_
      rintro e w7 ⟨hb7, g7, bs, rfl, ho7, hbl, hal, hg7⟩
      have HBL : Hid (bs.length = N) := hbl
      have HAL : Hid (∀ v : Nat, v < N → (nthB bs v = true ↔ Alive gs N v)) := fun v hv => by rw [hal v hv, ← HGS.out, alive_ins]
      clear hbl hal
      have hbD := hbC.next hb7
      clear hb7 hbC hse6
      go_wp2_with fail
      refine (jfirst_len N bs N _ w7 HBL.out.symm (by omega) (ho7.sl HBL.out.symm ho7.lt)).mono ?_
      rintro e w8 ⟨hb8, v, rfl, hv1, hv2, hv3⟩
      have hvN : v = N := first_none HPE.out HRG.out HAL.out HOL.out (by rw [← HBL.out]; exact hv1) (by rw [← HBL.out]; exact hv3)
      subst hvN
      clear hv1 hv2 hv3
      have i1 : decide ((v : Int) < (v : Int)) = false := by simp
      have qT : ∀ w a n c n' c', (binOp .eql 22 (.slice a n c) (.slice none n' c')).run Ydrm.prog w = .ok (.bool a.isNone) w := fun w a n c n' c' => Lib.run_eql_slice_nil w _ _ a n c n' c' Ydrm.underlying22
      go_wp2_with fail
      go_ret
      exact ⟨by simp, (hbD.next hb8).1⟩
    · have HPE : Hid (Peeled N gs os tk) := hpe
      have HFU : Hid (FirstU N tk v0) := hfu
      have hv0 := hfu.1
      obtain ⟨hc0, hcN, hcr, hcy⟩ := CycAns.simple (by have := hpe; rw [← HGS.out] at this; exact this) HRN.out hfu (by have := hans; rw [← HGS.out] at this; exact this)
      have HCR : Hid _ := hcr
      have HCY : Hid (IsCyc es c) := hcy
      clear hpe hol hfu hans hcr hcy
      have hse6 := (hse5.below hb6).mono hb6.size
      have hbC := hbB.next hb6
      clear hse5 hb6 hbB hG
      go_wp2_with fail
      refine (jalive_any N es rs.length _ _ (by omega) (by omega) HRN.out hse6).mono ?_
      rintro e w7 ⟨hb7, g7, bs, rfl, ho7, hbl, hal, hg7⟩
      have HBL : Hid (bs.length = N) := hbl
      have HAL : Hid (∀ v : Nat, v < N → (nthB bs v = true ↔ Alive gs N v)) := fun v hv => by rw [hal v hv, ← HGS.out, alive_ins]
      clear hbl hal
      have hbD := hbC.next hb7
      have ho67 := ho6.below hb7 ho6.lt
      have hse7 := (hse6.below hb7).mono hb7.size
      clear hb7 hbC hse6 ho6
      go_wp2_with fail
      refine (jfirst_len N bs N _ w7 HBL.out.symm (by omega) (ho7.sl HBL.out.symm ho7.lt)).mono ?_
      rintro e w8 ⟨hb8, v, rfl, hv1, hv2, hv3⟩
      have hvv : v = v0 := first_some HPE.out HRG.out HAL.out HFU.out (by rw [← HBL.out]; exact hv1) hv2 (by rw [← HBL.out]; exact hv3)
      have hvN : v < N := by omega
      clear hv1 hv2 hv3 hvv
      have ho8 := ho67.below hb8 ho67.lt
      have hse8 := (hse7.below hb8).mono hb8.size
      have hbE := hbD.next hb8
      clear hb8 hbD hse7 ho67 ho7
      have i1 : decide ((v : Int) < (N : Int)) = true := by simp; omega
      have i2 : ((c.length : Int) == 0) = false := by rw [beq_eq_false_iff_ne]; omega
      have i3 : decide ((c.length : Int) > (N : Int)) = false := by simp; omega
      go_wp2_with (at_make; refine wpl_makeB rfl _ _ rfl N _ _ (by rfl) (by rfl) rfl rfl (by omega) ?_; intro w9 ho9 hb9 hz9)
      have hs1 := ho8.lt
      have hoc := ho8.below hb9 hs1
      have hse9 := (hse8.below hb9).mono hb9.size
      have hbF := hbE.next hb9
      have hseK := hse9
      obtain ⟨gS, hgS⟩ : ∃ gS, w8.heap.size = gS := ⟨_, rfl⟩
      rw [hgS] at ho9 hz9 hs1 ⊢
      have hgSw : w.heap.size ≤ gS := by rw [← hgS]; exact hbE.2
      have hse9' : Sl w9 gS (some ⟨w.heap.size, 0, none⟩) es.length rs.length 2 (cellsE es) := by rw [← hgS]; exact hse8.below hb9
      have hbG : BelowA gS w9 w9 := ⟨Below.refl _ _, by omega⟩
      clear hb9 ho8 hse8 hbE hse9 hseK hgS i1 i2 i3
      go_loopw [62] (fun i wr => ∃ (k : Nat) (sn : List Bool), k ≤ c.length ∧ i = .int .i64 k ∧ Hid (sn.length = N) ∧ Hid (∀ v : Nat, v < N → nthB sn v = true → ∃ j, j < k ∧ nth c j = v) ∧ OwnB wr gS N sn ∧ BelowA gS w9 wr) (fun i _ => c.length - (intOf i).toNat)
      case atStart => exact ⟨0, _, by omega, rfl, by show _ = _; simp, fun v hv h => (by rw [nthB_replicate hv] at h; cases h), ho9, hbG⟩
      case round =>
        clear ho9 hbG
        obtain ⟨k, sn, hk, rfl, HSL, HSN, ho, hb⟩ := hrel
        have hz1 := ho.lt
        by_cases hlt : k < c.length
        · have hocr := hoc.below hb.1 hs1
          have hg6r : g6 < wr.heap.size := by omega
          have c1 := hocr.cell k hlt
          have c0 := hocr.cell 0 hc0
          obtain ⟨p1, p2, p3⟩ := HCR.out k hlt
          obtain ⟨x, hx⟩ := Int.eq_ofNat_of_zero_le p2
          obtain ⟨a0, ha0⟩ : ∃ a0, nth c 0 = a0 := ⟨_, rfl⟩
          rw [ha0] at c0 p1
          rw [hx] at c1 p1 p3
          have HX : Hid (nth c k = (x : Int)) := hx
          have HA0 : Hid (nth c 0 = a0) := ha0
          clear hx ha0 p2
          have hxN : x < N := by omega
          have d1 := ho.cell x (by rw [HSL.out]; exact hxN)
          have f1 := ho.frozen x
          have hsn : nthB sn x = false := by
            cases h : nthB sn x
            · rfl
            · obtain ⟨j, hj, e⟩ := HSN.out x hxN h
              exact absurd (by rw [e, HX.out]) (HCY.out.2.2 j k hj hlt)
          rw [hsn] at d1
          clear hsn
          have HSN2 : Hid (∀ v : Nat, v < N → nthB (sn.set x true) v = true → ∃ j, j < k + 1 ∧ nth c j = v) := fun v hv h => by
            rw [nthB_set (by rw [HSL.out]; exact hxN)] at h
            split at h
            · rename_i e; subst e; exact ⟨k, by omega, HX.out⟩
            · obtain ⟨j, hj, e⟩ := HSN.out v hv h
              exact ⟨j, by omega, e⟩
          have i1 : decide ((x : Int) < a0) = false := by simp; omega
          have i2 : decide ((x : Int) < 0) = false := by simp
          have i3 : decide ((x : Int) ≥ (N : Int)) = false := by simp; omega
          have hbS := hb.setC (a := ⟨gS, x, none⟩) (Nat.le_refl _) (.bool true)
          have hoS := ho.set x true
          have hne : g6 ≠ gS := by omega
          by_cases hnx : k + 1 < c.length
          · have HMEM : Hid (((x : Int), nth c (k + 1)) ∈ es) := by have := HCY.out.2.1 k hlt; rw [nxt_mid hnx, HX.out] at this; exact this
            have c2 := hocr.cell (k + 1) hnx
            have i4 : decide ((k : Int) + 1 < (c.length : Int)) = true := by simp; omega
            go_wp2_with fail
            refine (jhas_any es (x : Int) (nth c (k + 1)) rs.length _ _ (by omega) ((hse9'.below hbS.1).mono hbS.2)).mono ?_
            rintro e w11 ⟨hb11, rfl⟩
            rw [decide_eq_true HMEM.out]
            have hbT := hbS.next hb11
            have hoT := hoS.below hb11 hoS.lt
            go_wp2_with fail
            go_roundw
            case rel => exact ⟨k + 1, sn.set x true, by omega, by simp, by show _ = _; rw [List.length_set]; exact HSL.out, HSN2, hoT, hbT⟩
            case measure => simp [intOf]; omega
          · have HMEM : Hid (((x : Int), a0) ∈ es) := by have := HCY.out.2.1 k hlt; rw [nxt_last hlt hnx, HX.out, HA0.out] at this; exact this
            have i4 : decide ((k : Int) + 1 < (c.length : Int)) = false := by simp; omega
            go_wp2_with fail
            refine (jhas_any es (x : Int) a0 rs.length _ _ (by omega) ((hse9'.below hbS.1).mono hbS.2)).mono ?_
            rintro e w11 ⟨hb11, rfl⟩
            rw [decide_eq_true HMEM.out]
            have hbT := hbS.next hb11
            have hoT := hoS.below hb11 hoS.lt
            go_wp2_with fail
            go_roundw
            case rel => exact ⟨k + 1, sn.set x true, by omega, by simp, by show _ = _; rw [List.length_set]; exact HSL.out, HSN2, hoT, hbT⟩
            case measure => simp [intOf]; omega
        · go_wp2_with fail
          go_ret
          exact ⟨by simp, hbF.1.trans (hb.1.mono hgSw)⟩
  · exact absurd ⟨by omega, by omega, HE.out⟩ hno
end Go.Proofs.Ymbrdr
