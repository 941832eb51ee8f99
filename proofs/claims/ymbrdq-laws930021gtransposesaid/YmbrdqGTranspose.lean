/- The walk of LawS930021GTranspose. -/
import Derived.Test.YmbrdqGTrans
import Derived.Test.YmbrdqGWant
namespace Go.Proofs.Ymbrdq
open Go.ChangeShapes Go.WideShapes Go.ChangeAt Go.RowKit
set_option linter.unusedVariables false
set_option linter.unusedSimpArgs false
attribute [local go_sem ↓] Go.wp_at_zero Go.wp_at_succ

theorem nth_reverse {xs : List Int} {i : Nat} (h : i < xs.length) : nth xs.reverse i = nth xs (xs.length - 1 - i) := by
  rw [nth_eq (by simpa using h), nth_eq (by omega)]; simp
theorem IsPerm.reverse {n : Nat} {xs : List Int} (h : IsPerm n xs) : IsPerm n xs.reverse := by
  refine ⟨by rw [List.length_reverse]; exact h.1, fun i hi => ?_, fun i j hij hj e => ?_⟩
  · rw [List.length_reverse] at hi
    rw [nth_reverse hi]
    exact h.2.1 _ (by omega)
  · rw [List.length_reverse] at hj
    rw [nth_reverse (by omega), nth_reverse hj] at e
    have := h.inj (show xs.length - 1 - i < xs.length by omega) (show xs.length - 1 - j < xs.length by omega) e
    omega
theorem isOrd_mem {n : Nat} {es : List (Int × Int)} {os : List Int} : IsOrd n es os ↔ IsPerm n os ∧ ∀ x y, (x, y) ∈ es → ∀ i j, i < os.length → j < os.length → nth os i = x → nth os j = y → i < j := by
  constructor
  · rintro ⟨h1, h2⟩
    refine ⟨h1, fun x y hm i j hi hj e1 e2 => ?_⟩
    obtain ⟨k, hk, e⟩ := mem_nthE.1 hm
    exact h2 k hk i j hi hj (by rw [e1]; exact (congrArg Prod.fst e).symm) (by rw [e2]; exact (congrArg Prod.snd e).symm)
  · rintro ⟨h1, h2⟩
    exact ⟨h1, fun k hk i j hi hj e1 e2 => h2 _ _ (mem_nthE.2 ⟨k, hk, rfl⟩) i j hi hj e1 e2⟩
theorem ord_reverse1 {n : Nat} {es : List (Int × Int)} {xs : List Int} (h : IsOrd n es xs) : IsOrd n (trE es) xs.reverse := by
  obtain ⟨h1, h2⟩ := isOrd_mem.1 h
  refine isOrd_mem.2 ⟨h1.reverse, fun x y hm i j hi hj e1 e2 => ?_⟩
  rw [List.length_reverse] at hi hj
  rw [nth_reverse hi] at e1
  rw [nth_reverse hj] at e2
  have := h2 y x (mem_trE.1 hm) _ _ (show xs.length - 1 - j < xs.length by omega) (show xs.length - 1 - i < xs.length by omega) e2 e1
  omega
theorem trE_trE {es : List (Int × Int)} (hs : Srt es) : trE (trE es) = es := srt_ext (srt_trE _) hs (fun x => by obtain ⟨a, b⟩ := x; rw [mem_trE, mem_trE])
theorem ord_reverse {n : Nat} {es : List (Int × Int)} {xs : List Int} (hs : Srt es) : IsOrd n (trE es) xs.reverse ↔ IsOrd n es xs := by
  constructor
  · intro h
    have := ord_reverse1 h
    rwa [trE_trE hs, List.reverse_reverse] at this
  · exact ord_reverse1
theorem ord_both {n : Nat} {es : List (Int × Int)} {xs : List Int} (h0 : 0 < es.length) (hr : Rng n es) (h : IsOrd n es xs) (h' : IsOrd n es xs.reverse) : False := by
  obtain ⟨⟨a1, a2⟩, b1, b2⟩ := hr 0 h0
  have hl : xs.length = n := by have := h.1.1; omega
  obtain ⟨i, i1, i2⟩ := h.1.surj (nthF es 0).toNat (by omega)
  obtain ⟨j, j1, j2⟩ := h.1.surj (nthT es 0).toNat (by omega)
  have t1 := h.2 0 h0 i j i1 j1 (by omega) (by omega)
  have t2 := h'.2 0 h0 (xs.length - 1 - i) (xs.length - 1 - j) (by rw [List.length_reverse]; omega) (by rw [List.length_reverse]; omega) (by rw [nth_reverse (by omega), show xs.length - 1 - (xs.length - 1 - i) = i by omega]; omega) (by rw [nth_reverse (by omega), show xs.length - 1 - (xs.length - 1 - j) = j by omega]; omega)
  omega
theorem rev_take {xs : List Int} {k : Nat} (h : k < xs.length) : xs.reverse.take (k + 1) = xs.reverse.take k ++ [nth xs (xs.length - 1 - k)] := by
  rw [List.take_succ_eq_append_getElem (by simpa using h), ← nth_eq (by simpa using h), nth_reverse h]
theorem rng_mem {n : Nat} {es : List (Int × Int)} (h : ∀ x ∈ es, inB n x.1 x.2 = true) : Rng n es := fun k hk => by
  have := inB_true.1 (h (nthE es k) (mem_nthE.2 ⟨k, hk, rfl⟩))
  exact ⟨⟨this.1, this.2.1⟩, this.2.2.1, this.2.2.2⟩

set_option maxRecDepth 20000 in
set_option maxHeartbeats 8000000 in
theorem gTranspose_walk (ks : List Int) (rs : List (Int × Int)) (free : Bool) (mode at_ val : Int) (kc rc : Nat) (ko ro : Option Addr) (w : World) (hks : ks.length ≤ 9223372036854775807) (hrs : rs.length ≤ 9223372036854775807) (hk : ∀ k, k < ks.length → 0 ≤ nth ks k ∧ nth ks k ≤ 65535) (hr : ∀ k, k < rs.length → (0 ≤ nthF rs k ∧ nthF rs k ≤ 65535) ∧ (0 ≤ nthT rs k ∧ nthT rs k ≤ 65535)) (hm : 0 ≤ mode ∧ mode ≤ 255) (hat : 0 ≤ at_ ∧ at_ ≤ 65535)
    (hsk : Sl w w.heap.size ko ks.length kc 1 (cellsK .u16 ks)) (hsr : Sl w w.heap.size ro rs.length rc 2 (cellsP .u16 rs)) :
    Calls Ydqm.prog 9 #[.slice ko ks.length kc, .slice ro rs.length rc, .bool free, .int .u8 mode, .int .u16 at_, .int .i64 val] w fun e w' => e = .returned (.bool true) ∧ Below w.heap.size w w' := by
  have HK : Hid _ := hk
  have HR : Hid _ := hr
  clear hk hr
  by_cases hb1 : ks.length > 1024
  · go_enter Ydqm.func9, Ydqm.ntmps9
    go_wp2_with fail
    go_ret
    exact ⟨by simp, Below.refl _ _⟩
  by_cases hb2 : rs.length > 1024
  · go_enter Ydqm.func9, Ydqm.ntmps9
    go_wp2_with fail
    go_ret
    exact ⟨by simp, Below.refl _ _⟩
  go_enter Ydqm.func9, Ydqm.ntmps9
  go_wp2_with fail
  refine (gperm_any ks kc ko w (by omega) HK.out hsk).mono ?_
  rintro e w1 ⟨hw1, g1, ps, rfl, ho1, hpl, hpi, hg1⟩
  have HPL : Hid _ := hpl
  have HPI : Hid _ := hpi
  have hpl2 : ps.length ≤ 1024 := by omega
  clear hpl hpi
  have hz1 := hw1.size
  have hs1 : Sl w1 w1.heap.size (some ⟨g1, 0, none⟩) ps.length ks.length 1 (cellsI ps) := ho1.sl rfl ho1.lt
  go_wp2_with fail
  refine (gedges_any ks.length ps rs free ks.length rc _ ro w1 HPL.out.symm (by omega) (by omega) HPI.out HR.out hs1 ((hsr.below hw1).mono hz1)).mono ?_
  rintro e w2 ⟨hw2, g2, es, rfl, ho2, hei, hg2⟩
  have HEI : Hid (InE ks.length es) := hei
  clear hei
  have hel := ho2.le
  have hz2 := hw2.size
  have hs2 := (hs1.below hw2).mono hz2
  go_wp2_with fail
  refine (gspoil_any ks.length ps mode at_ val ks.length _ w2 HPL.out.symm (by omega) hm hat hs2).mono ?_
  rintro e w3 ⟨hw3, oo, oc, os, rfl, hso, hol⟩
  have hz3 := hw3.size
  have hse : Sl w3 w3.heap.size (some ⟨g2, 0, none⟩) es.length rs.length 2 (cellsE es) := (((ho2.sl rfl ho2.lt).below hw3).mono hz3)
  have hbA : BelowA w.heap.size w w3 := ((BelowA.next ⟨hw1, hz1⟩ hw2).next hw3)
  clear hs1 hs2 ho1 ho2 hw1 hw2 hw3
  go_wp2_with fail
  refine (fromEdges_any ks.length es rs.length _ w3 (by omega) hse).mono ?_
  rintro e w4 ⟨hb4, ⟨hok, fo, fc, rfl, hsf, hlf⟩ | ⟨hno, rfl⟩⟩
  · have hfl := length_insAll es
    have HS : Hid (Srt (insAll es)) := srt_insAll es
    have HRN : Hid (Rng ks.length (insAll es)) := rng_mem (fun x hx => HEI.out x (mem_insAll.1 hx))
    have HPO : Hid (0 < es.length → 0 < (insAll es).length) := fun h => List.length_pos_of_mem (mem_insAll.2 (List.getElem_mem h))
    generalize insAll es = gs at *
    have hG := gr_new (n := (ks.length : Int)) (t := 45) hsf
    have hbB : BelowA w.heap.size w (w4.alloc (.cells #[.int .i64 ks.length, .slice fo gs.length fc] 45)) := (hbA.next hb4).alloc _
    have hso4 := (hso.below hb4).mono hb4.size
    have hb5 : Below w4.heap.size w4 (w4.alloc (.cells #[.int .i64 ks.length, .slice fo gs.length fc] 45)) := (Below.refl _ _).alloc (Nat.le_refl _) _
    have hso5 := (hso4.below hb5).mono hb5.size
    rw [← size_alloc w4 (.cells #[.int .i64 ks.length, .slice fo gs.length fc] 45)] at hG
    clear hok hsf hlf hse hso hso4 hb5 hbA hb4
    go_wp2_with (at_make; refine wpl_makeI0 rfl _ _ rfl os.length _ (by rfl) (by rfl) rfl (by omega) ?_; intro w6 ho6 hb6 hz6)
    have hszW : (w4.alloc (.cells #[.int .i64 ks.length, .slice fo gs.length fc] 45)).heap.size = w4.heap.size + 1 := size_alloc _ _
    generalize w4.alloc (.cells #[.int .i64 ks.length, .slice fo gs.length fc] 45) = W5 at *
    obtain ⟨G, hGG⟩ : ∃ G, w4.heap.size = G := ⟨_, rfl⟩
    rw [hGG] at hG hszW ⊢
    clear hGG
    have HSW : Hid _ := hszW
    rw [← hszW]
    clear hszW
    go_loopw [18, 19] (fun t i wr => ∃ (k : Nat) (ts : List Int), k ≤ os.length ∧ i = .int .i64 ((os.length : Int) - 1 - (k : Int)) ∧ t = .slice (some ⟨W5.heap.size, 0, none⟩) ts.length os.length ∧ ts.length ≤ k ∧ Hid (ts = os.reverse.take k) ∧ OwnI wr W5.heap.size os.length ts ∧ BelowA W5.heap.size W5 wr) (fun _ i _ => (intOf i + 1).toNat)
    case atStart => exact ⟨0, [], by omega, by simp, rfl, by simp, by show _ = _; simp, ho6, hb6, by omega⟩
    case round =>
      obtain ⟨k, ts, hk, rfl, rfl, htl, HT, ho, hb⟩ := hrel
      have hz := ho.lt
      by_cases hlt : k < os.length
      · obtain ⟨p, HP⟩ : ∃ p : Nat, Hid (p = os.length - 1 - k) := ⟨_, rfl⟩
        have hpp : (os.length : Int) - 1 - (k : Int) = (p : Int) := by rw [HP.out]; omega
        have hpl : p < os.length := by rw [HP.out]; omega
        rw [hpp]
        have hpp2 : Hid ((os.length : Int) - 1 - ((k + 1 : Nat) : Int) = (p : Int) - 1) := by show _ = _; omega
        have hp0 : (0 : Int) ≤ (p : Int) := by omega
        obtain ⟨bb, off, hbB2, rfl, hc⟩ := Sl.intsAt (hso5.below hb.1) (by omega)
        have c1 := hc p hpl
        clear hc hpp
        go_wp2_with (at_builtin; go_must (refine wpl_appI rfl (.tmp 60) (.tmp 65) rfl W5.heap.size os.length ts.length ts (nth os p) (by rfl) rfl (ho.alloc _) wr.heap.size 1 (by rfl) (cell_new1 rfl) (by omega) ?_); intro w8 ho8 hg8)
        go_roundw
        case rel => exact ⟨k + 1, _, by omega, by rw [hpp2.out], by simp, by simp; omega, by show _ = _; rw [rev_take hlt, HT.out, HP.out], ho8, (hb.alloc _).grown hg8 (Nat.le_refl _) (by rw [size_alloc]; omega)⟩
        case measure => simp [intOf] <;> omega
      · obtain rfl : k = os.length := by omega
        have hts : ts = os.reverse := by have := HT.out; rw [List.take_of_length_le (by simp)] at this; exact this
        have HTS : Hid _ := hts
        clear hts
        have hi0 : (os.length : Int) - 1 - (os.length : Int) = -1 := by omega
        rw [hi0]
        clear hi0
        have hG7 := (hG.below hb.1).mono hb.2
        have hso7 := (hso5.below hb.1).mono hb.2
        have hsr7 : Sl wr wr.heap.size (some ⟨W5.heap.size, 0, none⟩) ts.length os.length 1 (cellsI ts) := ho.sl rfl hz
        have hbC := hbB.next hb.1
        go_wp2_with fail
        refine (transpose_any ks.length G gs fc fo _ (by omega) HRN.out hG7).mono ?_
        rintro e w8 ⟨hb8, tto, tc, rfl, hst, hlt2⟩
        have htl2 := length_trE gs
        have HRT : Hid (Rng ks.length (trE gs)) := rng_mem (fun x hx => by
          obtain ⟨a, b⟩ := x
          have hm := mem_trE.1 hx
          obtain ⟨k, hk, e⟩ := mem_nthE.1 hm
          obtain ⟨⟨a1, a2⟩, b1, b2⟩ := HRN.out k hk
          have e1 : nthF gs k = b := congrArg Prod.fst e
          have e2 : nthT gs k = a := congrArg Prod.snd e
          exact inB_true.2 ⟨by omega, by omega, by omega, by omega⟩)
        have HIFF : Hid (IsOrd ks.length (trE gs) os.reverse ↔ IsOrd ks.length gs os) := ord_reverse HS.out
        have HBOTH : Hid (0 < gs.length → IsOrd ks.length gs os → IsOrd ks.length gs os.reverse → False) := fun h => ord_both h HRN.out
        rw [← HTS.out] at HIFF HBOTH
        generalize trE gs = hs at *
        have hz8 := hb8.size
        have hT := gr_new (n := (ks.length : Int)) (t := 45) hst
        have hb9 : Below w8.heap.size w8 (w8.alloc (.cells #[.int .i64 ks.length, .slice tto hs.length tc] 45)) := (Below.refl _ _).alloc (Nat.le_refl _) _
        have hb89 := hb8.trans (hb9.mono hz8)
        have hG9 := (hG7.below hb89).mono hb89.size
        have hso9 := (hso7.below hb89).mono hb89.size
        have hsr9 := (hsr7.below hb89).mono hb89.size
        have hbD := hbC.next hb89
        rw [← size_alloc w8 (.cells #[.int .i64 ks.length, .slice tto hs.length tc] 45)] at hT
        clear hst hlt2 hb8 hb9 hG7 hso7 hsr7 hbC hb89
        go_wp2_with fail
        generalize w8.alloc (.cells #[.int .i64 ks.length, .slice tto hs.length tc] 45) = W9 at *
        refine (isOrder_any ks.length G _ fc gs os oo oc _ (by omega) (by omega) (by omega) HRN.out hG9 hso9).mono ?_
        rintro e w10 ⟨hb10, b10, rfl, hi10⟩
        have HI10 : Hid _ := hi10
        clear hi10
        have hG10 := (hG9.below hb10).mono hb10.size
        have hT10 := (hT.below hb10).mono hb10.size
        have hsr10 := (hsr9.below hb10).mono hb10.size
        have hbE := hbD.next hb10
        clear hG9 hT hso9 hsr9 hbD hb10
        go_wp2_with fail
        refine (isOrder_any ks.length w8.heap.size _ tc hs ts _ os.length _ (by omega) (by omega) (by omega) HRT.out hT10 hsr10).mono ?_
        rintro e w11 ⟨hb11, b11, rfl, hi11⟩
        obtain rfl : b10 = b11 := by
          have := HI10.out
          rw [Bool.eq_iff_iff, this, hi11, HIFF.out]
        clear hi11
        have hG11 := (hG10.below hb11).mono hb11.size
        have hsr11 := (hsr10.below hb11).mono hb11.size
        have hbF := hbE.next hb11
        clear hG10 hT10 hsr10 hbE hb11
        have bn : (b10 != b10) = false := by simp
        by_cases h0 : 0 < es.length
        · have j0 : decide ((es.length : Int) > 0) = true := by simp; omega
          cases b10
          · go_wp2_with fail
            go_ret
            exact ⟨by simp, hbF.1⟩
          · go_wp2_with fail
            refine (isOrder_any ks.length G _ fc gs ts _ os.length _ (by omega) (by omega) (by omega) HRN.out hG11 hsr11).mono ?_
            rintro e w12 ⟨hb12, b12, rfl, hi12⟩
            obtain rfl : b12 = false := by
              rcases Bool.eq_false_or_eq_true b12 with h | h
              · exact (HBOTH.out (HPO.out h0) (HI10.out.1 (by trivial)) (hi12.1 h)).elim
              · exact h
            clear hi12
            go_wp2_with fail
            go_ret
            exact ⟨by simp, (hbF.next hb12).1⟩
        · have j0 : decide ((es.length : Int) > 0) = false := by rw [decide_eq_false_iff_not]; omega
          go_wp2_with fail
          go_ret
          exact ⟨by simp, hbF.1⟩
  · exact absurd ⟨by omega, by omega, fun i hi => HEI.out _ (mem_nthE.2 ⟨i, hi, rfl⟩)⟩ hno
end Go.Proofs.Ymbrdq
