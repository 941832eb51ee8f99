/- zzs930021gwant, and the walk of LawS930021GExact. -/
import Derived.Test.YmbrdqGOrd
import Derived.Test.YmbrdqGSpoil
namespace Go.Proofs.Ymbrdq
open Go.ChangeShapes Go.WideShapes Go.ChangeAt Go.RowKit
set_option linter.unusedVariables false
set_option linter.unusedSimpArgs false
attribute [local go_sem ↓] Go.wp_at_zero Go.wp_at_succ

def Want (n : Nat) (es : List (Int × Int)) (os : List Int) : Prop := os.length = n ∧ (∀ v : Nat, v < n → cntTo os v os.length = 1) ∧ ∀ k, k < es.length → Bef os (nthF es k) (nthT es k)
theorem want_iff {n : Nat} {es : List (Int × Int)} {os : List Int} (hr : Rng n es) : Want n es os ↔ IsOrd n es os := by
  constructor
  · rintro ⟨h1, h2, h3⟩
    have hp : IsPerm n os := by rw [← h1]; exact (perm_iff os).2 (fun v hv => h2 v (by omega))
    refine ⟨hp, fun k hk i j hi hj e1 e2 => ?_⟩
    obtain ⟨j', a1, a2, a3, i', b1, b2⟩ := h3 k hk
    have : j = j' := hp.inj hj a1 (by rw [e2, a2])
    have : i = i' := hp.inj hi (by omega) (by rw [e1, b2])
    omega
  · rintro ⟨hp, h⟩
    have h1 : os.length = n := by have := hp.1; omega
    refine ⟨h1, fun v hv => ?_, fun k hk => ?_⟩
    · have := (perm_iff os).1 (by rw [h1]; exact hp) v (by omega)
      exact this
    · obtain ⟨⟨a1, a2⟩, b1, b2⟩ := hr k hk
      obtain ⟨i, i1, i2⟩ := hp.surj (nthF es k).toNat (by omega)
      obtain ⟨j, j1, j2⟩ := hp.surj (nthT es k).toNat (by omega)
      have hij := h k hk i j i1 j1 (by omega) (by omega)
      refine ⟨j, j1, by omega, fun j' hj' e => ?_, i, hij, by omega⟩
      have : j' = j := hp.inj (by omega) j1 (by omega)
      omega

def GWantPost (n : Nat) (es : List (Int × Int)) (os : List Int) (w : World) (r : Ending) (w' : World) : Prop := Below w.heap.size w w' ∧ ∃ b : Bool, r = .returned (.bool b) ∧ (b = true ↔ Want n es os)

set_option maxRecDepth 20000 in
set_option maxHeartbeats 4000000 in
theorem gwant_any (n : Nat) (es : List (Int × Int)) (os : List Int) (eo oo : Option Addr) (ec oc : Nat) (w : World) (hn : n ≤ 1000000) (hes : es.length ≤ 1000000) (hos : os.length ≤ 1000000) (hse : Sl w w.heap.size eo es.length ec 2 (cellsE es)) (hs : Sl w w.heap.size oo os.length oc 1 (cellsI os)) :
    Calls Ydqm.prog 24 #[.int .i64 n, .slice eo es.length ec, .slice oo os.length oc] w (GWantPost n es os w) := by
  by_cases hl : os.length = n
  · have i0 : ((os.length : Int) != (n : Int)) = false := by simp [hl]
    have HL : Hid _ := hl
    clear hl
    go_enter Ydqm.func24, Ydqm.ntmps24
    go_wp2_with fail
    go_loopw [7] (fun i wr => ∃ v : Nat, v ≤ n ∧ i = .int .i64 v ∧ Hid (∀ u : Nat, u < v → cntTo os u os.length = 1) ∧ w = wr) (fun i _ => n - (intOf i).toNat)
    case atStart => exact ⟨0, by omega, rfl, fun j hj => (by omega), rfl⟩
    case round =>
      obtain ⟨v, hv, rfl, HC, rfl⟩ := hrel
      by_cases hlt : v < n
      · go_wp2_with fail
        rename World => W4
        go_loopw [8, 9] (fun c i wr => ∃ k : Nat, k ≤ os.length ∧ i = .int .i64 k ∧ c = .int .i64 (cntTo os v k) ∧ W4 = wr) (fun _ i _ => os.length - (intOf i).toNat)
        case atStart => exact ⟨0, by omega, rfl, rfl, rfl⟩
        case round =>
          obtain ⟨k, hk, rfl, rfl, rfl⟩ := hrel
          have hcl := cntTo_le os v k
          by_cases hlk : k < os.length
          · obtain ⟨bb, off, hbB, rfl, hc⟩ := Sl.intsAt hs (by omega)
            have c1 := hc k hlk
            clear hc
            have hsu := cntTo_succ os v k
            have HSU : Hid _ := hsu
            clear hsu
            generalize cntTo os v k = C at *
            by_cases he : nth os k = v
            · have j1 : (nth os k == (v : Int)) = true := by simp [he]
              have HE : Hid (cntTo os v (k + 1) = C + 1) := by show _ = _; rw [HSU.out, if_pos he]
              clear he
              go_wp2_with fail
              go_roundw
              case rel => exact ⟨k + 1, by omega, by simp, by rw [HE.out]; simp, by trivial⟩
              case measure => simp [intOf]; omega
            · have j1 : (nth os k == (v : Int)) = false := by simp [he]
              have HE : Hid (cntTo os v (k + 1) = C) := by show _ = _; rw [HSU.out, if_neg he]; rfl
              clear he
              go_wp2_with fail
              go_roundw
              case rel => exact ⟨k + 1, by omega, by simp, by rw [HE.out], by trivial⟩
              case measure => simp [intOf]; omega
          · obtain rfl : k = os.length := by omega
            obtain ⟨C, HCC⟩ : ∃ C, Hid (cntTo os v os.length = C) := ⟨_, rfl⟩
            rw [HCC.out] at hcl ⊢
            by_cases h1 : C = 1
            · have j1 : ((C : Int) != 1) = false := by simp [h1]
              have H1 : Hid _ := h1
              clear h1
              go_wp2_with fail
              go_roundw
              case rel => exact ⟨v + 1, by omega, by simp, fun u hu => (by rcases Nat.lt_or_ge u v with h | h; exact HC.out u h; obtain rfl : u = v := (by omega); rw [HCC.out]; exact H1.out), by trivial⟩
              case measure => simp [intOf]; omega
            · have j1 : ((C : Int) != 1) = true := by simp; omega
              have H1 : Hid (¬ C = 1) := h1
              clear h1
              go_wp2_with fail
              go_ret
              exact ⟨Below.refl _ _, false, by simp, fun h => (by cases h), fun h => absurd (h.2.1 v hlt) (by rw [HCC.out]; exact H1.out)⟩
      · go_wp2_with fail
        rename World => W4
        go_loopw [10] (fun i wr => ∃ k : Nat, k ≤ es.length ∧ i = .int .i64 k ∧ Hid (∀ j, j < k → Bef os (nthF es j) (nthT es j)) ∧ BelowA W4.heap.size W4 wr) (fun i _ => es.length - (intOf i).toNat)
        case atStart => exact ⟨0, by omega, rfl, fun j hj => (by omega), BelowA.refl _⟩
        case round =>
          obtain ⟨k, hk, rfl, HJ, hb⟩ := hrel
          by_cases hlk : k < es.length
          · obtain ⟨bb, off, hbB, rfl, hc⟩ := Sl.pairsAt (hse.below hb.1) (by omega)
            obtain ⟨c1, c2⟩ := hc k hlk
            clear hc
            go_wp2_with fail
            refine (gbefore_any os (nthF es k) (nthT es k) oo oc _ (by omega) ((hs.below hb.1).mono hb.2)).mono ?_
            rintro e w5 ⟨hb5, b, rfl, hbi⟩
            have HBI : Hid _ := hbi
            clear hbi
            cases b
            · go_wp2_with fail
              go_ret
              exact ⟨(hb.next hb5).1, false, by simp, fun h => (by cases h), fun h => absurd (HBI.out.2 (h.2.2 k hlk)) (by simp)⟩
            · go_wp2_with fail
              go_roundw
              case rel => exact ⟨k + 1, by omega, by simp, fun j hj => (by rcases Nat.lt_or_ge j k with h | h; exact HJ.out j h; obtain rfl : j = k := (by omega); exact HBI.out.1 (by trivial)), hb.next hb5⟩
              case measure => simp [intOf]; omega
          · go_wp2_with fail
            go_ret
            exact ⟨hb.1, true, by simp, fun _ => ⟨HL.out, fun u hu => HC.out u (by omega), fun j hj => HJ.out j (by omega)⟩, fun _ => rfl⟩
  · have i0 : ((os.length : Int) != (n : Int)) = true := by simp; omega
    have HL : Hid (¬ os.length = n) := hl
    clear hl
    go_enter Ydqm.func24, Ydqm.ntmps24
    go_wp2_with fail
    go_ret
    exact ⟨Below.refl _ _, false, by simp, fun h => (by cases h), fun h => absurd h.1 HL.out⟩

theorem InE.rng {n : Nat} {es : List (Int × Int)} (h : InE n es) : Rng n es := fun k hk => by
  have := inB_true.1 (h (nthE es k) (mem_nthE.2 ⟨k, hk, rfl⟩))
  exact ⟨⟨this.1, this.2.1⟩, this.2.2.1, this.2.2.2⟩

set_option maxRecDepth 20000 in
set_option maxHeartbeats 4000000 in
theorem gExact_walk (ks : List Int) (rs : List (Int × Int)) (free : Bool) (mode at_ val : Int) (kc rc : Nat) (ko ro : Option Addr) (w : World) (hks : ks.length ≤ 9223372036854775807) (hrs : rs.length ≤ 9223372036854775807) (hk : ∀ k, k < ks.length → 0 ≤ nth ks k ∧ nth ks k ≤ 65535) (hr : ∀ k, k < rs.length → (0 ≤ nthF rs k ∧ nthF rs k ≤ 65535) ∧ (0 ≤ nthT rs k ∧ nthT rs k ≤ 65535)) (hm : 0 ≤ mode ∧ mode ≤ 255) (hat : 0 ≤ at_ ∧ at_ ≤ 65535)
    (hsk : Sl w w.heap.size ko ks.length kc 1 (cellsK .u16 ks)) (hsr : Sl w w.heap.size ro rs.length rc 2 (cellsP .u16 rs)) :
    Calls Ydqm.prog 8 #[.slice ko ks.length kc, .slice ro rs.length rc, .bool free, .int .u8 mode, .int .u16 at_, .int .i64 val] w fun e w' => e = .returned (.bool true) ∧ Below w.heap.size w w' := by
  have HK : Hid _ := hk
  have HR : Hid _ := hr
  clear hk hr
  by_cases hb1 : ks.length > 1024
  · go_enter Ydqm.func8, Ydqm.ntmps8
    go_wp2_with fail
    go_ret
    exact ⟨by simp, Below.refl _ _⟩
  by_cases hb2 : rs.length > 1024
  · go_enter Ydqm.func8, Ydqm.ntmps8
    go_wp2_with fail
    go_ret
    exact ⟨by simp, Below.refl _ _⟩
  go_enter Ydqm.func8, Ydqm.ntmps8
  go_wp2_with fail
  refine (gperm_any ks kc ko w (by omega) HK.out hsk).mono ?_
  rintro e w1 ⟨hw1, g1, ps, rfl, ho1, hpl, hpi, hg1⟩
  have HPL : Hid _ := hpl
  have HPI : Hid _ := hpi
  have hpl2 : ps.length ≤ 1024 := by omega
  clear hpl hpi
  have hz1 := hw1.size
  have hs1 : Sl w1 w1.heap.size (some ⟨g1, 0, none⟩) ps.length ks.length 1 (cellsI ps) := ho1.sl rfl ho1.lt
  go_wp2_with fail
  refine (gedges_any ks.length ps rs free ks.length rc _ ro w1 HPL.out.symm (by omega) (by omega) HPI.out HR.out hs1 ((hsr.below hw1).mono hz1)).mono ?_
  rintro e w2 ⟨hw2, g2, es, rfl, ho2, hei, hg2⟩
  have HEI : Hid (InE ks.length es) := hei
  clear hei
  have hel := ho2.le
  have hz2 := hw2.size
  have hs2 := (hs1.below hw2).mono hz2
  go_wp2_with fail
  refine (gspoil_any ks.length ps mode at_ val ks.length _ w2 HPL.out.symm (by omega) hm hat hs2).mono ?_
  rintro e w3 ⟨hw3, oo, oc, os, rfl, hso, hol⟩
  have hz3 := hw3.size
  have hse : Sl w3 w3.heap.size (some ⟨g2, 0, none⟩) es.length rs.length 2 (cellsE es) := (((ho2.sl rfl ho2.lt).below hw3).mono hz3)
  have hG := gr_new (n := (ks.length : Int)) (t := 45) hse
  have hb4 : Below w3.heap.size w3 (w3.alloc (.cells #[.int .i64 ks.length, .slice (some ⟨g2, 0, none⟩) es.length rs.length] 45)) := (Below.refl _ _).alloc (Nat.le_refl _) _
  have hso4 := (hso.below hb4).mono hb4.size
  have hse4 := (hse.below hb4).mono hb4.size
  have hbA : BelowA w.heap.size w w3 := ((BelowA.next ⟨hw1, hz1⟩ hw2).next hw3)
  go_wp2_with fail
  refine (isOrder_any ks.length w3.heap.size _ rs.length es os oo oc _ (by omega) (by omega) (by omega) (InE.rng HEI.out) (by rw [size_alloc]; exact hG) hso4).mono ?_
  rintro e w5 ⟨hb5, b5, rfl, hi5⟩
  have hz5 := hb5.size
  have HI5 : Hid _ := hi5
  clear hi5
  go_wp2_with fail
  refine (gwant_any ks.length es os _ oo rs.length oc _ (by omega) (by omega) (by omega) ((hse4.below hb5).mono hz5) ((hso4.below hb5).mono hz5)).mono ?_
  rintro e w6 ⟨hb6, b6, rfl, hi6⟩
  obtain rfl : b5 = b6 := by
    have := HI5.out
    rw [Bool.eq_iff_iff, this, hi6, want_iff (InE.rng HEI.out)]
  clear hi6
  go_wp2_with fail
  go_ret
  exact ⟨by simp, (((hbA.next hb4).next hb5).next hb6).1⟩
end Go.Proofs.Ymbrdq
