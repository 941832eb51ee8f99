/- The walk of LawS930021GOrder. -/
import Derived.Test.YmbrdqOrd
import Derived.Test.YmbrdqGWant
namespace Go.Proofs.Ymbrdq
open Go.ChangeShapes Go.WideShapes Go.ChangeAt Go.RowKit
set_option linter.unusedVariables false
set_option linter.unusedSimpArgs false
attribute [local go_sem ↓] Go.wp_at_zero Go.wp_at_succ

theorem Peeled.ord {n : Nat} {es : List (Int × Int)} {os : List Int} {tk : List Bool} (h : Peeled n es os tk) (hl : os.length = n) : IsOrd n es os :=
  ⟨h.perm hl, fun k hk i j hi hj e1 e2 => h.before hk hi hj e1 e2⟩
/-- the place of v in xs -/
theorem IsPerm.place {n : Nat} {xs : List Int} (h : IsPerm n xs) : ∃ r : Int → Nat, ∀ v : Nat, v < n → r v < xs.length ∧ nth xs (r v) = v := by
  have hl : xs.length = n := by have := h.1; omega
  have : ∀ v : Int, ∃ i : Nat, (0 ≤ v ∧ v < n) → i < xs.length ∧ nth xs i = v := fun v => by
    by_cases hv : 0 ≤ v ∧ v < n
    · obtain ⟨i, h1, h2⟩ := h.surj v.toNat (by omega)
      exact ⟨i, fun _ => ⟨h1, by omega⟩⟩
    · exact ⟨0, fun h => absurd h hv⟩
  obtain ⟨r, hr⟩ := Classical.axiomOfChoice this
  exact ⟨r, fun v hv => hr v ⟨by omega, by omega⟩⟩
theorem Peeled.full_of {n : Nat} {es : List (Int × Int)} {os xs : List Int} {tk : List Bool} (h : Peeled n es os tk) (hr : Rng n es) (hx : IsOrd n es xs) : os.length = n := by
  obtain ⟨r, hrr⟩ := hx.1.place
  refine h.full (h.all hr r (fun k hk => ?_))
  obtain ⟨⟨a1, a2⟩, b1, b2⟩ := hr k hk
  have h1 := hrr (nthF es k).toNat (by omega)
  have h2 := hrr (nthT es k).toNat (by omega)
  rw [Int.toNat_of_nonneg a1] at h1
  rw [Int.toNat_of_nonneg b1] at h2
  exact hx.2 k hk _ _ h1.1 h2.1 h1.2 h2.2

set_option maxRecDepth 20000 in
set_option maxHeartbeats 4000000 in
theorem gOrder_walk (ks : List Int) (rs : List (Int × Int)) (free : Bool) (mode at_ val : Int) (kc rc : Nat) (ko ro : Option Addr) (w : World) (hks : ks.length ≤ 9223372036854775807) (hrs : rs.length ≤ 9223372036854775807) (hk : ∀ k, k < ks.length → 0 ≤ nth ks k ∧ nth ks k ≤ 65535) (hr : ∀ k, k < rs.length → (0 ≤ nthF rs k ∧ nthF rs k ≤ 65535) ∧ (0 ≤ nthT rs k ∧ nthT rs k ≤ 65535)) (hm : 0 ≤ mode ∧ mode ≤ 255) (hat : 0 ≤ at_ ∧ at_ ≤ 65535)
    (hsk : Sl w w.heap.size ko ks.length kc 1 (cellsK .u16 ks)) (hsr : Sl w w.heap.size ro rs.length rc 2 (cellsP .u16 rs)) :
    Calls Ydqm.prog 10 #[.slice ko ks.length kc, .slice ro rs.length rc, .bool free, .int .u8 mode, .int .u16 at_, .int .i64 val] w fun e w' => e = .returned (.bool true) ∧ Below w.heap.size w w' := by
  have HK : Hid _ := hk
  have HR : Hid _ := hr
  clear hk hr
  by_cases hb1 : ks.length > 1024
  · go_enter Ydqm.func10, Ydqm.ntmps10
    go_wp2_with fail
    go_ret
    exact ⟨by simp, Below.refl _ _⟩
  by_cases hb2 : rs.length > 1024
  · go_enter Ydqm.func10, Ydqm.ntmps10
    go_wp2_with fail
    go_ret
    exact ⟨by simp, Below.refl _ _⟩
  go_enter Ydqm.func10, Ydqm.ntmps10
  go_wp2_with fail
  refine (gperm_any ks kc ko w (by omega) HK.out hsk).mono ?_
  rintro e w1 ⟨hw1, g1, ps, rfl, ho1, hpl, hpi, hg1⟩
  have HPL : Hid _ := hpl
  have HPI : Hid _ := hpi
  have hpl2 : ps.length ≤ 1024 := by omega
  clear hpl hpi
  have hz1 := hw1.size
  have hs1 : Sl w1 w1.heap.size (some ⟨g1, 0, none⟩) ps.length ks.length 1 (cellsI ps) := ho1.sl rfl ho1.lt
  go_wp2_with fail
  refine (gedges_any ks.length ps rs free ks.length rc _ ro w1 HPL.out.symm (by omega) (by omega) HPI.out HR.out hs1 ((hsr.below hw1).mono hz1)).mono ?_
  rintro e w2 ⟨hw2, g2, es, rfl, ho2, hei, hg2⟩
  have HRN : Hid (Rng ks.length es) := InE.rng hei
  clear hei
  have hel := ho2.le
  have hz2 := hw2.size
  have hs2 := (hs1.below hw2).mono hz2
  go_wp2_with fail
  refine (gspoil_any ks.length ps mode at_ val ks.length _ w2 HPL.out.symm (by omega) hm hat hs2).mono ?_
  rintro e w3 ⟨hw3, oo, oc, os, rfl, hso, hol⟩
  have hz3 := hw3.size
  have hse : Sl w3 w3.heap.size (some ⟨g2, 0, none⟩) es.length rs.length 2 (cellsE es) := (((ho2.sl rfl ho2.lt).below hw3).mono hz3)
  have hG := gr_new (n := (ks.length : Int)) (t := 45) hse
  have hb4 : Below w3.heap.size w3 (w3.alloc (.cells #[.int .i64 ks.length, .slice (some ⟨g2, 0, none⟩) es.length rs.length] 45)) := (Below.refl _ _).alloc (Nat.le_refl _) _
  have hso4 := (hso.below hb4).mono hb4.size
  have hbA : BelowA w.heap.size w w3 := ((BelowA.next ⟨hw1, hz1⟩ hw2).next hw3)
  rw [← size_alloc w3 (.cells #[.int .i64 ks.length, .slice (some ⟨g2, 0, none⟩) es.length rs.length] 45)] at hG
  go_wp2_with fail
  refine (order_any ks.length w3.heap.size _ rs.length es _ (by omega) (by omega) HRN.out hG).mono ?_
  rintro e w5 ⟨hb5, fs, tk, hp, ⟨hl, g5, rfl, ho5, hg5⟩ | ⟨hl, rfl⟩⟩
  · have HY : Hid (IsOrd ks.length es fs) := hp.ord hl
    have hfl : fs.length ≤ 1024 := by omega
    clear hp hl
    have hG5 := (hG.below hb5).mono hb5.size
    go_wp2_with fail
    refine (isOrder_any ks.length w3.heap.size _ rs.length es fs _ ks.length _ (by omega) (by omega) (by omega) HRN.out hG5 (ho5.sl rfl ho5.lt)).mono ?_
    rintro e w6 ⟨hb6, b6, rfl, hi6⟩
    obtain rfl : b6 = true := hi6.2 HY.out
    clear hi6
    go_wp2_with fail
    go_ret
    exact ⟨by simp, (((hbA.next hb4).next hb5).next hb6).1⟩
  · have HN : Hid (¬ IsOrd ks.length es os) := fun h => hl (hp.full_of HRN.out h)
    clear hp hl
    have hG5 := (hG.below hb5).mono hb5.size
    have hso5 := (hso4.below hb5).mono hb5.size
    go_wp2_with fail
    refine (isOrder_any ks.length w3.heap.size _ rs.length es os oo oc _ (by omega) (by omega) (by omega) HRN.out hG5 hso5).mono ?_
    rintro e w6 ⟨hb6, b6, rfl, hi6⟩
    obtain rfl : b6 = false := by
      rcases Bool.eq_false_or_eq_true b6 with h | h
      · exact absurd (hi6.1 h) HN.out
      · exact h
    clear hi6
    go_wp2_with fail
    go_ret
    exact ⟨by simp, (((hbA.next hb4).next hb5).next hb6).1⟩
end Go.Proofs.Ymbrdq
