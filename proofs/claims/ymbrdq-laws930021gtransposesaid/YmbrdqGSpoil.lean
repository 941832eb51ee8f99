/- zzs930021gspoil answers some list, not longer than n + 1. -/
import Derived.Test.YmbrdqGParts
namespace Go.Proofs.Ymbrdq
open Go.ChangeShapes Go.WideShapes Go.ChangeAt Go.RowKit
set_option linter.unusedVariables false
set_option linter.unusedSimpArgs false
attribute [local go_sem ↓] Go.wp_at_zero Go.wp_at_succ

def GSpoilPost (n : Nat) (w : World) (r : Ending) (w' : World) : Prop := Below w.heap.size w w' ∧
  ∃ oo oc os, r = .returned (.slice oo (os : List Int).length oc) ∧ Sl w' w'.heap.size oo os.length oc 1 (cellsI os) ∧ os.length ≤ n + 1

theorem Sl.shorter {w : World} {B : Nat} {ao : Option Addr} {cap : Nat} {xs : List Int} (h : Sl w B ao xs.length cap 1 (cellsI xs)) {l : Nat} (hl : l ≤ xs.length) : Sl w B ao (xs.take l).length cap 1 (cellsI (xs.take l)) := by
  have hlen : (xs.take l).length = l := by rw [List.length_take]; omega
  refine ⟨by rw [length_cellsI, Nat.mul_one], by have := h.le; omega, h.nil, ?_⟩
  rcases h.rd with h0 | ⟨b, off, h1, h2, h3⟩
  · exact .inl (by omega)
  · refine .inr ⟨b, off, h1, h2, fun i u hu => h3 i u ?_⟩
    unfold cellsI at hu ⊢
    rw [List.map_take] at hu
    rw [List.getElem?_take] at hu
    split at hu
    · exact hu
    · cases hu

set_option maxRecDepth 20000 in
set_option maxHeartbeats 8000000 in
theorem gspoil_any (n : Nat) (ps : List Int) (mode at_ val : Int) (pc : Nat) (po : Option Addr) (w : World) (hn : n = ps.length) (hps : ps.length ≤ 1000000) (hm : 0 ≤ mode ∧ mode ≤ 255) (hat : 0 ≤ at_ ∧ at_ ≤ 65535) (hsp : Sl w w.heap.size po ps.length pc 1 (cellsI ps)) :
    Calls Ydqm.prog 22 #[.slice po n pc, .int .u8 mode, .int .u16 at_, .int .i64 val] w (GSpoilPost n w) := by
  have HN : Hid _ := hn
  have hn1 : n ≤ 1000000 := by omega
  clear hn
  obtain ⟨M7, hM7, hM1, hM2⟩ : ∃ M7 : Int, mode % 7 = M7 ∧ 0 ≤ M7 ∧ M7 ≤ 6 := ⟨_, rfl, by omega, by omega⟩
  go_enter Ydqm.func22, Ydqm.ntmps22
  go_wp2_with (at_make; refine wpl_makeI0 rfl _ _ rfl (n + 1) _ (by rfl) (by rfl) (by omega) (by omega) ?_; intro w1 ho1 hb1 hz1)
  go_loopw [10, 11] (fun t i wr => ∃ (k : Nat) (os : List Int), k ≤ n ∧ i = .int .i64 k ∧ t = .slice (some ⟨w.heap.size, 0, none⟩) k (n + 1) ∧ Hid (os.length = k) ∧ OwnI wr w.heap.size (n + 1) os ∧ BelowA w.heap.size w wr) (fun _ i _ => n - (intOf i).toNat)
  case atStart => exact ⟨0, [], by omega, rfl, rfl, rfl, ho1, hb1, by omega⟩
  case round =>
    obtain ⟨k, os, hk, rfl, rfl, HO, ho, hb⟩ := hrel
    have hz := ho.lt
    by_cases hlt : k < n
    · have hpn := HN.out
      obtain ⟨pb, off, hpB, rfl, hc⟩ := Sl.intsAt (hsp.below hb.1) (by omega)
      have c1 := hc k (by omega)
      clear hc hpn
      go_wp2_with (at_builtin; go_must (refine wpl_appI rfl (.tmp 22) (.tmp 27) rfl w.heap.size (n + 1) k os (nth ps k) (by rfl) HO.out.symm (ho.alloc _) wr.heap.size 1 (by rfl) (cell_new1 rfl) (by have := HO.out; omega) ?_); intro w2 ho2 hg2)
      go_roundw
      case rel => exact ⟨k + 1, _, by omega, by simp, by simp, by show _ = _; rw [List.length_append, HO.out]; rfl, ho2, (hb.alloc _).grown hg2 (Nat.le_refl _) (by rw [size_alloc]; omega)⟩
      case measure => simp [intOf]; omega
    · obtain rfl : k = n := by omega
      clear hk hlt
      by_cases h3 : M7 = 3
      · have i3 : (M7 == 3) = true := by simp [h3]
        clear h3
        by_cases h0 : 0 < k
        · have j0 : decide ((k : Int) > 0) = true := by simp; omega
          obtain ⟨j, hj, hjk⟩ : ∃ j : Nat, at_.tmod (k : Int) = (j : Int) ∧ j < k := by
            have e1 := Int.emod_nonneg at_ (show (k : Int) ≠ 0 by omega)
            have e2 := Int.emod_lt_of_pos at_ (show 0 < (k : Int) by omega)
            exact ⟨(at_ % (k : Int)).toNat, by rw [Int.tmod_eq_emod_of_nonneg hat.1]; omega, by omega⟩
          have n0 : ¬ k = 0 := by omega
          have hjl : j < os.length := by have := HO.out; omega
          have d1 := ho.cell j hjl
          have f1 := ho.frozen j
          go_wp2_with fail
          go_ret
          refine ⟨hb.1.trans ((but_setCell w.heap.size wr j _).below (Nat.le_refl _) hb.2), some ⟨w.heap.size, 0, none⟩, k + 1, os.set j val, ?_, (ho.set j val).sl rfl (by rw [size_setCell]; exact hz), by rw [List.length_set, HO.out]; omega⟩
          rw [List.length_set, HO.out]; simp
        · have j0 : decide ((k : Int) > 0) = false := by simp; omega
          go_wp2_with fail
          go_ret
          exact ⟨hb.1, some ⟨w.heap.size, 0, none⟩, k + 1, os, by rw [HO.out]; simp, ho.sl rfl hz, by rw [HO.out]; omega⟩
      · have i3 : (M7 == 3) = false := by simp [h3]
        clear h3
        by_cases h4 : M7 = 4
        · have i4 : (M7 == 4) = true := by simp [h4]
          clear h4
          go_wp2_with (at_builtin; go_must (refine wpl_appI rfl (.tmp 44) (.tmp 46) rfl w.heap.size (k + 1) k os val (by rfl) HO.out.symm (ho.alloc _) wr.heap.size 1 (by rfl) (cell_new1 rfl) (by have := HO.out; omega) ?_); intro w2 ho2 hg2)
          go_ret
          exact ⟨((hb.alloc _).grown hg2 (Nat.le_refl _) (by rw [size_alloc]; omega)).1, some ⟨w.heap.size, 0, none⟩, k + 1, os ++ [val], by rw [List.length_append, HO.out]; simp, ho2.sl rfl ho2.lt, by rw [List.length_append, HO.out]; simp⟩
        · have i4 : (M7 == 4) = false := by simp [h4]
          clear h4
          by_cases h5 : M7 = 5
          · have i5 : (M7 == 5) = true := by simp [h5]
            clear h5
            go_wp2_with (at_builtin; go_must (refine wpl_appI rfl (.tmp 50) (.tmp 52) rfl w.heap.size (k + 1) k os (k : Int) (by rfl) HO.out.symm (ho.alloc _) wr.heap.size 1 (by rfl) (cell_new1 rfl) (by have := HO.out; omega) ?_); intro w2 ho2 hg2)
            go_ret
            exact ⟨((hb.alloc _).grown hg2 (Nat.le_refl _) (by rw [size_alloc]; omega)).1, some ⟨w.heap.size, 0, none⟩, k + 1, os ++ [(k : Int)], by rw [List.length_append, HO.out]; simp, ho2.sl rfl ho2.lt, by rw [List.length_append, HO.out]; simp⟩
          · have i5 : (M7 == 5) = false := by simp [h5]
            clear h5
            by_cases h6 : M7 = 6
            · have i6 : (M7 == 6) = true := by simp [h6]
              clear h6
              by_cases h0 : 0 < k
              · have j0 : decide ((k : Int) > 0) = true := by simp; omega
                obtain ⟨p, HP⟩ : ∃ p : Nat, Hid (k = p + 1) := ⟨k - 1, by show _ = _; omega⟩
                have hkp : (k : Int) - 1 = (p : Int) := by have := HP.out; omega
                have hpw : IntKind.i64.wrap ((k : Int) - 1) = (p : Int) := by rw [hkp, IntKind.wrap_i64]; omega
                have hpk : p ≤ k := by have := HP.out; omega
                have hpk2 : (p : Int) ≤ (k : Int) + 1 := by omega
                have hpk3 : p ≤ k + 1 := by omega
                go_wp2_with fail
                go_ret
                have hs3 := Sl.shorter (ho.sl rfl hz) (l := p) (by have := HO.out; omega)
                have hl3 : (os.take p).length = p := by rw [List.length_take, HO.out]; omega
                exact ⟨hb.1, some ⟨w.heap.size, 0, none⟩, k + 1, os.take p, by rw [hl3]; simp, hs3, by rw [hl3]; omega⟩
              · have j0 : decide ((k : Int) > 0) = false := by simp; omega
                go_wp2_with fail
                go_ret
                exact ⟨hb.1, some ⟨w.heap.size, 0, none⟩, k + 1, os, by rw [HO.out]; simp, ho.sl rfl hz, by rw [HO.out]; omega⟩
            · have i6 : (M7 == 6) = false := by simp [h6]
              clear h6
              go_wp2_with fail
              go_ret
              exact ⟨hb.1, some ⟨w.heap.size, 0, none⟩, k + 1, os, by rw [HO.out]; simp, ho.sl rfl hz, by rw [HO.out]; omega⟩
end Go.Proofs.Ymbrdq
