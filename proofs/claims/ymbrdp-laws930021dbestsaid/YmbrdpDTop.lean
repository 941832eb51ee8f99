/- zzs930021dtopological on an order that is one. -/
import Derived.Test.YmbrdpBel
import Derived.Test.YmbrdpOrd
import Derived.BigQuiet
namespace Go.Proofs.Ymbrdp
open Go.ChangeShapes Go.WideShapes Go.ChangeAt Go.RowKit
set_option linter.unusedVariables false
set_option linter.unusedSimpArgs false
attribute [local go_sem ↓] Go.wp_at_zero Go.wp_at_succ

theorem PosTo.posOf {xs ps : List Int} (h : PosTo xs ps xs.length) : PosOf xs ps := ⟨h.1, h.2.1⟩
/-- From before To, along os -/
def Fwd (os : List Int) (es : List (Int × Int)) : Prop := ∀ k i j, k < es.length → i < os.length → j < os.length → nth os i = nthF es k → nth os j = nthT es k → i < j
theorem PosOf.at {xs ps : List Int} (h : PosOf xs ps) (hp : IsPerm xs.length xs) {v : Nat} (hv : v < xs.length) : ∃ i : Nat, i < xs.length ∧ nth xs i = v ∧ nth ps v = i := by
  obtain ⟨i, hi, e⟩ := hp.surj v hv
  refine ⟨i, hi, e, ?_⟩
  have := (h.2 i hi).2.2
  rw [e] at this
  exact this

def DTopPost (os : List Int) (w : World) (r : Ending) (w' : World) : Prop := Below w.heap.size w w' ∧
  ∃ g ps, r = .returned (.tuple #[.slice (some ⟨g, 0, none⟩) os.length os.length, .bool true]) ∧ OwnI w' g os.length ps ∧ PosOf os ps ∧ w.heap.size ≤ g

set_option maxRecDepth 20000 in
set_option maxHeartbeats 4000000 in
theorem dtop_any (es : List (Int × Int)) (os : List Int) (ec oc : Nat) (eo oo : Option Addr) (w : World) (hn : os.length ≤ 1000000) (hes : es.length ≤ 1000000) (hr : Rng os.length es) (hp : IsPerm os.length os) (hf : Fwd os es)
    (hse : Sl w w.heap.size eo es.length ec 2 (cellsE es)) (hso : Sl w w.heap.size oo os.length oc 1 (cellsI os)) :
    Calls Ydpm.prog 27 #[.int .i64 os.length, .slice eo es.length ec, .slice oo os.length oc] w (DTopPost os w) := by
  have HR : Hid (Rng os.length es) := hr
  have HP : Hid (IsPerm os.length os) := hp
  have HF : Hid (Fwd os es) := hf
  clear hr hp hf
  go_enter Ydpm.func27, Ydpm.ntmps27
  go_wp2_with (at_make; refine wpl_makeI rfl _ _ rfl os.length _ _ (by rfl) (by rfl) rfl rfl (by omega) ?_; intro w1 ho1 hb1 hz1)
  have hbA : BelowA w.heap.size w w1 := ⟨hb1, by omega⟩
  clear hb1 hz1
  go_loopw [9] (fun i wr => ∃ (k : Nat) (ps : List Int), k ≤ os.length ∧ i = .int .i64 k ∧ Hid (ps.length = os.length) ∧ Hid (∀ v : Nat, v < k → nth ps v = -1) ∧ OwnI wr w.heap.size os.length ps ∧ BelowA w.heap.size w wr) (fun i _ => os.length - (intOf i).toNat)
  case atStart => exact ⟨0, _, by omega, rfl, by show _ = _; simp, fun v hv => by omega, ho1, hbA⟩
  case round =>
    obtain ⟨k, ps, hk, rfl, HL, HM, ho, hb⟩ := hrel
    have hz := ho.lt
    by_cases hlt : k < os.length
    · have d1 := ho.cell k (by rw [HL.out]; exact hlt)
      have f1 := ho.frozen k
      go_wp2_with fail
      go_roundw
      case rel =>
        refine ⟨k + 1, ps.set k (-1), by omega, by simp, by show _ = _; rw [List.length_set]; exact HL.out, fun v hv => ?_, ho.set k _, hb.1.setCell (Nat.le_refl _) _, by rw [size_setCell]; exact hb.2⟩
        rw [nth_set (by rw [HL.out]; exact hlt)]
        split
        · rfl
        · exact HM.out v (by omega)
      case measure => simp [intOf]; omega
    · have HT : Hid (PosTo os ps 0) := ⟨HL.out, fun i hi => (by omega), fun v hv h0 => by rw [HM.out v (by omega)] at h0; omega⟩
      clear HL HM ho1 hbA
      have i1 : decide ((k : Int) < (os.length : Int)) = false := by simp; omega
      go_wp2_with fail
      clear i1
      rename World => W1
      go_loopw [10] (fun i wr => ∃ (k : Nat) (ps : List Int), k ≤ os.length ∧ i = .int .i64 k ∧ Hid (PosTo os ps k) ∧ OwnI wr w.heap.size os.length ps ∧ BelowA w.heap.size w wr) (fun i _ => os.length - (intOf i).toNat)
      case atStart => exact ⟨0, ps, by omega, rfl, HT, ho, hb⟩
      case round =>
        clear ho hb HT hlt hk hz
        obtain ⟨k, ps, hk, rfl, HT, ho, hb⟩ := hrel
        have hz := ho.lt
        by_cases hlt : k < os.length
        · obtain ⟨ob, off, hoB, rfl, hc⟩ := Sl.intsAt (hso.below hb.1) (by omega)
          have c1 := hc k hlt
          clear hc
          obtain ⟨m, hm⟩ := Int.eq_ofNat_of_zero_le (HP.out.2.1 k hlt).1
          have hmn : m < os.length := by have := (HP.out.2.1 k hlt).2; omega
          have HM : Hid _ := hm
          rw [hm] at c1
          clear hm
          have d1 := ho.cell m (by rw [HT.out.1]; exact hmn)
          have f1 := ho.frozen m
          obtain ⟨y, hy⟩ : ∃ y, nth ps m = y := ⟨_, rfl⟩
          have hneg : y < 0 := by
            refine Int.not_le.1 fun h0 => ?_
            rw [← hy] at h0
            obtain ⟨i, hi, e⟩ := HT.out.2.2 m hmn h0
            exact HP.out.2.2 i k hi hlt (by rw [e, HM.out])
          have HY : Hid _ := hy
          rw [hy] at d1
          clear hy
          have i1 : decide (y ≥ 0) = false := by simp; omega
          have j1 : (0 : Int) ≤ (m : Int) := by omega
          have j2 : decide ((m : Int) ≥ (os.length : Int)) = false := by simp; omega
          have j3 : decide ((m : Int) < 0) = false := by simp
          have hob : ob < wr.heap.size := by have := hb.2; omega
          go_wp2_with fail
          go_roundw
          case rel => exact ⟨k + 1, ps.set m (k : Int), by omega, by simp, HT.out.step hlt HM.out hmn (by rw [HY.out]; exact hneg), ho.set m _, hb.1.setCell (Nat.le_refl _) _, by rw [size_setCell]; exact hb.2⟩
          case measure => simp [intOf]; omega
        · obtain rfl : k = os.length := by omega
          have HPO : Hid (PosOf os ps) := HT.out.posOf
          clear HT hlt hk
          go_wp2_with fail
          rename World => W2
          go_loopw [57] (fun i wr => ∃ (k : Nat), k ≤ es.length ∧ i = .int .i64 k ∧ OwnI wr w.heap.size os.length ps ∧ BelowA w.heap.size w wr) (fun i _ => es.length - (intOf i).toNat)
          case atStart => exact ⟨0, by omega, rfl, ho, hb⟩
          case round =>
            clear ho hb hz
            obtain ⟨k, hk, rfl, ho, hb⟩ := hrel
            have hz := ho.lt
            by_cases hlt : k < es.length
            · obtain ⟨eb, off, heB, rfl, hc⟩ := Sl.pairsAt (hse.below hb.1) (by omega)
              obtain ⟨c1, c2⟩ := hc k hlt
              clear hc
              obtain ⟨⟨s1, s2⟩, t1, t2⟩ := HR.out k hlt
              obtain ⟨x, hx⟩ := Int.eq_ofNat_of_zero_le s1
              obtain ⟨y, hy⟩ := Int.eq_ofNat_of_zero_le t1
              obtain ⟨i, hi, ei, pi⟩ := HPO.out.at HP.out (v := x) (by omega)
              obtain ⟨j, hj, ej, pj⟩ := HPO.out.at HP.out (v := y) (by omega)
              have hij : i < j := HF.out k i j hlt hi hj (by rw [ei, hx]) (by rw [ej, hy])
              have d1 := ho.cell x (by rw [HPO.out.1]; omega)
              have d2 := ho.cell y (by rw [HPO.out.1]; omega)
              rw [pi] at d1
              rw [pj] at d2
              rw [hx] at c1 s1 s2
              rw [hy] at c2 t1 t2
              clear hx hy ei ej pi pj
              have i1 : decide ((i : Int) ≥ (j : Int)) = false := by simp; omega
              have heb : eb < wr.heap.size := by have := hb.2; omega
              go_upto_region 18 with fail
              go_quiet (fail)
              go_wp2_with fail
              go_roundw
              case rel => exact ⟨k + 1, by omega, by simp, (ho.alloc _).drewN _, (hb.alloc _).drewN _⟩
              case measure => simp [intOf]; omega
            · obtain rfl : k = es.length := by omega
              go_wp2_with fail
              go_ret2
              exact ⟨hb.1, w.heap.size, ps, by simp, ho, HPO.out, Nat.le_refl _⟩
theorem dtop_len (n : Nat) (es : List (Int × Int)) (os : List Int) (ec oc : Nat) (eo oo : Option Addr) (w : World) (hl : n = os.length) (hn : n ≤ 1000000) (hes : es.length ≤ 1000000) (hr : Rng n es) (hp : IsPerm n os) (hf : Fwd os es)
    (hse : Sl w w.heap.size eo es.length ec 2 (cellsE es)) (hso : Sl w w.heap.size oo n oc 1 (cellsI os)) :
    Calls Ydpm.prog 27 #[.int .i64 n, .slice eo es.length ec, .slice oo n oc] w (DTopPost os w) := by subst hl; exact dtop_any es os ec oc eo oo w hn hes hr hp hf hse hso
end Go.Proofs.Ymbrdp
