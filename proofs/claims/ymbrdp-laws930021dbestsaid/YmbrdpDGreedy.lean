/- zzs930021dgreedy on an order that peel gave. -/
import Derived.Test.YmbrdpDTop
namespace Go.Proofs.Ymbrdp
open Go.ChangeShapes Go.WideShapes Go.ChangeAt Go.RowKit
set_option linter.unusedVariables false
set_option linter.unusedSimpArgs false
attribute [local go_sem ↓] Go.wp_at_zero Go.wp_at_succ

/-- no smaller vertex was free -/
def Least (os : List Int) (es : List (Int × Int)) : Prop := ∀ i, i < os.length → ∀ v : Nat, (v : Int) < nth os i → ¬ Free es os i v
theorem least_blocks {os ps : List Int} {es : List (Int × Int)} (hl : Least os es) (hp : IsPerm os.length os) (hps : PosOf os ps) (hr : Rng os.length es) {i v : Nat} (hi : i < os.length) (hv : (v : Int) < nth os i) (hvp : (i : Int) < nth ps v) : ∃ k, k < es.length ∧ nthT es k = v ∧ (i : Int) ≤ nth ps (nthF es k).toNat := by
  refine Classical.byContradiction fun hno => hl i hi v hv ⟨?_, fun k hk e => ?_⟩
  · rintro ⟨j, hj, e⟩
    have := (hps.2 j (by omega)).2.2
    rw [e] at this
    have h2 : nth ps v = (j : Int) := this
    omega
  · have hf := (hr k hk).1
    obtain ⟨u, hu⟩ := Int.eq_ofNat_of_zero_le hf.1
    obtain ⟨j, hj, e1, e2⟩ := hps.at hp (v := u) (by omega)
    refine ⟨j, ?_, by rw [hu]; exact e1⟩
    refine Nat.lt_of_not_le fun hle => hno ⟨k, hk, e, ?_⟩
    rw [hu]
    show (i : Int) ≤ nth ps u
    rw [e2]; omega

theorem BelowA.setC {B : Nat} {w0 w : World} (h : BelowA B w0 w) {a : Addr} (hB : B ≤ a.block) (v : Value) : BelowA B w0 (w.setCell a v) := ⟨h.1.setCell hB v, by rw [size_setCell]; exact h.2⟩

def DGrPost (w : World) (r : Ending) (w' : World) : Prop := Below w.heap.size w w' ∧ r = .returned (.bool true)

set_option maxRecDepth 20000 in
set_option maxHeartbeats 4000000 in
theorem dgr_any (es : List (Int × Int)) (os ps : List Int) (ec oc pc : Nat) (eo oo po : Option Addr) (w : World) (hn : os.length ≤ 1000000) (hes : es.length ≤ 1000000) (hr : Rng os.length es) (hp : IsPerm os.length os) (hps : PosOf os ps) (hl : Least os es)
    (hse : Sl w w.heap.size eo es.length ec 2 (cellsE es)) (hso : Sl w w.heap.size oo os.length oc 1 (cellsI os)) (hsp : Sl w w.heap.size po ps.length pc 1 (cellsI ps)) :
    Calls Ydpm.prog 28 #[.int .i64 os.length, .slice eo es.length ec, .slice oo os.length oc, .slice po ps.length pc] w (DGrPost w) := by
  have HR : Hid (Rng os.length es) := hr
  have HP : Hid (IsPerm os.length os) := hp
  have HPS : Hid (PosOf os ps) := hps
  have HLE : Hid (Least os es) := hl
  clear hr hp hps hl
  go_enter Ydpm.func28, Ydpm.ntmps28
  go_wp2_with fail
  go_loopw [9] (fun i wr => ∃ (k : Nat), k ≤ os.length ∧ i = .int .i64 k ∧ BelowA w.heap.size w wr) (fun i _ => os.length - (intOf i).toNat)
  case atStart => exact ⟨0, by omega, rfl, BelowA.refl _⟩
  case round =>
    obtain ⟨i, hi, rfl, hb⟩ := hrel
    by_cases hlt : i < os.length
    · have hpl : ps.length = os.length := HPS.out.1
      have HPL : Hid _ := hpl
      clear hpl
      go_wp2_with (at_make; refine wpl_makeB rfl _ _ rfl os.length _ _ (by rfl) (by rfl) rfl rfl (by omega) ?_; intro w1 ho1 hb1 hz1)
      have hb1' := hb.next hb1
      have hg1 := hb.2
      obtain ⟨G, hG⟩ : ∃ G, wr.heap.size = G := ⟨_, rfl⟩
      rw [hG] at ho1 hz1 hg1 ⊢
      clear hb1 hb hG
      rename World => W1
      go_loopw [23] (fun v wr => ∃ (k : Nat) (bs : List Bool), k ≤ es.length ∧ v = .int .i64 k ∧ Hid (bs.length = os.length) ∧ Hid (∀ j v, j < k → nthT es j = ((v : Nat) : Int) → (i : Int) ≤ nth ps (nthF es j).toNat → nthB bs v = true) ∧ OwnB wr G os.length bs ∧ BelowA w.heap.size w wr) (fun v _ => es.length - (intOf v).toNat)
      case atStart => exact ⟨0, _, by omega, rfl, by show _ = _; simp, fun j v hj => (by omega), ho1, hb1'⟩
      case round =>
        obtain ⟨k, bs, hk, rfl, HL, HB, ho, hb⟩ := hrel
        have hz := ho.lt
        by_cases hlt2 : k < es.length
        · obtain ⟨eb, off, heB, rfl, hc⟩ := Sl.pairsAt (hse.below hb.1) (by omega)
          obtain ⟨c1, c2⟩ := hc k hlt2
          clear hc
          obtain ⟨⟨s1, s2⟩, t1, t2⟩ := HR.out k hlt2
          obtain ⟨x, hx⟩ := Int.eq_ofNat_of_zero_le s1
          obtain ⟨y, hy⟩ := Int.eq_ofNat_of_zero_le t1
          rw [hx] at c1 s1 s2
          rw [hy] at c2 t1 t2
          have HX : Hid _ := hx
          have HY : Hid _ := hy
          clear hx hy
          have hxn : x < ps.length := by rw [HPL.out]; omega
          have hyn : y < os.length := by omega
          obtain ⟨pb, poff, hpB, rfl, hc⟩ := Sl.intsAt (hsp.below hb.1) (by omega)
          have p1 := hc x hxn
          clear hc
          obtain ⟨a, ha⟩ : ∃ a, nth ps x = a := ⟨_, rfl⟩
          rw [ha] at p1
          have HA : Hid _ := ha
          clear ha
          have d1 := ho.cell y (by rw [HL.out]; omega)
          have f1 := ho.frozen y
          have heb : eb < wr.heap.size := by have := hb.2; omega
          have hpb : pb < wr.heap.size := by have := hb.2; omega
          have hpb1 : pb < wr.heap.size + 1 := by omega
          have x1 : (x : Int) < (ps.length : Int) := by omega
          by_cases hw : a ≥ i
          · have i1 : decide (a ≥ (i : Int)) = true := by simp; omega
            go_wp2_with fail
            go_roundw
            case rel =>
              refine ⟨k + 1, bs.set y true, by omega, by simp, by show _ = _; rw [List.length_set]; exact HL.out, fun j v hj ht hf => ?_, (ho.set y true).alloc _, (hb.setC (a := ⟨G, y, none⟩) hg1 _).alloc _⟩
              rw [nthB_set (by rw [HL.out]; exact hyn)]
              split
              · rfl
              · rename_i hne
                rcases Nat.lt_or_ge j k with h | h
                · exact HB.out j v h ht hf
                · obtain rfl : j = k := by omega
                  rw [HY.out] at ht
                  omega
            case measure => simp [intOf]; omega
          · have i1 : decide (a ≥ (i : Int)) = false := by simp; omega
            go_wp2_with fail
            go_roundw
            case rel =>
              refine ⟨k + 1, bs, by omega, by simp, HL, fun j v hj ht hf => ?_, ho.alloc _, hb.alloc _⟩
              rcases Nat.lt_or_ge j k with h | h
              · exact HB.out j v h ht hf
              · obtain rfl : j = k := by omega
                rw [HX.out] at hf
                have hf' : (i : Int) ≤ nth ps x := hf
                rw [HA.out] at hf'
                omega
            case measure => simp [intOf]; omega
        · obtain rfl : k = es.length := by omega
          have HBL : Hid (∀ v : Nat, (v : Int) < nth os i → (i : Int) < nth ps v → nthB bs v = true) := fun v hv hvp => by
            obtain ⟨k, hk, e1, e2⟩ := least_blocks HLE.out HP.out HPS.out HR.out hlt hv hvp
            exact HB.out k v hk e1 e2
          clear HB ho1 hb1' hlt2 hk
          obtain ⟨q, hq⟩ := Int.eq_ofNat_of_zero_le (HP.out.2.1 i hlt).1
          have hqn : q < os.length := by have := (HP.out.2.1 i hlt).2; omega
          have HQ : Hid _ := hq
          clear hq
          go_wp2_with fail
          rename World => W2
          go_loopw [13] (fun v wr => ∃ (k : Nat), k ≤ q ∧ v = .int .i64 k ∧ W2 = wr) (fun v _ => q - (intOf v).toNat)
          case atStart => exact ⟨0, by omega, rfl, by trivial⟩
          case round =>
            obtain ⟨v, hvq, rfl, rfl⟩ := hrel
            obtain ⟨ob, ooff, hoB, rfl, hc⟩ := Sl.intsAt (hso.below hb.1) (by omega)
            have o1 := hc i hlt
            clear hc
            rw [HQ.out] at o1
            have hob : ob < W2.heap.size := by have := hb.2; omega
            by_cases hlt3 : v < q
            · have hvn : v < ps.length := by rw [HPL.out]; omega
              obtain ⟨pb, poff, hpB, rfl, hc⟩ := Sl.intsAt (hsp.below hb.1) (by omega)
              have p1 := hc v hvn
              clear hc
              obtain ⟨a, ha⟩ : ∃ a, nth ps v = a := ⟨_, rfl⟩
              rw [ha] at p1
              have d1 := ho.cell v (by rw [HL.out]; omega)
              have hpb : pb < W2.heap.size := by have := hb.2; omega
              by_cases hw : (i : Int) < a
              · have i1 : decide (a > (i : Int)) = true := by simp; omega
                rw [HBL.out v (by rw [HQ.out]; omega) (by rw [ha]; exact hw)] at d1
                clear ha
                go_wp2_with fail
                go_roundw
                case rel => exact ⟨v + 1, by omega, by simp, by trivial⟩
                case measure => simp [intOf]; omega
              · have i1 : decide (a > (i : Int)) = false := by simp; omega
                clear ha
                go_wp2_with fail
                go_roundw
                case rel => exact ⟨v + 1, by omega, by simp, by trivial⟩
                case measure => simp [intOf]; omega
            · obtain rfl : v = q := by omega
              go_wp2_with fail
              go_roundw
              case rel => exact ⟨i + 1, by omega, by simp, hb⟩
              case measure => simp [intOf]; omega
    · obtain rfl : i = os.length := by omega
      go_wp2_with fail
      go_ret
      exact ⟨hb.1, by simp⟩
theorem dgr_len (n : Nat) (es : List (Int × Int)) (os ps : List Int) (ec oc pc : Nat) (eo oo po : Option Addr) (w : World) (hln : n = os.length) (hn : n ≤ 1000000) (hes : es.length ≤ 1000000) (hr : Rng n es) (hp : IsPerm n os) (hps : PosOf os ps) (hl : Least os es)
    (hse : Sl w w.heap.size eo es.length ec 2 (cellsE es)) (hso : Sl w w.heap.size oo n oc 1 (cellsI os)) (hsp : Sl w w.heap.size po n pc 1 (cellsI ps)) :
    Calls Ydpm.prog 28 #[.int .i64 n, .slice eo es.length ec, .slice oo n oc, .slice po n pc] w (DGrPost w) := by
  subst hln
  have h1 := hps.1
  rw [← h1] at hsp
  have := dgr_any es os ps ec oc pc eo oo po w hn hes hr hp hps hl hse hso hsp
  rw [h1] at this
  exact this
end Go.Proofs.Ymbrdp
