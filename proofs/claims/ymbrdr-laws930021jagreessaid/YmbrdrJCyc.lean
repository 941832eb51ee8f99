/- (*Graph).Cycle: the walk. -/
import Derived.Test.YmbrdrJPlain
import Derived.Test.YmbrdrBel
import Derived.Test.YmbrdrLParts
import Derived.Deep.DeepCutAuto
namespace Go.Proofs.Ymbrdr
open Go.ChangeShapes Go.WideShapes Go.ChangeAt Go.RowKit
set_option linter.unusedVariables false
set_option linter.unusedSimpArgs false
attribute [local go_sem ↓] Go.wp_at_zero Go.wp_at_succ

theorem BelowA.setC {B : Nat} {w0 w : World} (h : BelowA B w0 w) {a : Addr} (hB : B ≤ a.block) (v : Value) : BelowA B w0 (w.setCell a v) := ⟨h.1.setCell hB v, by rw [size_setCell]; exact h.2⟩
/-- where each of the first j vertices was seen -/
def SeenTo (n : Nat) (it : Nat → Int) (ss : List Int) (j : Nat) : Prop := ss.length = n ∧ (∀ i, i < j → nth ss (it i).toNat = i) ∧ ∀ u : Nat, u < n → 0 ≤ nth ss u → ∃ i, i < j ∧ it i = u
theorem SeenTo.step {n : Nat} {it : Nat → Int} {ss : List Int} {j m : Nat} (h : SeenTo n it ss j) (hm : it j = m) (hmn : m < n) (hneg : nth ss m < 0) : SeenTo n it (ss.set m j) (j + 1) := by
  obtain ⟨h0, h1, h2⟩ := h
  refine ⟨by rw [List.length_set]; exact h0, fun i hi => ?_, fun u hu hp => ?_⟩
  · rw [nth_set (by omega)]
    rcases Nat.lt_or_ge i j with h | h
    · rw [if_neg, h1 i h]
      intro e
      have := h1 i h
      rw [← e] at this
      omega
    · obtain rfl : i = j := by omega
      rw [if_pos (by rw [hm]; omega)]
  · rw [nth_set (by omega)] at hp
    split at hp
    · exact ⟨j, by omega, by omega⟩
    · obtain ⟨i, hi, e⟩ := h2 u hu hp
      exact ⟨i, by omega, e⟩
theorem SeenTo.inj {n : Nat} {it : Nat → Int} {ss : List Int} {j : Nat} (h : SeenTo n it ss j) : ∀ a b, a < b → b < j → it a ≠ it b := fun a b hab hb e => by
  have h1 := h.2.1 a (by omega)
  have h2 := h.2.1 b hb
  rw [e] at h1
  omega
theorem SeenTo.le {n : Nat} {it : Nat → Int} {ss : List Int} {j : Nat} (h : SeenTo n it ss j) (hr : ∀ i, 0 ≤ it i ∧ it i < n) : j ≤ n :=
  inj_le j n (fun i => (it i).toNat) (fun i _ => by have := hr i; omega) (fun a b hab hb e => h.inj a b hab hb (by have := hr a; have := hr b; omega))
def PathTo (it : Nat → Int) (ps : List Int) : Prop := ∀ i, i < ps.length → nth ps i = it i
theorem PathTo.snoc {it : Nat → Int} {ps : List Int} {j : Nat} (h : PathTo it ps) (hl : ps.length = j) {v : Int} (hv : v = it j) : PathTo it (ps ++ [v]) := by
  subst hl
  intro i hi
  rw [List.length_append, List.length_singleton] at hi
  rcases Nat.lt_or_ge i ps.length with h' | h'
  · rw [nth_snoc_lt h']; exact h i h'
  · obtain rfl : i = ps.length := by omega
    rw [nth_snoc_eq, hv]

def lenV : Value → Nat
  | .slice _ n _ => n
  | _ => 0

def CyclePost (n : Nat) (gs : List (Int × Int)) (w : World) (r : Ending) (w' : World) : Prop := Below w.heap.size w w' ∧ ∃ os tk, Peeled n gs os tk ∧
  ((os.length = n ∧ r = .returned (.tuple #[.slice none 0 0, .bool false])) ∨
   (os.length ≠ n ∧ ∃ (g : Nat) (c : List Int) (v0 : Nat), r = .returned (.tuple #[.slice (some ⟨g, 0, none⟩) c.length c.length, .bool true]) ∧ OwnI w' g c.length c ∧ w.heap.size ≤ g ∧ FirstU n tk v0 ∧ CycAns n (itr gs (left tk) v0) c))

set_option maxRecDepth 20000 in
set_option maxHeartbeats 8000000 in
theorem cycle_any (n gb : Nat) (eo : Option Addr) (cap : Nat) (gs : List (Int × Int)) (w : World) (hn : n ≤ 100000) (hes : gs.length ≤ 1000000) (hr : Rng n gs) (hg : Gr w w.heap.size gb n eo cap gs) :
    Calls Ydrm.prog 18 #[.pointer (some ⟨gb, 0, none⟩)] w (CyclePost n gs w) := by
  have HR : Hid (Rng n gs) := hr
  go_enter Ydrm.func18, Ydrm.ntmps18
  go_wp2_with fail
  refine (peel_any n gb eo cap gs w (by omega) hes hr hg).mono ?_
  rintro e w1 ⟨hb1, g1, g2, os, tk, rfl, ho, ht, hg1, hg2, _, hp⟩
  have HP : Hid (Peeled n gs os tk) := hp
  clear hp hr
  have hgw := hg.below hb1
  have k0 := hgw.c0
  have hol := ho.le
  have hz1 := hb1.size
  have hgl := hg.lt
  by_cases hl : os.length = n
  · have i0 : ((os.length : Int) == (n : Int)) = true := by simp [hl]
    have HL : Hid _ := hl
    clear hl
    go_wp2_with fail
    go_ret2
    exact ⟨hb1, os, tk, HP.out, .inl ⟨HL.out, rfl⟩⟩
  · have i0 : ((os.length : Int) == (n : Int)) = false := by simp; omega
    have HNL : Hid (os.length ≠ n) := hl
    obtain ⟨x, hxn, hxf⟩ := HP.out.some_left hl
    have HX : Hid _ := hxf
    clear hl hxf
    have htl := ht.lt
    clear ho
    go_wp2_with fail
    clear i0
    go_loopw [6] (fun v wr => ∃ j : Nat, j ≤ x ∧ v = .int .i64 j ∧ Hid (∀ u, u < j → nthB tk u = true) ∧ w1 = wr) (fun v _ => x - (intOf v).toNat)
    case atStart => exact ⟨0, by omega, rfl, fun u hu => by omega, by trivial⟩
    case round =>
      obtain ⟨j, hj, rfl, HJ, rfl⟩ := hrel
      have hjn : j < n := by omega
      have c1 := ht.cell j (by rw [HP.out.tkl]; omega)
      cases hB : nthB tk j
      · rw [hB] at c1
        have HF : Hid (FirstU n tk j) := ⟨hjn, hB, HJ.out⟩
        clear hB HJ hj
        have tkl : Hid (tk.length = n) := HP.out.tkl
        go_wp2_with (at_make; refine wpl_makeI rfl _ _ rfl n _ _ (by rfl) (by rfl) rfl rfl (by omega) ?_; intro w2 ho2 hb2 hz2)
        have ht2 := ht.below hb2 htl
        have hb12 : BelowA w.heap.size w w2 := ⟨hb1.trans (hb2.mono hz1), by have := hb2.size; omega⟩
        obtain ⟨g7, hg7⟩ : ∃ g7, w1.heap.size = g7 := ⟨_, rfl⟩
        rw [hg7] at ho2 hz2 htl ⊢
        have hg7w : w.heap.size ≤ g7 := by omega
        clear hb2 ht hg7 hz1 hb1 hgw k0
        go_loopw [39] (fun i wr => ∃ (k : Nat) (ss : List Int), k ≤ n ∧ i = .int .i64 k ∧ Hid (ss.length = n) ∧ Hid (∀ v : Nat, v < k → nth ss v = -1) ∧ OwnI wr g7 n ss ∧ OwnB wr g2 n tk ∧ BelowA w.heap.size w wr) (fun i _ => n - (intOf i).toNat)
        case atStart => exact ⟨0, _, by omega, rfl, by show _ = _; simp, fun v hv => by omega, ho2, ht2, hb12⟩
        case round =>
          clear ho2 ht2 hb12 hz2 c1
          obtain ⟨k, ss, hk, rfl, HL, HM, ho, ht, hb⟩ := hrel
          have hz := ho.lt
          by_cases hlt : k < n
          · have d1 := ho.cell k (by rw [HL.out]; exact hlt)
            have f1 := ho.frozen k
            go_wp2_with fail
            go_roundw
            case rel =>
              refine ⟨k + 1, ss.set k (-1), by omega, by simp, by show _ = _; rw [List.length_set]; exact HL.out, fun v hv => ?_, ho.set k _, ht.other (by dsimp only; omega) _, hb.setC (a := ⟨g7, k, none⟩) hg7w _⟩
              rw [nth_set (by rw [HL.out]; exact hlt)]
              split
              · rfl
              · exact HM.out v (by omega)
            case measure => simp [intOf]; omega
          · have i1 : decide ((k : Int) < (n : Int)) = false := by simp; omega
            have hIT : ∀ i, InU n tk (itr gs (left tk) j i) := HP.out.itr HR.out HF.out.inU
            have HIT : Hid _ := hIT
            clear hIT
            have HSE : Hid (SeenTo n (itr gs (left tk) j) ss 0) := ⟨HL.out, fun i hi => (by omega), fun u hu h0 => by rw [HM.out u (by omega)] at h0; omega⟩
            clear HL HM
            have hgw := hg.below hb.1
            have k0 := hgw.c0
            go_wp2_with (at_make; refine wpl_makeI0 rfl _ _ rfl n _ (by rfl) (by rfl) rfl (by omega) ?_; intro w3 ho3 hb3 hz3)
            clear i1 hlt hk k0 hgw
            have ho7 := ho.below hb3 hz
            have ht3 := ht.below hb3 (by omega)
            have hb3' : BelowA w.heap.size w w3 := hb.next hb3
            obtain ⟨g9, hg9⟩ : ∃ g9, wr.heap.size = g9 := ⟨_, rfl⟩
            rw [hg9] at ho3 hz hz3 ⊢
            clear hb3 ho ht hb hg9 hz3
            obtain ⟨it, hit⟩ : ∃ it, itr gs (left tk) j = it := ⟨_, rfl⟩
            have HI0 : Hid (it 0 = (j : Int)) := by show _ = _; rw [← hit]; rfl
            have HIS : Hid (∀ i, it (i + 1) = bk gs (left tk) (it i)) := fun i => by rw [← hit]; rfl
            rw [hit] at HIT HSE
            have HIE : Hid (itr gs (left tk) j = it) := hit
            clear hit
            go_loopw [6, 9] (fun v6 v9 wr => ∃ (i m : Nat) (ss ps : List Int), i ≤ n ∧ v6 = .int .i64 m ∧ m < n ∧ Hid (it i = (m : Int)) ∧ v9 = .slice (some ⟨g9, 0, none⟩) ps.length n ∧ ps.length ≤ i ∧ Hid (ps.length = i) ∧ Hid (SeenTo n it ss i) ∧ Hid (PathTo it ps) ∧ OwnI wr g7 n ss ∧ OwnI wr g9 n ps ∧ OwnB wr g2 n tk ∧ BelowA w.heap.size w wr) (fun _ v9 _ => n - lenV v9)
            case atStart => exact ⟨0, j, ss, [], by omega, rfl, hjn, HI0, rfl, by simp, by show _ = _; rfl, HSE, fun i hi => absurd hi (by simp), ho7, ho3, ht3, hb3'⟩
            case round =>
              clear HSE ho7 ho3 ht3 hb3'
              obtain ⟨i, m, ss, ps, hin, rfl, hmn, HM, rfl, hpl, HPL, HSE, HPA, ho7, ho9, ht, hb⟩ := hrel
              have hz7 := ho7.lt
              have hz9 := ho9.lt
              have hzt := ht.lt
              have c7 := ho7.cell m (by rw [HSE.out.1]; exact hmn)
              have f7 := ho7.frozen m
              obtain ⟨y, hy⟩ : ∃ y, nth ss m = y := ⟨_, rfl⟩
              rw [hy] at c7
              have HY : Hid _ := hy
              clear hy
              by_cases hneg : y < 0
              · have i1 : decide (y < 0) = true := by simp; omega
                have HSN : Hid (SeenTo n it (ss.set m (i : Int)) (i + 1)) := HSE.out.step HM.out hmn (by rw [HY.out]; exact hneg)
                have hin1 : i + 1 ≤ n := HSN.out.le (fun q => ⟨(HIT.out q).1, (HIT.out q).2.1⟩)
                have hbA := hb.setC (a := ⟨g7, m, none⟩) hg7w (.int .i64 (ps.length : Int))
                have ho7A := ho7.set m (ps.length : Int)
                have ho9A := ho9.other (a := ⟨g7, m, none⟩) (by dsimp only; omega) (.int .i64 (ps.length : Int))
                have htA := ht.other (a := ⟨g7, m, none⟩) (by dsimp only; omega) (.int .i64 (ps.length : Int))
                go_wp2_with (at_builtin; (refine wpl_appI rfl (.tmp 61) (.tmp 63) rfl g9 n ps.length ps m (by rfl) rfl (ho9A.alloc _) wr.heap.size 1 (by rfl) (cell_new1 (size_setCell _ _ _).symm) (by omega) ?_); intro w4 ho4 hg4; have hb4 := (hbA.alloc (.cells #[.int .i64 m] 3)).grown hg4 (by omega) (by rw [size_alloc, size_setCell]; omega); have k1' := (hg.below hb4.1).c1)
                have ht4 := (htA.alloc (.cells #[.int .i64 m] 3)).grown hg4 (by simp; omega)
                have ho74 := (ho7A.alloc (.cells #[.int .i64 m] 3)).grown hg4 (by simp; omega)
                clear ho7A ho9A htA hbA hg4 c7 f7 i1
                have HS2 : Hid (SeenTo n it (ss.set m (ps.length : Int)) (i + 1)) := by show SeenTo _ _ _ _; rw [HPL.out]; exact HSN.out
                have HP2 : Hid (PathTo it (ps ++ [(m : Int)])) := HPA.out.snoc HPL.out HM.out.symm
                have hpn : ps.length < n := by omega
                go_loopw [6, 70] (fun v6 v wr => ∃ (k : Nat), k ≤ gs.length ∧ v6 = .int .i64 m ∧ v = .int .i64 k ∧ Hid (bkTo gs (left tk) m k = none) ∧ OwnI wr g7 n (ss.set m (ps.length : Int)) ∧ OwnI wr g9 n (ps ++ [(m : Int)]) ∧ OwnB wr g2 n tk ∧ BelowA w.heap.size w wr) (fun _ v _ => gs.length - (intOf v).toNat)
                case atStart => exact ⟨0, by omega, rfl, rfl, rfl, ho74, ho4, ht4, hb4⟩
                case round =>
                  clear ho74 ho4 ht4 hb4 k1' ho7 ho9 ht hb hz7 hz9 hzt
                  obtain ⟨k, hk, rfl, rfl, HB, ho7, ho9, ht, hb⟩ := hrel
                  have hzt := ht.lt
                  by_cases hlt : k < gs.length
                  · obtain ⟨eb, off, heB, rfl, hc⟩ := Sl.pairsAt (hg.below hb.1).sl (by omega)
                    obtain ⟨c1, c2⟩ := hc k hlt
                    clear hc
                    obtain ⟨⟨s1, s2⟩, t1, t2⟩ := HR.out k hlt
                    obtain ⟨x1, hx⟩ := Int.eq_ofNat_of_zero_le s1
                    obtain ⟨y1, hy⟩ := Int.eq_ofNat_of_zero_le t1
                    rw [hx] at c1 s1 s2
                    rw [hy] at c2 t1 t2
                    have HX1 : Hid _ := hx
                    have HY1 : Hid _ := hy
                    clear hx hy
                    have hxn1 : x1 < n := by omega
                    have d1 := ht.cell x1 (by rw [tkl.out]; exact hxn1)
                    have heb : eb < wr.heap.size := by have := hb.2; omega
                    have hzt1 : g2 < wr.heap.size + 1 := by omega
                    by_cases hym : y1 = m
                    · have i1 : ((y1 : Int) == (m : Int)) = true := by simp [hym]
                      cases hB1 : nthB tk x1
                      · rw [hB1] at d1
                        have HNX : Hid (it (i + 1) = (x1 : Int)) := by
                          show _ = _
                          rw [HIS.out, HM.out, bk_found HB.out hlt (by rw [HY1.out, hym]) (by rw [HX1.out]; unfold left; rw [show ((x1 : Int)).toNat = x1 by omega, hB1]; rfl), HX1.out]
                        clear hB1 hym
                        go_wp2_with fail
                        go_roundw
                        case rel => exact ⟨i + 1, x1, _, _, by omega, rfl, hxn1, HNX, by simp, by simp; omega, by show _ = _; simp [HPL.out], HS2, HP2, ho7.alloc _, ho9.alloc _, ht.alloc _, hb.alloc _⟩
                        case measure => simp [lenV]; omega
                      · rw [hB1] at d1
                        have HBN : Hid (bkTo gs (left tk) m (k + 1) = none) := bkTo_no HB.out (by rintro ⟨_, h⟩; rw [HX1.out] at h; unfold left at h; rw [show ((x1 : Int)).toNat = x1 by omega, hB1] at h; cases h)
                        clear hB1 hym
                        go_wp2_with fail
                        go_roundw
                        case rel => exact ⟨k + 1, by omega, rfl, by simp, HBN, ho7.alloc _, ho9.alloc _, ht.alloc _, hb.alloc _⟩
                        case measure => simp [intOf]; omega
                    · have i1 : ((y1 : Int) == (m : Int)) = false := by simp; omega
                      have HBN : Hid (bkTo gs (left tk) m (k + 1) = none) := bkTo_no HB.out (by rintro ⟨h, _⟩; rw [HY1.out] at h; omega)
                      clear hym
                      go_wp2_with fail
                      go_roundw
                      case rel => exact ⟨k + 1, by omega, rfl, by simp, HBN, ho7.alloc _, ho9.alloc _, ht.alloc _, hb.alloc _⟩
                      case measure => simp [intOf]; omega
                  · have HNX : Hid (it (i + 1) = (m : Int)) := by
                      show _ = _
                      rw [HIS.out, HM.out, bk_none (by have := HB.out; rw [show k = gs.length by omega] at this; exact this)]
                    go_wp2_with fail
                    go_roundw
                    case rel => exact ⟨i + 1, m, _, _, by omega, rfl, hmn, HNX, by simp, by simp; omega, by show _ = _; simp [HPL.out], HS2, HP2, ho7, ho9, ht, hb⟩
                    case measure => simp [lenV]; omega
              · have i1 : decide (y < 0) = false := by simp; omega
                obtain ⟨q, hqi, hqe⟩ := HSE.out.2.2 m hmn (by rw [HY.out]; omega)
                have hyq : y = (q : Int) := by
                  have := HSE.out.2.1 q hqi
                  rw [hqe] at this
                  rw [← HY.out]; exact this
                subst hyq
                have HQ : Hid (it q = (m : Int)) := hqe
                clear hqe
                have hipl : i = ps.length := HPL.out.symm
                subst hipl
                clear HPL hpl
                obtain ⟨P, hP⟩ : ∃ P : Nat, (ps.length : Int) - (q : Int) = (P : Int) := ⟨ps.length - q, by omega⟩
                go_wp2_with (at_make; refine wpl_makeI0 rfl _ _ rfl P _ (by rfl) (by rfl) (by first | rfl | exact hP) (by omega) ?_; intro w5 ho5 hb5 hz5)
                clear i1 hneg c7 f7
                have HPP : Hid (P = ps.length - q) := by show _ = _; omega
                have hP0 : 0 < P := by omega
                have hPn : P ≤ n := by omega
                clear hP
                have ho75 := ho7.below hb5 hz7
                have ho95 := ho9.below hb5 hz9
                have hb5' := hb.next hb5
                obtain ⟨gc, hgc⟩ : ∃ gc, wr.heap.size = gc := ⟨_, rfl⟩
                rw [hgc] at ho5 hz7 hz9 ⊢
                have hgcw : w.heap.size ≤ gc := by omega
                clear hb5 hgc ho7 ho9 hb ht hzt hz5
                go_loopw [12, 13] (fun v12 v13 wr => ∃ (t : Nat) (cs : List Int), t ≤ P ∧ v13 = .int .i64 ((ps.length : Int) - 1 - (t : Int)) ∧ v12 = .slice (some ⟨gc, 0, none⟩) cs.length P ∧ cs.length ≤ t ∧ Hid (cs.length = t) ∧ Hid (∀ a, a < cs.length → nth cs a = it (ps.length - 1 - a)) ∧ OwnI wr gc P cs ∧ OwnI wr g7 n ss ∧ OwnI wr g9 n ps ∧ BelowA w.heap.size w wr) (fun v12 _ _ => P - lenV v12)
                case atStart => exact ⟨0, [], by omega, by simp, rfl, by simp, by show _ = _; rfl, fun a ha => absurd ha (by simp), ho5, ho75, ho95, hb5'⟩
                case round =>
                  clear ho5 ho75 ho95 hb5'
                  obtain ⟨t, cs, htP, rfl, rfl, hcl, HCL, HCS, hoc, ho7, ho9, hb⟩ := hrel
                  have hzc := hoc.lt
                  have c7 := ho7.cell m (by rw [HSE.out.1]; exact hmn)
                  rw [HY.out] at c7
                  by_cases hlt : t < P
                  · obtain ⟨p, HPE⟩ : ∃ p : Nat, Hid (p = ps.length - 1 - t) := ⟨_, rfl⟩
                    have hq1 := HPP.out
                    have hpp : (ps.length : Int) - 1 - (t : Int) = (p : Int) := by rw [HPE.out]; omega
                    have hpl : p < ps.length := by rw [HPE.out]; omega
                    have hpq : q ≤ p := by rw [HPE.out]; omega
                    have hpp2 : Hid ((ps.length : Int) - 1 - ((t + 1 : Nat) : Int) = (p : Int) - 1) := by show _ = _; omega
                    rw [hpp]
                    clear hq1 hpp
                    have i1 : decide ((p : Int) ≥ (q : Int)) = true := by simp; omega
                    have hp0 : (0 : Int) ≤ (p : Int) := by omega
                    have c9 := ho9.cell p hpl
                    go_wp2_with (at_builtin; (refine wpl_appI rfl (.tmp 108) (.tmp 113) rfl gc P cs.length cs (nth ps p) (by rfl) rfl (hoc.alloc _) wr.heap.size 1 (by rfl) (cell_new1 rfl) (by omega) ?_); intro w6 ho6 hg6)
                    go_roundw
                    case rel =>
                      refine ⟨t + 1, _, by omega, by rw [hpp2.out], by simp, by simp; omega, by show _ = _; simp [HCL.out], fun a ha => ?_, ho6, (ho7.alloc _).grown hg6 (by simp; omega), (ho9.alloc _).grown hg6 (by simp; omega), (hb.alloc _).grown hg6 hgcw (by rw [size_alloc]; omega)⟩
                      rw [List.length_append, List.length_singleton] at ha
                      rcases Nat.lt_or_ge a cs.length with h | h
                      · rw [nth_snoc_lt h]; exact HCS.out a h
                      · obtain rfl : a = cs.length := by omega
                        rw [nth_snoc_eq, HPA.out p hpl, HPE.out, HCL.out]
                    case measure => simp [lenV]; have := HCL.out; omega
                  · obtain rfl : t = P := by omega
                    have hq1 := HPP.out
                    have i1 : decide ((ps.length : Int) - 1 - (t : Int) ≥ (q : Int)) = false := by simp; omega
                    have i2 : (ps.length : Int) - 1 - (t : Int) < (q : Int) := by omega
                    obtain ⟨z, hzz⟩ : ∃ z, (ps.length : Int) - 1 - (t : Int) = z := ⟨_, rfl⟩
                    rw [hzz] at i1 i2 ⊢
                    clear hq1 hzz
                    have HANS : Hid (CycAns n it (rotMin cs)) := by
                      have hq1 := HPP.out
                      exact ⟨ps.length, q, cs, hqi, hin, HSE.out.inj, by rw [HM.out, HQ.out], by rw [HCL.out, hq1], fun a ha => HCS.out a (by rw [HCL.out, hq1]; exact ha), rfl⟩
                    have hlr := length_rotMin cs
                    have HLR : Hid _ := hlr
                    clear hlr
                    have hs9 : Sl wr wr.heap.size (some ⟨gc, 0, none⟩) cs.length t 1 (cellsI cs) := hoc.sl rfl hzc
                    go_wp2_with fail
                    refine (rot_any cs t _ _ (by omega) hs9).mono ?_
                    rintro e w7 ⟨gr, rfl, hor, hgr, hb7⟩
                    rw [← HLR.out] at hor ⊢
                    go_wp2_with fail
                    go_ret2
                    have hb7' := hb.next hb7
                    exact ⟨hb7'.1, os, tk, HP.out, .inr ⟨HNL.out, gr, rotMin cs, j, rfl, hor, Nat.le_trans hb.2 hgr, HF.out, by rw [HIE.out]; exact HANS.out⟩⟩
      · rw [hB] at c1
        have hne : j ≠ x := fun e => by rw [e, HX.out] at hB; cases hB
        have HB : Hid _ := hB
        clear hB
        go_wp2_with fail
        go_roundw
        case rel =>
          refine ⟨j + 1, by omega, by simp, fun u hu => ?_, by trivial⟩
          rcases Nat.lt_or_ge u j with h | h
          · exact HJ.out u h
          · obtain rfl : u = j := by omega
            exact HB.out
        case measure => simp [intOf]; omega
end Go.Proofs.Ymbrdr
