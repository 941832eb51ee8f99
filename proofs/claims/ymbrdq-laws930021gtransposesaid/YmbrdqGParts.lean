/- zzs930021gperm, zzs930021gedges, zzs930021gspoil: what the laws need of them. -/
import Derived.Test.YmbrdqBel
import Derived.Test.YmbrdqGAdd
import Derived.Test.YmbrdqPermDef
import Derived.Deep.DeepCutAuto
namespace Go.Proofs.Ymbrdq
open Go.ChangeShapes Go.WideShapes Go.ChangeAt Go.RowKit
set_option linter.unusedVariables false
set_option linter.unusedSimpArgs false
attribute [local go_sem ↓] Go.wp_at_zero Go.wp_at_succ

/-- all entries below n -/
def InN (n : Nat) (xs : List Int) : Prop := ∀ i, i < xs.length → 0 ≤ nth xs i ∧ nth xs i < n
def GPermPost (n : Nat) (w : World) (r : Ending) (w' : World) : Prop := Below w.heap.size w w' ∧
  ∃ g ps, r = .returned (.slice (some ⟨g, 0, none⟩) n n) ∧ OwnI w' g n ps ∧ ps.length = n ∧ InN n ps ∧ w.heap.size ≤ g
theorem InN.set {n : Nat} {xs : List Int} (h : InN n xs) {i : Nat} {x : Int} (hx : 0 ≤ x ∧ x < n) : InN n (xs.set i x) := by
  intro j hj
  rw [List.length_set] at hj
  by_cases hi : i < xs.length
  · rw [nth_set hi]
    split
    · exact hx
    · exact h j hj
  · rw [List.set_eq_of_length_le (by omega)]; exact h j hj

set_option maxRecDepth 20000 in
set_option maxHeartbeats 4000000 in
theorem gperm_any (ks : List Int) (kc : Nat) (ko : Option Addr) (w : World) (hks : ks.length ≤ 1000000) (hr : ∀ k, k < ks.length → 0 ≤ nth ks k ∧ nth ks k ≤ 65535) (hs : Sl w w.heap.size ko ks.length kc 1 (cellsK .u16 ks)) :
    Calls Ydqm.prog 20 #[.slice ko ks.length kc] w (GPermPost ks.length w) := by
  have HR : Hid _ := hr
  clear hr
  go_enter Ydqm.func20, Ydqm.ntmps20
  go_wp2_with (at_make; refine wpl_makeI rfl _ _ rfl ks.length _ _ (by rfl) (by rfl) rfl rfl (by omega) ?_; intro w1 ho1 hb1 hz1)
  go_loopw [4] (fun i wr => ∃ (k : Nat) (ps : List Int), k ≤ ks.length ∧ i = .int .i64 k ∧ Hid (ps.length = ks.length) ∧ Hid (0 < ks.length → InN ks.length ps) ∧ OwnI wr w.heap.size ks.length ps ∧ BelowA w.heap.size w wr) (fun i _ => ks.length - (intOf i).toNat)
  case atStart => exact ⟨0, List.replicate ks.length 0, by omega, rfl, by show _ = _; simp, fun h j hj => by rw [List.length_replicate] at hj; rw [nth_replicate hj]; omega, ho1, hb1, by omega⟩
  case round =>
    obtain ⟨k, ps, hk, rfl, HL, HI, ho, hb⟩ := hrel
    have hz := ho.lt
    by_cases hlt : k < ks.length
    · obtain ⟨b, off, hbB, rfl, hc⟩ := Sl.intsAt (hs.below hb.1) (by omega)
      have c1 := hc k hlt
      clear hc
      obtain ⟨q1, q2⟩ := HR.out k hlt
      obtain ⟨j, hj, hjk⟩ : ∃ j : Nat, (nth ks k).tmod ((k : Int) + 1) = (j : Int) ∧ j ≤ k := by
        have e1 := Int.emod_nonneg (nth ks k) (show (k : Int) + 1 ≠ 0 by omega)
        have e2 := Int.emod_lt_of_pos (nth ks k) (show 0 < (k : Int) + 1 by omega)
        exact ⟨(nth ks k % ((k : Int) + 1)).toNat, by rw [Int.tmod_eq_emod_of_nonneg q1]; omega, by omega⟩
      have n1 : ¬ ((k : Int) + 1 = 0) := by omega
      have hjl : j < ps.length := by have := HL.out; omega
      have hkl : k < ps.length := by have := HL.out; omega
      have d1 := ho.cell j hjl
      have f1 := ho.frozen k
      have d2 := ho.cell k hkl
      have HIN : Hid (InN ks.length ps) := HI.out (by omega)
      have o2 : OwnI (wr.setCell ⟨w.heap.size, k, none⟩ (.int .i64 (nth ps j))) w.heap.size ks.length (ps.set k (nth ps j)) := ho.set k _
      have d3 := o2.cell j (by rw [List.length_set]; exact hjl)
      have f3 := o2.frozen j
      go_wp2_with fail
      go_roundw
      case rel =>
        refine ⟨k + 1, (ps.set k (nth ps j)).set j k, by omega, by simp, by show _ = _; rw [List.length_set, List.length_set]; exact HL.out, fun _ => (HIN.out.set (HIN.out j hjl)).set ⟨by omega, by omega⟩, o2.set j _, ?_, ?_⟩
        · exact (hb.1.trans ((but_setCell w.heap.size wr k _).below (Nat.le_refl _) hb.2)).trans ((but_setCell w.heap.size _ j _).below (Nat.le_refl _) (by rw [size_setCell]; exact hb.2))
        · rw [size_setCell, size_setCell]; exact hb.2
      case measure => simp [intOf]; omega
    · go_wp2_with fail
      go_ret
      refine ⟨hb.1, w.heap.size, ps, by simp, ho, HL.out, ?_, Nat.le_refl _⟩
      rcases Nat.eq_zero_or_pos ks.length with h0 | h0
      · intro i hi; have := HL.out; omega
      · exact HI.out h0

/-- all edges between 0 and n-1 -/
def InE (n : Nat) (es : List (Int × Int)) : Prop := ∀ x ∈ es, inB n x.1 x.2 = true
theorem InE.snoc {n : Nat} {es : List (Int × Int)} (h : InE n es) {x y : Int} (hx : 0 ≤ x ∧ x < n) (hy : 0 ≤ y ∧ y < n) : InE n (es ++ [(x, y)]) := by
  intro z hz
  rw [List.mem_append, List.mem_singleton] at hz
  rcases hz with hz | rfl
  · exact h z hz
  · exact inB_true.2 ⟨hx.1, hx.2, hy.1, hy.2⟩
def GEdgesPost (n m : Nat) (w : World) (r : Ending) (w' : World) : Prop := Below w.heap.size w w' ∧
  ∃ g es, r = .returned (.slice (some ⟨g, 0, none⟩) es.length m) ∧ OwnE w' g m es ∧ InE n es ∧ w.heap.size ≤ g

set_option maxRecDepth 20000 in
set_option maxHeartbeats 8000000 in
theorem gedges_any (n : Nat) (ps : List Int) (rs : List (Int × Int)) (free : Bool) (pc rc : Nat) (po ro : Option Addr) (w : World) (hn : n = ps.length) (hps : ps.length ≤ 1000000) (hrs : rs.length ≤ 1000000) (hp : InN n ps) (hr : ∀ k, k < rs.length → (0 ≤ nthF rs k ∧ nthF rs k ≤ 65535) ∧ (0 ≤ nthT rs k ∧ nthT rs k ≤ 65535))
    (hsp : Sl w w.heap.size po ps.length pc 1 (cellsI ps)) (hs : Sl w w.heap.size ro rs.length rc 2 (cellsP .u16 rs)) :
    Calls Ydqm.prog 21 #[.slice po n pc, .slice ro rs.length rc, .bool free] w (GEdgesPost n rs.length w) := by
  have HR : Hid _ := hr
  have HP : Hid _ := hp
  have HN : Hid _ := hn
  have hn1 : n ≤ 1000000 := by omega
  clear hr hp hn
  by_cases h0 : n = 0
  · have i0 : ((n : Int) == 0) = true := by simp [h0]
    clear h0
    go_enter Ydqm.func21, Ydqm.ntmps21
    go_wp2_with (at_make; refine wpl_makeE0 rfl _ _ rfl rs.length _ (by rfl) (by rfl) rfl (by omega) ?_; intro w1 ho1 hb1 hz1)
    go_ret
    exact ⟨hb1, w.heap.size, [], by simp, ho1, fun x hx => by simp at hx, Nat.le_refl _⟩
  have i0 : ((n : Int) == 0) = false := by rw [beq_eq_false_iff_ne]; omega
  have hn0 : 0 < n := by omega
  clear h0
  go_enter Ydqm.func21, Ydqm.ntmps21
  go_wp2_with (at_make; refine wpl_makeE0 rfl _ _ rfl rs.length _ (by rfl) (by rfl) rfl (by omega) ?_; intro w1 ho1 hb1 hz1)
  go_loopw [7, 9] (fun t i wr => ∃ (k : Nat) (es : List (Int × Int)), k ≤ rs.length ∧ i = .int .i64 k ∧ t = .slice (some ⟨w.heap.size, 0, none⟩) es.length rs.length ∧ es.length ≤ k ∧ Hid (InE n es) ∧ OwnE wr w.heap.size rs.length es ∧ BelowA w.heap.size w wr) (fun _ i _ => rs.length - (intOf i).toNat)
  case atStart => exact ⟨0, [], by omega, rfl, rfl, by simp, fun x hx => by simp at hx, ho1, hb1, by omega⟩
  case round =>
    obtain ⟨k, es, hk, rfl, rfl, hel, HE, ho, hb⟩ := hrel
    have hz := ho.lt
    by_cases hlt : k < rs.length
    · obtain ⟨b, off, hbB, rfl, hc⟩ := Sl.pairsAt (hs.below hb.1) (by omega)
      obtain ⟨c1, c2⟩ := hc k hlt
      clear hc
      obtain ⟨⟨q1, q2⟩, q3, q4⟩ := HR.out k hlt
      obtain ⟨x, hx, hxn⟩ : ∃ x : Nat, (nthF rs k).tmod (n : Int) = (x : Int) ∧ x < n := by
        have e1 := Int.emod_nonneg (nthF rs k) (show (n : Int) ≠ 0 by omega)
        have e2 := Int.emod_lt_of_pos (nthF rs k) (show 0 < (n : Int) by omega)
        exact ⟨(nthF rs k % (n : Int)).toNat, by rw [Int.tmod_eq_emod_of_nonneg q1]; omega, by omega⟩
      obtain ⟨y, hy, hyn⟩ : ∃ y : Nat, (nthT rs k).tmod (n : Int) = (y : Int) ∧ y < n := by
        have e1 := Int.emod_nonneg (nthT rs k) (show (n : Int) ≠ 0 by omega)
        have e2 := Int.emod_lt_of_pos (nthT rs k) (show 0 < (n : Int) by omega)
        exact ⟨(nthT rs k % (n : Int)).toNat, by rw [Int.tmod_eq_emod_of_nonneg q3]; omega, by omega⟩
      have n0 : ¬ n = 0 := by omega
      have hpn := HN.out
      obtain ⟨pb, po2, hpB, rfl, hc⟩ := Sl.intsAt (hsp.below hb.1) (by omega)
      have p1 := hc x (by omega)
      have p2 := hc y (by omega)
      have hpx := HP.out x (by omega)
      have hpy := HP.out y (by omega)
      clear hc hpn
      have hbw := hb.2
      have hpw : pb < wr.heap.size := by omega
      have i1 : (0 : Int) ≤ (x : Int) := by omega
      have i2 : (x : Int) < (n : Int) := by omega
      have i3 : (0 : Int) ≤ (y : Int) := by omega
      have i4 : (y : Int) < (n : Int) := by omega
      go_upto_region 10 with fail
      clear hx hy q1 q2 q3 q4
      obtain ⟨C, HC⟩ : ∃ C : Bool, Hid (C = (free || decide ((x : Int) < (y : Int)))) := ⟨_, rfl⟩
      go_cut [47] (fun t w' => t = .bool C ∧ wr = w')
      case first =>
        cases free
        · go_wp2_with fail
          go_meet
          case rel => exact ⟨by rw [HC.out]; simp, rfl⟩
        · go_wp2_with fail
          go_meet
          case rel => exact ⟨by rw [HC.out]; simp, rfl⟩
      case rest =>
      obtain ⟨rfl, rfl⟩ := hcut
      rename World => W4
      cases C
      · by_cases hyx : y < x
        · have j1 : decide ((y : Int) < (x : Int)) = true := by simp; omega
          go_upto_region 13 with fail
          go_region_held3 (fun w' => w'.cell? ⟨pb, po2 + x, none⟩ = some (.int .i64 (nth ps x)) ∧ w'.cell? ⟨pb, po2 + y, none⟩ = some (.int .i64 (nth ps y)))
            (first
              | go_keep
              | (go_split_ands
                 refine ⟨?_, ?_⟩
                 · (rw [hg2.cell_far _ (by simp; omega) (by simp; omega)]; assumption)
                 · (rw [hg2.cell_far _ (by simp; omega) (by simp; omega)]; assumption)))
            ((refine step_appE rfl _ _ (by rfl) w.heap.size rs.length es.length es (nth ps y, nth ps x) (by rfl) rfl (by first | exact (ho.alloc _).drewN 1 | exact ho.alloc _) W4.heap.size 1 (by rfl) (by exact cell_new2 rfl) (by omega) ?_; intro w2 ho2 hg2))
          rename_i hHeld
          clear hHeld
          go_wp2_with fail
          go_roundw
          case rel => exact ⟨k + 1, _, by omega, by simp, by simp, by simp; omega, HE.out.snoc hpy hpx, ho2, ((hb.alloc _).drew).grown hg2 (Nat.le_refl _) (by show _ < (W4.alloc _).heap.size; rw [size_alloc]; omega)⟩
          case measure => simp [intOf]; omega
        · have j1 : decide ((y : Int) < (x : Int)) = false := by simp; omega
          go_wp2_with fail
          go_roundw
          case rel => exact ⟨k + 1, es, by omega, by simp, rfl, by omega, HE.out, ho, hb⟩
          case measure => simp [intOf]; omega
      · go_upto_region 11 with fail
        go_region_held3 (fun w' => w'.cell? ⟨pb, po2 + x, none⟩ = some (.int .i64 (nth ps x)) ∧ w'.cell? ⟨pb, po2 + y, none⟩ = some (.int .i64 (nth ps y)))
          (first
            | go_keep
            | (go_split_ands
               refine ⟨?_, ?_⟩
               · (rw [hg2.cell_far _ (by simp; omega) (by simp; omega)]; assumption)
               · (rw [hg2.cell_far _ (by simp; omega) (by simp; omega)]; assumption)))
          ((refine step_appE rfl _ _ (by rfl) w.heap.size rs.length es.length es (nth ps x, nth ps y) (by rfl) rfl (by first | exact (ho.alloc _).drewN 1 | exact ho.alloc _) W4.heap.size 1 (by rfl) (by exact cell_new2 rfl) (by omega) ?_; intro w2 ho2 hg2))
        rename_i hHeld
        clear hHeld
        go_wp2_with fail
        go_roundw
        case rel => exact ⟨k + 1, _, by omega, by simp, by simp, by simp; omega, HE.out.snoc hpx hpy, ho2, ((hb.alloc _).drew).grown hg2 (Nat.le_refl _) (by show _ < (W4.alloc _).heap.size; rw [size_alloc]; omega)⟩
        case measure => simp [intOf]; omega
    · go_wp2_with fail
      go_ret
      exact ⟨hb.1, w.heap.size, es, by simp, ho, HE.out, Nat.le_refl _⟩
end Go.Proofs.Ymbrdq
