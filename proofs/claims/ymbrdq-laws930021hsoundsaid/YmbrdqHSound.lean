/- The walk of LawS930021HSound. -/
import Derived.Test.YmbrdqPeel
import Derived.Test.YmbrdqHGraph
namespace Go.Proofs.Ymbrdq
open Go.ChangeShapes Go.WideShapes Go.ChangeAt Go.RowKit
set_option linter.unusedVariables false
set_option linter.unusedSimpArgs false

/-- ps holds the places of the first k of os, -1 elsewhere -/
def PosOn (n : Nat) (os ps : List Int) (k : Nat) : Prop := ps.length = n ∧ (∀ i, i < k → nth ps (nth os i).toNat = i) ∧ (∀ v : Nat, v < n → (∀ i, i < k → nth os i ≠ v) → nth ps v = -1)

theorem Peeled.inj {n : Nat} {es : List (Int × Int)} {os : List Int} {tk : List Bool} (h : Peeled n es os tk) {i j : Nat} (hij : i < j) (hj : j < os.length) : nth os i ≠ nth os j :=
  fun e => (h.free j hj).1 ⟨i, hij, e⟩

theorem PosOn.step {n : Nat} {es : List (Int × Int)} {os ps : List Int} {tk : List Bool} {k m : Nat} (hp : Peeled n es os tk) (h : PosOn n os ps k) (hk : k < os.length) (hm : nth os k = m) : PosOn n os (ps.set m k) (k + 1) := by
  obtain ⟨h0, h1, h2⟩ := h
  have hr := hp.rng k hk
  refine ⟨by simpa using h0, fun i hi => ?_, fun v hv hne => ?_⟩
  · rw [nth_set (by omega)]
    rcases Nat.lt_or_ge i k with h' | h'
    · have a := hp.inj h' hk
      have b := hp.rng i (by omega)
      rw [if_neg (by omega)]
      exact h1 i h'
    · obtain rfl : i = k := by omega
      rw [if_pos (by omega)]
  · rw [nth_set (by omega), if_neg (by have := hne k (by omega); omega)]
    exact h2 v hv (fun i hi => hne i (by omega))

theorem PosOn.neg {n : Nat} {es : List (Int × Int)} {os ps : List Int} {tk : List Bool} {k m : Nat} (hp : Peeled n es os tk) (h : PosOn n os ps k) (hk : k < os.length) (hm : nth os k = m) : nth ps m = -1 := by
  have hr := hp.rng k hk
  refine h.2.2 m (by omega) (fun i hi e => ?_)
  exact hp.inj hi hk (by rw [e, hm])

/-- behind the whole order: taken exactly where the place is not negative -/
theorem PosOn.taken {n : Nat} {es : List (Int × Int)} {os ps : List Int} {tk : List Bool} (hp : Peeled n es os tk) (h : PosOn n os ps os.length) {v : Nat} (hv : v < n) : nthB tk v = decide (0 ≤ nth ps v) := by
  rw [Bool.eq_iff_iff, hp.tko v hv, decide_eq_true_iff]
  constructor
  · rintro ⟨j, hj, e⟩
    have := h.2.1 j hj
    rw [e] at this
    simp only [Int.toNat_natCast] at this
    omega
  · intro h0
    rcases Classical.em (Among os os.length v) with h' | h'
    · exact h'
    · have := h.2.2 v hv (fun i hi e => h' ⟨i, hi, e⟩)
      omega

theorem sound_edge {n : Nat} {es : List (Int × Int)} {os ps : List Int} {tk : List Bool} (hp : Peeled n es os tk) (h : PosOn n os ps os.length) (hr : Rng n es) {k f t : Nat} (hk : k < es.length) (hf : nthF es k = f) (ht : nthT es k = t) (h0 : 0 ≤ nth ps t) :
    0 ≤ nth ps f ∧ nth ps f < nth ps t := by
  have hrk := hr k hk
  have htk : nthB tk t = true := by rw [h.taken hp (by omega)]; simpa using h0
  obtain ⟨i, hi, e⟩ := (hp.tko t (by omega)).1 htk
  obtain ⟨j, hj, e'⟩ := (hp.free i hi).2 k hk (by rw [ht, e])
  have a := h.2.1 i hi
  have b := h.2.1 j (by omega)
  rw [e] at a
  rw [e', hf] at b
  simp only [Int.toNat_natCast] at a b
  omega

/-- fed behind k edges -/
def FedOn (n : Nat) (es : List (Int × Int)) (ps : List Int) (fs : List Bool) (k : Nat) : Prop := fs.length = n ∧ ∀ j, j < k → nth ps (nthF es j).toNat < 0 → nthB fs (nthT es j).toNat = true

theorem fed_all {n : Nat} {es : List (Int × Int)} {os ps : List Int} {tk fs : List Bool} (hp : Peeled n es os tk) (h : PosOn n os ps os.length) (hr : Rng n es) (hf : FedOn n es ps fs es.length) {v : Nat} (hv : v < n) (hn : nthB tk v = false) : nthB fs v = true := by
  have hst := hp.stuck v hv
  have hna : ¬ Among os os.length v := fun h' => by rw [(hp.tko v hv).2 h'] at hn; cases hn
  rcases Classical.em (∃ j, j < es.length ∧ nthT es j = v ∧ ¬ Among os os.length (nthF es j)) with ⟨j, hj, e, hna'⟩ | hno
  · have hrj := hr j hj
    obtain ⟨f, hf'⟩ := Int.eq_ofNat_of_zero_le hrj.1.1
    have := hf.2 j hj (by
      rw [hf']
      simp only [Int.toNat_natCast]
      rcases Int.lt_or_le (nth ps f) 0 with h' | h'
      · exact h'
      · have ht : nthB tk f = true := by rw [h.taken hp (by omega)]; simpa using h'
        exact absurd (by rw [hf']; exact (hp.tko f (by omega)).1 ht) hna')
    rw [e] at this
    simpa using this
  · exact absurd ⟨hna, fun k hk e => Classical.byContradiction fun h' => hno ⟨k, hk, e, h'⟩⟩ hst

set_option maxRecDepth 20000 in
set_option maxHeartbeats 8000000 in
theorem hSound_walk (m : Int) (rs : List (Int × Int)) (cap : Nat) (ao : Option Addr) (w : World) (hm : 0 ≤ m ∧ m ≤ 65535) (hr : ∀ k, k < rs.length → (0 ≤ nthF rs k ∧ nthF rs k ≤ 65535) ∧ (0 ≤ nthT rs k ∧ nthT rs k ≤ 65535))
    (hs : Sl w w.heap.size ao rs.length cap 2 (cellsP .u16 rs)) :
    Calls Ydqm.prog 12 #[.int .u16 m, .slice ao rs.length cap] w fun e w' => e = .returned (.bool true) ∧ Below w.heap.size w w' := by
  have HR : Hid _ := hr
  clear hr
  by_cases hbig : 1024 < rs.length
  · go_enter Ydqm.func12, Ydqm.ntmps12
    go_wp2_with fail
    go_ret
    exact ⟨rfl, Below.refl _ _⟩
  obtain ⟨N, HN, hN2⟩ : ∃ N : Nat, Hid ((m % 1025).toNat = N) ∧ N ≤ 1024 := ⟨_, rfl, by omega⟩
  have hel := gEdges_le N rs
  have her := gEdges_rng N rs
  go_enter Ydqm.func12, Ydqm.ntmps12
  go_wp2_with fail
  refine (hgraph_gr m rs cap ao w hm (by omega) HR.out hs N HN.out).mono ?_
  rintro e w1 ⟨eo1, ec1, rfl, hs1, hb1⟩
  have hz1 := hb1.size
  go_wp2_with fail
  refine (hgraph_gr m rs cap ao _ hm (by omega) HR.out ((hs.below (hb1.alloc hz1 _)).mono (by simp; omega)) N HN.out).mono ?_
  rintro e w2 ⟨eo2, ec2, rfl, hs2, hb2⟩
  generalize gEdges N rs = es at *
  have HER : Hid (Rng N es) := her
  clear her
  have hz2 := hb2.size
  rw [size_alloc] at hz2
  have g1 := gr_new (n := (N : Int)) (t := 45) hs1
  have g2 := gr_new (n := (N : Int)) (t := 45) hs2
  rw [size_alloc] at hb2
  have g13 := (g1.below hb2).below ((Below.refl (w1.heap.size + 1) w2).alloc hz2 (.cells #[.int .i64 (N : Int), .slice eo2 es.length ec2] 45))
  have hb3 : Below w.heap.size w (w2.alloc (.cells #[.int .i64 (N : Int), .slice eo2 es.length ec2] 45)) := (((hb1.alloc hz1 _).trans (hb2.mono (by omega)))).alloc (by omega) _
  go_wp2_with fail
  refine (peel_any N w1.heap.size eo1 ec1 es _ (by omega) (by omega) HER.out (g13.mono (by simp; omega))).mono ?_
  rintro e w4 ⟨hb4, p1, p2, os, tk, rfl, ho4, ht4, hp1, hp2, hp12, hpe⟩
  have hbw4 := hb3.trans (hb4.mono (by simp; omega))
  rw [size_alloc] at hb4 hp1 hp2
  have gA := (g13.mono (show w1.heap.size + 1 ≤ w2.heap.size + 1 by omega)).below hb4
  have gB := g2.below hb4
  have HPE : Hid (Peeled N es os tk) := hpe
  have HOL : Hid (os.length ≤ N) := hpe.osl
  have hol := hpe.osl
  clear hpe g1 g2 g13 hs1 hs2 hb1 hb2 hb3 hb4
  have lt4 := ho4.lt
  have lt5 := ht4.lt
  have hz4 := hbw4.size
  obtain ⟨G1, hG1⟩ : ∃ G, w1.heap.size = G := ⟨_, rfl⟩
  obtain ⟨G2, hG2⟩ : ∃ G, w2.heap.size = G := ⟨_, rfl⟩
  rw [hG1] at gA hz1 hz2 ⊢
  rw [hG2] at gA gB hz2 hp1 hp2 ⊢
  clear hG1 hG2 w1 w2
  have kA0 := gA.c0
  have kA1 := gA.c1
  have kB0 := gB.c0
  have kB1 := gB.c1
  have hnn : ((N : Int) != (N : Int)) = false := by simp
  have hll : ((es.length : Int) != (es.length : Int)) = false := by simp
  go_wp2_with fail
  -- loop 1: the graph is unchanged
  go_loopw [56] (fun i wr => ∃ k : Nat, k ≤ es.length ∧ i = .int .i64 k ∧ Below w4.heap.size w4 wr) (fun i _ => es.length - (intOf i).toNat)
  case atStart => exact ⟨0, by omega, rfl, Below.refl _ _⟩
  case round =>
    obtain ⟨k, hk, rfl, hb⟩ := hrel
    have hz := hb.size
    by_cases hlt : k < es.length
    · obtain ⟨b1, o1, hbB1, rfl, hc1⟩ := Sl.pairsAt (gA.sl.mono (show G2 + 1 ≤ w4.heap.size by omega)) (by omega)
      obtain ⟨b2, o2, hbB2, rfl, hc2⟩ := Sl.pairsAt (gB.sl.mono (show G2 + 1 ≤ w4.heap.size by omega)) (by omega)
      obtain ⟨c1, c2⟩ := hc1 k hlt
      obtain ⟨c3, c4⟩ := hc2 k hlt
      clear hc1 hc2
      have c1' := (hb.cell (p := ⟨b1, o1 + k * 2, none⟩) hbB1).trans c1
      have c2' := (hb.cell (p := ⟨b1, o1 + k * 2 + 1, none⟩) hbB1).trans c2
      have c3' := (hb.cell (p := ⟨b2, o2 + k * 2, none⟩) hbB2).trans c3
      have c4' := (hb.cell (p := ⟨b2, o2 + k * 2 + 1, none⟩) hbB2).trans c4
      have k1' := (hb.cell (p := ⟨G1, 1, none⟩) (by dsimp only; omega)).trans kA1
      clear c1 c2 c3 c4 kA0 kA1 kB0 kB1
      have r1 : b1 < wr.heap.size := by omega
      have r2 : b2 < wr.heap.size := by omega
      have r3 : G1 < wr.heap.size := by omega
      go_wp2_with fail
      go_quiet (fail)
      go_wp2_with fail
      go_roundw
      case rel => exact ⟨k + 1, by omega, by go_num, below_drewN (hb.alloc hz _) _⟩
      case measure => simp [intOf]; omega
    · obtain rfl : k = es.length := by omega
      have gB5 := (gB.mono (show G2 + 1 ≤ w4.heap.size by omega)).below hb
      have ho5 := ho4.below hb lt4
      have ht5 := ht4.below hb lt5
      have hbw5 := hbw4.trans (hb.mono hz4)
      clear kA0 kA1 kB0 kB1 gA gB ho4 ht4 hbw4
      have kB0 := gB5.c0
      have kB1 := gB5.c1
      rename World => W5
      obtain ⟨B4, hB4⟩ : ∃ B, w4.heap.size = B := ⟨_, rfl⟩
      rw [hB4] at gB5 hz lt4 lt5 hz4
      clear hB4 hb
      -- pos
      go_wp2_with (at_make; refine wpl_makeI rfl (.tmp 70) (.tmp 70) rfl N _ _ (by rfl) (by rfl) rfl rfl (by omega) ?_; intro w6 ho6 hb6 hz6)
      go_loopw [74] (fun i wr => ∃ (k : Nat) (zs : List Int), k ≤ N ∧ i = .int .i64 k ∧ Hid (zs.length = N ∧ ∀ j, j < k → nth zs j = -1) ∧ OwnI wr W5.heap.size N zs ∧ Below W5.heap.size W5 wr) (fun i _ => N - (intOf i).toNat)
      case atStart => exact ⟨0, _, by omega, rfl, ⟨by simp, fun j hj => by omega⟩, ho6, hb6⟩
      case round =>
        clear ho6 hb6 hz6 w6
        obtain ⟨k, zs, hk, rfl, HZ, ho, hb⟩ := hrel
        by_cases hlt : k < N
        · have c1 := ho.cell k (by rw [HZ.out.1]; exact hlt)
          have f1 := ho.frozen k
          go_wp2_with fail
          go_roundw
          case rel =>
            refine ⟨k + 1, zs.set k (-1), by omega, by go_num, ⟨by rw [List.length_set]; exact HZ.out.1, fun j hj => ?_⟩, ho.set k _, hb.setCell (Nat.le_refl _) _⟩
            rw [nth_set (by rw [HZ.out.1]; exact hlt)]
            split
            · rfl
            · exact HZ.out.2 j (by omega)
          case measure => simp [intOf]; omega
        · obtain rfl : N = k := by omega
          go_wp2_with fail
          go_loopw [83] (fun i wr => ∃ (k : Nat) (ps : List Int), k ≤ os.length ∧ i = .int .i64 k ∧ Hid (PosOn N os ps k) ∧ OwnI wr W5.heap.size N ps ∧ Below W5.heap.size W5 wr) (fun i _ => os.length - (intOf i).toNat)
          case atStart => exact ⟨0, zs, by omega, rfl, ⟨HZ.out.1, fun i hi => by omega, fun v hv _ => HZ.out.2 v hv⟩, ho, hb⟩
          case round =>
            clear ho hb HZ zs
            obtain ⟨k, ps, hk, rfl, HP, ho, hb⟩ := hrel
            have gB6 := (gB5.mono hz).below hb
            have kB0 := gB6.c0
            have kB1 := gB6.c1
            have ho6 := ho5.below hb (by omega)
            by_cases hlt : k < os.length
            · have c1 := ho6.cell k hlt
              obtain ⟨t1, t2⟩ := HPE.out.rng k hlt
              obtain ⟨j, hj⟩ := Int.eq_ofNat_of_zero_le t1
              have hneg := HP.out.neg HPE.out hlt hj
              have HST := show Hid (PosOn N os (ps.set j k) (k + 1)) from HP.out.step HPE.out hlt hj
              rw [hj] at c1 t1 t2
              have c2 := ho.cell j (by rw [HP.out.1]; omega)
              rw [hneg] at c2
              have f2 := ho.frozen j
              clear hj hneg
              go_wp2_with fail
              go_roundw
              case rel => exact ⟨k + 1, _, by omega, by go_num, HST, ho.set j _, hb.setCell (Nat.le_refl _) _⟩
              case measure => simp [intOf]; omega
            · obtain rfl : k = os.length := by omega
              have hlp := ho.lt
              have ht6 := ht5.below hb (by omega)
              have hbw6 := hbw5.trans (hb.mono hbw5.size)
              have hzw := hb.size
              rename World => W6
              go_wp2_with (at_make; refine wpl_makeB rfl (.tmp 109) (.tmp 109) rfl N _ _ (by rfl) (by rfl) rfl rfl (by omega) ?_; intro w7 ho7 hb7 hz7; have kB1 := (gB6.below (hb7.mono hzw)).c1)
              go_loopw [114] (fun i wr => ∃ (k : Nat) (fs : List Bool), k ≤ es.length ∧ i = .int .i64 k ∧ Hid (FedOn N es ps fs k) ∧ OwnB wr W6.heap.size N fs ∧ Below W6.heap.size W6 wr) (fun i _ => es.length - (intOf i).toNat)
              case atStart => exact ⟨0, _, by omega, rfl, ⟨by simp, fun j hj => by omega⟩, ho7, hb7⟩
              case round =>
                clear ho7 hb7 hz7 kB1 w7
                obtain ⟨k, fs, hk, rfl, HF, hf, hb7⟩ := hrel
                have hop := ho.below hb7 hlp
                have hl7 := hf.lt
                have hl8 := hop.lt
                have gB7 := (gB6.mono hzw).below hb7
                by_cases hlt : k < es.length
                · obtain ⟨b1, o1, hbB1, rfl, hc1⟩ := Sl.pairsAt gB7.sl (by omega)
                  obtain ⟨c1, c2⟩ := hc1 k hlt
                  clear hc1
                  obtain ⟨⟨r1, r2⟩, r3, r4⟩ := HER.out k hlt
                  obtain ⟨f, hfk⟩ := Int.eq_ofNat_of_zero_le r1
                  obtain ⟨t, htk⟩ := Int.eq_ofNat_of_zero_le r3
                  have HSE := show Hid (0 ≤ nth ps t → 0 ≤ nth ps f ∧ nth ps f < nth ps t) from sound_edge HPE.out HP.out HER.out hlt hfk htk
                  have HFK : Hid (nthF es k = f) := hfk
                  have HTK : Hid (nthT es k = t) := htk
                  rw [hfk] at c1 r1 r2
                  rw [htk] at c2 r3 r4
                  clear hfk htk
                  have d1 := hop.cell f (by rw [HP.out.1]; omega)
                  have d2 := hop.cell t (by rw [HP.out.1]; omega)
                  have d3 := hf.cell t (by rw [HF.out.1]; omega)
                  have d4 := hf.frozen t
                  by_cases hpf : nth ps f < 0
                  · have hpt : decide (0 ≤ nth ps t) = false := by
                      rw [decide_eq_false_iff_not]; intro h; have := HSE.out h; omega
                    go_wp2_with fail
                    go_quiet (fail)
                    go_wp2_with fail
                    go_roundw
                    case rel =>
                      refine ⟨k + 1, _, by omega, by go_num, ⟨?_, fun j hj hlt0 => ?_⟩, ((hf.set t true).alloc _).drewN _, below_drewN ((hb7.setCell (p := ⟨W6.heap.size, t, none⟩) (Nat.le_refl _) _).alloc (by rw [size_setCell]; exact hb7.size) _) _⟩
                      · rw [List.length_set]; exact HF.out.1
                      · rw [nthB_set (by rw [HF.out.1]; omega)]
                        split
                        · rfl
                        · rename_i hne
                          refine HF.out.2 j ?_ hlt0
                          rcases Nat.lt_or_ge j k with h' | h'
                          · exact h'
                          · obtain rfl : j = k := by omega
                            rw [HTK.out] at hne
                            simp at hne
                    case measure => simp [intOf]; omega
                  · by_cases hpt : 0 ≤ nth ps t
                    · have hlt2 := (HSE.out hpt).2
                      go_wp2_with fail
                      go_quiet (fail)
                      go_wp2_with fail
                      go_roundw
                      case rel =>
                        refine ⟨k + 1, fs, by omega, by go_num, ⟨HF.out.1, fun j hj hlt0 => ?_⟩, (hf.alloc _).drewN _, below_drewN (hb7.alloc hb7.size _) _⟩
                        refine HF.out.2 j ?_ hlt0
                        rcases Nat.lt_or_ge j k with h' | h'
                        · exact h'
                        · obtain rfl : j = k := by omega
                          rw [HFK.out] at hlt0
                          simp only [Int.toNat_natCast] at hlt0
                          omega
                      case measure => simp [intOf]; omega
                    · have hpt : decide (0 ≤ nth ps t) = false := by simpa using hpt
                      go_wp2_with fail
                      go_quiet (fail)
                      go_wp2_with fail
                      go_roundw
                      case rel =>
                        refine ⟨k + 1, fs, by omega, by go_num, ⟨HF.out.1, fun j hj hlt0 => ?_⟩, (hf.alloc _).drewN _, below_drewN (hb7.alloc hb7.size _) _⟩
                        refine HF.out.2 j ?_ hlt0
                        rcases Nat.lt_or_ge j k with h' | h'
                        · exact h'
                        · obtain rfl : j = k := by omega
                          rw [HFK.out] at hlt0
                          simp only [Int.toNat_natCast] at hlt0
                          omega
                      case measure => simp [intOf]; omega
                · obtain rfl : k = es.length := by omega
                  have hbw7 := hbw6.trans (hb7.mono hbw6.size)
                  have htk := ht6.below hb7 (by omega)
                  have kB0 := gB7.c0
                  have hz7 := hb7.size
                  rename World => W7
                  go_wp2_with fail
                  go_loopw [18] (fun i wr => ∃ k q : Nat, k ≤ N ∧ i = .int .i64 k ∧ wr = W7.drewN q) (fun i _ => N - (intOf i).toNat)
                  case atStart => exact ⟨0, 0, by omega, rfl, rfl⟩
                  case round =>
                    obtain ⟨k, q, hk, rfl, rfl⟩ := hrel
                    by_cases hlt : k < N
                    · have c1 := htk.cell k (by rw [HPE.out.tkl]; exact hlt)
                      have c2 := hop.cell k (by rw [HP.out.1]; exact hlt)
                      have c3 := hf.cell k (by rw [HF.out.1]; exact hlt)
                      have htt := HP.out.taken HPE.out hlt
                      by_cases h0 : 0 ≤ nth ps k
                      · rw [htt, decide_eq_true h0] at c1
                        clear htt
                        go_wp2_with fail
                        go_quiet (fail)
                        go_wp2_with fail
                        go_roundw
                        case rel => exact ⟨k + 1, _, by omega, by go_num, rfl⟩
                        case measure => simp [intOf]; omega
                      · have hfed := fed_all HPE.out HP.out HER.out HF.out hlt (by rw [htt]; simpa using h0)
                        rw [htt, decide_eq_false h0] at c1
                        rw [hfed] at c3
                        have h0' : decide (0 ≤ nth ps k) = false := decide_eq_false h0
                        clear htt hfed
                        go_wp2_with fail
                        go_quiet (fail)
                        go_wp2_with fail
                        go_roundw
                        case rel => exact ⟨k + 1, _, by omega, by go_num, rfl⟩
                        case measure => simp [intOf]; omega
                    · go_wp2_with fail
                      go_ret
                      exact ⟨rfl, below_drewN hbw7 _⟩
end Go.Proofs.Ymbrdq
