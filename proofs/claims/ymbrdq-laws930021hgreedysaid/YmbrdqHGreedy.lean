/- The walk of LawS930021HGreedy. -/
import Derived.Test.YmbrdqPeel
import Derived.Test.YmbrdqHNext
import Derived.Test.YmbrdqHGraph
namespace Go.Proofs.Ymbrdq
open Go.ChangeShapes Go.WideShapes Go.ChangeAt Go.RowKit
set_option linter.unusedVariables false
set_option linter.unusedSimpArgs false
attribute [local go_sem ↓] Go.wp_at_zero Go.wp_at_succ

/-- gs marks just the first i of os -/
def GoneAt (n : Nat) (os : List Int) (gs : List Bool) (i : Nat) : Prop := gs.length = n ∧ ∀ v : Nat, v < n → (nthB gs v = true ↔ Among os i v)

theorem GoneAt.free {n : Nat} {es : List (Int × Int)} {os : List Int} {gs : List Bool} {i : Nat} (h : GoneAt n os gs i) (hr : Rng n es) {v : Nat} (hv : v < n) : FreeG es gs v ↔ Free es os i v := by
  unfold FreeG Free
  constructor
  · rintro ⟨a, b⟩
    refine ⟨fun h' => (by rw [(h.2 v hv).2 h'] at a; cases a), fun k hk e => ?_⟩
    have h1 := (hr k hk).1
    obtain ⟨f, hf⟩ := Int.eq_ofNat_of_zero_le h1.1
    have h2 := b k hk e
    rw [hf] at h1 h2 ⊢
    simp only [Int.toNat_natCast] at h2
    exact (h.2 f (by omega)).1 h2
  · rintro ⟨a, b⟩
    refine ⟨?_, fun k hk e => ?_⟩
    · rcases Bool.eq_false_or_eq_true (nthB gs v) with h' | h'
      · exact absurd ((h.2 v hv).1 h') a
      · exact h'
    · have h1 := (hr k hk).1
      obtain ⟨f, hf⟩ := Int.eq_ofNat_of_zero_le h1.1
      have h2 := b k hk e
      rw [hf] at h1 h2 ⊢
      simp only [Int.toNat_natCast]
      exact (h.2 f (by omega)).2 h2

theorem GoneAt.step {n : Nat} {os : List Int} {gs : List Bool} {i m : Nat} (h : GoneAt n os gs i) (hm : nth os i = m) (hmn : m < n) : GoneAt n os (gs.set m true) (i + 1) := by
  refine ⟨by simpa using h.1, fun v hv => ?_⟩
  rw [nthB_set (by rw [h.1]; exact hmn)]
  by_cases e : m = v
  · rw [if_pos e]
    exact ⟨fun _ => ⟨i, by omega, by rw [hm, e]⟩, fun _ => rfl⟩
  · rw [if_neg e, h.2 v hv]
    constructor
    · rintro ⟨j, hj, e'⟩; exact ⟨j, by omega, e'⟩
    · rintro ⟨j, hj, e'⟩
      rcases Nat.lt_or_ge j i with h' | h'
      · exact ⟨j, h', e'⟩
      · obtain rfl : j = i := by omega
        omega

/-- what hnext answers along the order -/
theorem greedy_next {n : Nat} {es : List (Int × Int)} {os : List Int} {tk gs : List Bool} {i m v : Nat} (hp : Peeled n es os tk) (hr : Rng n es) (h : GoneAt n os gs i) (hi : i < os.length) (hm : nth os i = m)
    (hv : v < n) (hf : FreeG es gs v) (hl : ∀ u, u < v → ¬ FreeG es gs u) : v = m := by
  have hmn : m < n := by have := hp.rng i hi; omega
  have h1 : FreeG es gs m := (h.free hr hmn).2 (by rw [← hm]; exact hp.free i hi)
  rcases Nat.lt_trichotomy v m with h' | h' | h'
  · exact absurd ((h.free hr hv).1 hf) (hp.least i hi v (by omega))
  · exact h'
  · exact absurd h1 (hl m h')

theorem HNextPost.at {n : Nat} {es : List (Int × Int)} {os : List Int} {tk gs : List Bool} {i m : Nat} {w w' : World} {e : Ending} (hp : Peeled n es os tk) (hr : Rng n es) (h : GoneAt n os gs i) (hi : i < os.length) (hm : nth os i = m)
    (hx : HNextPost n es gs w e w') : Below w.heap.size w w' ∧ e = .returned (.int .i64 m) := by
  obtain ⟨hb, ⟨_, hno⟩ | ⟨v, hv, rfl, hf, hl⟩⟩ := hx
  · have hmn : m < n := by have := hp.rng i hi; omega
    exact absurd ((h.free hr hmn).2 (by rw [← hm]; exact hp.free i hi)) (hno m hmn)
  · exact ⟨hb, by rw [greedy_next hp hr h hi hm hv hf hl]⟩

theorem HNextPost.end_ {n : Nat} {es : List (Int × Int)} {os : List Int} {tk gs : List Bool} {w w' : World} {e : Ending} (hp : Peeled n es os tk) (hr : Rng n es) (h : GoneAt n os gs os.length)
    (hx : HNextPost n es gs w e w') : Below w.heap.size w w' ∧ e = .returned (.int .i64 (-1)) := by
  obtain ⟨hb, ⟨rfl, hno⟩ | ⟨v, hv, rfl, hf, hl⟩⟩ := hx
  · exact ⟨hb, rfl⟩
  · exact absurd ((h.free hr hv).1 hf) (hp.stuck v hv)

set_option maxRecDepth 20000 in
set_option maxHeartbeats 8000000 in
theorem hGreedy_walk (m : Int) (rs : List (Int × Int)) (cap : Nat) (ao : Option Addr) (w : World) (hm : 0 ≤ m ∧ m ≤ 65535) (hr : ∀ k, k < rs.length → (0 ≤ nthF rs k ∧ nthF rs k ≤ 65535) ∧ (0 ≤ nthT rs k ∧ nthT rs k ≤ 65535))
    (hs : Sl w w.heap.size ao rs.length cap 2 (cellsP .u16 rs)) :
    Calls Ydqm.prog 11 #[.int .u16 m, .slice ao rs.length cap] w fun e w' => e = .returned (.bool true) ∧ Below w.heap.size w w' := by
  have HR : Hid _ := hr
  clear hr
  by_cases hbig : 1024 < rs.length
  · go_enter Ydqm.func11, Ydqm.ntmps11
    go_wp2_with fail
    go_ret
    exact ⟨rfl, Below.refl _ _⟩
  obtain ⟨N, HN, hN2⟩ : ∃ N : Nat, Hid ((m % 1025).toNat = N) ∧ N ≤ 1024 := ⟨_, rfl, by omega⟩
  have hel := gEdges_le N rs
  have her := gEdges_rng N rs
  go_enter Ydqm.func11, Ydqm.ntmps11
  go_wp2_with fail
  refine (hgraph_gr m rs cap ao w hm (by omega) HR.out hs N HN.out).mono ?_
  rintro e w1 ⟨eo1, ec1, rfl, hs1, hb1⟩
  generalize gEdges N rs = es at *
  have HER : Hid (Rng N es) := her
  clear her
  have hz1 := hb1.size
  have g1 := gr_new (n := (N : Int)) (t := 45) hs1
  have hb2 : Below w.heap.size w (w1.alloc (.cells #[.int .i64 (N : Int), .slice eo1 es.length ec1] 45)) := hb1.alloc hz1 _
  go_wp2_with fail
  refine (peel_any N w1.heap.size eo1 ec1 es _ (by omega) (by omega) HER.out (g1.mono (by simp))).mono ?_
  rintro e w4 ⟨hb4, p1, p2, os, tk, rfl, ho4, ht4, hp1, hp2, hp12, hpe⟩
  have hbw4 := hb2.trans (hb4.mono hb2.size)
  rw [size_alloc] at hb4 hp1 hp2
  have gA := g1.below hb4
  have HPE : Hid (Peeled N es os tk) := hpe
  have hol := hpe.osl
  have HTL : Hid (tk.length = N) := hpe.tkl
  clear hpe g1 hs1 hb1 hb2 hb4
  have lt4 := ho4.lt
  have lt5 := ht4.lt
  have hz4 := hbw4.size
  obtain ⟨G1, hG1⟩ : ∃ G, w1.heap.size = G := ⟨_, rfl⟩
  rw [hG1] at gA hz1 hp1 hp2 ⊢
  clear hG1
  have gA4 := gA.mono (show G1 + 1 ≤ w4.heap.size by omega)
  have kA0 := gA.c0
  have kA1 := gA.c1
  have hnn : ((N : Int) != (N : Int)) = false := by simp
  go_wp2_with (at_make; refine wpl_makeB rfl _ _ rfl N _ _ (by rfl) (by rfl) rfl rfl (by omega) ?_; intro w5 ho5 hb5 hz5)
  clear kA0 kA1
  go_loopw [9] (fun i wr => ∃ (k : Nat) (gs : List Bool), k ≤ os.length ∧ i = .int .i64 k ∧ Hid (GoneAt N os gs k) ∧ OwnB wr w4.heap.size N gs ∧ Below w4.heap.size w4 wr) (fun i _ => os.length - (intOf i).toNat)
  case atStart => exact ⟨0, _, by omega, rfl, ⟨by simp, fun v hv => by rw [nthB_replicate hv]; exact ⟨fun h => (by cases h), fun h => (by obtain ⟨j, hj, _⟩ := h; omega)⟩⟩, ho5, hb5⟩
  case round =>
    clear ho5 hb5 hz5 w5
    obtain ⟨k, gs, hk, rfl, HG, hgo, hb⟩ := hrel
    have gB := gA4.below hb
    have kB0 := gB.c0
    have kB1 := gB.c1
    have ho5 := ho4.below hb lt4
    have hz := hb.size
    by_cases hlt : k < os.length
    · have c1 := ho5.cell k hlt
      obtain ⟨t1, t2⟩ := HPE.out.rng k hlt
      obtain ⟨j, hj⟩ := Int.eq_ofNat_of_zero_le t1
      have HJ : Hid (nth os k = j) := hj
      rw [hj] at c1 t1 t2
      clear hj
      have i1 : (0 : Int) ≤ (k : Int) := by omega
      have i2 : (k : Int) < (os.length : Int) := by omega
      go_upto_region 11 with fail
      go_region_held3 (fun w' => w'.cell? ⟨G1, 0, none⟩ = some (.int .i64 N) ∧ w'.cell? ⟨G1, 1, none⟩ = some (.slice eo1 es.length ec1) ∧ w'.cell? ⟨p1, k, none⟩ = some (.int .i64 j))
        (first
          | go_keep
          | (go_split_ands
             refine ⟨?_, ?_, ?_⟩
             · (rw [hb6.cell (by simp; omega)]; simp [*])
             · (rw [hb6.cell (by simp; omega)]; simp [*])
             · (rw [hb6.cell (by simp; omega)]; simp [*])))
        ((go_at_call 30; refine (hnext_any N es gs ec1 N eo1 _ _ (by omega) (by omega) HER.out HG.out.1 ((gB.sl.mono hz).drewN 1) ((hgo.sl HG.out.1.symm hgo.lt).drewN 1)).mono ?_; intro e w6 hpost; obtain ⟨hb6, rfl⟩ := hpost.at HPE.out HER.out HG.out hlt HJ.out))
      have hbw6 : Below w4.heap.size w4 w6 := (below_drewN hb 1).trans (hb6.mono hz)
      have hg6 := (hgo.drewN 1).below hb6 hgo.lt
      have c6 := (ho5.drewN 1).below hb6 ho5.lt
      have c7 := c6.cell k hlt
      rw [HJ.out] at c7
      have c8 := hg6.cell j (by rw [HG.out.1]; omega)
      have f8 := hg6.frozen j
      have hjj : ((j : Int) != (j : Int)) = false := by simp
      clear hpost
      go_wp2_with fail
      go_roundw
      case rel => exact ⟨k + 1, _, by omega, by go_num, HG.out.step HJ.out (by omega), hg6.set j true, hbw6.setCell (Nat.le_refl _) _⟩
      case measure => simp [intOf]; omega
    · obtain rfl : k = os.length := by omega
      rename World => W5
      go_wp2_with fail
      refine (hnext_any N es gs ec1 N eo1 _ _ (by omega) (by omega) HER.out HG.out.1 (gB.sl.mono hz) (hgo.sl HG.out.1.symm hgo.lt)).mono ?_
      intro e w6 hpost
      obtain ⟨hb6, rfl⟩ := hpost.end_ HPE.out HER.out HG.out
      clear hpost
      have hg6 := hgo.below hb6 hgo.lt
      have hbw6 : Below w4.heap.size w4 w6 := hb.trans (hb6.mono hz)
      have ht6 := ht4.below hbw6 lt5
      have k60 := (gA4.below hbw6).c0
      have hbf := hbw4.trans (hbw6.mono hz4)
      have hm1 : ((-1 : Int) != (-1 : Int)) = false := by simp
      go_wp2_with fail
      go_loopw [10] (fun i wr => ∃ k q : Nat, k ≤ N ∧ i = .int .i64 k ∧ wr = w6.drewN q) (fun i _ => N - (intOf i).toNat)
      case atStart => exact ⟨0, 0, by omega, rfl, rfl⟩
      case round =>
        obtain ⟨k, q, hk, rfl, rfl⟩ := hrel
        by_cases hlt : k < N
        · have c1 := ht6.cell k (by rw [HTL.out]; exact hlt)
          have c2 := hg6.cell k (by rw [HG.out.1]; exact hlt)
          have heq : nthB gs k = nthB tk k := by rw [Bool.eq_iff_iff, HG.out.2 k hlt, HPE.out.tko k hlt]
          rw [heq] at c2
          clear heq
          have hbb : (nthB tk k != nthB tk k) = false := by simp
          go_wp2_with fail
          go_quiet (fail)
          go_wp2_with fail
          go_roundw
          case rel => exact ⟨k + 1, _, by omega, by go_num, rfl⟩
          case measure => simp [intOf]; omega
        · go_wp2_with fail
          go_ret
          exact ⟨rfl, below_drewN hbf _⟩
end Go.Proofs.Ymbrdq
