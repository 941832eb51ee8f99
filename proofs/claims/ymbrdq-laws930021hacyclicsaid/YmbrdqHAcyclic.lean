/- The walk of LawS930021HAcyclic. -/
import Derived.Test.YmbrdqPeel
import Derived.Test.YmbrdqPeelMore
import Derived.Test.YmbrdqHGraph
namespace Go.Proofs.Ymbrdq
open Go.ChangeShapes Go.WideShapes Go.ChangeAt Go.RowKit
set_option linter.unusedVariables false
set_option linter.unusedSimpArgs false

def Dir (down : Bool) (f t : Int) : Prop := if down = true then t < f else f < t
def Turned (n : Nat) (down : Bool) (ts : List (Int × Int)) : Prop := AllE (fun f t => ((0 ≤ f ∧ f < n) ∧ 0 ≤ t ∧ t < n) ∧ Dir down f t) ts
theorem Turned.rng {n : Nat} {down : Bool} {ts : List (Int × Int)} (h : Turned n down ts) : Rng n ts := fun k hk => (h k hk).1

theorem turned_all {n : Nat} {down : Bool} {ts : List (Int × Int)} {os : List Int} {tk : List Bool} (h : Turned n down ts) (hp : Peeled n ts os tk) : os.length = n ∧ (∀ v : Nat, v < n → nthB tk v = true) ∧ (down = false → ∀ v : Nat, v < n → nth os v = v) := by
  have ha : ∀ v : Nat, v < n → Among os os.length v := by
    cases down
    · exact hp.all h.rng (fun v => v.toNat) (fun k hk => by
        have h1 := h k hk
        simp only [Dir, Bool.false_eq_true, if_false] at h1
        show (nthF ts k).toNat < (nthT ts k).toNat
        omega)
    · exact hp.all h.rng (fun v => n - v.toNat) (fun k hk => by
        have h1 := h k hk
        simp only [Dir, if_true] at h1
        show n - (nthF ts k).toNat < n - (nthT ts k).toNat
        omega)
  have hl := hp.full ha
  refine ⟨hl, fun v hv => (hp.tko v hv).2 (ha v hv), fun hd v hv => ?_⟩
  subst hd
  exact hp.up h.rng (fun k hk => by
    have h1 := h k hk
    simp only [Dir, Bool.false_eq_true, if_false] at h1
    exact h1.2) v (by omega)

set_option maxRecDepth 20000 in
set_option maxHeartbeats 8000000 in
theorem hAcyclic_walk (m : Int) (rs : List (Int × Int)) (down : Bool) (cap : Nat) (ao : Option Addr) (w : World) (hm : 0 ≤ m ∧ m ≤ 65535) (hr : ∀ k, k < rs.length → (0 ≤ nthF rs k ∧ nthF rs k ≤ 65535) ∧ (0 ≤ nthT rs k ∧ nthT rs k ≤ 65535))
    (hs : Sl w w.heap.size ao rs.length cap 2 (cellsP .u16 rs)) :
    Calls Ydqm.prog 13 #[.int .u16 m, .slice ao rs.length cap, .bool down] w fun e w' => e = .returned (.bool true) ∧ Below w.heap.size w w' := by
  have HR : Hid _ := hr
  clear hr
  by_cases hbig : 1024 < rs.length
  · go_enter Ydqm.func13, Ydqm.ntmps13
    go_wp2_with fail
    go_ret
    exact ⟨rfl, Below.refl _ _⟩
  obtain ⟨N, HN, hN2⟩ : ∃ N : Nat, Hid ((m % 1025).toNat = N) ∧ N ≤ 1024 := ⟨_, rfl, by omega⟩
  have hel := gEdges_le N rs
  have her := gEdges_rng N rs
  obtain ⟨D, HD⟩ : ∃ D : Bool, Hid (D = down) := ⟨_, rfl⟩
  cases down
  all_goals
    go_enter Ydqm.func13, Ydqm.ntmps13
    go_wp2_with fail
    refine (hgraph_gr m rs cap ao w hm (by omega) HR.out hs N HN.out).mono ?_
    rintro e w1 ⟨eo1, ec1, rfl, hs1, hb1⟩
    generalize gEdges N rs = es at *
    have HER : Hid (Rng N es) := her
    clear her
    have hz1 := hb1.size
    have g1 := gr_new (n := (N : Int)) (t := 45) hs1
    have hb2 : Below w.heap.size w (w1.alloc (.cells #[.int .i64 (N : Int), .slice eo1 es.length ec1] 45)) := hb1.alloc hz1 _
    go_wp2_with (at_make; refine wpl_makeE0 rfl _ _ rfl rs.length _ (by rfl) (by rfl) rfl (by omega) ?_; intro w3 ho3 hb3 hz3; rw [size_alloc] at ho3 hb3 hz3; have kk1 := (g1.below hb3).c1)
    have g3 := g1.below hb3
    have hb4 := hb2.trans (hb3.mono (by omega))
    clear hb1 hb2 hb3 hs1 g1
    obtain ⟨G1, hG1⟩ : ∃ G, w1.heap.size = G := ⟨_, rfl⟩
    rw [hG1] at g3 hz1 ho3 hz3 kk1 ⊢
    clear hG1 kk1
    go_loopw [8, 27] (fun v i wr => ∃ (k : Nat) (ts : List (Int × Int)), k ≤ es.length ∧ i = .int .i64 k ∧ v = .slice (some ⟨G1 + 1, 0, none⟩) ts.length rs.length ∧ ts.length ≤ k ∧ Hid (Turned N D ts) ∧ OwnE wr (G1 + 1) rs.length ts ∧ Below (G1 + 1) w3 wr) (fun _ i _ => es.length - (intOf i).toNat)
    case atStart => exact ⟨0, [], by omega, rfl, rfl, by simp, fun k hk => by simp at hk, ho3, Below.refl _ _⟩
    case round =>
      clear ho3
      obtain ⟨k, ts, hk, rfl, rfl, htl, HT, ho, hb⟩ := hrel
      have hlo := ho.lt
      have g4 := g3.below hb
      by_cases hlt : k < es.length
      · obtain ⟨b, off, hbB, rfl, hc⟩ := Sl.pairsAt g4.sl (by omega)
        obtain ⟨c1, c2⟩ := hc k hlt
        clear hc
        have HE : Hid _ := HER.out k hlt
        rcases Int.lt_trichotomy (nthF es k) (nthT es k) with hft | hft | hft
        · have hne : (nthF es k == nthT es k) = false := by rw [beq_eq_false_iff_ne]; omega
          have hdec : decide (nthT es k < nthF es k) = false := by rw [decide_eq_false_iff_not]; omega
          go_wp2_with (first
            | (at_builtin; (refine wpl_appE rfl (.tmp 43) (.tmp 45) rfl (G1 + 1) rs.length ts.length ts (nthF es k, nthT es k) (by rfl) rfl ((ho.alloc _).alloc _) (wr.heap.size + 1) 1 (by rfl) (cell_new2 (size_alloc _ _).symm) (by omega) ?_); intro w5 ho5 hg5)
            | (at_builtin; (refine wpl_appE rfl (.tmp 47) (.tmp 53) rfl (G1 + 1) rs.length ts.length ts (nthT es k, nthF es k) (by rfl) rfl ((ho.alloc _).alloc _) (wr.heap.size + 1) 1 (by rfl) (cell_new2 (size_alloc _ _).symm) (by omega) ?_); intro w5 ho5 hg5))
          go_roundw
          case rel =>
            refine ⟨k + 1, _, by omega, by go_num, ?_, ?_, HT.out.snoc ?_, ho5, below_grown ((hb.alloc (by omega) _).alloc (by simp; omega) _) hg5 (Nat.le_refl _) (by simp; omega)⟩
            · rw [List.length_append]; rfl
            · rw [List.length_append]; simp; omega
            · have := HE.out; rw [HD.out]; simp only [Dir]; refine ⟨by omega, by simp; omega⟩
          case measure => simp [intOf]; omega
        · have hne : (nthF es k == nthT es k) = true := by rw [beq_iff_eq]; exact hft
          clear hft
          go_wp2_with fail
          go_roundw
          case rel => exact ⟨k + 1, ts, by omega, by go_num, rfl, by omega, HT, ho.alloc _, hb.alloc (by omega) _⟩
          case measure => simp [intOf]; omega
        · have hne : (nthF es k == nthT es k) = false := by rw [beq_eq_false_iff_ne]; omega
          have hdec : decide (nthT es k < nthF es k) = true := by rw [decide_eq_true_iff]; omega
          go_wp2_with (first
            | (at_builtin; (refine wpl_appE rfl (.tmp 43) (.tmp 45) rfl (G1 + 1) rs.length ts.length ts (nthF es k, nthT es k) (by rfl) rfl ((ho.alloc _).alloc _) (wr.heap.size + 1) 1 (by rfl) (cell_new2 (size_alloc _ _).symm) (by omega) ?_); intro w5 ho5 hg5)
            | (at_builtin; (refine wpl_appE rfl (.tmp 47) (.tmp 53) rfl (G1 + 1) rs.length ts.length ts (nthT es k, nthF es k) (by rfl) rfl ((ho.alloc _).alloc _) (wr.heap.size + 1) 1 (by rfl) (cell_new2 (size_alloc _ _).symm) (by omega) ?_); intro w5 ho5 hg5))
          go_roundw
          case rel =>
            refine ⟨k + 1, _, by omega, by go_num, ?_, ?_, HT.out.snoc ?_, ho5, below_grown ((hb.alloc (by omega) _).alloc (by simp; omega) _) hg5 (Nat.le_refl _) (by simp; omega)⟩
            · rw [List.length_append]; rfl
            · rw [List.length_append]; simp; omega
            · have := HE.out; rw [HD.out]; simp only [Dir]; refine ⟨by omega, by simp; omega⟩
          case measure => simp [intOf]; omega
      · obtain rfl : k = es.length := by omega
        have kk0 := g4.c0
        have hgl : G1 < wr.heap.size := by omega
        have hbw := hb4.trans (hb.mono (by omega))
        have g5 := gr_new (n := (N : Int)) (t := 45) (ho.sl rfl hlo)
        have hb5 := hbw.alloc hbw.size (.cells #[.int .i64 (N : Int), .slice (some ⟨G1 + 1, 0, none⟩) ts.length rs.length] 45)
        go_wp2_with fail
        refine (peel_any N wr.heap.size _ rs.length ts _ (by omega) (by omega) HT.out.rng (g5.mono (by simp))).mono ?_
        rintro e w6 ⟨hb6, p1, p2, os, tk, rfl, ho6, ht6, hp1, hp2, hp12, hpe⟩
        obtain ⟨hol, hta, hup⟩ := turned_all HT.out hpe
        have HOL : Hid (os.length = N) := hol
        have HTL : Hid (tk.length = N) := hpe.tkl
        have HTA : Hid _ := hta
        have HUP : Hid _ := hup
        have hbf := hb5.trans (hb6.mono hb5.size)
        have k0 : w6.cell? ⟨G1, 0, none⟩ = some (.int .i64 N) := (hb6.cell (by simp; omega)).trans ((World.cell?_alloc_past _ _ _ hgl).trans kk0)
        rw [hol]
        have hnn : ((N : Int) != (N : Int)) = false := by simp
        clear hol hta hup hpe
        go_wp2_with fail
        go_loop [14] (fun i => ∃ k : Nat, k ≤ N ∧ i = .int .i64 k) (fun i => N - (intOf i).toNat)
        case atStart => exact ⟨0, by omega, rfl⟩
        case round =>
          obtain ⟨k, hk, rfl⟩ := hrel
          by_cases hlt : k < N
          · have c1 := ht6.cell k (by rw [HTL.out]; exact hlt)
            rw [HTA.out k hlt] at c1
            have c2 := ho6.cell k (by rw [HOL.out]; exact hlt)
            first
              | (rw [HUP.out HD.out k hlt] at c2)
              | skip
            have hkk : ((k : Int) != (k : Int)) = false := by simp
            go_wp2_with fail
            go_round
            case rel => exact ⟨k + 1, by omega, by go_num⟩
            case measure => simp [intOf]; omega
          · go_wp2_with fail
            go_ret
            exact ⟨rfl, hbf⟩
end Go.Proofs.Ymbrdq
