/- The walk of LawS930021FBoundary. -/
import Derived.Test.YmbrdqFParts
namespace Go.Proofs.Ymbrdq
open Go.ChangeShapes Go.WideShapes Go.ChangeAt Go.RowKit
set_option linter.unusedVariables false
set_option linter.unusedSimpArgs false
attribute [local go_sem ↓] Go.wp_at_zero Go.wp_at_succ

set_option maxRecDepth 20000 in
set_option maxHeartbeats 4000000 in
theorem fBoundary_walk (es : List (Int × Int)) (sel u v : Int) (ec : Nat) (eo : Option Addr) (w : World) (hes : es.length ≤ 9223372036854775807) (hsel : 0 ≤ sel ∧ sel ≤ 18446744073709551615) (hs : Sl w w.heap.size eo es.length ec 2 (cellsE es)) :
    Calls Ydqm.prog 6 #[.slice eo es.length ec, .int .u64 sel, .int .i64 u, .int .i64 v] w fun e w' => e = .returned (.bool true) ∧ Below w.heap.size w w' := by
  go_enter Ydqm.func6, Ydqm.ntmps6
  go_wp2_with fail
  refine (fquery_any es sel u v ec eo w hes hsel hs).mono ?_
  rintro e w1 ⟨hb1, x, y, rfl⟩
  have hb2 : Below w.heap.size w (w1.alloc (.cells #[.int .i64 x, .int .i64 y] 23)) := hb1.alloc hb1.size _
  go_wp2_with fail
  refine (find_any es x y ec eo _ hes ((hs.below hb2).mono hb2.size)).mono ?_
  rintro e w2 ⟨hb3, lo, ok, rfl, hf⟩
  have hz1 := hb1.size
  have d1 : w2.cell? ⟨w1.heap.size, 0, none⟩ = some (.int .i64 x) := (hb3.cell (by simp)).trans (cell_new2 rfl).1
  have d2 : w2.cell? ⟨w1.heap.size, 1, none⟩ = some (.int .i64 y) := (hb3.cell (by simp)).trans (cell_new2 rfl).2
  have hb4 := hb2.trans (hb3.mono hb2.size)
  have hz3 := hb3.size
  rw [size_alloc] at hz3
  have HF : Hid (FindAt es (x, y) lo ok) := hf
  have hle := hf.le
  have hs2 := hs.below hb4
  clear hf hb1 hb2 hb3
  obtain ⟨G, hG⟩ : ∃ G, w1.heap.size = G := ⟨_, rfl⟩
  rw [hG] at d1 d2 hz1 hz3 ⊢
  clear hG
  -- the left neighbour
  go_upto_region 5 with fail
  go_cut [42] (fun t w' => t = .bool false ∧ Below w2.heap.size w2 w')
  case first =>
    by_cases h0 : 0 < lo
    · obtain ⟨b, off, hbB, rfl, hc⟩ := Sl.pairsAt hs2 (by omega)
      obtain ⟨p, HP⟩ : ∃ p : Nat, Hid (lo = p + 1) := ⟨lo - 1, by show _ = _; omega⟩
      have hpl : p < es.length := by have := HP.out; omega
      have hless : lessB (nthF es p, nthT es p) (x, y) = true := lessB_true.2 (by have := HF.out.left h0; rw [HP.out] at this; simpa [nthE] using this)
      obtain ⟨c1, c2⟩ := hc p hpl
      clear hc
      have i0 : decide ((0 : Int) < (lo : Int)) = true := by simp; omega
      have i1 : (0 : Int) ≤ (p : Int) := by omega
      have i2 : (p : Int) < (es.length : Int) := by omega
      have i3 : IntKind.i64.wrap ((lo : Int) - 1) = (p : Int) := by rw [HP.out, IntKind.wrap_i64]; omega
      have hn1 : b < w2.heap.size := by have := hb4.size; omega
      have hn2 : G < w2.heap.size := by omega
      go_region_held3 (fun w' => w'.cell? ⟨b, off + p * 2, none⟩ = some (.int .i64 (nthF es p)) ∧ w'.cell? ⟨b, off + p * 2 + 1, none⟩ = some (.int .i64 (nthT es p)) ∧ w'.cell? ⟨G, 0, none⟩ = some (.int .i64 x) ∧ w'.cell? ⟨G, 1, none⟩ = some (.int .i64 y))
        (first | go_keep)
        ((go_at_call 18; refine (fless_any _ _ _ _ _).mono ?_; rintro e w' ⟨rfl, rfl⟩))
      go_wp2_with fail
      go_meet
      case rel => exact ⟨rfl, (((Below.refl w2.heap.size w2).alloc (Nat.le_refl _) _).alloc (by rw [size_alloc]; omega) _).drew⟩
    · have i0 : decide ((0 : Int) < (lo : Int)) = false := by simp; omega
      go_quiet (fail)
      go_wp2_with fail
      go_meet
      case rel => exact ⟨rfl, below_drewN (Below.refl _ _) _⟩
  case rest =>
    obtain ⟨rfl, hb5⟩ := hcut
    have e1 := (hb5.cell (p := ⟨G, 0, none⟩) (by dsimp only; omega)).trans d1
    have e2 := (hb5.cell (p := ⟨G, 1, none⟩) (by dsimp only; omega)).trans d2
    have hb6 := hb4.trans (hb5.mono hb4.size)
    have hs3 := hs2.below (hb5.mono hb4.size)
    have hz5 := hb5.size
    have hz4 := hb4.size
    clear d1 d2 hs2 hb5
    by_cases hll : lo < es.length
    · have hne : ((lo : Int) == (es.length : Int)) = false := by rw [beq_eq_false_iff_ne]; omega
      obtain ⟨b, off, hbB, rfl, hc⟩ := Sl.pairsAt hs3 (by omega)
      obtain ⟨c1, c2⟩ := hc lo hll
      clear hc
      have hless : lessB (nthF es lo, nthT es lo) (x, y) = false := lessB_false.2 (by simpa [nthE] using HF.out.right hll)
      have i1 : (0 : Int) ≤ (lo : Int) := by omega
      have i2 : (lo : Int) < (es.length : Int) := by omega
      have hn1 : b < wc.heap.size := by omega
      have hn2 : G < wc.heap.size := by omega
      go_upto_region 9 with fail
      go_region_held3 (fun w' => w'.cell? ⟨b, off + lo * 2, none⟩ = some (.int .i64 (nthF es lo)) ∧ w'.cell? ⟨b, off + lo * 2 + 1, none⟩ = some (.int .i64 (nthT es lo)) ∧ w'.cell? ⟨G, 0, none⟩ = some (.int .i64 x) ∧ w'.cell? ⟨G, 1, none⟩ = some (.int .i64 y))
        (first | go_keep)
        ((go_at_call 18; refine (fless_any _ _ _ _ _).mono ?_; rintro e w' ⟨rfl, rfl⟩))
      have hbf : Below w.heap.size w (((wc.alloc (.cells #[.int .i64 (nthF es lo), .int .i64 (nthT es lo)] 23)).alloc (.cells #[.int .i64 x, .int .i64 y] 23)).drew) := ((hb6.alloc hb6.size _).alloc (by rw [size_alloc]; have := hb6.size; omega) _).drew
      rename_i hHeld
      clear hHeld
      by_cases hx : nthF es lo = x
      · have hxb : (nthF es lo == x) = true := by simp [hx]
        have HX : Hid (nthF es lo = x) := hx
        clear hx
        by_cases hy : nthT es lo = y
        · have hyb : (nthT es lo == y) = true := by simp [hy]
          obtain rfl : ok = true := HF.out.ok_iff.2 ⟨hll, by unfold nthE; rw [HX.out, hy]⟩
          clear hy
          go_wp2_with fail
          go_quiet (fail)
          go_wp2_with fail
          go_ret
          exact ⟨by simp, below_drewN hbf _⟩
        · have hyb : (nthT es lo == y) = false := by simp [hy]
          obtain rfl : ok = false := by
            rcases Bool.eq_false_or_eq_true ok with h | h
            · have := (HF.out.ok_iff.1 h).2
              exact absurd (congrArg Prod.snd this) hy
            · exact h
          clear hy
          go_wp2_with fail
          go_quiet (fail)
          go_wp2_with fail
          go_ret
          exact ⟨by simp, below_drewN hbf _⟩
      · have hxb : (nthF es lo == x) = false := by simp [hx]
        obtain rfl : ok = false := by
          rcases Bool.eq_false_or_eq_true ok with h | h
          · have := (HF.out.ok_iff.1 h).2
            exact absurd (congrArg Prod.fst this) hx
          · exact h
        clear hx
        go_wp2_with fail
        go_quiet (fail)
        go_wp2_with fail
        go_ret
        exact ⟨by simp, below_drewN hbf _⟩
    · have heq : ((lo : Int) == (es.length : Int)) = true := by rw [beq_iff_eq]; omega
      obtain rfl : ok = false := by
        rcases Bool.eq_false_or_eq_true ok with h | h
        · exact absurd (HF.out.ok_iff.1 h).1 hll
        · exact h
      go_wp2_with fail
      go_ret
      exact ⟨by simp, hb6⟩
end Go.Proofs.Ymbrdq
