/- zzs930021cin. -/
import Derived.Test.YmbrdpGFrom
namespace Go.Proofs.Ymbrdp
open Go.ChangeShapes Go.WideShapes Go.ChangeAt Go.RowKit
set_option linter.unusedVariables false
set_option linter.unusedSimpArgs false
attribute [local go_sem ↓] Go.wp_at_zero Go.wp_at_succ

def CInPost (es : List (Int × Int)) (x y : Int) (w : World) (r : Ending) (w' : World) : Prop := Below w.heap.size w w' ∧ r = .returned (.bool (decide ((x, y) ∈ es)))

set_option maxRecDepth 20000 in
set_option maxHeartbeats 4000000 in
theorem cin_any (es : List (Int × Int)) (x y : Int) (ec : Nat) (eo : Option Addr) (w : World) (hes : es.length ≤ 100000000) (hs : Sl w w.heap.size eo es.length ec 2 (cellsE es)) :
    Calls Ydpm.prog 32 #[.slice eo es.length ec, .agg #[.int .i64 x, .int .i64 y]] w (CInPost es x y w) := by
  have hbe : Below w.heap.size w (w.alloc (.cells #[.int .i64 x, .int .i64 y] 36)) := (Below.refl _ _).alloc (Nat.le_refl _) _
  go_enter Ydpm.func32, Ydpm.ntmps32
  go_wp2_with fail
  go_loopw [5] (fun i wr => ∃ (k : Nat), k ≤ es.length ∧ i = .int .i64 k ∧ Hid (∀ j, j < k → nthE es j ≠ (x, y)) ∧ BelowA (w.heap.size + 1) (w.alloc (.cells #[.int .i64 x, .int .i64 y] 36)) wr) (fun i _ => es.length - (intOf i).toNat)
  case atStart => exact ⟨0, by omega, rfl, fun j hj => (by omega), Below.refl _ _, by rw [size_alloc]; omega⟩
  case round =>
    obtain ⟨k, hk, rfl, HN, hb⟩ := hrel
    have hz := hb.2
    have d1 : wr.cell? ⟨w.heap.size, 0, none⟩ = some (.int .i64 x) := (hb.1.cell (by dsimp only; omega)).trans (cell_new2 rfl).1
    have d2 : wr.cell? ⟨w.heap.size, 1, none⟩ = some (.int .i64 y) := (hb.1.cell (by dsimp only; omega)).trans (cell_new2 rfl).2
    have hbr := hbe.trans (hb.1.mono (by omega))
    by_cases hlt : k < es.length
    · obtain ⟨b, off, hbB, rfl, hc⟩ := Sl.pairsAt (hs.below hbr) (by omega)
      obtain ⟨c1, c2⟩ := hc k hlt
      clear hc
      have i1 : (0 : Int) ≤ (k : Int) := by omega
      have i2 : (k : Int) < (es.length : Int) := by omega
      by_cases hx : nthF es k = x
      · have hxb : (nthF es k == x) = true := by simp [hx]
        have HX : Hid (nthF es k = x) := hx
        clear hx
        by_cases hy : nthT es k = y
        · have hyb : (nthT es k == y) = true := by simp [hy]
          have HY : Hid (nthT es k = y) := hy
          clear hy
          go_wp2_with fail
          go_quiet (fail)
          go_wp2_with fail
          go_ret
          have hm : (x, y) ∈ es := mem_nthE.2 ⟨k, hlt, by unfold nthE; rw [HX.out, HY.out]⟩
          exact ⟨below_drewN hbr _, by rw [decide_eq_true hm]; simp⟩
        · have hyb : (nthT es k == y) = false := by simp [hy]
          have HY : Hid (¬ nthT es k = y) := hy
          clear hy
          go_wp2_with fail
          go_quiet (fail)
          go_wp2_with fail
          go_roundw
          case rel => exact ⟨k + 1, by omega, by simp, fun j hj => (by rcases Nat.lt_or_ge j k with h | h; exact HN.out j h; obtain rfl : j = k := (by omega); exact fun h => HY.out (congrArg Prod.snd h)), hb.drewN _⟩
          case measure => simp [intOf]; omega
      · have hxb : (nthF es k == x) = false := by simp [hx]
        have HX : Hid (¬ nthF es k = x) := hx
        clear hx
        go_wp2_with fail
        go_quiet (fail)
        go_wp2_with fail
        go_roundw
        case rel => exact ⟨k + 1, by omega, by simp, fun j hj => (by rcases Nat.lt_or_ge j k with h | h; exact HN.out j h; obtain rfl : j = k := (by omega); exact fun h => HX.out (congrArg Prod.fst h)), hb.drewN _⟩
        case measure => simp [intOf]; omega
    · obtain rfl : k = es.length := by omega
      go_wp2_with fail
      go_ret
      have hm : ¬ (x, y) ∈ es := fun h => by
        obtain ⟨j, hj, e⟩ := mem_nthE.1 h
        exact HN.out j hj e
      exact ⟨hbr, by rw [decide_eq_false hm]; simp⟩
end Go.Proofs.Ymbrdp
