/- zzs930021fless, zzs930021fquery. -/
import Derived.Test.YmbrdqFind
namespace Go.Proofs.Ymbrdq
open Go.ChangeShapes Go.WideShapes Go.ChangeAt Go.RowKit
set_option linter.unusedVariables false
set_option linter.unusedSimpArgs false

def lessB (a b : Int × Int) : Bool := decide (a.1 < b.1 ∨ (a.1 = b.1 ∧ a.2 < b.2))
theorem lessB_true {a b : Int × Int} : lessB a b = true ↔ ltE a b := by unfold lessB ltE; rw [decide_eq_true_iff]
theorem lessB_false {a b : Int × Int} : lessB a b = false ↔ ¬ ltE a b := by unfold lessB ltE; rw [decide_eq_false_iff_not]

theorem ret_b {a b : Bool} (h : a = b) : Ending.returned (.bool a) = .returned (.bool b) := by rw [h]

set_option maxHeartbeats 400000 in
theorem fless_any (a1 a2 b1 b2 : Int) (w : World) :
    Calls Ydqm.prog 18 #[.agg #[.int .i64 a1, .int .i64 a2], .agg #[.int .i64 b1, .int .i64 b2]] w fun e w' => e = .returned (.bool (lessB (a1, a2) (b1, b2))) ∧ w' = ((w.alloc (.cells #[.int .i64 a1, .int .i64 a2] 23)).alloc (.cells #[.int .i64 b1, .int .i64 b2] 23)) := by
  by_cases h : a1 = b1
  · have hb : (a1 != b1) = false := by simp [h]
    have H : Hid (a1 = b1) := h
    clear h
    go_enter Ydqm.func18, Ydqm.ntmps18
    go_wp2
    go_ret
    refine ⟨ret_b ?_, rfl⟩
    have := H.out
    unfold lessB
    rw [Bool.eq_iff_iff, decide_eq_true_iff, decide_eq_true_iff]
    dsimp only
    omega
  · have hb : (a1 != b1) = true := by simp [h]
    have H : Hid (¬ a1 = b1) := h
    clear h
    go_enter Ydqm.func18, Ydqm.ntmps18
    go_wp2
    go_ret
    refine ⟨ret_b ?_, rfl⟩
    have := H.out
    unfold lessB
    rw [Bool.eq_iff_iff, decide_eq_true_iff, decide_eq_true_iff]
    dsimp only
    omega

def FQueryPost (w : World) (e : Ending) (w' : World) : Prop := Below w.heap.size w w' ∧ ∃ x y : Int, e = .returned (.agg #[.int .i64 x, .int .i64 y])

set_option maxRecDepth 20000 in
set_option maxHeartbeats 1000000 in
theorem fquery_any (es : List (Int × Int)) (sel u v : Int) (ec : Nat) (eo : Option Addr) (w : World) (hes : es.length ≤ 9223372036854775807) (hsel : 0 ≤ sel ∧ sel ≤ 18446744073709551615) (hs : Sl w w.heap.size eo es.length ec 2 (cellsE es)) :
    Calls Ydqm.prog 16 #[.slice eo es.length ec, .int .u64 sel, .int .i64 u, .int .i64 v] w (FQueryPost w) := by
  by_cases h1 : sel % 2 = 1
  · have hb1 : (sel % 2 == 1) = true := by simp [h1]
    clear h1
    by_cases h2 : 0 < es.length
    · obtain ⟨b, off, hbB, rfl, hc⟩ := Sl.pairsAt hs h2
      obtain ⟨j, hj, hjl⟩ : ∃ j : Nat, sel / 2 % (es.length : Int) = (j : Int) ∧ j < es.length := by
        have e1 := Int.emod_nonneg (sel / 2) (show (es.length : Int) ≠ 0 by omega)
        have e2 := Int.emod_lt_of_pos (sel / 2) (show 0 < (es.length : Int) by omega)
        exact ⟨(sel / 2 % (es.length : Int)).toNat, by omega, by omega⟩
      obtain ⟨c1, c2⟩ := hc j hjl
      clear hc
      go_enter Ydqm.func16, Ydqm.ntmps16
      go_wp2_with fail
      refine bodyPost_ret (v := .agg #[.int .i64 (nthF es j), .int .i64 (nthT es j)]) (by simp [results, Ydqm.results16, go_sem]) rfl ⟨(Below.refl _ _).alloc (Nat.le_refl _) _, _, _, rfl⟩
    · go_enter Ydqm.func16, Ydqm.ntmps16
      go_wp2_with fail
      refine bodyPost_ret (v := .agg #[.int .i64 u, .int .i64 v]) (by simp [results, Ydqm.results16, go_sem]) rfl ⟨(Below.refl _ _).alloc (Nat.le_refl _) _, _, _, rfl⟩
  · have hb1 : (sel % 2 == 1) = false := by simp [h1]
    clear h1
    go_enter Ydqm.func16, Ydqm.ntmps16
    go_wp2_with fail
    refine bodyPost_ret (v := .agg #[.int .i64 u, .int .i64 v]) (by simp [results, Ydqm.results16, go_sem]) rfl ⟨(Below.refl _ _).alloc (Nat.le_refl _) _, _, _, rfl⟩
end Go.Proofs.Ymbrdq
