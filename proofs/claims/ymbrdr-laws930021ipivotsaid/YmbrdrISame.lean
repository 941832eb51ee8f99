/- zzs930021isame tells whether two lists are equal. -/
import Derived.Test.YmbrdrOps
import Derived.WalkSmall
namespace Go.Proofs.Ymbrdr
open Go.ChangeShapes Go.WideShapes Go.ChangeAt Go.RowKit
set_option linter.unusedVariables false
set_option linter.unusedSimpArgs false

def sameI (xs ys : List Int) : Bool := decide (xs = ys)
theorem ret_bool {a b : Bool} (h : a = b) : Ending.returned (.bool a) = .returned (.bool b) := by rw [h]
theorem ext_nth {xs ys : List Int} (hl : xs.length = ys.length) (h : ∀ j, j < xs.length → nth xs j = nth ys j) : xs = ys := by
  apply List.ext_getElem hl
  intro i h1 h2
  have := h i h1
  rwa [nth_eq h1, nth_eq h2] at this

set_option maxHeartbeats 400000 in
theorem isame_any (xs ys : List Int) (ca cb : Nat) (ao bo : Option Addr) (w : World) (hn : xs.length ≤ 1000000) (hm : ys.length ≤ 1000000)
    (ha : Sl w w.heap.size ao xs.length ca 1 (cellsI xs)) (hb : Sl w w.heap.size bo ys.length cb 1 (cellsI ys)) :
    Calls Ydrm.prog 15 #[.slice ao xs.length ca, .slice bo ys.length cb] w fun e w' => e = .returned (.bool (sameI xs ys)) ∧ ∃ q, w' = w.drewN q := by
  by_cases hl : xs.length = ys.length
  · have hne : ((xs.length : Int) != (ys.length : Int)) = false := by simp [hl]
    have hl1 : xs.length ≤ ys.length := by omega
    have hl2 : ys.length ≤ xs.length := by omega
    have HL : Hid (xs.length = ys.length) := hl
    clear hl
    go_enter Ydrm.func15, Ydrm.ntmps15
    go_wp2_with fail
    go_loopw [5] (fun i wr => ∃ k q : Nat, k ≤ xs.length ∧ i = .int .i64 k ∧ wr = w.drewN q ∧ Hid (∀ j, j < k → nth xs j = nth ys j)) (fun i _ => xs.length - (intOf i).toNat)
    case atStart => exact ⟨0, 0, by omega, rfl, rfl, fun j hj => by omega⟩
    case round =>
      obtain ⟨k, q, hk, rfl, rfl, H⟩ := hrel
      by_cases hlt : k < xs.length
      · obtain ⟨b1, o1, _, rfl, hc1⟩ := Sl.intsAt ha (by omega)
        obtain ⟨b2, o2, _, rfl, hc2⟩ := Sl.intsAt hb (by omega)
        have c1 := hc1 k hlt
        have c2 := hc2 k (by omega)
        clear hc1 hc2
        by_cases he : nth xs k = nth ys k
        · have hb' : (nth xs k != nth ys k) = false := by simp [he]
          have HE : Hid (nth xs k = nth ys k) := he
          clear he
          go_wp2_with fail
          go_quiet (fail)
          go_wp2_with fail
          go_roundw
          case rel =>
            refine ⟨k + 1, _, by omega, by go_num, rfl, fun j hj => ?_⟩
            rcases Nat.lt_or_ge j k with h | h
            · exact H.out j h
            · obtain rfl : j = k := by omega
              exact HE.out
          case measure => simp [intOf]; omega
        · have hb' : (nth xs k != nth ys k) = true := by simp [he]
          have HE : Hid (¬ nth xs k = nth ys k) := he
          clear he
          go_wp2_with fail
          go_quiet (fail)
          go_wp2_with fail
          go_ret
          refine ⟨ret_bool ?_, _, World.drewN_drewN _ _ _⟩
          unfold sameI
          rw [eq_comm, decide_eq_false_iff_not]
          intro h
          exact HE.out (by rw [h])
      · go_wp2_with fail
        go_ret
        refine ⟨ret_bool ?_, q, rfl⟩
        unfold sameI
        rw [eq_comm, decide_eq_true_iff]
        exact ext_nth HL.out (fun j hj => H.out j (by omega))
  · have hne : ((xs.length : Int) != (ys.length : Int)) = true := by simp; omega
    go_enter Ydrm.func15, Ydrm.ntmps15
    go_wp2_with fail
    go_ret
    refine ⟨ret_bool ?_, 0, rfl⟩
    unfold sameI
    rw [eq_comm, decide_eq_false_iff_not]
    intro h
    exact hl (by rw [h])

theorem isame_len (xs ys : List Int) (n m ca cb : Nat) (ao bo : Option Addr) (w : World) (hx : n = xs.length) (hy : m = ys.length) (hn : n ≤ 1000000) (hm : m ≤ 1000000)
    (ha : Sl w w.heap.size ao n ca 1 (cellsI xs)) (hb : Sl w w.heap.size bo m cb 1 (cellsI ys)) :
    Calls Ydrm.prog 15 #[.slice ao n ca, .slice bo m cb] w fun e w' => e = .returned (.bool (sameI xs ys)) ∧ ∃ q, w' = w.drewN q := by
  subst hx; subst hy; exact isame_any xs ys ca cb ao bo w hn hm ha hb
end Go.Proofs.Ymbrdr
