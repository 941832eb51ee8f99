/- RotateMin computes 'rotMin'. -/
import Derived.Test.YmbrdrOps
namespace Go.Proofs.Ymbrdr
open Go.ChangeShapes Go.WideShapes Go.ChangeAt Go.RowKit

/-- The first place of the least among the first k numbers. -/
def minAt (xs : List Int) : Nat → Nat
  | 0 => 0
  | k + 1 => if nth xs k < nth xs (minAt xs k) then k else minAt xs k

theorem minAt_succ (xs : List Int) (k : Nat) : minAt xs (k + 1) = if nth xs k < nth xs (minAt xs k) then k else minAt xs k := rfl

theorem minAt_lt (xs : List Int) (k : Nat) (h : 0 < k) : minAt xs k < k := by
  induction k with
  | zero => omega
  | succ k ih =>
    unfold minAt
    split
    · omega
    · cases k with
      | zero => simp [minAt]
      | succ k => have := ih (by omega); omega

def rotMin (xs : List Int) : List Int := xs.drop (minAt xs xs.length) ++ xs.take (minAt xs xs.length)

theorem minAt_le (xs : List Int) : minAt xs xs.length ≤ xs.length := by
  cases h : xs.length with
  | zero => simp [minAt]
  | succ k => have := minAt_lt xs (k + 1) (by omega); omega

theorem length_rotMin (xs : List Int) : (rotMin xs).length = xs.length := by
  have := minAt_le xs
  simp [rotMin]; omega

theorem from_ints {w : World} {B : Nat} {ao : Option Addr} {cap : Nat} {xs : List Int} (h : Sl w B ao xs.length cap 1 (cellsI xs)) {l : Nat} (hl : l ≤ xs.length) {A : Option Addr} (hA : A = if cap = l then ao else ao.map (·.add l)) :
    (A = none → xs.length - l = 0 ∧ cap - l = 0) ∧ ∀ ad, A = some ad → ∀ j u, (cellsI (xs.drop l))[j]? = some u → w.cell? (ad.add j) = some u := by
  have := h.from_ l hl (A := A) (by rw [Nat.mul_one]; exact hA)
  rw [Nat.mul_one] at this
  simpa [cellsI] using this
theorem upto_ints {w : World} {B : Nat} {ao : Option Addr} {cap : Nat} {xs : List Int} (h : Sl w B ao xs.length cap 1 (cellsI xs)) {l : Nat} (hl : l ≤ xs.length) :
    (ao = none → l = 0 ∧ cap = 0) ∧ ∀ ad, ao = some ad → ∀ j u, (cellsI (xs.take l))[j]? = some u → w.cell? (ad.add j) = some u := by
  have := h.upto l hl
  rw [Nat.mul_one] at this
  simpa [cellsI] using this

set_option maxHeartbeats 400000 in
theorem rot_any (xs : List Int) (cap : Nat) (ao : Option Addr) (w : World) (hn : xs.length ≤ 1000000) (hs : Sl w w.heap.size ao xs.length cap 1 (cellsI xs)) :
    Calls Ydrm.prog 14 #[.slice ao xs.length cap] w fun e w' => ∃ g, e = .returned (.slice (some ⟨g, 0, none⟩) xs.length xs.length) ∧
      OwnI w' g xs.length (rotMin xs) ∧ w.heap.size ≤ g ∧ Below w.heap.size w w' := by
  have hle := hs.le
  have hma := minAt_le xs
  go_enter Ydrm.func14, Ydrm.ntmps14
  go_wp2
  go_loop [3, 9] (fun t i => ∃ k : Nat, k ≤ xs.length ∧ i = .int .i64 k ∧ t = .int .i64 (minAt xs k : Nat)) (fun _ i => xs.length - (intOf i).toNat)
  case atStart => exact ⟨0, Nat.zero_le _, rfl, rfl⟩
  case round =>
    obtain ⟨k, hk, rfl, rfl⟩ := hrel
    by_cases hlt : k < xs.length
    · obtain ⟨b, off, hbB, rfl, hc⟩ := Sl.intsAt hs (by omega)
      have hm : minAt xs k < xs.length := by
        cases k with
        | zero => exact hlt
        | succ k => have := minAt_lt xs (k + 1) (by omega); omega
      have c1 := hc k hlt
      have c2 := hc (minAt xs k) hm
      clear hc
      go_wp2
      all_goals
        go_round
        case rel =>
          refine ⟨k + 1, by omega, by go_num, ?_⟩
          rw [minAt_succ]
          first | rw [if_pos (by assumption)] | rw [if_neg (by omega)]
        case measure => simp [intOf]; omega
    · obtain rfl : k = xs.length := by omega
      have HM : Hid (rotMin xs = xs.drop (minAt xs xs.length) ++ xs.take (minAt xs xs.length)) := rfl
      generalize minAt xs xs.length = m at *
      have hcapb : (m : Int) ≤ cap := by omega
      go_wp2_with (first
        | (at_make; refine wpl_makeI0 rfl _ _ rfl xs.length _ (by rfl) (by rfl) rfl (by omega) ?_; intro w1 ho1 hb1 hz1)
        | (at_builtin; (refine wpl_app 22 3 _ 1 8 Ydrm.underlying22 infoInt rfl (.tmp 25) (.tmp 28) rfl w.heap.size 0 xs.length [] (by rfl) ho1 _ (xs.length - m) (cap - m) (cellsI (xs.drop m)) (by rfl) (by simp [cellsI]) (from_ints (hs.below hb1) hma (by simp)) (one_cellsI _) (by omega) ?_); intro w2 ho2 hg2; simp only [Nat.zero_add, List.nil_append] at ho2)
        | (at_builtin; (refine wpl_app 22 3 _ 1 8 Ydrm.underlying22 infoInt rfl (.tmp 30) (.tmp 33) rfl w.heap.size (xs.length - m) xs.length (cellsI (xs.drop m)) (by rfl) ho2 _ m cap (cellsI (xs.take m)) (by rfl) (by simp [cellsI]; omega) (upto_ints (hs.below (below_grown hb1 hg2 (Nat.le_refl _) hz1)) hma) (one_cellsI _) (by omega) ?_); intro w3 ho3 hg3))
      all_goals
        go_ret
        refine ⟨w.heap.size, rfl, ?_, Nat.le_refl _, below_grown (below_grown hb1 hg2 (Nat.le_refl _) hz1) hg3 (Nat.le_refl _) (Own.lt ho2)⟩
        have hl := length_rotMin xs
        unfold OwnI
        rw [hl, HM.out, cellsI_append]
        rwa [Nat.sub_add_cancel hma] at ho3

theorem rot_len (xs : List Int) (n cap : Nat) (ao : Option Addr) (w : World) (h : n = xs.length) (hn : n ≤ 1000000) (hs : Sl w w.heap.size ao n cap 1 (cellsI xs)) :
    Calls Ydrm.prog 14 #[.slice ao n cap] w fun e w' => ∃ g, e = .returned (.slice (some ⟨g, 0, none⟩) n n) ∧
      OwnI w' g n (rotMin xs) ∧ w.heap.size ≤ g ∧ Below w.heap.size w w' := by
  subst h; exact rot_any xs cap ao w hn hs
end Go.Proofs.Ymbrdr
