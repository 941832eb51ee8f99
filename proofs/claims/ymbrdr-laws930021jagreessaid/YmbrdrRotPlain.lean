/- Plain facts on 'minAt' and 'rotMin'. -/
import Derived.Test.YmbrdrRot
namespace Go.Proofs.Ymbrdr

theorem minAt_min (xs : List Int) (k j : Nat) (h : j < k) : nth xs (minAt xs k) ≤ nth xs j := by
  induction k with
  | zero => omega
  | succ k ih =>
    rw [minAt_succ]
    rcases Nat.lt_or_ge j k with hj | hj
    · have := ih hj
      split <;> omega
    · obtain rfl : j = k := by omega
      split <;> omega

theorem minAt_first (xs : List Int) (k j : Nat) (h : j < minAt xs k) : nth xs (minAt xs k) < nth xs j := by
  induction k with
  | zero => simp [minAt] at h
  | succ k ih =>
    rw [minAt_succ] at h ⊢
    split at h
    · rename_i hlt
      rw [if_pos hlt]
      have := minAt_min xs k j h
      omega
    · rename_i hlt
      rw [if_neg hlt]
      exact ih h

theorem nth_rotMin (xs : List Int) (i : Nat) (h : i < xs.length) : nth (rotMin xs) i = nth xs ((minAt xs xs.length + i) % xs.length) := by
  have hm := minAt_lt xs xs.length (by omega)
  generalize hm' : minAt xs xs.length = m at hm
  unfold rotMin nth
  rw [hm']
  rcases Nat.lt_or_ge (m + i) xs.length with h1 | h1
  · rw [Nat.mod_eq_of_lt h1]
    simp only [List.getD_eq_getElem?_getD]
    rw [List.getElem?_append_left (by simp; omega)]
    simp
  · have e : (m + i) % xs.length = m + i - xs.length := by
      rw [Nat.mod_eq_sub_mod h1, Nat.mod_eq_of_lt (by omega)]
    rw [e]
    simp only [List.getD_eq_getElem?_getD]
    rw [List.getElem?_append_right (by simp; omega)]
    simp only [List.length_drop]
    rw [List.getElem?_take_of_lt (by omega)]
    congr 2
    omega

theorem minAt_zero (ys : List Int) (k : Nat) (h : ∀ i, i < k → nth ys 0 ≤ nth ys i) : minAt ys k = 0 := by
  induction k with
  | zero => rfl
  | succ k ih =>
    rw [minAt_succ, ih (fun i hi => h i (by omega)), if_neg (by have := h k (by omega); omega)]

theorem rotMin_idem (xs : List Int) : rotMin (rotMin xs) = rotMin xs := by
  have hl := length_rotMin xs
  have h0 : minAt (rotMin xs) (rotMin xs).length = 0 := by
    apply minAt_zero
    intro i hi
    rw [hl] at hi
    rw [nth_rotMin xs i hi, nth_rotMin xs 0 (by omega), Nat.add_zero, Nat.mod_eq_of_lt (minAt_lt xs _ (by omega))]
    exact minAt_min xs _ _ (Nat.mod_lt _ (by omega))
  show (rotMin xs).drop (minAt (rotMin xs) (rotMin xs).length) ++ (rotMin xs).take (minAt (rotMin xs) (rotMin xs).length) = _
  rw [h0]
  simp
end Go.Proofs.Ymbrdr
