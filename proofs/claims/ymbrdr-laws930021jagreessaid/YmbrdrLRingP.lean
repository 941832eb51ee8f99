/- Rings: the plain laws behind LawS930021LRing. -/
import Derived.Test.YmbrdrLLay
namespace Go.Proofs.Ymbrdr
open Go.ChangeShapes Go.WideShapes Go.ChangeAt Go.RowKit
set_option linter.unusedVariables false
set_option linter.unusedSimpArgs false

theorem ring_ne {st s i j : Nat} (hs : 0 < s) (hs2 : s ≤ 10) (hij : i < j) (hj : j < 11) : (st + i * s) % 11 ≠ (st + j * s) % 11 := by
  have : s = 1 ∨ s = 2 ∨ s = 3 ∨ s = 4 ∨ s = 5 ∨ s = 6 ∨ s = 7 ∨ s = 8 ∨ s = 9 ∨ s = 10 := by omega
  rcases this with rfl | rfl | rfl | rfl | rfl | rfl | rfl | rfl | rfl | rfl <;> omega
theorem add_mod_inj {k t i j : Nat} (hi : i < k) (hj : j < k) (h : (i + t) % k = (j + t) % k) : i = j := by
  rw [Nat.add_mod, Nat.add_mod j, Nat.mod_eq_of_lt hi, Nat.mod_eq_of_lt hj] at h
  have ht : t % k < k := Nat.mod_lt _ (by omega)
  generalize t % k = u at *
  have f : ∀ x, x < k → (x + u) % k = if x + u < k then x + u else x + u - k := fun x hx => by
    split
    · exact Nat.mod_eq_of_lt (by omega)
    · rw [Nat.mod_eq_sub_mod (by omega)]; exact Nat.mod_eq_of_lt (by omega)
  rw [f i hi, f j hj] at h
  split at h <;> split at h <;> omega
theorem turn_nxt {k t i : Nat} : (nxt k i + t) % k = nxt k ((i + t) % k) := by
  unfold nxt
  rw [Nat.mod_add_mod, Nat.mod_add_mod, Nat.add_right_comm]
theorem turn_onto {k t j : Nat} (hj : j < k) : ∃ i, i < k ∧ (i + t) % k = j := by
  have ht : t % k < k := Nat.mod_lt _ (by omega)
  have e : ∀ i, (i + t) % k = (i + t % k) % k := fun i => by rw [Nat.add_mod_mod]
  generalize t % k = u at *
  rcases Nat.lt_or_ge j u with h | h
  · refine ⟨j + k - u, by omega, ?_⟩
    rw [e, show j + k - u + u = j + k by omega, Nat.add_mod_right, Nat.mod_eq_of_lt hj]
  · refine ⟨j - u, by omega, ?_⟩
    rw [e, show j - u + u = j by omega, Nat.mod_eq_of_lt hj]

/-- the ring -/
def Ring (st s : Nat) (xs : List Int) : Prop := ∀ i, i < xs.length → nth xs i = (((st + i * s) % 11 : Nat) : Int)
def Turned (t k : Nat) (xs ts : List Int) : Prop := ∀ i, i < ts.length → nth ts i = nth xs ((i + t) % k)
theorem Ring.snoc {st s k : Nat} {xs : List Int} (h : Ring st s xs) (hk : xs.length = k) : Ring st s (xs ++ [(((st + k * s) % 11 : Nat) : Int)]) := by
  subst hk
  intro i hi
  rw [List.length_append, List.length_singleton] at hi
  rcases Nat.lt_or_ge i xs.length with h' | h'
  · rw [nth_snoc_lt h']; exact h i h'
  · obtain rfl : i = xs.length := by omega
    rw [nth_snoc_eq]
theorem Turned.snoc {t k m : Nat} {xs ts : List Int} (h : Turned t k xs ts) {v : Int} (hm : ts.length = m) (hv : v = nth xs ((m + t) % k)) : Turned t k xs (ts ++ [v]) := by
  subst hm
  intro i hi
  rw [List.length_append, List.length_singleton] at hi
  rcases Nat.lt_or_ge i ts.length with h' | h'
  · rw [nth_snoc_lt h']; exact h i h'
  · obtain rfl : i = ts.length := by omega
    rw [nth_snoc_eq, hv]
theorem Ring.cyc {st s : Nat} {xs : List Int} {es fs : List (Int × Int)} (h : Ring st s xs) (hs : 0 < s) (hs2 : s ≤ 10) (h0 : 0 < xs.length) (h1 : xs.length ≤ 11) (hl : LayTo 11 es xs (min xs.length xs.length) fs) : IsCyc (insAll fs) xs := by
  refine ⟨h0, fun i hi => ?_, fun i j hij hj => ?_⟩
  · rw [mem_insAll, hl.2]
    refine .inr ⟨i, by omega, rfl, ?_⟩
    show inB _ (nth xs i) (nth xs (nxt xs.length i)) = true
    rw [h i hi, h _ (nxt_lt hi)]
    exact inB_true.2 ⟨by omega, by omega, by omega, by omega⟩
  · rw [h i (by omega), h j hj]
    have := ring_ne (st := st) hs hs2 hij (by omega)
    omega
theorem IsCyc.turned {es : List (Int × Int)} {xs ts : List Int} {t : Nat} (h : IsCyc es xs) (ht : Turned t xs.length xs ts) (hl : ts.length = xs.length) : IsCyc es ts := by
  obtain ⟨h0, h1, h2⟩ := h
  refine ⟨by omega, fun i hi => ?_, fun i j hij hj => ?_⟩
  · rw [ht i hi, ht _ (nxt_lt hi), hl, turn_nxt]
    exact h1 _ (Nat.mod_lt _ h0)
  · rw [ht i (by omega), ht j hj]
    intro e
    have n1 := Nat.mod_lt (i + t) h0
    have n2 := Nat.mod_lt (j + t) h0
    rcases Nat.lt_trichotomy ((i + t) % xs.length) ((j + t) % xs.length) with h | h | h
    · exact h2 _ _ h n2 e
    · have := add_mod_inj (by omega) (by omega) h; omega
    · exact h2 _ _ h n1 e.symm
theorem not_twice {es : List (Int × Int)} {xs ts : List Int} (h0 : 0 < xs.length) (ht : Turned 0 xs.length xs ts) (hl : ts.length = 2 * xs.length) : ¬ IsCyc es ts := by
  intro h
  have := h.2.2 0 xs.length h0 (by omega)
  rw [ht 0 (by omega), ht xs.length (by omega)] at this
  simp at this
theorem not_cut {es : List (Int × Int)} {xs : List Int} {j : Nat} (hj : j < xs.length) : ¬ IsCyc (delE es (nth xs j, nth xs (nxt xs.length j))) xs := fun h => (mem_delE.1 (h.2.1 j hj)).2 rfl
theorem not_cut_turned {es : List (Int × Int)} {xs ts : List Int} {j t : Nat} (hj : j < xs.length) (ht : Turned t xs.length xs ts) (hl : ts.length = xs.length) : ¬ IsCyc (delE es (nth xs j, nth xs (nxt xs.length j))) ts := by
  intro h
  obtain ⟨i, hi, e⟩ := turn_onto (t := t) hj
  have := h.2.1 i (by omega)
  rw [ht i (by omega), ht _ (nxt_lt (by omega)), hl, turn_nxt, e] at this
  exact (mem_delE.1 this).2 rfl
end Go.Proofs.Ymbrdr
