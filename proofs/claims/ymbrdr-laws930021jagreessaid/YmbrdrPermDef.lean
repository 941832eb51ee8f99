/- Permutations of 0..n-1 and their inverses: definitions and plain facts. -/
import Derived.Test.YmbrdrHeap
namespace Go.Proofs.Ymbrdr
set_option linter.unusedVariables false
set_option linter.unusedSimpArgs false

/-- xs lists 0..n-1, each once. -/
def IsPerm (n : Int) (xs : List Int) : Prop := n = xs.length ∧ (∀ i, i < xs.length → 0 ≤ nth xs i ∧ nth xs i < n) ∧ (∀ i j, i < j → j < xs.length → nth xs i ≠ nth xs j)
/-- ps is the inverse of xs. -/
def PosOf (xs ps : List Int) : Prop := ps.length = xs.length ∧ ∀ i, i < xs.length → 0 ≤ nth xs i ∧ nth xs i < xs.length ∧ nth ps (nth xs i).toNat = i

theorem PosOf.perm {xs ps : List Int} (h : PosOf xs ps) : IsPerm xs.length xs := by
  refine ⟨rfl, fun i hi => ⟨(h.2 i hi).1, (h.2 i hi).2.1⟩, fun i j hij hj he => ?_⟩
  have h1 := (h.2 i (by omega)).2.2
  have h2 := (h.2 j hj).2.2
  rw [he] at h1
  omega

theorem nth_set {xs : List Int} {i j : Nat} {y : Int} (hi : i < xs.length) : nth (xs.set i y) j = if i = j then y else nth xs j := by
  unfold nth
  simp only [List.getD_eq_getElem?_getD]
  rw [List.getElem?_set]
  split
  · subst_vars; simp [hi]
  · rfl
theorem nthB_set {xs : List Bool} {i j : Nat} {y : Bool} (hi : i < xs.length) : nthB (xs.set i y) j = if i = j then y else nthB xs j := by
  unfold nthB
  simp only [List.getD_eq_getElem?_getD]
  rw [List.getElem?_set]
  split
  · subst_vars; simp [hi]
  · rfl
theorem nth_replicate {n j : Nat} {y : Int} (h : j < n) : nth (List.replicate n y) j = y := by
  rw [nth_eq (by simpa using h)]; simp
theorem nthB_replicate {n j : Nat} {y : Bool} (h : j < n) : nthB (List.replicate n y) j = y := by
  rw [nthB_eq (by simpa using h)]; simp

/-- Behind k rounds of the second loop. -/
def PosTo (xs ps : List Int) (k : Nat) : Prop := ps.length = xs.length ∧ (∀ i, i < k → 0 ≤ nth xs i ∧ nth xs i < xs.length ∧ nth ps (nth xs i).toNat = i) ∧
  (∀ v : Nat, v < xs.length → 0 ≤ nth ps v → ∃ i, i < k ∧ nth xs i = v)

theorem PosTo.step {xs ps : List Int} {k m : Nat} (h : PosTo xs ps k) (hk : k < xs.length) (hm : nth xs k = m) (hmn : m < xs.length) (hneg : nth ps m < 0) : PosTo xs (ps.set m k) (k + 1) := by
  obtain ⟨h0, h1, h2⟩ := h
  refine ⟨by simpa using h0, fun i hi => ?_, fun v hv hp => ?_⟩
  · rw [nth_set (by omega)]
    rcases Nat.lt_or_ge i k with hik | hik
    · obtain ⟨a, b, c⟩ := h1 i hik
      refine ⟨a, b, ?_⟩
      rw [if_neg, c]
      intro e
      rw [← e] at c
      omega
    · obtain rfl : i = k := by omega
      exact ⟨by omega, by omega, by rw [if_pos (by omega)]⟩
  · rw [nth_set (by omega)] at hp
    split at hp
    · exact ⟨k, by omega, by omega⟩
    · obtain ⟨i, hi, e⟩ := h2 v hv hp
      exact ⟨i, by omega, e⟩

end Go.Proofs.Ymbrdr
