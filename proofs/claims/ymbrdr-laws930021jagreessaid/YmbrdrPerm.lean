/- Plain facts on permutations of 0..n-1. -/
import Derived.Test.YmbrdrPermDef
namespace Go.Proofs.Ymbrdr

theorem inj_surj (n : Nat) (f : Nat → Nat) (hr : ∀ i, i < n → f i < n) (hi : ∀ i j, i < j → j < n → f i ≠ f j) : ∀ v, v < n → ∃ i, i < n ∧ f i = v := by
  induction n generalizing f with
  | zero => intro v hv; omega
  | succ n ih =>
    intro v hv
    have hfn := hr n (by omega)
    have key := ih (fun i => if f i = n then f n else f i) (fun i h => by
        have h1 := hr i (by omega)
        have h2 := hi i n h (by omega)
        show (if f i = n then f n else f i) < n
        split <;> omega) (fun i j hij hj => by
        have h1 := hi i j hij (by omega)
        have h2 := hi i n (by omega) (by omega)
        have h3 := hi j n hj (by omega)
        show (if f i = n then f n else f i) ≠ (if f j = n then f n else f j)
        split <;> split <;> omega)
    by_cases hva : v = f n
    · exact ⟨n, by omega, hva.symm⟩
    · by_cases hvn : v = n
      · obtain ⟨i, hi1, hi2⟩ := key (f n) (by omega)
        have hi2' : (if f i = n then f n else f i) = f n := hi2
        have h2 := hi i n hi1 (by omega)
        split at hi2'
        · exact ⟨i, by omega, by omega⟩
        · exact absurd hi2' h2
      · obtain ⟨i, hi1, hi2⟩ := key v (by omega)
        have hi2' : (if f i = n then f n else f i) = v := hi2
        split at hi2'
        · exact absurd hi2'.symm hva
        · exact ⟨i, by omega, hi2'⟩

theorem IsPerm.surj {n : Int} {xs : List Int} (h : IsPerm n xs) (v : Nat) (hv : v < xs.length) : ∃ i, i < xs.length ∧ nth xs i = v := by
  obtain ⟨h0, h1, h2⟩ := h
  obtain ⟨i, hi, e⟩ := inj_surj xs.length (fun i => (nth xs i).toNat) (fun i hi => by have := h1 i hi; show (nth xs i).toNat < _; omega)
    (fun i j hij hj => by
      have a := h1 i (by omega); have b := h1 j hj; have c := h2 i j hij hj
      show (nth xs i).toNat ≠ (nth xs j).toNat
      omega) v hv
  have a := h1 i hi
  have e' : (nth xs i).toNat = v := e
  exact ⟨i, hi, by omega⟩

theorem IsPerm.inj {n : Int} {xs : List Int} (h : IsPerm n xs) {i j : Nat} (hi : i < xs.length) (hj : j < xs.length) (e : nth xs i = nth xs j) : i = j := by
  rcases Nat.lt_trichotomy i j with h' | h' | h'
  · exact absurd e (h.2.2 i j h' hj)
  · exact h'
  · exact absurd e.symm (h.2.2 j i h' hi)

/-- The inverse of the inverse. -/
theorem PosOf.symm {xs ps : List Int} (h : PosOf xs ps) : PosOf ps xs := by
  have hp := h.perm
  refine ⟨h.1.symm, fun v hv => ?_⟩
  rw [h.1] at hv
  obtain ⟨i, hi, e⟩ := hp.surj v hv
  obtain ⟨a, b, c⟩ := h.2 i hi
  rw [e] at c
  simp only [Int.toNat_natCast] at c
  rw [c]
  refine ⟨by omega, by rw [h.1]; omega, ?_⟩
  simp only [Int.toNat_natCast]
  exact e

theorem PosOf.uniq {xs ps qs : List Int} (h : PosOf xs ps) (h' : PosOf xs qs) : ps = qs := by
  apply List.ext_getElem (by rw [h.1, h'.1])
  intro v h1 h2
  rw [← nth_eq h1, ← nth_eq h2]
  obtain ⟨i, hi, e⟩ := h.perm.surj v (by rw [← h.1]; exact h1)
  have a := (h.2 i hi).2.2
  have b := (h'.2 i hi).2.2
  rw [e] at a b
  simp only [Int.toNat_natCast] at a b
  rw [a, b]

/-- How often v stands among the first k. -/
def cntTo (xs : List Int) (v : Int) : Nat → Nat
  | 0 => 0
  | k + 1 => cntTo xs v k + if nth xs k = v then 1 else 0
theorem cntTo_succ (xs : List Int) (v : Int) (k : Nat) : cntTo xs v (k + 1) = cntTo xs v k + if nth xs k = v then 1 else 0 := rfl
theorem cntTo_le (xs : List Int) (v : Int) (k : Nat) : cntTo xs v k ≤ k := by
  induction k with
  | zero => simp [cntTo]
  | succ k ih => rw [cntTo_succ]; split <;> omega
theorem cnt_pos (xs : List Int) (v : Int) (k : Nat) (h : 0 < cntTo xs v k) : ∃ i, i < k ∧ nth xs i = v := by
  induction k with
  | zero => simp [cntTo] at h
  | succ k ih =>
    rw [cntTo_succ] at h
    split at h
    · exact ⟨k, by omega, by assumption⟩
    · obtain ⟨i, hi, e⟩ := ih (by omega)
      exact ⟨i, by omega, e⟩
theorem cnt_mem (xs : List Int) (v : Int) (k i : Nat) (hi : i < k) (e : nth xs i = v) : 0 < cntTo xs v k := by
  induction k with
  | zero => omega
  | succ k ih =>
    rw [cntTo_succ]
    rcases Nat.lt_or_ge i k with h | h
    · have := ih h; omega
    · obtain rfl : i = k := by omega
      rw [if_pos e]; omega
theorem cnt_two (xs : List Int) (v : Int) (k i j : Nat) (hij : i < j) (hj : j < k) (e : nth xs i = v) (e' : nth xs j = v) : 2 ≤ cntTo xs v k := by
  induction k with
  | zero => omega
  | succ k ih =>
    rw [cntTo_succ]
    rcases Nat.lt_or_ge j k with h | h
    · have := ih h; omega
    · obtain rfl : j = k := by omega
      have := cnt_mem xs v j i hij e
      rw [if_pos e']; omega
theorem cnt_none (xs : List Int) (v : Int) (k : Nat) (h : ∀ i, i < k → nth xs i ≠ v) : cntTo xs v k = 0 := by
  rcases Nat.eq_zero_or_pos (cntTo xs v k) with h0 | h0
  · exact h0
  · obtain ⟨i, hi, e⟩ := cnt_pos xs v k h0
    exact absurd e (h i hi)
theorem cnt_one (xs : List Int) (v : Int) (k i : Nat) (hi : i < k) (e : nth xs i = v) (h : ∀ j, j < k → nth xs j = v → j = i) : cntTo xs v k = 1 := by
  induction k with
  | zero => omega
  | succ k ih =>
    rw [cntTo_succ]
    rcases Nat.lt_or_ge i k with h' | h'
    · rw [ih h' (fun j hj => h j (by omega)), if_neg (fun e' => by have := h k (by omega) e'; omega)]
    · obtain rfl : i = k := by omega
      rw [cnt_none xs v i (fun j hj e' => by have := h j (by omega) e'; omega), if_pos e]

theorem perm_iff (xs : List Int) : IsPerm xs.length xs ↔ ∀ v : Nat, v < xs.length → cntTo xs v xs.length = 1 := by
  constructor
  · intro h v hv
    obtain ⟨i, hi, e⟩ := h.surj v hv
    exact cnt_one xs v xs.length i hi e (fun j hj e' => h.inj hj hi (by rw [e', e]))
  · intro h
    have hex : ∀ v, v < xs.length → ∃ i, i < xs.length ∧ nth xs i = (v : Int) := fun v hv => cnt_pos xs v xs.length (by rw [h v hv]; omega)
    have hpos : ∃ p : Nat → Nat, ∀ v, v < xs.length → p v < xs.length ∧ nth xs (p v) = (v : Int) := by
      refine ⟨fun v => if hv : v < xs.length then Classical.choose (hex v hv) else 0, fun v hv => ?_⟩
      simp only [hv, dif_pos]
      exact Classical.choose_spec (hex v hv)
    obtain ⟨p, hp⟩ := hpos
    have hs := inj_surj xs.length p (fun v hv => (hp v hv).1) (fun i j hij hj e => by
      have a := (hp i (by omega)).2
      have b := (hp j hj).2
      rw [e, b] at a
      omega)
    refine ⟨rfl, fun i hi => ?_, fun i j hij hj e => ?_⟩
    · obtain ⟨v, hv, e⟩ := hs i hi
      have := (hp v hv).2
      rw [e] at this
      omega
    · obtain ⟨v, hv, ev⟩ := hs j hj
      have := (hp v hv).2
      rw [ev] at this
      have h2 := cnt_two xs v xs.length i j hij hj (by rw [e, this]) this
      have h1 := h v hv
      omega

theorem perm_set {xs : List Int} {k : Nat} {x : Int} (h : IsPerm xs.length xs) (hk : k < xs.length) (hx : x ≠ nth xs k) : ¬ IsPerm xs.length (xs.set k x) := by
  intro h'
  have hl : (xs.set k x).length = xs.length := by simp
  have a := h'.2.1 k (by omega)
  rw [nth_set hk, if_pos rfl] at a
  obtain ⟨i, hi, e⟩ := h.surj x.toNat (by omega)
  have hik : i ≠ k := by
    intro e'; subst e'; omega
  have b := h'.inj (i := i) (j := k) (by omega) (by omega) (by rw [nth_set hk, nth_set hk, if_pos rfl, if_neg (by omega), e]; omega)
  exact hik b
end Go.Proofs.Ymbrdr
