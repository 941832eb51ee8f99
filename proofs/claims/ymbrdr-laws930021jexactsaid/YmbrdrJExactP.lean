/- Plain laws behind JExact. -/
import Derived.Test.YmbrdrJSimple
namespace Go.Proofs.Ymbrdr
open Go.ChangeShapes Go.WideShapes Go.ChangeAt Go.RowKit
set_option linter.unusedVariables false
set_option linter.unusedSimpArgs false

theorem bk_marks {n : Nat} {gs : List (Int × Int)} {os : List Int} {tk bs : List Bool} (h : Peeled n gs os tk) (hr : Rng n gs) (ha : ∀ v : Nat, v < n → (nthB bs v = true ↔ Alive gs n v)) (v : Int) : bk gs (mark bs) v = bk gs (left tk) v := by
  refine bk_congr (fun k hk => ?_) v
  have hf := (hr k hk).1
  obtain ⟨x, hx⟩ := Int.eq_ofNat_of_zero_le hf.1
  rw [hx] at hf ⊢
  unfold mark left
  rw [show ((x : Int)).toNat = x by omega]
  have h1 := (ha x (by omega)).trans (h.alive hr (show x < n by omega))
  cases hb : nthB bs x <;> cases ht : nthB tk x
  · rw [hb, ht] at h1; simp at h1
  · rfl
  · rfl
  · rw [hb, ht] at h1; simp at h1
theorem FCyc.dec {f : Int → Int} {c : List Int} (h : FCyc f c) {i : Nat} (hi : i + 1 < c.length) : f (nth c (i + 1)) = nth c i := by
  have := h i (by omega)
  rwa [nxt_mid hi] at this
theorem FCyc.zero {f : Int → Int} {c : List Int} (h : FCyc f c) (h0 : 0 < c.length) : f (nth c 0) = nth c (c.length - 1) := by
  have := h (c.length - 1) (by omega)
  rwa [nxt_last (by omega) (by omega)] at this
theorem FCyc.mem {f : Int → Int} {c : List Int} (h : FCyc f c) {i : Nat} (hi : i < c.length) : ∃ j, j < c.length ∧ f (nth c i) = nth c j := by
  cases i with
  | zero => exact ⟨c.length - 1, by omega, h.zero hi⟩
  | succ i => exact ⟨i, by omega, h.dec hi⟩
theorem CycFacts.mem {n : Nat} {gs : List (Int × Int)} {m : Int → Bool} {v : Int} {c : List Int} (h : CycFacts n (bk gs m) (itr gs m v) c) (d : Nat) : ∃ i, i < c.length ∧ itr gs m v (n + d) = nth c i := by
  obtain ⟨s, hs, i0, hi0, e0⟩ := h.on
  have key : ∀ d, ∃ i, i < c.length ∧ itr gs m v (s + d) = nth c i := by
    intro d
    induction d with
    | zero => exact ⟨i0, hi0, e0.symm⟩
    | succ d ih =>
      obtain ⟨i, hi, e⟩ := ih
      rw [← Nat.add_assoc, itr_succ, e]
      obtain ⟨j, hj, e2⟩ := h.back.mem hi
      exact ⟨j, hj, e2⟩
  have := key (n - s + d)
  rwa [show s + (n - s + d) = n + d by omega] at this
theorem CycFacts.reach {n : Nat} {gs : List (Int × Int)} {m : Int → Bool} {v : Int} {c : List Int} (h : CycFacts n (bk gs m) (itr gs m v) c) : ∃ d, d ≤ n ∧ itr gs m v (n + d) = nth c 0 := by
  obtain ⟨i, hi, e⟩ := h.mem 0
  have key : ∀ i, i < c.length → ∀ j, itr gs m v j = nth c i → itr gs m v (j + i) = nth c 0 := by
    intro i
    induction i with
    | zero => intro _ j e; exact e
    | succ i ih =>
      intro hi j e
      have := ih (by omega) (j + 1) (by rw [itr_succ, e, h.back.dec hi])
      rwa [show j + 1 + i = j + (i + 1) by omega] at this
  exact ⟨i, by have := h.le; omega, key i hi (n + 0) e⟩
/-- the least of the vertices met in the k steps behind n -/
def LeastTo (it : Nat → Int) (n k : Nat) (x : Int) : Prop := (∃ d, d ≤ k ∧ x = it (n + d)) ∧ ∀ d, d ≤ k → x ≤ it (n + d)
theorem LeastTo.step {it : Nat → Int} {n k : Nat} {x : Int} (h : LeastTo it n k x) : LeastTo it n (k + 1) (if it (n + (k + 1)) < x then it (n + (k + 1)) else x) := by
  obtain ⟨⟨d, hd, e⟩, h2⟩ := h
  split
  · rename_i hlt
    refine ⟨⟨k + 1, Nat.le_refl _, rfl⟩, fun d' hd' => ?_⟩
    rcases Nat.lt_or_ge d' (k + 1) with h | h
    · have := h2 d' (by omega); omega
    · rw [show d' = k + 1 by omega]; exact Int.le_refl _
  · rename_i hge
    refine ⟨⟨d, by omega, e⟩, fun d' hd' => ?_⟩
    rcases Nat.lt_or_ge d' (k + 1) with h | h
    · exact h2 d' (by omega)
    · rw [show d' = k + 1 by omega]; omega
theorem CycFacts.leastTo {n : Nat} {gs : List (Int × Int)} {m : Int → Bool} {v : Int} {c : List Int} (h : CycFacts n (bk gs m) (itr gs m v) c) {x : Int} (hx : LeastTo (itr gs m v) n n x) : x = nth c 0 := by
  obtain ⟨⟨d, hd, e⟩, h2⟩ := hx
  obtain ⟨d2, hd2, e2⟩ := h.reach
  have h3 := h2 d2 hd2
  obtain ⟨i, hi, e3⟩ := h.mem d
  have h4 := h.least i hi
  rw [e2] at h3
  omega
/-- where the walk back around c stands behind t steps -/
def backAt (c : List Int) (t : Nat) : Int := if t = 0 then nth c 0 else nth c (c.length - t)
theorem backAt_succ {f : Int → Int} {c : List Int} (h : FCyc f c) {t : Nat} (ht : t < c.length) : f (backAt c t) = nth c (c.length - 1 - t) ∧ backAt c (t + 1) = nth c (c.length - 1 - t) := by
  constructor
  · unfold backAt
    split
    · rename_i e
      subst e
      rw [h.zero (by omega)]; rfl
    · have := h.dec (i := c.length - 1 - t) (by omega)
      rw [show c.length - 1 - t + 1 = c.length - t by omega] at this
      exact this
  · unfold backAt
    rw [if_neg (by omega)]
    congr 1; omega
end Go.Proofs.Ymbrdr
