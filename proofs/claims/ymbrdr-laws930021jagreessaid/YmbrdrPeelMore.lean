/- More plain facts on what peel answers. -/
import Derived.Test.YmbrdrPeelPlain
namespace Go.Proofs.Ymbrdr

theorem inj_le (n m : Nat) (f : Nat → Nat) (hr : ∀ i, i < n → f i < m) (hi : ∀ i j, i < j → j < n → f i ≠ f j) : n ≤ m := by
  rcases Nat.lt_or_ge m n with h | h
  · obtain ⟨i, h1, h2⟩ := inj_surj n f (fun i hi => by have := hr i hi; omega) hi m h
    have := hr i h1
    omega
  · exact h

theorem nthF_snoc_lt {es : List (Int × Int)} {y : Int × Int} {i : Nat} (h : i < es.length) : nthF (es ++ [y]) i = nthF es i := by
  rw [nthF_eq h, nthF_eq (by simp; omega), List.getElem_append_left h]
theorem nthT_snoc_lt {es : List (Int × Int)} {y : Int × Int} {i : Nat} (h : i < es.length) : nthT (es ++ [y]) i = nthT es i := by
  rw [nthT_eq h, nthT_eq (by simp; omega), List.getElem_append_left h]
theorem nthF_snoc_eq {es : List (Int × Int)} {y : Int × Int} : nthF (es ++ [y]) es.length = y.1 := by
  rw [nthF_eq (by simp)]; simp
theorem nthT_snoc_eq {es : List (Int × Int)} {y : Int × Int} : nthT (es ++ [y]) es.length = y.2 := by
  rw [nthT_eq (by simp)]; simp

/-- a property of every edge -/
def AllE (p : Int → Int → Prop) (es : List (Int × Int)) : Prop := ∀ k, k < es.length → p (nthF es k) (nthT es k)
theorem AllE.snoc {p : Int → Int → Prop} {es : List (Int × Int)} {y : Int × Int} (h : AllE p es) (hy : p y.1 y.2) : AllE p (es ++ [y]) := by
  intro k hk
  rcases Nat.lt_or_ge k es.length with h' | h'
  · rw [nthF_snoc_lt h', nthT_snoc_lt h']; exact h k h'
  · obtain rfl : k = es.length := by simp at hk; omega
    rw [nthF_snoc_eq, nthT_snoc_eq]; exact hy

/-- where every edge raises a rank, all vertices are taken -/
theorem Peeled.all {n : Nat} {es : List (Int × Int)} {os : List Int} {tk : List Bool} (h : Peeled n es os tk) (hr : Rng n es) (r : Int → Nat) (hrank : AllE (fun f t => r f < r t) es) : ∀ v : Nat, v < n → Among os os.length v := by
  have key : ∀ m v : Nat, r v ≤ m → v < n → Among os os.length v := by
    intro m
    induction m with
    | zero =>
      intro v hv hvn
      refine Classical.byContradiction fun hna => h.stuck v hvn ⟨hna, fun k hk e => ?_⟩
      have := hrank k hk
      rw [e] at this
      omega
    | succ m ih =>
      intro v hv hvn
      refine Classical.byContradiction fun hna => h.stuck v hvn ⟨hna, fun k hk e => ?_⟩
      have h1 := hrank k hk
      rw [e] at h1
      have h2 := (hr k hk).1
      obtain ⟨u, hu⟩ := Int.eq_ofNat_of_zero_le h2.1
      rw [hu] at h1 h2 ⊢
      exact ih u (by omega) (by omega)
  exact fun v hv => key _ v (Nat.le_refl _) hv

theorem Peeled.full {n : Nat} {es : List (Int × Int)} {os : List Int} {tk : List Bool} (h : Peeled n es os tk) (ha : ∀ v : Nat, v < n → Among os os.length v) : os.length = n := by
  have hp : ∃ p : Nat → Nat, ∀ v, v < n → p v < os.length ∧ nth os (p v) = (v : Int) := by
    refine ⟨fun v => if hv : v < n then Classical.choose (ha v hv) else 0, fun v hv => ?_⟩
    simp only [hv, dif_pos]
    exact Classical.choose_spec (ha v hv)
  obtain ⟨p, hp⟩ := hp
  have h1 := inj_le n os.length p (fun v hv => (hp v hv).1) (fun i j hij hj e => by
    have a := (hp i (by omega)).2
    have b := (hp j hj).2
    rw [e, b] at a
    omega)
  have h2 := h.osl
  omega

/-- where all edges lead upwards the order is 0, 1, .. -/
theorem Peeled.up {n : Nat} {es : List (Int × Int)} {os : List Int} {tk : List Bool} (h : Peeled n es os tk) (hr : Rng n es) (hup : AllE (fun f t => f < t) es) : ∀ i, i < os.length → nth os i = i := by
  intro i
  induction i using Nat.strongRecOn with
  | _ i ih =>
    intro hi
    have hrng := h.rng i hi
    have hfree : Free es os i (i : Int) := by
      refine ⟨fun ⟨j, hj, e⟩ => ?_, fun k hk e => ?_⟩
      · have := ih j hj (by omega)
        omega
      · have h1 := hup k hk
        rw [e] at h1
        have h2 := (hr k hk).1
        obtain ⟨u, hu⟩ := Int.eq_ofNat_of_zero_le h2.1
        rw [hu] at h1 ⊢
        exact ⟨u, by omega, ih u (by omega) (by omega)⟩
    rcases Int.lt_trichotomy (nth os i) i with h1 | h1 | h1
    · obtain ⟨v, hv⟩ := Int.eq_ofNat_of_zero_le hrng.1
      exact absurd ⟨v, by omega, by rw [ih v (by omega) (by omega), hv]⟩ (h.free i hi).1
    · exact h1
    · exact absurd hfree (h.least i hi i h1)
end Go.Proofs.Ymbrdr
