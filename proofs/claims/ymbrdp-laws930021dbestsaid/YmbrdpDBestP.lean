/- Plain laws behind DBest. -/
import Derived.Test.YmbrdpDPlain
namespace Go.Proofs.Ymbrdp
open Go.ChangeShapes Go.WideShapes Go.ChangeAt Go.RowKit
set_option linter.unusedVariables false
set_option linter.unusedSimpArgs false

/-- the first i places hold 0..i-1, each once -/
def PermTo (cs : List Int) (i : Nat) : Prop := (∀ t, t < i → 0 ≤ nth cs t ∧ nth cs t < i) ∧ ∀ s t, s < t → t < i → nth cs s ≠ nth cs t
/-- the places j+1..i hold what stood one place before -/
def Sh (cs ds : List Int) (i j : Nat) : Prop := ∀ t, t < cs.length → nth ds t = if j < t ∧ t ≤ i then nth cs (t - 1) else nth cs t
theorem Sh.start (cs : List Int) (i : Nat) : Sh cs cs i i := fun t ht => by rw [if_neg (by omega)]
theorem Sh.step {cs ds : List Int} {i j : Nat} (h : Sh cs ds i j) (hl : ds.length = cs.length) (hj : 0 < j) (hji : j ≤ i) (hi : i < cs.length) {v : Int} (hv : v = nth ds (j - 1)) : Sh cs (ds.set j v) i (j - 1) := by
  intro t ht
  subst hv
  rw [nth_set (by omega)]
  by_cases e : j = t
  · subst e
    rw [if_pos rfl, if_pos (by omega), h _ (by omega), if_neg (by omega)]
  · rw [if_neg e, h t ht]
    by_cases h1 : j < t ∧ t ≤ i
    · rw [if_pos h1, if_pos (by omega)]
    · rw [if_neg h1, if_neg (by omega)]
theorem PermTo.ins {cs ds : List Int} {i a : Nat} (h : PermTo cs i) (hs : Sh cs ds i a) (hl : ds.length = cs.length) (ha : a ≤ i) (hi : i < cs.length) : PermTo (ds.set a (i : Int)) (i + 1) := by
  have key : ∀ t, t < i + 1 → nth (ds.set a (i : Int)) t = if a = t then (i : Int) else if a < t then nth cs (t - 1) else nth cs t := by
    intro t ht
    rw [nth_set (by omega)]
    by_cases e : a = t
    · rw [if_pos e, if_pos e]
    · rw [if_neg e, if_neg e, hs t (by omega)]
      by_cases h1 : a < t
      · rw [if_pos ⟨h1, by omega⟩, if_pos h1]
      · rw [if_neg (by omega), if_neg h1]
  obtain ⟨h1, h2⟩ := h
  refine ⟨fun t ht => ?_, fun s t hst ht => ?_⟩
  · rw [key t ht]
    split
    · omega
    · split
      · have := h1 (t - 1) (by omega); omega
      · have := h1 t (by omega); omega
  · rw [key s (by omega), key t ht]
    split
    · rename_i e
      rw [if_neg (by omega), if_pos (by omega)]
      have := h1 (t - 1) (by omega); omega
    · rename_i e
      split
      · rw [if_neg (by omega), if_pos (by omega)]
        exact h2 (s - 1) (t - 1) (by omega) (by omega)
      · split
        · have := h1 s (by omega); omega
        · split
          · exact h2 s (t - 1) (by omega) (by omega)
          · exact h2 s t hst (by omega)
theorem PermTo.perm {cs : List Int} (h : PermTo cs cs.length) : IsPerm cs.length cs := ⟨rfl, h.1, h.2⟩

/-- every edge leads forward along cs -/
def Along (cs : List Int) (es : List (Int × Int)) : Prop := AllE (fun f t => ∃ a b, a < b ∧ b < cs.length ∧ f = nth cs a ∧ t = nth cs b) es
theorem Along.rng {cs : List Int} {es : List (Int × Int)} (h : Along cs es) (hp : PermTo cs cs.length) : Rng cs.length es := fun k hk => by
  obtain ⟨a, b, hab, hb, e1, e2⟩ := h k hk
  rw [e1, e2]
  exact ⟨hp.1 a (by omega), hp.1 b hb⟩
theorem PermTo.inj {cs : List Int} {n : Nat} (hp : PermTo cs n) {i j : Nat} (hi : i < n) (hj : j < n) (e : nth cs i = nth cs j) : i = j := by
  rcases Nat.lt_trichotomy i j with h | h | h
  · exact absurd e (hp.2 i j h hj)
  · exact h
  · exact absurd e.symm (hp.2 j i h hi)
theorem Along.rank {cs : List Int} {es : List (Int × Int)} (h : Along cs es) (hp : PermTo cs cs.length) : ∃ r : Int → Nat, AllE (fun f t => r f < r t) es := by
  classical
  refine ⟨fun v => if hv : ∃ i, i < cs.length ∧ nth cs i = v then Classical.choose hv else 0, fun k hk => ?_⟩
  obtain ⟨a, b, hab, hb, e1, e2⟩ := h k hk
  have x1 : ∃ i, i < cs.length ∧ nth cs i = nthF es k := ⟨a, by omega, e1.symm⟩
  have x2 : ∃ i, i < cs.length ∧ nth cs i = nthT es k := ⟨b, hb, e2.symm⟩
  show (if hv : ∃ i, i < cs.length ∧ nth cs i = nthF es k then Classical.choose hv else 0) < (if hv : ∃ i, i < cs.length ∧ nth cs i = nthT es k then Classical.choose hv else 0)
  rw [dif_pos x1, dif_pos x2]
  have c1 := Classical.choose_spec x1
  have c2 := Classical.choose_spec x2
  have d1 := hp.inj c1.1 (show a < cs.length by omega) (by rw [c1.2, e1])
  have d2 := hp.inj c2.1 hb (by rw [c2.2, e2])
  omega
theorem Peeled.of_along {cs : List Int} {es : List (Int × Int)} {os : List Int} {tk : List Bool} (h : Peeled cs.length (insAll es) os tk) (ha : Along cs es) (hp : PermTo cs cs.length) : os.length = cs.length := by
  obtain ⟨r, hr⟩ := ha.rank hp
  refine h.full (h.all (ha.rng hp).ins r (fun k hk => ?_))
  obtain ⟨j, hj, e1, e2⟩ := ins_of hk
  have := hr j hj
  rw [e1, e2] at this
  exact this
/-- at the first place where they part the order is smaller -/
theorem best {cs : List Int} {es : List (Int × Int)} {os : List Int} (hl : Least os es) (ha : Along cs es) (hp : PermTo cs cs.length) (hol : os.length = cs.length) {i : Nat} (hi : i < cs.length) (heq : ∀ j, j < i → nth os j = nth cs j) (hne : nth os i ≠ nth cs i) : nth os i < nth cs i := by
  refine Int.not_le.1 fun hle => ?_
  have h0 := hp.1 i hi
  obtain ⟨v, hv⟩ := Int.eq_ofNat_of_zero_le h0.1
  refine hl i (by omega) v (by omega) ⟨?_, fun k hk e => ?_⟩
  · rintro ⟨j, hj, e⟩
    rw [heq j hj, ← hv] at e
    have := hp.inj (by omega) hi e
    omega
  · obtain ⟨a, b, hab, hb, e1, e2⟩ := ha k hk
    rw [e, ← hv] at e2
    have := hp.inj hi hb e2
    exact ⟨a, by omega, by rw [heq a (by omega), e1]⟩
end Go.Proofs.Ymbrdp
