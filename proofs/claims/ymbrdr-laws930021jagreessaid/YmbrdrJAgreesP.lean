/- Plain laws behind JAgrees. -/
import Derived.Test.YmbrdrJSimple
import Derived.Test.YmbrdrLReverse
namespace Go.Proofs.Ymbrdr
open Go.ChangeShapes Go.WideShapes Go.ChangeAt Go.RowKit
set_option linter.unusedVariables false
set_option linter.unusedSimpArgs false

theorem Peeled.full_taken {n : Nat} {gs : List (Int × Int)} {os : List Int} {tk : List Bool} (h : Peeled n gs os tk) (hl : os.length = n) {v : Nat} (hv : v < n) : nthB tk v = true := by
  have hp := h.perm hl
  have hp' : IsPerm os.length os := by rw [hl]; exact hp
  obtain ⟨i, hi, e⟩ := hp'.surj v (by omega)
  exact (h.tko v hv).2 ⟨i, hi, e⟩
theorem Peeled.tk_eq {n : Nat} {gs : List (Int × Int)} {os os' : List Int} {tk tk' : List Bool} (h : Peeled n gs os tk) (h' : Peeled n gs os' tk') (hr : Rng n gs) {v : Nat} (hv : v < n) : nthB tk v = nthB tk' v := by
  have := (h.alive hr hv).symm.trans (h'.alive hr hv)
  cases h1 : nthB tk v <;> cases h2 : nthB tk' v
  · rfl
  · rw [h1, h2] at this; simp at this
  · rw [h1, h2] at this; simp at this
  · rfl
theorem Peeled.full_same {n : Nat} {gs : List (Int × Int)} {os os' : List Int} {tk tk' : List Bool} (h : Peeled n gs os tk) (h' : Peeled n gs os' tk') (hr : Rng n gs) (hl : os.length = n) : os'.length = n := by
  refine Classical.byContradiction fun hno => ?_
  obtain ⟨v, hv, e⟩ := h'.some_left hno
  rw [← h.tk_eq h' hr hv, h.full_taken hl hv] at e
  cases e
theorem Peeled.full_trE {n : Nat} {gs : List (Int × Int)} {os os' : List Int} {tk tk' : List Bool} (h : Peeled n gs os tk) (h' : Peeled n (trE gs) os' tk') (hr : Rng n gs) (hr' : Rng n (trE gs)) (hl : os.length = n) : os'.length = n := by
  have hp := h.perm hl
  have hs : ∀ v : Nat, v < n → ∃ i, i < os.length ∧ nth os i = v := fun v hv => by
    have hp' : IsPerm os.length os := by rw [hl]; exact hp
    exact hp'.surj v (by omega)
  refine h'.full (h'.all hr' (fun v => if hv : v.toNat < n then n - Classical.choose (hs v.toNat hv) else 0) (fun k hk => ?_))
  obtain ⟨⟨a1, a2⟩, b1, b2⟩ := hr' k hk
  have x1 : (nthF (trE gs) k).toNat < n := by omega
  have x2 : (nthT (trE gs) k).toNat < n := by omega
  simp only [x1, x2, dif_pos]
  have c1 := Classical.choose_spec (hs _ x1)
  have c2 := Classical.choose_spec (hs _ x2)
  have hm : (nthT (trE gs) k, nthF (trE gs) k) ∈ gs := mem_trE.1 (mem_nthE.2 ⟨k, hk, rfl⟩)
  obtain ⟨j, hj, e⟩ := mem_nthE.1 hm
  have e1 : nthF gs j = nthT (trE gs) k := congrArg Prod.fst e
  have e2 : nthT gs j = nthF (trE gs) k := congrArg Prod.snd e
  have := h.before hj c2.1 c1.1 (by rw [c2.2, e1]; omega) (by rw [c1.2, e2]; omega)
  have h3 := c1.1
  have h4 := c2.1
  omega
theorem FirstU.unique {n : Nat} {tk tk' : List Bool} {v v' : Nat} (h : FirstU n tk v) (h' : FirstU n tk' v') (he : ∀ u, u < n → nthB tk u = nthB tk' u) : v = v' := by
  rcases Nat.lt_trichotomy v v' with h1 | h1 | h1
  · have h2 := h'.2.2 v h1
    rw [← he v h.1, h.2.1] at h2; cases h2
  · exact h1
  · have h2 := h.2.2 v' h1
    rw [he v' h'.1, h'.2.1] at h2; cases h2
theorem CycAns.again {n : Nat} {gs : List (Int × Int)} {os os' : List Int} {tk tk' : List Bool} (h : Peeled n gs os tk) (h' : Peeled n gs os' tk') (hr : Rng n gs) {v v' : Nat} (hf : FirstU n tk v) (hf' : FirstU n tk' v') {c c' : List Int} (hc : CycAns n (itr gs (left tk) v) c) (hc' : CycAns n (itr gs (left tk') v') c') : c' = c := by
  have he : ∀ u, u < n → nthB tk u = nthB tk' u := fun u hu => h.tk_eq h' hr hu
  obtain rfl := hf.unique hf' he
  have : itr gs (left tk') v = itr gs (left tk) v := funext fun i => itr_congr (fun k hk => by
    have hx := (hr k hk).1
    unfold left
    rw [he (nthF gs k).toNat (by omega)]) _ i
  rw [this] at hc'
  exact hc'.unique hc
theorem CycAns.isCyc {n : Nat} {gs : List (Int × Int)} {os : List Int} {tk : List Bool} (h : Peeled n gs os tk) (hr : Rng n gs) {v0 : Nat} (hf : FirstU n tk v0) {c : List Int} (hc : CycAns n (itr gs (left tk) v0) c) : IsCyc gs c := hc.facts.isCyc h hr hf.inU
end Go.Proofs.Ymbrdr
