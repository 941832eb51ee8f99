/- Plain laws behind DExact and DBest. -/
import Derived.Test.YmbrdpDCyc
import Derived.Test.YmbrdpDGreedy
import Derived.Test.YmbrdpGFrom
namespace Go.Proofs.Ymbrdp
open Go.ChangeShapes Go.WideShapes Go.ChangeAt Go.RowKit
set_option linter.unusedVariables false
set_option linter.unusedSimpArgs false

/-- the place in a list of edges, of an edge that stands in the set made of them -/
theorem ins_of {es : List (Int × Int)} {k : Nat} (hk : k < (insAll es).length) : ∃ j, j < es.length ∧ nthF es j = nthF (insAll es) k ∧ nthT es j = nthT (insAll es) k := by
  obtain ⟨j, hj, e⟩ := mem_nthE.1 (mem_insAll.1 (mem_nthE.2 ⟨k, hk, rfl⟩))
  exact ⟨j, hj, congrArg Prod.fst e, congrArg Prod.snd e⟩
theorem ins_to {es : List (Int × Int)} {k : Nat} (hk : k < es.length) : ∃ j, j < (insAll es).length ∧ nthF (insAll es) j = nthF es k ∧ nthT (insAll es) j = nthT es k := by
  obtain ⟨j, hj, e⟩ := mem_nthE.1 (mem_insAll.2 (mem_nthE.2 ⟨k, hk, rfl⟩))
  exact ⟨j, hj, congrArg Prod.fst e, congrArg Prod.snd e⟩
theorem AllIn.rng {n : Nat} {es : List (Int × Int)} (h : AllIn n es) : Rng n es := fun k hk => by
  have := inB_true.1 (h k hk)
  omega
theorem Rng.ins {n : Nat} {es : List (Int × Int)} (h : Rng n es) : Rng n (insAll es) := fun k hk => by
  obtain ⟨j, hj, e1, e2⟩ := ins_of hk
  have := h j hj
  rw [e1, e2] at this
  exact this
theorem free_ins {es : List (Int × Int)} {os : List Int} {i : Nat} {v : Int} : Free (insAll es) os i v ↔ Free es os i v := by
  unfold Free
  refine and_congr Iff.rfl ⟨fun h k hk e => ?_, fun h k hk e => ?_⟩
  · obtain ⟨j, hj, e1, e2⟩ := ins_to hk
    rw [← e1]; exact h j hj (by rw [e2]; exact e)
  · obtain ⟨j, hj, e1, e2⟩ := ins_of hk
    rw [← e1]; exact h j hj (by rw [e2]; exact e)
theorem Peeled.leastE {n : Nat} {es : List (Int × Int)} {os : List Int} {tk : List Bool} (h : Peeled n (insAll es) os tk) : Least os es := fun i hi v hv hf => h.least i hi v hv (free_ins.2 hf)
theorem Peeled.fwdE {n : Nat} {es : List (Int × Int)} {os : List Int} {tk : List Bool} (h : Peeled n (insAll es) os tk) : Fwd os es := fun k i j hk hi hj e1 e2 => by
  obtain ⟨m, hm, f1, f2⟩ := ins_to hk
  exact h.before hm hi hj (by rw [f1]; exact e1) (by rw [f2]; exact e2)
/-- a rank: all are listed -/
theorem Peeled.of_okay {n : Nat} {es : List (Int × Int)} {os : List Int} {tk : List Bool} (h : Peeled n (insAll es) os tk) (hr : Rng n es) {ls : List Int} (h0 : ∀ v, v < n → 0 ≤ nth ls v) (hk : ∀ k, k < es.length → Okay es ls k) : os.length = n := by
  refine h.full (h.all hr.ins (fun v => (nth ls v.toNat).toNat) (fun k hk' => ?_))
  obtain ⟨j, hj, e1, e2⟩ := ins_of hk'
  have h1 := hk j hj
  unfold Okay at h1
  have h2 := hr j hj
  have h3 := h0 (nthF es j).toNat (by omega)
  have h4 := h0 (nthT es j).toNat (by omega)
  rw [e1, e2] at h1
  rw [e1] at h3
  rw [e2] at h4
  show (nth ls (nthF (insAll es) k).toNat).toNat < (nth ls (nthT (insAll es) k).toNat).toNat
  omega
theorem Peeled.rank {n : Nat} {es : List (Int × Int)} {os : List Int} {tk : List Bool} (h : Peeled n (insAll es) os tk) (hr : Rng n es) (hl : os.length = n) : ∃ p, Rank n es p := by
  have hp := h.perm hl
  have hs : ∀ v : Nat, v < n → ∃ i, i < os.length ∧ nth os i = v := fun v hv => by
    have hp' : IsPerm os.length os := by rw [hl]; exact hp
    exact hp'.surj v (by omega)
  refine ⟨fun v => if hv : v < n then Classical.choose (hs v hv) else 0, fun k hk => ?_⟩
  obtain ⟨⟨a1, a2⟩, b1, b2⟩ := hr k hk
  have x1 : (nthF es k).toNat < n := by omega
  have x2 : (nthT es k).toNat < n := by omega
  simp only [x1, x2, dif_pos]
  have c1 := Classical.choose_spec (hs _ x1)
  have c2 := Classical.choose_spec (hs _ x2)
  refine ⟨h.fwdE k _ _ hk c1.1 c2.1 (by rw [c1.2]; omega) (by rw [c2.2]; omega), Nat.lt_of_lt_of_le c2.1 (Nat.le_of_eq hl)⟩
end Go.Proofs.Ymbrdp
