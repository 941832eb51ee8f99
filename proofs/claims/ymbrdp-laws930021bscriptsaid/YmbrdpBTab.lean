/- The edges of a table of cells, row by row: no Go in sight. -/
import Derived.Test.YmbrdpSrt
namespace Go.Proofs.Ymbrdp
set_option linter.unusedVariables false
set_option linter.unusedSimpArgs false

def cellE (n k : Nat) : Int × Int := (((k / n : Nat) : Int), ((k % n : Nat) : Int))
/-- the set cells among the first k, without cell 'skip' -/
def tabTo (n : Nat) (bs : List Bool) (skip : Int) : Nat → List (Int × Int)
  | 0 => []
  | k + 1 => if nthB bs k = true ∧ (k : Int) ≠ skip then tabTo n bs skip k ++ [cellE n k] else tabTo n bs skip k
def tab (n : Nat) (bs : List Bool) (skip : Int) : List (Int × Int) := tabTo n bs skip (min bs.length (n * n))

theorem tabTo_le (n : Nat) (bs : List Bool) (skip : Int) (k : Nat) : (tabTo n bs skip k).length ≤ k := by
  induction k with
  | zero => simp [tabTo]
  | succ k ih =>
    unfold tabTo
    split
    · rw [List.length_append]; simp; omega
    · omega
theorem mem_tabTo {n : Nat} {bs : List Bool} {skip : Int} {k : Nat} {x : Int × Int} : x ∈ tabTo n bs skip k ↔ ∃ i, i < k ∧ nthB bs i = true ∧ (i : Int) ≠ skip ∧ x = cellE n i := by
  induction k with
  | zero => simp [tabTo]
  | succ k ih =>
    unfold tabTo
    split
    · rename_i h
      rw [List.mem_append, ih, List.mem_singleton]
      constructor
      · rintro (⟨i, h1, h2⟩ | h')
        · exact ⟨i, by omega, h2⟩
        · exact ⟨k, by omega, h.1, h.2, h'⟩
      · rintro ⟨i, h1, h2, h3, h4⟩
        rcases Nat.lt_or_ge i k with h' | h'
        · exact .inl ⟨i, h', h2, h3, h4⟩
        · obtain rfl : i = k := by omega
          exact .inr h4
    · rename_i h
      rw [ih]
      constructor
      · rintro ⟨i, h1, h2⟩
        exact ⟨i, by omega, h2⟩
      · rintro ⟨i, h1, h2, h3, h4⟩
        rcases Nat.lt_or_ge i k with h' | h'
        · exact ⟨i, h', h2, h3, h4⟩
        · obtain rfl : i = k := by omega
          exact absurd ⟨h2, h3⟩ h
theorem cellE_lt {n i j : Nat} (hn : 0 < n) (h : i < j) : ltE (cellE n i) (cellE n j) := by
  unfold ltE cellE
  dsimp only
  have h1 := Nat.div_add_mod i n
  have h2 := Nat.div_add_mod j n
  have h3 := Nat.div_le_div_right (c := n) (Nat.le_of_lt h)
  rcases Nat.lt_or_ge (i / n) (j / n) with h' | h'
  · left; omega
  · right
    have e : i / n = j / n := by omega
    rw [e] at h1
    omega
theorem cellE_inj {n i j : Nat} (hn : 0 < n) (h : cellE n i = cellE n j) : i = j := by
  rcases Nat.lt_trichotomy i j with h' | h' | h'
  · have := cellE_lt hn h'; rw [h] at this; exact absurd this (ltE_irrefl _)
  · exact h'
  · have := cellE_lt hn h'; rw [h] at this; exact absurd this (ltE_irrefl _)
theorem srt_tabTo {n : Nat} (hn : 0 < n) (bs : List Bool) (skip : Int) (k : Nat) : Srt (tabTo n bs skip k) := by
  induction k with
  | zero => simp [tabTo, Srt]
  | succ k ih =>
    unfold tabTo
    split
    · refine List.pairwise_append.2 ⟨ih, by simp, fun a ha b hb => ?_⟩
      obtain ⟨i, h1, _, _, rfl⟩ := mem_tabTo.1 ha
      rw [List.mem_singleton] at hb
      subst hb
      exact cellE_lt hn h1
    · exact ih
theorem srt_tab {n : Nat} (hn : 0 < n) (bs : List Bool) (skip : Int) : Srt (tab n bs skip) := srt_tabTo hn bs skip _
theorem tab_le (n : Nat) (bs : List Bool) (skip : Int) : (tab n bs skip).length ≤ bs.length := Nat.le_trans (tabTo_le n bs skip _) (Nat.min_le_left _ _)
theorem mem_tab {n : Nat} {bs : List Bool} {skip : Int} {x : Int × Int} : x ∈ tab n bs skip ↔ ∃ i, (i < bs.length ∧ i < n * n) ∧ nthB bs i = true ∧ (i : Int) ≠ skip ∧ x = cellE n i := by
  unfold tab
  rw [mem_tabTo]
  constructor
  · rintro ⟨i, h, r⟩; exact ⟨i, by omega, r⟩
  · rintro ⟨i, h, r⟩; exact ⟨i, by omega, r⟩
/-- the cell of an edge in range -/
theorem cell_of {n u v : Nat} (hu : u < n) (hv : v < n) : cellE n (u * n + v) = ((u : Int), (v : Int)) ∧ u * n + v < n * n := by
  have hn : 0 < n := by omega
  have h1 : (u * n + v) / n = u := by
    rw [Nat.mul_comm, Nat.mul_add_div hn, Nat.div_eq_of_lt hv]; rfl
  have h2 : (u * n + v) % n = v := by
    rw [Nat.mul_comm, Nat.mul_add_mod, Nat.mod_eq_of_lt hv]
  refine ⟨by unfold cellE; rw [h1, h2], ?_⟩
  have : (u + 1) * n ≤ n * n := Nat.mul_le_mul_right n hu
  rw [Nat.succ_mul] at this
  omega
theorem cellE_lt_n {n i : Nat} (h : i < n * n) : i / n < n ∧ i % n < n := by
  have hn : 0 < n := by
    rcases Nat.eq_zero_or_pos n with rfl | h'
    · simp at h
    · exact h'
  exact ⟨(Nat.div_lt_iff_lt_mul hn).2 h, Nat.mod_lt _ hn⟩
/-- the edge's own cell, or -1 -/
def skipOf (n : Nat) (u v : Int) : Int := if 0 ≤ u ∧ u < (n : Int) ∧ 0 ≤ v ∧ v < (n : Int) then u * n + v else -1
theorem skip_cell {n i : Nat} (h : i < n * n) {u v : Int} (hx : (u, v) = cellE n i) : skipOf n u v = (i : Int) := by
  obtain ⟨a1, a2⟩ := cellE_lt_n h
  have e1 : u = ((i / n : Nat) : Int) := congrArg Prod.fst hx
  have e2 : v = ((i % n : Nat) : Int) := congrArg Prod.snd hx
  subst e1
  subst e2
  unfold skipOf
  rw [if_pos ⟨Int.natCast_nonneg _, by exact_mod_cast a1, Int.natCast_nonneg _, by exact_mod_cast a2⟩]
  have := Nat.div_add_mod i n
  rw [Nat.mul_comm] at this
  exact_mod_cast this
theorem mem_tab_iff {n : Nat} (hn : 0 < n) {bs : List Bool} {u v : Int} : (u, v) ∈ tab n bs (-1) ↔ ∃ s : Nat, skipOf n u v = (s : Int) ∧ s < bs.length ∧ nthB bs s = true := by
  rw [mem_tab]
  constructor
  · rintro ⟨i, ⟨h1, h2⟩, h3, h4, h5⟩
    exact ⟨i, skip_cell h2 h5, h1, h3⟩
  · rintro ⟨s, h1, h2, h3⟩
    unfold skipOf at h1
    split at h1
    · rename_i h
      obtain ⟨a1, a2, a3, a4⟩ := h
      obtain ⟨p, rfl⟩ := Int.eq_ofNat_of_zero_le a1
      obtain ⟨q, rfl⟩ := Int.eq_ofNat_of_zero_le a3
      obtain ⟨c1, c2⟩ := cell_of (n := n) (u := p) (v := q) (by omega) (by omega)
      have hs : s = p * n + q := by exact_mod_cast h1.symm
      subst hs
      exact ⟨_, ⟨h2, c2⟩, h3, by omega, c1.symm⟩
    · omega
/-- taking an edge out is leaving its cell out -/
theorem del_tab {n : Nat} (hn : 0 < n) (bs : List Bool) (u v : Int) : delE (tab n bs (-1)) (u, v) = tab n bs (skipOf n u v) := by
  refine srt_ext (srt_delE (srt_tab hn _ _)) (srt_tab hn _ _) (fun x => ?_)
  rw [mem_delE, mem_tab, mem_tab]
  constructor
  · rintro ⟨⟨i, h1, h2, h3, h4⟩, hne⟩
    refine ⟨i, h1, h2, fun e => hne ?_, h4⟩
    have : (u, v) ∈ tab n bs (-1) := (mem_tab_iff hn).2 ⟨i, e.symm, h1.1, h2⟩
    obtain ⟨i', g1, g2, g3, g4⟩ := mem_tab.1 this
    have h5 : skipOf n u v = (i' : Int) := skip_cell g1.2 g4
    have : i = i' := by omega
    subst this
    rw [h4, g4]
  · rintro ⟨i, h1, h2, h3, h4⟩
    refine ⟨⟨i, h1, h2, by omega, h4⟩, fun e => h3 ?_⟩
    rw [e] at h4
    exact (skip_cell h1.2 h4).symm
end Go.Proofs.Ymbrdp
