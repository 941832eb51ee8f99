/- Edges as numbers: c stands for c/m -> c%m. No Go in sight. -/
import Derived.Test.YmbrdpSrt
import Derived.Test.YmbrdpGAdd
namespace Go.Proofs.Ymbrdp
set_option linter.unusedVariables false
set_option linter.unusedSimpArgs false

def dec (m c : Int) : Int × Int := (c / m, c % m)
def decE (m : Int) (cs : List Int) : List (Int × Int) := cs.map (dec m)
theorem length_decE (m : Int) (cs : List Int) : (decE m cs).length = cs.length := by simp [decE]
theorem decE_snoc (m : Int) (cs : List Int) (c : Int) : decE m (cs ++ [c]) = decE m cs ++ [dec m c] := by simp [decE]
theorem nth_decE {m : Int} {cs : List Int} {k : Nat} (h : k < cs.length) : nthE (decE m cs) k = dec m (nth cs k) := by
  rw [nthE_eq (by rw [length_decE]; exact h), nth_eq h]; simp [decE]
/-- strictly increasing numbers of edges -/
structure CodesOk (m : Int) (cs : List Int) : Prop where
  rng : ∀ c ∈ cs, 0 ≤ c ∧ c < m * m
  inc : cs.Pairwise (· < ·)
theorem CodesOk.pos {m : Int} {cs : List Int} (h : CodesOk m cs) (hm : 0 ≤ m) (h0 : 0 < cs.length) : 0 < m := by
  have := h.rng cs[0] (List.getElem_mem h0)
  rcases Int.lt_or_le 0 m with h' | h'
  · exact h'
  · have : m = 0 := by omega
    subst this
    omega
theorem dec_lt {m : Int} (hm : 0 < m) {a b : Int} : ltE (dec m a) (dec m b) ↔ a < b := by
  unfold ltE dec
  dsimp only
  have h1 := Int.mul_ediv_add_emod a m
  have h2 := Int.mul_ediv_add_emod b m
  have a1 := Int.emod_nonneg a (show m ≠ 0 by omega)
  have a2 := Int.emod_lt_of_pos a hm
  have b1 := Int.emod_nonneg b (show m ≠ 0 by omega)
  have b2 := Int.emod_lt_of_pos b hm
  constructor
  · rintro (h | ⟨h, h'⟩)
    · have : m * (a / m + 1) ≤ m * (b / m) := Int.mul_le_mul_of_nonneg_left (by omega) (by omega)
      rw [Int.mul_add, Int.mul_one] at this
      omega
    · rw [h] at h1; omega
  · intro h
    rcases Int.lt_trichotomy (a / m) (b / m) with h' | h' | h'
    · exact .inl h'
    · right; refine ⟨h', ?_⟩; rw [h'] at h1; omega
    · have : m * (b / m + 1) ≤ m * (a / m) := Int.mul_le_mul_of_nonneg_left (by omega) (by omega)
      rw [Int.mul_add, Int.mul_one] at this
      omega
theorem dec_inj {m : Int} (hm : 0 < m) {a b : Int} (h : dec m a = dec m b) : a = b := by
  rcases Int.lt_trichotomy a b with h' | h' | h'
  · have := (dec_lt hm).2 h'; rw [h] at this; exact absurd this (ltE_irrefl _)
  · exact h'
  · have := (dec_lt hm).2 h'; rw [h] at this; exact absurd this (ltE_irrefl _)
theorem dec_enc {m u v : Int} (hm : 0 < m) (hv : 0 ≤ v ∧ v < m) : dec m (u * m + v) = (u, v) := by
  unfold dec
  rw [Int.add_comm, Int.add_mul_ediv_right _ _ (by omega), Int.add_mul_emod_self_right, Int.ediv_eq_zero_of_lt hv.1 hv.2, Int.emod_eq_of_lt hv.1 hv.2]
  simp
theorem srt_decE {m : Int} {cs : List Int} (h : CodesOk m cs) (hm : 0 ≤ m) : Srt (decE m cs) := by
  rcases Nat.eq_zero_or_pos cs.length with h0 | h0
  · rw [List.eq_nil_of_length_eq_zero h0]; simp [decE, Srt]
  · have hp := h.pos hm h0
    exact List.pairwise_map.2 (h.inc.imp (fun hab => (dec_lt hp).2 hab))
theorem mem_decE {m : Int} (hm : 0 < m) {cs : List Int} {c : Int} : dec m c ∈ decE m cs ↔ c ∈ cs := by
  unfold decE
  rw [List.mem_map]
  constructor
  · rintro ⟨a, h1, h2⟩; rw [← dec_inj hm h2]; exact h1
  · intro h; exact ⟨c, h, rfl⟩
theorem decE_rng {m : Int} {cs : List Int} (h : CodesOk m cs) (hm : 0 ≤ m) {u v : Int} (hx : (u, v) ∈ decE m cs) : inB m u v = true := by
  unfold decE at hx
  obtain ⟨c, hc, e⟩ := List.mem_map.1 hx
  have hp := h.pos hm (List.length_pos_of_mem hc)
  obtain ⟨r1, r2⟩ := h.rng c hc
  have e1 : u = c / m := (congrArg Prod.fst e).symm
  have e2 : v = c % m := (congrArg Prod.snd e).symm
  rw [e1, e2]
  exact inB_true.2 ⟨Int.ediv_nonneg r1 hm, Int.ediv_lt_of_lt_mul hp r2, Int.emod_nonneg _ (by omega), Int.emod_lt_of_pos _ hp⟩
/-- insertion of a number -/
def insI : List Int → Int → List Int
  | [], e => [e]
  | x :: xs, e => if x < e then x :: insI xs e else if x = e then x :: xs else e :: x :: xs
theorem decE_insI {m : Int} (hm : 0 < m) (cs : List Int) (e : Int) : decE m (insI cs e) = insE (decE m cs) (dec m e) := by
  induction cs with
  | nil => rfl
  | cons x cs ih =>
    show decE m (if x < e then _ else if x = e then _ else _) = if ltB (dec m x) (dec m e) = true then _ else if dec m x = dec m e then _ else _
    by_cases h : x < e
    · rw [if_pos h, if_pos (ltB_true.2 ((dec_lt hm).2 h))]
      show dec m x :: decE m (insI cs e) = _
      rw [ih]; rfl
    · rw [if_neg h, if_neg (fun h' => h ((dec_lt hm).1 (ltB_true.1 h')))]
      by_cases h2 : x = e
      · rw [if_pos h2, if_pos (by rw [h2])]; rfl
      · rw [if_neg h2, if_neg (fun h' => h2 (dec_inj hm h'))]; rfl
theorem mem_insI {cs : List Int} {e x : Int} : x ∈ insI cs e ↔ x = e ∨ x ∈ cs := by
  induction cs with
  | nil => simp [insI]
  | cons y cs ih =>
    unfold insI
    split
    · rw [List.mem_cons, ih, List.mem_cons]
      constructor
      · rintro (h | h | h)
        · exact .inr (.inl h)
        · exact .inl h
        · exact .inr (.inr h)
      · rintro (h | h | h)
        · exact .inr (.inl h)
        · exact .inl h
        · exact .inr (.inr h)
    · split
      · rename_i h; subst h; simp only [List.mem_cons]
        constructor
        · intro h; exact .inr h
        · rintro (h | h)
          · exact .inl h
          · exact h
      · simp only [List.mem_cons]
theorem inc_insI {cs : List Int} {e : Int} (h : cs.Pairwise (· < ·)) : (insI cs e).Pairwise (· < ·) := by
  induction cs with
  | nil => simp [insI]
  | cons y cs ih =>
    obtain ⟨h1, h2⟩ := List.pairwise_cons.1 h
    unfold insI
    split
    · rename_i hlt
      refine List.pairwise_cons.2 ⟨fun x hx => ?_, ih h2⟩
      rcases mem_insI.1 hx with rfl | hx
      · exact hlt
      · exact h1 x hx
    · rename_i hlt
      split
      · exact h
      · rename_i hne
        refine List.pairwise_cons.2 ⟨fun x hx => ?_, h⟩
        rcases List.mem_cons.1 hx with rfl | hx
        · omega
        · have := h1 x hx; omega
theorem CodesOk.ins {m : Int} {cs : List Int} (h : CodesOk m cs) {e : Int} (he : 0 ≤ e ∧ e < m * m) : CodesOk m (insI cs e) :=
  ⟨fun c hc => by rcases mem_insI.1 hc with rfl | hc; exact he; exact h.rng c hc, inc_insI h.inc⟩
theorem length_insI_le (cs : List Int) (e : Int) : (insI cs e).length ≤ cs.length + 1 := by
  induction cs with
  | nil => simp [insI]
  | cons y cs ih =>
    unfold insI
    split
    · simp; omega
    · split <;> simp
end Go.Proofs.Ymbrdp
