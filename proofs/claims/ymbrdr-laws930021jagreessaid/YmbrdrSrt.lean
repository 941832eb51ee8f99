/- Strictly increasing lists of edges: insertion, removal, where find stops. No Go in sight. -/
import Derived.Test.YmbrdrFindPlain
namespace Go.Proofs.Ymbrdr
set_option linter.unusedVariables false
set_option linter.unusedSimpArgs false

def Srt (es : List (Int × Int)) : Prop := es.Pairwise ltE

theorem srt_lt {es : List (Int × Int)} (h : Srt es) {i j : Nat} (hij : i < j) (hj : j < es.length) : ltE (nthE es i) (nthE es j) := by
  rw [nthE_eq (by omega), nthE_eq hj]
  exact List.pairwise_iff_getElem.1 h i j (by omega) hj hij

theorem srt_ext {es fs : List (Int × Int)} (he : Srt es) (hf : Srt fs) (h : ∀ x, x ∈ es ↔ x ∈ fs) : es = fs := by
  induction es generalizing fs with
  | nil =>
    cases fs with
    | nil => rfl
    | cons f fs => have := (h f).2 (by simp); simp at this
  | cons e es ih =>
    cases fs with
    | nil => have := (h e).1 (by simp); simp at this
    | cons f fs =>
      obtain ⟨he1, he2⟩ := List.pairwise_cons.1 he
      obtain ⟨hf1, hf2⟩ := List.pairwise_cons.1 hf
      have hef : e = f := by
        refine Classical.byContradiction fun hne => ?_
        have h1 : e ∈ fs := by
          have := (h e).1 (by simp)
          simp only [List.mem_cons] at this
          exact this.resolve_left hne
        have h2 : f ∈ es := by
          have := (h f).2 (by simp)
          simp only [List.mem_cons] at this
          exact this.resolve_left (fun h => hne h.symm)
        exact ltE_irrefl e (ltE_trans (he1 f h2) (hf1 e h1))
      subst hef
      have : es = fs := by
        refine ih he2 hf2 (fun x => ?_)
        have hx := h x
        simp only [List.mem_cons] at hx
        constructor
        · intro hm
          have hne : x ≠ e := fun hh => ltE_irrefl e (hh ▸ he1 x hm)
          exact (hx.1 (.inr hm)).resolve_left hne
        · intro hm
          have hne : x ≠ e := fun hh => ltE_irrefl e (hh ▸ hf1 x hm)
          exact (hx.2 (.inr hm)).resolve_left hne
      rw [this]

/-- insertion -/
def ltB (a b : Int × Int) : Bool := decide (a.1 < b.1 ∨ (a.1 = b.1 ∧ a.2 < b.2))
theorem ltB_true {a b : Int × Int} : ltB a b = true ↔ ltE a b := by unfold ltB ltE; rw [decide_eq_true_iff]
def insE : List (Int × Int) → Int × Int → List (Int × Int)
  | [], e => [e]
  | x :: xs, e => if ltB x e = true then x :: insE xs e else if x = e then x :: xs else e :: x :: xs

theorem mem_insE {es : List (Int × Int)} {e x : Int × Int} : x ∈ insE es e ↔ x = e ∨ x ∈ es := by
  induction es with
  | nil => simp [insE]
  | cons y es ih =>
    unfold insE
    split
    · simp only [List.mem_cons, ih]
      constructor
      · rintro (h | h | h)
        · exact .inr (.inl h)
        · exact .inl h
        · exact .inr (.inr h)
      · rintro (h | h | h)
        · exact .inr (.inl h)
        · exact .inl h
        · exact .inr (.inr h)
    · split
      · rename_i hye
        subst hye
        simp only [List.mem_cons]
        constructor
        · intro h; exact .inr h
        · rintro (h | h)
          · exact .inl h
          · exact h
      · simp only [List.mem_cons]

theorem srt_insE {es : List (Int × Int)} {e : Int × Int} (h : Srt es) : Srt (insE es e) := by
  induction es with
  | nil => simp [insE, Srt]
  | cons y es ih =>
    obtain ⟨h1, h2⟩ := List.pairwise_cons.1 h
    unfold insE
    split
    · rename_i hlt
      refine List.pairwise_cons.2 ⟨fun x hx => ?_, ih h2⟩
      rcases mem_insE.1 hx with rfl | hx
      · exact ltB_true.1 hlt
      · exact h1 x hx
    · rename_i hlt
      split
      · exact h
      · rename_i hne
        have hey : ltE e y := ltE_total (fun hh => hlt (ltB_true.2 hh)) hne
        refine List.pairwise_cons.2 ⟨fun x hx => ?_, h⟩
        simp only [List.mem_cons] at hx
        rcases hx with rfl | hx
        · exact hey
        · exact ltE_trans hey (h1 x hx)

theorem length_insE_le (es : List (Int × Int)) (e : Int × Int) : (insE es e).length ≤ es.length + 1 := by
  induction es with
  | nil => simp [insE]
  | cons y es ih =>
    unfold insE
    split
    · simp; omega
    · split <;> simp

/-- all edges of a list, in order, once each -/
def insAll (es : List (Int × Int)) : List (Int × Int) := es.foldl insE []
theorem insAll_snoc (es : List (Int × Int)) (e : Int × Int) : insAll (es ++ [e]) = insE (insAll es) e := by simp [insAll]
theorem foldl_insE {es fs : List (Int × Int)} : (∀ x, x ∈ es.foldl insE fs ↔ x ∈ es ∨ x ∈ fs) ∧ (Srt fs → Srt (es.foldl insE fs)) ∧ (es.foldl insE fs).length ≤ fs.length + es.length := by
  induction es generalizing fs with
  | nil => simp
  | cons e es ih =>
    simp only [List.foldl_cons]
    obtain ⟨a, b, c⟩ := ih (fs := insE fs e)
    refine ⟨fun x => ?_, fun h => b (srt_insE h), ?_⟩
    · rw [a x, mem_insE, List.mem_cons]
      constructor
      · rintro (h | h | h)
        · exact .inl (.inr h)
        · exact .inl (.inl h)
        · exact .inr h
      · rintro ((h | h) | h)
        · exact .inr (.inl h)
        · exact .inl h
        · exact .inr (.inr h)
    · have := length_insE_le fs e
      simp only [List.length_cons]; omega
theorem mem_insAll {es : List (Int × Int)} {x : Int × Int} : x ∈ insAll es ↔ x ∈ es := by
  have := (foldl_insE (es := es) (fs := [])).1 x
  simpa [insAll] using this
theorem srt_insAll (es : List (Int × Int)) : Srt (insAll es) := (foldl_insE (es := es) (fs := [])).2.1 (by simp [Srt])
theorem length_insAll (es : List (Int × Int)) : (insAll es).length ≤ es.length := by
  have := (foldl_insE (es := es) (fs := [])).2.2
  simpa [insAll] using this

/-- removal -/
def delE (es : List (Int × Int)) (e : Int × Int) : List (Int × Int) := es.filter (fun x => decide (x ≠ e))
theorem mem_delE {es : List (Int × Int)} {e x : Int × Int} : x ∈ delE es e ↔ x ∈ es ∧ x ≠ e := by simp [delE]
theorem srt_delE {es : List (Int × Int)} {e : Int × Int} (h : Srt es) : Srt (delE es e) := List.Pairwise.filter _ h

/-- on a strictly increasing list find's place parts it -/
theorem findAt_srt {es : List (Int × Int)} {e : Int × Int} {lo : Nat} {ok : Bool} (hs : Srt es) (h : FindAt es e lo ok) :
    (∀ i, i < lo → ltE (nthE es i) e) ∧ (∀ i, lo ≤ i → i < es.length → ¬ ltE (nthE es i) e) ∧ (ok = true ↔ e ∈ es) := by
  have hle := h.le
  refine ⟨fun i hi => ?_, fun i h1 h2 hlt => ?_, ?_⟩
  · have hl := h.left (by omega)
    rcases Nat.lt_or_ge i (lo - 1) with h' | h'
    · exact ltE_trans (srt_lt hs h' (by omega)) hl
    · obtain rfl : i = lo - 1 := by omega
      exact hl
  · have hr := h.right (by omega)
    rcases Nat.lt_or_ge lo i with h' | h'
    · exact hr (ltE_trans (srt_lt hs h' h2) hlt)
    · obtain rfl : lo = i := by omega
      exact hr hlt
  · rw [h.ok_iff]
    constructor
    · rintro ⟨h1, h2⟩
      rw [← h2, nthE_eq h1]
      exact List.getElem_mem h1
    · intro hm
      obtain ⟨i, hi, e'⟩ := List.getElem_of_mem hm
      rw [← nthE_eq hi] at e'
      rcases Nat.lt_trichotomy i lo with h' | h' | h'
      · have hl := h.left (by omega)
        rcases Nat.lt_or_ge i (lo - 1) with h'' | h''
        · have := ltE_trans (srt_lt hs h'' (by omega)) hl
          rw [e'] at this
          exact absurd this (ltE_irrefl _)
        · obtain rfl : i = lo - 1 := by omega
          rw [e'] at hl
          exact absurd hl (ltE_irrefl _)
      · subst h'; exact ⟨hi, e'⟩
      · have := srt_lt hs h' hi
        rw [e'] at this
        exact absurd this (h.right (by omega))

theorem mem_nthE {es : List (Int × Int)} {x : Int × Int} : x ∈ es ↔ ∃ i, i < es.length ∧ nthE es i = x := by
  constructor
  · intro h
    obtain ⟨i, hi, e⟩ := List.getElem_of_mem h
    exact ⟨i, hi, by rw [nthE_eq hi]; exact e⟩
  · rintro ⟨i, hi, e⟩
    rw [← e, nthE_eq hi]
    exact List.getElem_mem hi

/-- an edge put in at find's place -/
theorem put_srt {es : List (Int × Int)} {e : Int × Int} {lo : Nat} (hs : Srt es) (h : FindAt es e lo false) : es.take lo ++ [e] ++ es.drop lo = insE es e := by
  obtain ⟨h1, h2, h3⟩ := findAt_srt hs h
  have hne : e ∉ es := fun hm => by have := h3.2 hm; cases this
  have ht : ∀ x ∈ es.take lo, ltE x e := fun x hx => by
    obtain ⟨i, hi, e'⟩ := List.getElem_of_mem hx
    have hi' : i < lo ∧ i < es.length := by simp at hi; omega
    have := h1 i hi'.1
    rw [nthE_eq hi'.2] at this
    simp only [List.getElem_take] at e'
    rw [e'] at this
    exact this
  have hd : ∀ x ∈ es.drop lo, ltE e x := fun x hx => by
    obtain ⟨i, hi, e'⟩ := List.getElem_of_mem hx
    simp at hi
    have hx' : x ∈ es := List.mem_of_mem_drop hx
    have := h2 (lo + i) (by omega) (by omega)
    rw [nthE_eq (by omega)] at this
    simp only [List.getElem_drop] at e'
    rw [e'] at this
    exact ltE_total this (fun hh => hne (hh ▸ hx'))
  refine srt_ext ?_ (srt_insE hs) (fun x => ?_)
  · unfold Srt
    have hs' : Srt (es.take lo ++ es.drop lo) := by rw [List.take_append_drop]; exact hs
    obtain ⟨p1, p2, p3⟩ := List.pairwise_append.1 hs'
    rw [List.append_assoc]
    refine List.pairwise_append.2 ⟨p1, ?_, ?_⟩
    · exact List.pairwise_append.2 ⟨by simp, p2, fun a ha b hb => by simp at ha; subst ha; exact hd b hb⟩
    · intro a ha b hb
      simp only [List.mem_append, List.mem_singleton] at hb
      rcases hb with rfl | hb
      · exact ht a ha
      · exact p3 a ha b hb
  · rw [mem_insE]
    simp only [List.mem_append, List.mem_singleton]
    have : x ∈ es ↔ x ∈ es.take lo ∨ x ∈ es.drop lo := by
      rw [← List.mem_append, List.take_append_drop]
    rw [this]
    constructor
    · rintro ((h | h) | h)
      · exact .inr (.inl h)
      · exact .inl h
      · exact .inr (.inr h)
    · rintro (h | h | h)
      · exact .inl (.inr h)
      · exact .inl (.inl h)
      · exact .inr h

theorem insE_mem {es : List (Int × Int)} {e : Int × Int} (hs : Srt es) (hm : e ∈ es) : insE es e = es :=
  srt_ext (srt_insE hs) hs (fun x => by rw [mem_insE]; exact ⟨fun h => h.elim (fun h => h ▸ hm) id, .inr⟩)

/-- an edge taken out at find's place -/
theorem cut_srt {es : List (Int × Int)} {e : Int × Int} {lo : Nat} (hs : Srt es) (h : FindAt es e lo true) : es.take lo ++ es.drop (lo + 1) = delE es e := by
  obtain ⟨hl, he⟩ := h.ok_iff.1 rfl
  rw [nthE_eq hl] at he
  have hs' : Srt (es.take lo ++ es.drop lo) := by rw [List.take_append_drop]; exact hs
  rw [List.drop_eq_getElem_cons hl] at hs'
  obtain ⟨p1, p2, p3⟩ := List.pairwise_append.1 hs'
  obtain ⟨q1, q2⟩ := List.pairwise_cons.1 p2
  refine srt_ext ?_ (srt_delE hs) (fun x => ?_)
  · exact List.pairwise_append.2 ⟨p1, q2, fun a ha b hb => p3 a ha b (List.mem_cons_of_mem _ hb)⟩
  · rw [mem_delE]
    have hx : x ∈ es ↔ x ∈ es.take lo ∨ x = e ∨ x ∈ es.drop (lo + 1) := by
      conv => lhs; rw [← List.take_append_drop lo es, List.drop_eq_getElem_cons hl]
      rw [he]
      simp only [List.mem_append, List.mem_cons]
    rw [hx, List.mem_append]
    have n1 : x ∈ es.take lo → x ≠ e := fun hm hh => by
      have := p3 x hm es[lo] List.mem_cons_self
      rw [he, hh] at this
      exact ltE_irrefl _ this
    have n2 : x ∈ es.drop (lo + 1) → x ≠ e := fun hm hh => by
      have := q1 x hm
      rw [he, hh] at this
      exact ltE_irrefl _ this
    constructor
    · rintro (h | h)
      · exact ⟨.inl h, n1 h⟩
      · exact ⟨.inr (.inr h), n2 h⟩
    · rintro ⟨h | h | h, hne⟩
      · exact .inl h
      · exact absurd h hne
      · exact .inr h

theorem delE_not {es : List (Int × Int)} {e : Int × Int} (hn : e ∉ es) : delE es e = es := by
  unfold delE
  rw [List.filter_eq_self]
  intro x hx
  simp only [decide_eq_true_eq]
  intro h
  exact hn (h ▸ hx)
end Go.Proofs.Ymbrdr
