/- Plain facts for (*Graph).peel: no Go in sight. -/
import Derived.Test.YmbrdrPerm
namespace Go.Proofs.Ymbrdr

/-- all ends in 0..n-1 -/
def Rng (n : Nat) (es : List (Int × Int)) : Prop := ∀ k, k < es.length → (0 ≤ nthF es k ∧ nthF es k < n) ∧ (0 ≤ nthT es k ∧ nthT es k < n)

/-- v stands among the first i of os -/
def Among (os : List Int) (i : Nat) (v : Int) : Prop := ∃ j, j < i ∧ nth os j = v
/-- v is not yet taken and every edge into it comes from a vertex taken -/
def Free (es : List (Int × Int)) (os : List Int) (i : Nat) (v : Int) : Prop := ¬ Among os i v ∧ ∀ k, k < es.length → nthT es k = v → Among os i (nthF es k)

/-- what peel answers -/
structure Peeled (n : Nat) (es : List (Int × Int)) (os : List Int) (tk : List Bool) : Prop where
  tkl : tk.length = n
  osl : os.length ≤ n
  tko : ∀ v : Nat, v < n → (nthB tk v = true ↔ Among os os.length v)
  rng : ∀ i, i < os.length → 0 ≤ nth os i ∧ nth os i < n
  free : ∀ i, i < os.length → Free es os i (nth os i)
  least : ∀ i, i < os.length → ∀ v : Nat, (v : Int) < nth os i → ¬ Free es os i v
  stuck : ∀ v : Nat, v < n → ¬ Free es os os.length v

/-- edges among the first k that lead to v and come from a vertex not taken -/
def live (es : List (Int × Int)) (tk : List Bool) (v : Int) : Nat → Nat
  | 0 => 0
  | k + 1 => live es tk v k + if nthT es k = v ∧ nthB tk (nthF es k).toNat = false then 1 else 0
theorem live_succ (es : List (Int × Int)) (tk : List Bool) (v : Int) (k : Nat) : live es tk v (k + 1) = live es tk v k + if nthT es k = v ∧ nthB tk (nthF es k).toNat = false then 1 else 0 := rfl
theorem live_le (es : List (Int × Int)) (tk : List Bool) (v : Int) (k : Nat) : live es tk v k ≤ k := by
  induction k with
  | zero => simp [live]
  | succ k ih => rw [live_succ]; split <;> omega
theorem live_zero {es : List (Int × Int)} {tk : List Bool} {v : Int} {k : Nat} : live es tk v k = 0 ↔ ∀ j, j < k → nthT es j = v → nthB tk (nthF es j).toNat = true := by
  induction k with
  | zero => simp [live]
  | succ k ih =>
    rw [live_succ]
    constructor
    · intro h j hj e
      rcases Nat.lt_or_ge j k with h' | h'
      · exact ih.1 (by omega) j h' e
      · obtain rfl : j = k := by omega
        rcases Bool.eq_false_or_eq_true (nthB tk (nthF es j).toNat) with hb | hb
        · exact hb
        · rw [if_pos ⟨e, hb⟩] at h; omega
    · intro h
      rw [ih.2 (fun j hj => h j (by omega)), if_neg]
      rintro ⟨e, hb⟩
      rw [h k (by omega) e] at hb
      cases hb

/-- edges among the first k from v to u -/
def outs (es : List (Int × Int)) (v u : Int) : Nat → Nat
  | 0 => 0
  | k + 1 => outs es v u k + if nthF es k = v ∧ nthT es k = u then 1 else 0
theorem outs_succ (es : List (Int × Int)) (v u : Int) (k : Nat) : outs es v u (k + 1) = outs es v u k + if nthF es k = v ∧ nthT es k = u then 1 else 0 := rfl

theorem live_take {n : Nat} {es : List (Int × Int)} {tk : List Bool} (hr : Rng n es) (hl : tk.length = n) {v : Nat} (hv : v < n) (hf : nthB tk v = false) (u : Int) (k : Nat) (hk : k ≤ es.length) :
    live es tk u k = live es (tk.set v true) u k + outs es v u k := by
  induction k with
  | zero => simp [live, outs]
  | succ k ih =>
    rw [live_succ, live_succ, outs_succ, ih (by omega)]
    have hk' := (hr k (by omega)).1
    rw [nthB_set (by omega)]
    by_cases h1 : nthF es k = v
    · have e1 : (nthF es k).toNat = v := by omega
      rw [e1, if_pos rfl, hf]
      by_cases h2 : nthT es k = u
      · simp [h1, h2]; omega
      · simp [h2]
    · have e1 : ¬ v = (nthF es k).toNat := by omega
      rw [if_neg e1]
      simp only [h1, false_and, if_false]
      omega

/-- the state behind s steps -/
structure PeelAt (n : Nat) (es : List (Int × Int)) (os : List Int) (tk : List Bool) (ds : List Int) (s : Nat) : Prop where
  tkl : tk.length = n
  dsl : ds.length = n
  osl : os.length = s
  tko : ∀ v : Nat, v < n → (nthB tk v = true ↔ Among os os.length v)
  rng : ∀ i, i < os.length → 0 ≤ nth os i ∧ nth os i < n
  free : ∀ i, i < os.length → Free es os i (nth os i)
  least : ∀ i, i < os.length → ∀ v : Nat, (v : Int) < nth os i → ¬ Free es os i v
  deg : ∀ v : Nat, v < n → nth ds v = live es tk v es.length

theorem among_snoc_lt {os : List Int} {x v : Int} {i : Nat} (h : i ≤ os.length) : Among (os ++ [x]) i v ↔ Among os i v := by
  constructor
  · rintro ⟨j, hj, e⟩
    refine ⟨j, hj, ?_⟩
    rw [nth_eq (by simp; omega)] at e
    rw [nth_eq (by omega), ← e, List.getElem_append_left (by omega)]
  · rintro ⟨j, hj, e⟩
    refine ⟨j, hj, ?_⟩
    rw [nth_eq (by omega)] at e
    rw [nth_eq (by simp; omega), ← e, List.getElem_append_left]
theorem nth_snoc_lt {os : List Int} {x : Int} {i : Nat} (h : i < os.length) : nth (os ++ [x]) i = nth os i := by
  rw [nth_eq h, nth_eq (by simp; omega), List.getElem_append_left]
theorem nth_snoc_eq {os : List Int} {x : Int} : nth (os ++ [x]) os.length = x := by
  rw [nth_eq (by simp)]; simp
theorem free_snoc_lt {es : List (Int × Int)} {os : List Int} {x v : Int} {i : Nat} (h : i ≤ os.length) : Free es (os ++ [x]) i v ↔ Free es os i v := by
  unfold Free
  constructor
  · rintro ⟨a, b⟩
    exact ⟨fun h' => a ((among_snoc_lt h).2 h'), fun k hk e => (among_snoc_lt h).1 (b k hk e)⟩
  · rintro ⟨a, b⟩
    exact ⟨fun h' => a ((among_snoc_lt h).1 h'), fun k hk e => (among_snoc_lt h).2 (b k hk e)⟩

theorem PeelAt.free_iff {n : Nat} {es : List (Int × Int)} {os : List Int} {tk : List Bool} {ds : List Int} {s : Nat} (h : PeelAt n es os tk ds s) (hr : Rng n es) {v : Nat} (hv : v < n) :
    Free es os os.length v ↔ nthB tk v = false ∧ nth ds v = 0 := by
  rw [h.deg v hv]
  unfold Free
  rw [← h.tko v hv]
  constructor
  · rintro ⟨a, b⟩
    refine ⟨by simpa using a, ?_⟩
    have : live es tk v es.length = 0 := live_zero.2 (fun j hj e => by
      have hk := (hr j hj).1
      obtain ⟨m, hm⟩ := Int.eq_ofNat_of_zero_le hk.1
      rw [hm] at hk ⊢
      simp only [Int.toNat_natCast]
      rw [h.tko m (by omega), ← hm]
      exact b j hj e)
    omega
  · rintro ⟨a, b⟩
    refine ⟨by simp [a], fun j hj e => ?_⟩
    have hz : live es tk v es.length = 0 := by omega
    have := live_zero.1 hz j hj e
    have hk := (hr j hj).1
    obtain ⟨m, hm⟩ := Int.eq_ofNat_of_zero_le hk.1
    rw [hm] at hk this ⊢
    simp only [Int.toNat_natCast] at this
    rwa [h.tko m (by omega)] at this

theorem PeelAt.step {n : Nat} {es : List (Int × Int)} {os : List Int} {tk : List Bool} {ds ds' : List Int} {s : Nat} (h : PeelAt n es os tk ds s) (hr : Rng n es) {v : Nat} (hv : v < n)
    (hfree : Free es os os.length v) (hleast : ∀ u : Nat, u < v → ¬ Free es os os.length u) (hl : ds'.length = n)
    (hd : ∀ u : Nat, u < n → nth ds' u = nth ds u - outs es v u es.length) : PeelAt n es (os ++ [(v : Int)]) (tk.set v true) ds' (s + 1) := by
  have hlen : (os ++ [(v : Int)]).length = os.length + 1 := by simp
  refine ⟨by simpa using h.tkl, hl, by rw [hlen, h.osl], fun u hu => ?_, fun i hi => ?_, fun i hi => ?_, fun i hi u hlt => ?_, fun u hu => ?_⟩
  · rw [nthB_set (by rw [h.tkl]; exact hv), hlen]
    by_cases e : v = u
    · subst e
      rw [if_pos rfl]
      exact ⟨fun _ => ⟨os.length, by omega, nth_snoc_eq⟩, fun _ => rfl⟩
    · rw [if_neg e, h.tko u hu]
      constructor
      · rintro ⟨j, hj, e'⟩
        exact ⟨j, by omega, by rw [nth_snoc_lt hj]; exact e'⟩
      · rintro ⟨j, hj, e'⟩
        rcases Nat.lt_or_ge j os.length with hj' | hj'
        · exact ⟨j, hj', by rw [nth_snoc_lt hj'] at e'; exact e'⟩
        · obtain rfl : j = os.length := by omega
          rw [nth_snoc_eq] at e'
          omega
  · rw [hlen] at hi
    rcases Nat.lt_or_ge i os.length with h' | h'
    · rw [nth_snoc_lt h']; exact h.rng i h'
    · obtain rfl : i = os.length := by omega
      rw [nth_snoc_eq]; omega
  · rw [hlen] at hi
    rw [free_snoc_lt (by omega)]
    rcases Nat.lt_or_ge i os.length with h' | h'
    · rw [nth_snoc_lt h']; exact h.free i h'
    · obtain rfl : i = os.length := by omega
      rw [nth_snoc_eq]; exact hfree
  · rw [hlen] at hi
    rw [free_snoc_lt (by omega)]
    rcases Nat.lt_or_ge i os.length with h' | h'
    · rw [nth_snoc_lt h'] at hlt; exact h.least i h' u hlt
    · obtain rfl : i = os.length := by omega
      rw [nth_snoc_eq] at hlt; exact hleast u (by omega)
  · rw [hd u hu, h.deg u hu]
    have hf : nthB tk v = false := ((h.free_iff hr hv).1 hfree).1
    have := live_take hr h.tkl hv hf u es.length (Nat.le_refl _)
    omega

theorem PeelAt.done {n : Nat} {es : List (Int × Int)} {os : List Int} {tk : List Bool} {ds : List Int} {s : Nat} (h : PeelAt n es os tk ds s) (hs : s ≤ n) (hst : ∀ v : Nat, v < n → ¬ Free es os os.length v) : Peeled n es os tk :=
  ⟨h.tkl, by rw [h.osl]; exact hs, h.tko, h.rng, h.free, h.least, hst⟩

/-- once all n steps have been made nothing is free -/
theorem PeelAt.full {n : Nat} {es : List (Int × Int)} {os : List Int} {tk : List Bool} {ds : List Int} (h : PeelAt n es os tk ds n) : ∀ v : Nat, v < n → ¬ Free es os os.length v := by
  intro v hv hf
  have inj : ∀ i j, i < j → j < os.length → nth os i ≠ nth os j := fun i j hij hj e => (h.free j hj).1 ⟨i, hij, e⟩
  have hp : IsPerm os.length os := ⟨rfl, fun i hi => by have := h.rng i hi; rw [h.osl]; exact this, inj⟩
  obtain ⟨i, hi, e⟩ := hp.surj v (by rw [h.osl]; exact hv)
  exact hf.1 ⟨i, hi, e⟩
end Go.Proofs.Ymbrdr
