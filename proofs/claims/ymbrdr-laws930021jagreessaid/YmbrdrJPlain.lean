/- Cycle: plain facts, no Go in sight. -/
import Derived.Test.YmbrdrLRingP
import Derived.Test.YmbrdrRotPlain
import Derived.Test.YmbrdrPeelMore
import Derived.Test.YmbrdrOrd
namespace Go.Proofs.Ymbrdr
open Go.ChangeShapes Go.WideShapes Go.ChangeAt Go.RowKit
set_option linter.unusedVariables false
set_option linter.unusedSimpArgs false

/-- the source of the first of the first k edges that lead to v from a marked vertex -/
def bkTo (gs : List (Int × Int)) (m : Int → Bool) (v : Int) : Nat → Option Int
  | 0 => none
  | k + 1 => match bkTo gs m v k with
    | some x => some x
    | none => if nthT gs k = v ∧ m (nthF gs k) = true then some (nthF gs k) else none
/-- one step back; v itself where there is no such edge -/
def bk (gs : List (Int × Int)) (m : Int → Bool) (v : Int) : Int := (bkTo gs m v gs.length).getD v
theorem bkTo_no {gs : List (Int × Int)} {m : Int → Bool} {v : Int} {k : Nat} (h : bkTo gs m v k = none) (hn : ¬ (nthT gs k = v ∧ m (nthF gs k) = true)) : bkTo gs m v (k + 1) = none := by
  simp only [bkTo, h, if_neg hn]
theorem bkTo_yes {gs : List (Int × Int)} {m : Int → Bool} {v : Int} {k : Nat} (h : bkTo gs m v k = none) (h1 : nthT gs k = v) (h2 : m (nthF gs k) = true) : bkTo gs m v (k + 1) = some (nthF gs k) := by
  simp only [bkTo, h, if_pos (And.intro h1 h2)]
theorem bkTo_mono {gs : List (Int × Int)} {m : Int → Bool} {v x : Int} {k : Nat} (h : bkTo gs m v k = some x) (d : Nat) : bkTo gs m v (k + d) = some x := by
  induction d with
  | zero => exact h
  | succ d ih => rw [← Nat.add_assoc]; simp only [bkTo, ih]
theorem bk_found {gs : List (Int × Int)} {m : Int → Bool} {v : Int} {k : Nat} (h : bkTo gs m v k = none) (hk : k < gs.length) (h1 : nthT gs k = v) (h2 : m (nthF gs k) = true) : bk gs m v = nthF gs k := by
  have := bkTo_mono (bkTo_yes h h1 h2) (gs.length - (k + 1))
  rw [show k + 1 + (gs.length - (k + 1)) = gs.length by omega] at this
  rw [bk, this]; rfl
theorem bk_none {gs : List (Int × Int)} {m : Int → Bool} {v : Int} (h : bkTo gs m v gs.length = none) : bk gs m v = v := by rw [bk, h]; rfl
theorem bkTo_spec {gs : List (Int × Int)} {m : Int → Bool} {v : Int} (k : Nat) : (bkTo gs m v k = none ∧ ∀ j, j < k → ¬ (nthT gs j = v ∧ m (nthF gs j) = true)) ∨ ∃ j, j < k ∧ nthT gs j = v ∧ m (nthF gs j) = true ∧ bkTo gs m v k = some (nthF gs j) := by
  induction k with
  | zero => exact .inl ⟨rfl, fun j hj => by omega⟩
  | succ k ih =>
    rcases ih with ⟨h1, h2⟩ | ⟨j, h1, h2, h3, h4⟩
    · by_cases hh : nthT gs k = v ∧ m (nthF gs k) = true
      · exact .inr ⟨k, by omega, hh.1, hh.2, bkTo_yes h1 hh.1 hh.2⟩
      · refine .inl ⟨bkTo_no h1 hh, fun j hj => ?_⟩
        rcases Nat.lt_or_ge j k with h | h
        · exact h2 j h
        · obtain rfl : j = k := by omega
          exact hh
    · exact .inr ⟨j, by omega, h2, h3, bkTo_mono h4 1⟩
theorem bk_spec {gs : List (Int × Int)} {m : Int → Bool} {v : Int} (h : ∃ k, k < gs.length ∧ nthT gs k = v ∧ m (nthF gs k) = true) : ∃ k, k < gs.length ∧ nthT gs k = v ∧ m (nthF gs k) = true ∧ bk gs m v = nthF gs k := by
  rcases bkTo_spec (gs := gs) (m := m) (v := v) gs.length with ⟨_, h2⟩ | ⟨j, h1, h2, h3, h4⟩
  · obtain ⟨k, hk, e⟩ := h
    exact absurd e (h2 k hk)
  · exact ⟨j, h1, h2, h3, by rw [bk, h4]; rfl⟩
theorem bkTo_congr {gs : List (Int × Int)} {m m' : Int → Bool} {v : Int} (h : ∀ k, k < gs.length → m (nthF gs k) = m' (nthF gs k)) (k : Nat) (hk : k ≤ gs.length) : bkTo gs m v k = bkTo gs m' v k := by
  induction k with
  | zero => rfl
  | succ k ih => simp only [bkTo]; rw [ih (by omega), h k (by omega)]
theorem bk_congr {gs : List (Int × Int)} {m m' : Int → Bool} (h : ∀ k, k < gs.length → m (nthF gs k) = m' (nthF gs k)) (v : Int) : bk gs m v = bk gs m' v := by
  rw [bk, bk, bkTo_congr h _ (Nat.le_refl _)]

/-- i steps back -/
def itr (gs : List (Int × Int)) (m : Int → Bool) (v : Int) : Nat → Int
  | 0 => v
  | i + 1 => bk gs m (itr gs m v i)
theorem itr_succ (gs : List (Int × Int)) (m : Int → Bool) (v : Int) (i : Nat) : itr gs m v (i + 1) = bk gs m (itr gs m v i) := rfl
theorem itr_congr {gs : List (Int × Int)} {m m' : Int → Bool} (h : ∀ k, k < gs.length → m (nthF gs k) = m' (nthF gs k)) (v : Int) (i : Nat) : itr gs m v i = itr gs m' v i := by
  induction i with
  | zero => rfl
  | succ i ih => rw [itr_succ, itr_succ, ih, bk_congr h]

/-- the marks of the vertices left over -/
def left (tk : List Bool) (x : Int) : Bool := !nthB tk x.toNat
/-- a vertex left over -/
def InU (n : Nat) (tk : List Bool) (v : Int) : Prop := 0 ≤ v ∧ v < n ∧ nthB tk v.toNat = false
theorem Peeled.pred {n : Nat} {gs : List (Int × Int)} {os : List Int} {tk : List Bool} (h : Peeled n gs os tk) (hr : Rng n gs) {v : Int} (hv : InU n tk v) : ∃ k, k < gs.length ∧ nthT gs k = v ∧ left tk (nthF gs k) = true := by
  obtain ⟨a, b, c⟩ := hv
  obtain ⟨u, hu⟩ := Int.eq_ofNat_of_zero_le a
  subst hu
  have hna : ¬ Among os os.length u := fun hA => by
    have := (h.tko u (by omega)).2 hA
    rw [show ((u : Int)).toNat = u by omega] at c
    rw [this] at c; cases c
  refine Classical.byContradiction fun hno => h.stuck u (by omega) ⟨hna, fun k hk e => ?_⟩
  refine Classical.byContradiction fun hna2 => hno ⟨k, hk, e, ?_⟩
  have hf := (hr k hk).1
  obtain ⟨x, hx⟩ := Int.eq_ofNat_of_zero_le hf.1
  rw [hx] at hna2 hf ⊢
  unfold left
  rw [show ((x : Int)).toNat = x by omega]
  cases hb : nthB tk x
  · rfl
  · exact absurd ((h.tko x (by omega)).1 hb) hna2
theorem Peeled.bk {n : Nat} {gs : List (Int × Int)} {os : List Int} {tk : List Bool} (h : Peeled n gs os tk) (hr : Rng n gs) {v : Int} (hv : InU n tk v) : InU n tk (bk gs (left tk) v) ∧ (bk gs (left tk) v, v) ∈ gs := by
  obtain ⟨k, hk, e1, e2, e3⟩ := bk_spec (h.pred hr hv)
  rw [e3]
  have hf := (hr k hk).1
  refine ⟨⟨hf.1, hf.2, ?_⟩, mem_nthE.2 ⟨k, hk, by rw [← e1]; rfl⟩⟩
  unfold left at e2
  simpa using e2
/-- the first vertex left over -/
def FirstU (n : Nat) (tk : List Bool) (v : Nat) : Prop := v < n ∧ nthB tk v = false ∧ ∀ u, u < v → nthB tk u = true
theorem FirstU.inU {n : Nat} {tk : List Bool} {v : Nat} (h : FirstU n tk v) : InU n tk v := ⟨by omega, by have := h.1; omega, by rw [show ((v : Int)).toNat = v by omega]; exact h.2.1⟩
theorem Peeled.itr {n : Nat} {gs : List (Int × Int)} {os : List Int} {tk : List Bool} (h : Peeled n gs os tk) (hr : Rng n gs) {v : Int} (hv : InU n tk v) (i : Nat) : InU n tk (itr gs (left tk) v i) := by
  induction i with
  | zero => exact hv
  | succ i ih => exact (h.bk hr ih).1
/-- some vertex is left over unless all are listed -/
theorem Peeled.some_left {n : Nat} {gs : List (Int × Int)} {os : List Int} {tk : List Bool} (h : Peeled n gs os tk) (hl : os.length ≠ n) : ∃ v, v < n ∧ nthB tk v = false := by
  refine Classical.byContradiction fun hno => hl (h.full fun v hv => (h.tko v hv).1 ?_)
  cases hb : nthB tk v
  · exact absurd ⟨v, hv, hb⟩ hno
  · rfl

/-- what Cycle answers -/
def CycAns (n : Nat) (it : Nat → Int) (c : List Int) : Prop := ∃ (L s : Nat) (cs : List Int), s < L ∧ L ≤ n ∧ (∀ i j, i < j → j < L → it i ≠ it j) ∧ it L = it s ∧ cs.length = L - s ∧ (∀ q, q < L - s → nth cs q = it (L - 1 - q)) ∧ c = rotMin cs
theorem list_ext {xs ys : List Int} (hl : xs.length = ys.length) (h : ∀ i, i < xs.length → nth xs i = nth ys i) : xs = ys := by
  refine List.ext_getElem hl fun i h1 h2 => ?_
  have := h i h1
  rwa [nth_eq h1, nth_eq h2] at this
theorem CycAns.unique {n : Nat} {it : Nat → Int} {c d : List Int} (hc : CycAns n it c) (hd : CycAns n it d) : c = d := by
  obtain ⟨L, s, cs, h1, h2, h3, h4, h5, h6, rfl⟩ := hc
  obtain ⟨M, t, ds, k1, k2, k3, k4, k5, k6, rfl⟩ := hd
  have hLM : L = M := by
    rcases Nat.lt_trichotomy L M with h | h | h
    · exact absurd h4.symm (k3 s L h1 h)
    · exact h
    · exact absurd k4.symm (h3 t M k1 h)
  subst hLM
  have hst : s = t := by
    rcases Nat.lt_trichotomy s t with h | h | h
    · exact absurd (by rw [← h4, k4]) (h3 s t h k1)
    · exact h
    · exact absurd (by rw [← k4, h4]) (h3 t s h h1)
  subst hst
  have e : cs = ds := list_ext (by rw [h5, k5]) (fun i hi => by rw [h6 i (by omega), k6 i (by omega)])
  rw [e]

/-- f leads back around c -/
def FCyc (f : Int → Int) (c : List Int) : Prop := ∀ i, i < c.length → f (nth c (nxt c.length i)) = nth c i
structure CycFacts (n : Nat) (f : Int → Int) (it : Nat → Int) (c : List Int) : Prop where
  pos : 0 < c.length
  le : c.length ≤ n
  back : FCyc f c
  inj : ∀ i j, i < j → j < c.length → nth c i ≠ nth c j
  least : ∀ i, i < c.length → nth c 0 ≤ nth c i
  from_ : ∀ i, i < c.length → ∃ j, nth c i = it j
  on : ∃ s, s ≤ n ∧ ∃ i, i < c.length ∧ nth c i = it s
theorem turned_rot {xs : List Int} : Turned (minAt xs xs.length) xs.length xs (rotMin xs) := fun i hi => by
  rw [length_rotMin] at hi
  rw [nth_rotMin xs i hi, Nat.add_comm]
theorem CycAns.facts {n : Nat} {gs : List (Int × Int)} {m : Int → Bool} {v : Int} {c : List Int} (h : CycAns n (itr gs m v) c) : CycFacts n (bk gs m) (itr gs m v) c := by
  obtain ⟨L, s, cs, h1, h2, h3, h4, h5, h6, rfl⟩ := h
  have hl := length_rotMin cs
  have ht := turned_rot (xs := cs)
  have h0 : 0 < cs.length := by omega
  have hb : FCyc (bk gs m) cs := fun i hi => by
    by_cases hi2 : i + 1 < cs.length
    · rw [nxt_mid hi2, h6 i (by omega), h6 (i + 1) (by omega), ← itr_succ, show L - 1 - (i + 1) + 1 = L - 1 - i by omega]
    · rw [nxt_last hi hi2, h6 i (by omega), h6 0 (by omega), ← itr_succ, show L - 1 - 0 + 1 = L by omega, h4]
      congr 1; omega
  have hi : ∀ i j, i < j → j < cs.length → nth cs i ≠ nth cs j := fun i j hij hj => by
    rw [h6 i (by omega), h6 j (by omega)]
    exact fun e => h3 (L - 1 - j) (L - 1 - i) (by omega) (by omega) e.symm
  refine ⟨by omega, by omega, fun i hi2 => ?_, fun i j hij hj => ?_, fun i hi2 => ?_, fun i hi2 => ?_, s, by omega, ?_⟩
  · rw [ht i hi2, ht _ (nxt_lt hi2), hl, turn_nxt]
    exact hb _ (Nat.mod_lt _ h0)
  · rw [ht i (by omega), ht j hj]
    intro e
    have n1 := Nat.mod_lt (i + minAt cs cs.length) h0
    have n2 := Nat.mod_lt (j + minAt cs cs.length) h0
    rcases Nat.lt_trichotomy ((i + minAt cs cs.length) % cs.length) ((j + minAt cs cs.length) % cs.length) with h | h | h
    · exact hi _ _ h n2 e
    · have := add_mod_inj (by omega) (by omega) h; omega
    · exact hi _ _ h n1 e.symm
  · rw [hl] at hi2
    rw [nth_rotMin cs i hi2, nth_rotMin cs 0 (by omega), Nat.add_zero, Nat.mod_eq_of_lt (minAt_lt cs _ (by omega))]
    exact minAt_min cs _ _ (Nat.mod_lt _ (by omega))
  · rw [ht i hi2, h6 _ (by rw [← h5]; exact Nat.mod_lt _ h0)]
    exact ⟨_, rfl⟩
  · obtain ⟨i, hi2, e⟩ := turn_onto (k := cs.length) (t := minAt cs cs.length) (j := cs.length - 1) (by omega)
    refine ⟨i, by omega, ?_⟩
    rw [ht i (by omega), e, h6 _ (by omega)]
    congr 1; omega
theorem CycFacts.isCyc {n : Nat} {gs : List (Int × Int)} {os : List Int} {tk : List Bool} (h : Peeled n gs os tk) (hr : Rng n gs) {v : Int} (hv : InU n tk v) {c : List Int} (hc : CycFacts n (bk gs (left tk)) (itr gs (left tk) v) c) : IsCyc gs c := by
  refine ⟨hc.pos, fun i hi => ?_, hc.inj⟩
  have h1 := hc.back i hi
  obtain ⟨j, hj⟩ := hc.from_ _ (nxt_lt hi)
  have h2 := (h.bk hr (h.itr hr hv j)).2
  rw [← hj, h1] at h2
  exact h2

/-- a walk of r edges ends at v -/
def Alive (gs : List (Int × Int)) : Nat → Int → Prop
  | 0, _ => True
  | r + 1, v => ∃ k, k < gs.length ∧ nthT gs k = v ∧ Alive gs r (nthF gs k)
theorem Alive.among {n : Nat} {gs : List (Int × Int)} {os : List Int} {tk : List Bool} (h : Peeled n gs os tk) (r : Nat) : ∀ (v : Int) (i : Nat), i < os.length → nth os i = v → Alive gs r v → r ≤ i := by
  induction r with
  | zero => intro v i _ _ _; omega
  | succ r ih =>
    rintro v i hi e ⟨k, hk, e2, ha⟩
    obtain ⟨j, hj, e3⟩ := (h.free i hi).2 k hk (by rw [e2, e])
    have := ih _ j (by omega) e3 ha
    omega
theorem Peeled.alive {n : Nat} {gs : List (Int × Int)} {os : List Int} {tk : List Bool} (h : Peeled n gs os tk) (hr : Rng n gs) {v : Nat} (hv : v < n) : Alive gs n v ↔ nthB tk v = false := by
  constructor
  · intro ha
    cases hb : nthB tk v
    · rfl
    · obtain ⟨i, hi, e⟩ := (h.tko v hv).1 hb
      have h1 := Alive.among h n v i hi e ha
      have h2 := h.osl
      omega
  · intro hb
    have key : ∀ r (x : Int), InU n tk x → Alive gs r x := by
      intro r
      induction r with
      | zero => intro x _; trivial
      | succ r ih =>
        intro x hx
        obtain ⟨k, hk, e1, e2⟩ := h.pred hr hx
        have hf := (hr k hk).1
        exact ⟨k, hk, e1, ih _ ⟨hf.1, hf.2, by unfold left at e2; simpa using e2⟩⟩
    exact key n v ⟨by omega, by omega, by rw [show ((v : Int)).toNat = v by omega]; exact hb⟩
theorem alive_ins {es : List (Int × Int)} (r : Nat) : ∀ v, Alive (insAll es) r v ↔ Alive es r v := by
  induction r with
  | zero => intro v; exact Iff.rfl
  | succ r ih =>
    intro v
    constructor
    · rintro ⟨k, hk, e, ha⟩
      obtain ⟨j, hj, e'⟩ := mem_nthE.1 (mem_insAll.1 (mem_nthE.2 ⟨k, hk, rfl⟩))
      have e1 : nthF es j = nthF (insAll es) k := congrArg Prod.fst e'
      have e2 : nthT es j = nthT (insAll es) k := congrArg Prod.snd e'
      exact ⟨j, hj, by rw [e2, e], by rw [e1]; exact (ih _).1 ha⟩
    · rintro ⟨k, hk, e, ha⟩
      obtain ⟨j, hj, e'⟩ := mem_nthE.1 (mem_insAll.2 (mem_nthE.2 ⟨k, hk, rfl⟩))
      have e1 : nthF (insAll es) j = nthF es k := congrArg Prod.fst e'
      have e2 : nthT (insAll es) j = nthT es k := congrArg Prod.snd e'
      exact ⟨j, hj, by rw [e2, e], by rw [e1]; exact (ih _).2 ha⟩
end Go.Proofs.Ymbrdr
