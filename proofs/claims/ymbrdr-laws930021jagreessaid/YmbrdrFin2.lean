/- From the reading of an argument that is a slice of pairs to 'Sl'. -/
import Derived.Test.YmbrdrFin
import Derived.Deep.Slices
namespace Go.Proofs.Ymbrdr
open Go.ChangeShapes Go.WideShapes Go.ChangeAt Go.RowKit Go.Deep
set_option linter.unusedVariables false
set_option linter.unusedSimpArgs false

section
variable {H : Type} {enc : TypeId × Value → H} {P : Program} {w : World}

theorem slice_elems {t e : TypeId} {sz : Nat} {a : Option Addr} {len cap : Nat} {d : DataW H} {ps : List MemPlace} (ht : P.underlying t = some (.slice e)) (hc : P.cellsOf e = sz) (good : List Value → Prop)
    (hgood : ∀ n cs x, DataW.trod enc P w 0 (fun _ => true) true n e cs = some x → good cs) (h : DataW.Trod enc P w 0 (fun _ => true) true t (.slice a len cap) d ps) :
    len ≤ cap ∧ cap ≤ maxLen ∧ (a = none → cap = 0) ∧ ∀ i, i < len → ∃ cs x, good cs ∧ cs.length = sz ∧ a = some x ∧ ∀ j, j < sz → w.cell? (x.add (i * sz + j)) = cs[j]? := by
  obtain ⟨fuel, hf⟩ := h
  rcases open_slice ht hf with ⟨hcs, _⟩ | ⟨x, len', cap', m, n, D, Pl, hcs, _, hl, hm, hmm, _, hx⟩
  · simp [Value.cells] at hcs
    obtain ⟨rfl, rfl, rfl⟩ := hcs
    exact ⟨Nat.le_refl _, by simp [maxLen], fun _ => rfl, fun i hi => by omega⟩
  · simp [Value.cells] at hcs
    obtain ⟨rfl, rfl, rfl⟩ := hcs
    simp at hmm
    refine ⟨hl, hm, fun h => (by cases h), fun i hi => ?_⟩
    obtain ⟨cs, h1, h2⟩ := hx i (by omega)
    rw [hc] at h1
    obtain ⟨_, hlen, hcell⟩ := World.cells?_some h1
    refine ⟨cs, x, hgood _ _ _ h2, hlen, rfl, fun j hj => ?_⟩
    have := hcell j (by omega)
    rw [add_add] at this
    rw [this]

theorem sl_of_elems {k : IntKind} {a : Option Addr} {len cap : Nat} (hl : len ≤ cap) (hn : a = none → cap = 0)
    (h : ∀ i, i < len → ∃ cs x, (∃ u v, cs = [Value.int k u, Value.int k v] ∧ (Lit.int k u).wf = true ∧ (Lit.int k v).wf = true) ∧ cs.length = 2 ∧ a = some x ∧ ∀ j, j < 2 → w.cell? (x.add (i * 2 + j)) = cs[j]?) :
    ∃ rs : List (Int × Int), len = rs.length ∧ Sl w w.heap.size a rs.length cap 2 (cellsP k rs) ∧ ∀ i, i < rs.length → (Lit.int k (nthF rs i)).wf = true ∧ (Lit.int k (nthT rs i)).wf = true := by
  obtain ⟨f, hf⟩ := choose_lt (α := Int × Int) (p := fun i q => (Lit.int k q.1).wf = true ∧ (Lit.int k q.2).wf = true ∧ ∃ x, a = some x ∧ w.cell? (x.add (i * 2)) = some (.int k q.1) ∧ w.cell? (x.add (i * 2 + 1)) = some (.int k q.2)) (fun i hi => by
    obtain ⟨cs, x, ⟨u, v, rfl, wu, wv⟩, _, hx, hc⟩ := h i hi
    exact ⟨(u, v), wu, wv, x, hx, by simpa using hc 0 (by omega), by simpa using hc 1 (by omega)⟩)
  have hlen : ((List.range len).map f).length = len := by simp
  have hF : ∀ i, i < len → nthF ((List.range len).map f) i = (f i).1 := fun i hi => by rw [nthF_eq (by omega)]; simp
  have hT : ∀ i, i < len → nthT ((List.range len).map f) i = (f i).2 := fun i hi => by rw [nthT_eq (by omega)]; simp
  refine ⟨(List.range len).map f, hlen.symm, ?_, fun i hi => ?_⟩
  · refine ⟨by rw [length_cellsP], by omega, hn, ?_⟩
    rcases Nat.eq_zero_or_pos len with h0 | h0
    · exact .inl (by omega)
    · right
      obtain ⟨_, _, x, hx, hc0, _⟩ := hf 0 h0
      obtain ⟨b, off, spot⟩ := x
      have hspot : spot = none := by simpa [Addr.add] using World.cell?_spot hc0
      subst hspot
      refine ⟨b, off, ?_, hx, fun i u hu => ?_⟩
      · have := World.block_lt_of_cell? w _ hc0
        simpa [Addr.add] using this
      · have hi : i < len * 2 := by
          have := (List.getElem?_eq_some_iff.1 hu).1
          rw [length_cellsP, hlen] at this; exact this
        have hq : i / 2 < len := by omega
        obtain ⟨_, _, x', hx', e0, e1⟩ := hf (i / 2) hq
        rw [hx] at hx'
        obtain rfl := Option.some.inj hx'
        rw [Addr.add_lit] at e0 e1
        have hat := cellsP_at k ((List.range len).map f) (i / 2) (by omega)
        rw [hF _ hq, hT _ hq] at hat
        rcases Nat.mod_two_eq_zero_or_one i with h2 | h2
        · have e : i / 2 * 2 = i := by omega
          rw [e] at hat e0
          rw [hat.1] at hu
          rw [← hu]; exact e0
        · have e : i / 2 * 2 + 1 = i := by omega
          rw [e] at hat e1
          rw [hat.2] at hu
          rw [← hu]; exact e1
  · rw [hF i (by omega), hT i (by omega)]
    obtain ⟨w1, w2, _⟩ := hf i (by omega)
    exact ⟨w1, w2⟩

/-- a slice of structs of two integers of one kind -/
theorem sl_of_pairs {t e : TypeId} {f0 f1 : Field} {k : IntKind} {a : Option Addr} {len cap : Nat} {d : DataW H} {ps : List MemPlace} (ht : P.underlying t = some (.slice e)) (he : P.underlying e = some (.struct #[f0, f1])) (hc : P.cellsOf e = 2)
    (o0 : f0.offset = 0) (o1 : f1.offset = 1) (c0 : P.cellsOf f0.type = 1) (c1 : P.cellsOf f1.type = 1) (u0 : P.underlying f0.type = some (.int k)) (u1 : P.underlying f1.type = some (.int k))
    (h : DataW.Trod enc P w 0 (fun _ => true) true t (.slice a len cap) d ps) :
    ∃ rs : List (Int × Int), len = rs.length ∧ Sl w w.heap.size a rs.length cap 2 (cellsP k rs) ∧ (∀ i, i < rs.length → (Lit.int k (nthF rs i)).wf = true ∧ (Lit.int k (nthT rs i)).wf = true) ∧ rs.length ≤ 9223372036854775807 := by
  obtain ⟨h1, h2, h3, h4⟩ := slice_elems ht hc (fun cs => ∃ u v, cs = [Value.int k u, Value.int k v] ∧ (Lit.int k u).wf = true ∧ (Lit.int k v).wf = true) (fun n cs x hx => by
    obtain ⟨xs, m, _, _, hl, hxl, hf⟩ := DataW.trod_struct he hx
    rw [hc] at hl
    match xs, hxl, cs, hl with
    | [y0, y1], _, [v0, v1], _ =>
      have g0 := hf 0 f0 rfl
      have g1 := hf 1 f1 rfl
      simp [o0, o1, c0, c1] at g0 g1
      obtain ⟨u, e0, _, wu⟩ := DataW.trod_int u0 g0
      obtain ⟨v, e1, _, wv⟩ := DataW.trod_int u1 g1
      simp at e0 e1
      subst e0 e1
      exact ⟨u, v, rfl, wu, wv⟩) h
  obtain ⟨rs, rfl, hs, hw⟩ := sl_of_elems h1 h3 h4
  exact ⟨rs, rfl, hs, hw, by unfold maxLen at h2; omega⟩

/-- a slice of arrays of two integers -/
theorem sl_of_arr2 {t e i0 : TypeId} {k : IntKind} {a : Option Addr} {len cap : Nat} {d : DataW H} {ps : List MemPlace} (ht : P.underlying t = some (.slice e)) (he : P.underlying e = some (.array 2 i0)) (hc : P.cellsOf e = 2)
    (c0 : P.cellsOf i0 = 1) (u0 : P.underlying i0 = some (.int k))
    (h : DataW.Trod enc P w 0 (fun _ => true) true t (.slice a len cap) d ps) :
    ∃ rs : List (Int × Int), len = rs.length ∧ Sl w w.heap.size a rs.length cap 2 (cellsP k rs) ∧ (∀ i, i < rs.length → (Lit.int k (nthF rs i)).wf = true ∧ (Lit.int k (nthT rs i)).wf = true) ∧ rs.length ≤ 9223372036854775807 := by
  obtain ⟨h1, h2, h3, h4⟩ := slice_elems ht hc (fun cs => ∃ u v, cs = [Value.int k u, Value.int k v] ∧ (Lit.int k u).wf = true ∧ (Lit.int k v).wf = true) (fun n cs x hx => by
    obtain ⟨xs, m, _, _, hl, hxl, hf⟩ := DataW.trod_array he hx
    rw [hc] at hl
    match xs, hxl, cs, hl with
    | [y0, y1], _, [v0, v1], _ =>
      have g0 := hf 0 (by omega)
      have g1 := hf 1 (by omega)
      simp [c0] at g0 g1
      obtain ⟨u, e0, _, wu⟩ := DataW.trod_int u0 g0
      obtain ⟨v, e1, _, wv⟩ := DataW.trod_int u0 g1
      simp at e0 e1
      subst e0 e1
      exact ⟨u, v, rfl, wu, wv⟩) h
  obtain ⟨rs, rfl, hs, hw⟩ := sl_of_elems h1 h3 h4
  exact ⟨rs, rfl, hs, hw, by unfold maxLen at h2; omega⟩

/-- a slice of integers -/
theorem sl_of_ints {t e : TypeId} {k : IntKind} {a : Option Addr} {len cap : Nat} {d : DataW H} {ps : List MemPlace} (ht : P.underlying t = some (.slice e)) (hc : P.cellsOf e = 1) (u0 : P.underlying e = some (.int k))
    (h : DataW.Trod enc P w 0 (fun _ => true) true t (.slice a len cap) d ps) :
    ∃ xs : List Int, len = xs.length ∧ Sl w w.heap.size a xs.length cap 1 (cellsK k xs) ∧ (∀ n ∈ xs, (Lit.int k n).wf = true) ∧ xs.length ≤ 9223372036854775807 := by
  obtain ⟨fuel, hf⟩ := h
  rcases open_ints ht u0 hc hf with ⟨hcs, _⟩ | ⟨x, l, c, zs, hcs, _, hl, hm, hz, _, hcell, hwz⟩
  · simp [Value.cells] at hcs
    obtain ⟨rfl, rfl, rfl⟩ := hcs
    exact sl_of_row (zs := []) (.inl ⟨rfl, rfl, rfl, rfl⟩)
  · simp [Value.cells] at hcs
    obtain ⟨rfl, rfl, rfl⟩ := hcs
    exact sl_of_row (.inr ⟨_, rfl, hl, hm, by simpa using hz, hcell, hwz⟩)

/-- a slice of bools -/
theorem sl_of_bools {t e : TypeId} {a : Option Addr} {len cap : Nat} {d : DataW H} {ps : List MemPlace} (ht : P.underlying t = some (.slice e)) (hc : P.cellsOf e = 1) (u0 : P.underlying e = some .bool)
    (h : DataW.Trod enc P w 0 (fun _ => true) true t (.slice a len cap) d ps) :
    ∃ bs : List Bool, len = bs.length ∧ Sl w w.heap.size a bs.length cap 1 (cellsB bs) ∧ bs.length ≤ 9223372036854775807 := by
  obtain ⟨h1, h2, h3, h4⟩ := slice_elems ht hc (fun cs => ∃ b, cs = [Value.bool b]) (fun n cs x hx => by
    obtain ⟨b, e0, _⟩ := DataW.trod_bool u0 hx
    exact ⟨b, e0⟩) h
  obtain ⟨f, hf⟩ := choose_lt (α := Bool) (p := fun i q => ∃ x, a = some x ∧ w.cell? (x.add i) = some (.bool q)) (fun i hi => by
    obtain ⟨cs, x, ⟨b, rfl⟩, _, hx, hc'⟩ := h4 i hi
    exact ⟨b, x, hx, by simpa using hc' 0 (by omega)⟩)
  have hlen : ((List.range len).map f).length = len := by simp
  have hB : ∀ i, i < len → nthB ((List.range len).map f) i = f i := fun i hi => by rw [nthB_eq (by omega)]; simp
  refine ⟨(List.range len).map f, hlen.symm, ⟨by rw [length_cellsB]; omega, by omega, h3, ?_⟩, by unfold maxLen at h2; omega⟩
  rcases Nat.eq_zero_or_pos len with h0 | h0
  · exact .inl (by omega)
  · right
    obtain ⟨x, hx, hc0⟩ := hf 0 h0
    obtain ⟨b, off, spot⟩ := x
    have hspot : spot = none := by simpa [Addr.add] using World.cell?_spot hc0
    subst hspot
    refine ⟨b, off, ?_, hx, fun i u hu => ?_⟩
    · have := World.block_lt_of_cell? w _ hc0
      simpa [Addr.add] using this
    · have hi : i < len := by
        have := (List.getElem?_eq_some_iff.1 hu).1
        rw [length_cellsB, hlen] at this; exact this
      obtain ⟨x', hx', e0⟩ := hf i hi
      rw [hx] at hx'
      obtain rfl := Option.some.inj hx'
      rw [Addr.add_lit] at e0
      have hat := cellsB_at ((List.range len).map f) i (by omega)
      rw [hB _ hi] at hat
      rw [hat] at hu
      rw [← hu]; exact e0
end
end Go.Proofs.Ymbrdr
