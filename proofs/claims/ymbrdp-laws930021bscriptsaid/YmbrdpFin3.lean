/- From the reading of an argument that is a slice of steps to 'StepsAt'. -/
import Derived.Test.YmbrdpFin2
import Derived.Test.YmbrdpSteps
namespace Go.Proofs.Ymbrdp
open Go.ChangeShapes Go.WideShapes Go.ChangeAt Go.RowKit Go.Deep
set_option linter.unusedVariables false
set_option linter.unusedSimpArgs false

section
variable {H : Type} {enc : TypeId × Value → H} {P : Program} {w : World}

/-- a slice of structs of a bool and two uint8 -/
theorem sl_of_steps {t e : TypeId} {f0 f1 f2 : Field} {a : Option Addr} {len cap : Nat} {d : DataW H} {ps : List MemPlace} (ht : P.underlying t = some (.slice e)) (he : P.underlying e = some (.struct #[f0, f1, f2])) (hc : P.cellsOf e = 3)
    (o0 : f0.offset = 0) (o1 : f1.offset = 1) (o2 : f2.offset = 2) (c0 : P.cellsOf f0.type = 1) (c1 : P.cellsOf f1.type = 1) (c2 : P.cellsOf f2.type = 1) (u0 : P.underlying f0.type = some .bool) (u1 : P.underlying f1.type = some (.int .u8)) (u2 : P.underlying f2.type = some (.int .u8))
    (h : DataW.Trod enc P w 0 (fun _ => true) true t (.slice a len cap) d ps) :
    ∃ rs : List (Bool × Int × Int), len = rs.length ∧ StepsAt w w.heap.size a rs ∧ (∀ i, i < rs.length → (Lit.int .u8 (nthU rs i)).wf = true ∧ (Lit.int .u8 (nthV rs i)).wf = true) ∧ rs.length ≤ 9223372036854775807 := by
  obtain ⟨h1, h2, h3, h4⟩ := slice_elems ht hc (fun cs => ∃ b u v, cs = [Value.bool b, Value.int .u8 u, Value.int .u8 v] ∧ (Lit.int .u8 u).wf = true ∧ (Lit.int .u8 v).wf = true) (fun n cs x hx => by
    obtain ⟨xs, m, _, _, hl, hxl, hf⟩ := DataW.trod_struct he hx
    rw [hc] at hl
    match xs, hxl, cs, hl with
    | [y0, y1, y2], _, [v0, v1, v2], _ =>
      have g0 := hf 0 f0 rfl
      have g1 := hf 1 f1 rfl
      have g2 := hf 2 f2 rfl
      simp [o0, o1, o2, c0, c1, c2] at g0 g1 g2
      obtain ⟨b, e0, _⟩ := DataW.trod_bool u0 g0
      obtain ⟨u, e1, _, wu⟩ := DataW.trod_int u1 g1
      obtain ⟨v, e2, _, wv⟩ := DataW.trod_int u2 g2
      simp at e0 e1 e2
      subst e0 e1 e2
      exact ⟨b, u, v, rfl, wu, wv⟩) h
  obtain ⟨f, hf⟩ := choose_lt (α := Bool × Int × Int) (p := fun i q => (Lit.int .u8 q.2.1).wf = true ∧ (Lit.int .u8 q.2.2).wf = true ∧ ∃ x, a = some x ∧ w.cell? (x.add (i * 3)) = some (.bool q.1) ∧ w.cell? (x.add (i * 3 + 1)) = some (.int .u8 q.2.1) ∧ w.cell? (x.add (i * 3 + 2)) = some (.int .u8 q.2.2)) (fun i hi => by
    obtain ⟨cs, x, ⟨b, u, v, rfl, wu, wv⟩, _, hx, hc'⟩ := h4 i hi
    exact ⟨(b, u, v), wu, wv, x, hx, by simpa using hc' 0 (by omega), by simpa using hc' 1 (by omega), by simpa using hc' 2 (by omega)⟩)
  have hlen : ((List.range len).map f).length = len := by simp
  have hD : ∀ i, i < len → ((List.range len).map f).getD i (false, 0, 0) = f i := fun i hi => by simp [List.getD, hi]
  have hA : ∀ i, i < len → nthA ((List.range len).map f) i = (f i).1 := fun i hi => by unfold nthA; rw [hD i hi]
  have hU : ∀ i, i < len → nthU ((List.range len).map f) i = (f i).2.1 := fun i hi => by unfold nthU; rw [hD i hi]
  have hV : ∀ i, i < len → nthV ((List.range len).map f) i = (f i).2.2 := fun i hi => by unfold nthV; rw [hD i hi]
  refine ⟨(List.range len).map f, hlen.symm, ?_, fun i hi => ?_, by unfold maxLen at h2; omega⟩
  · rcases Nat.eq_zero_or_pos len with h0 | h0
    · exact .inl (by omega)
    · right
      obtain ⟨_, _, x, hx, hc0, _⟩ := hf 0 h0
      obtain ⟨b, off, spot⟩ := x
      have hspot : spot = none := by simpa [Addr.add] using World.cell?_spot hc0
      subst hspot
      refine ⟨b, off, ?_, hx, fun i hi => ?_⟩
      · have := World.block_lt_of_cell? w _ hc0
        simpa [Addr.add] using this
      · obtain ⟨_, _, x', hx', e0, e1, e2⟩ := hf i (by omega)
        rw [hx] at hx'
        obtain rfl := Option.some.inj hx'
        rw [Addr.add_lit] at e0 e1 e2
        rw [hA i (by omega), hU i (by omega), hV i (by omega)]
        exact ⟨e0, e1, e2⟩
  · rw [hU i (by omega), hV i (by omega)]
    obtain ⟨w1, w2, _⟩ := hf i (by omega)
    exact ⟨w1, w2⟩
end
end Go.Proofs.Ymbrdp
