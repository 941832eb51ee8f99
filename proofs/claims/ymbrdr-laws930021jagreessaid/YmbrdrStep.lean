/- The append of one Edge as a step of a region that draws its order. -/
import Derived.Test.YmbrdrOps
import Derived.Deep.RegionHeld3
import Derived.Deep.DrawnRows
namespace Go.Proofs.Ymbrdr
open Go.ChangeShapes Go.WideShapes Go.ChangeAt Go.RowKit

/-- 'a % b' on ints, a not negative, b positive and not great -/
theorem run_rem (a b : Int) (ha : 0 ≤ a) (hb : 0 < b) (hb2 : b ≤ 1000000) (w : World) : (binOp .rem 3 (.int .i64 a) (.int .i64 b)).run Ydrm.prog w = .ok (.int .i64 (a % b)) w := by
  have h0 : ¬ b = 0 := by omega
  have h1 : a.tmod b = a % b := Int.tmod_eq_emod_of_nonneg ha
  have h2 := Int.emod_nonneg a h0
  have h3 := Int.emod_lt_of_pos a hb
  have h4 : IntKind.i64.wrap (a % b) = a % b := by rw [IntKind.wrap_i64]; omega
  go_simp

theorem rem_facts (a : Int) (n : Nat) (ha : 0 ≤ a) (ha2 : a ≤ 4294967296) (hn : 0 < n) (hn2 : n ≤ 1000000) : a.tmod (n : Int) = a % (n : Int) ∧ IntKind.i64.wrap (a % (n : Int)) = a % (n : Int) ∧ IntKind.i64.wrap a = a := by
  refine ⟨Int.tmod_eq_emod_of_nonneg ha, ?_, by rw [IntKind.wrap_i64]; omega⟩
  have h2 := Int.emod_nonneg a (show (n : Int) ≠ 0 by omega)
  have h3 := Int.emod_lt_of_pos a (show 0 < (n : Int) by omega)
  rw [IntKind.wrap_i64]; omega

theorem size_alloc (w : World) (o : Obj) : (w.alloc o).heap.size = w.heap.size + 1 := by simp

section
variable {w : World} {ops : Array Oper} {o : Oper} {a : Act} {K : Act → World → Prop} {Q : Exit → Act → World → Prop} {E : Prop}

theorem step_of_wp (hgd : o.guard = none) (h : Oper.wp Ydrm.prog o a w K Q) : if Region.wanted o (yielded ops a.tmps) = true then Oper.wp Ydrm.prog o a w K Q else E := by
  have hw : Region.wanted o (yielded ops a.tmps) = true := by simp [Region.wanted, hgd]
  rw [if_pos hw]; exact h

theorem news_edge {h : Nat} {y : Int × Int} (hcell : w.cell? ⟨h, 0, none⟩ = some (.int .i64 y.1) ∧ w.cell? ⟨h, 1, none⟩ = some (.int .i64 y.2)) : ∀ j u, (cellsE [y])[j]? = some u → w.cell? ((⟨h, 0, none⟩ : Addr).add j) = some u := by
  intro j u hu
  match j, hu with
  | 0, hu => simp [cellsE, cellsP] at hu; subst hu; rw [Addr.add_lit]; exact hcell.1
  | 1, hu => simp [cellsE, cellsP] at hu; subst hu; rw [Addr.add_lit]; exact hcell.2
  | j + 2, hu => simp [cellsE, cellsP] at hu

/-- append(out, Edge) within the capacity -/
theorem step_appE (hgd : o.guard = none) (s x : Operand) (hop : o.op = Op.call { callee := Callee.builtin Builtin.append, args := #[s, x], argTypes := #[30, 30] })
    (g cap k : Nat) (es : List (Int × Int)) (y : Int × Int) (hs : a.eval s = .slice (some ⟨g, 0, none⟩) k cap) (hk : k = es.length) (hown : OwnE w g cap es) (h : Nat) (c : Nat) (hx : a.eval x = .slice (some ⟨h, 0, none⟩) 1 c)
    (hcell : w.cell? ⟨h, 0, none⟩ = some (.int .i64 y.1) ∧ w.cell? ⟨h, 1, none⟩ = some (.int .i64 y.2)) (b1 : es.length + 1 ≤ cap)
    (hK : ∀ w', OwnE w' g cap (es ++ [y]) → w.grownBy w' (some g) → K (a.put o.dst (.slice (some ⟨g, 0, none⟩) (k + 1) cap)) w') :
    if Region.wanted o (yielded ops a.tmps) = true then Oper.wp Ydrm.prog o a w K Q else E := by
  subst hk
  refine step_of_wp hgd ?_
  obtain ⟨i, hi, hz0, hz1, hz2⟩ := info_parts infoEdge
  obtain ⟨w', hrun, r1, r2⟩ := run_append_fits (P := Ydrm.prog) w g 30 o.type 45 i 2 Ydrm.underlying30 hi hz1 g es.length cap (cellsE es) hown ⟨h, 0, none⟩ 1 c (cellsE [y]) rfl (news_edge hcell) (one_cellsP _ _) b1
  unfold Oper.wp
  simp [execOp, hop, resolve, invoke, builtin, hs, hx, hrun, Result.andThen]
  refine hK w' ?_ r2
  unfold OwnE Own
  rw [cellsE_append]
  simpa using r1

/-- append(out, Edge), it may grow -/
theorem step_appEg (hgd : o.guard = none) (s x : Operand) (hop : o.op = Op.call { callee := Callee.builtin Builtin.append, args := #[s, x], argTypes := #[30, 30] })
    (g cap k : Nat) (es : List (Int × Int)) (y : Int × Int) (hs : a.eval s = .slice (some ⟨g, 0, none⟩) k cap) (hk : k = es.length) (hown : OwnE w g cap es) (h : Nat) (c : Nat) (hx : a.eval x = .slice (some ⟨h, 0, none⟩) 1 c)
    (hcell : w.cell? ⟨h, 0, none⟩ = some (.int .i64 y.1) ∧ w.cell? ⟨h, 1, none⟩ = some (.int .i64 y.2)) (b1 : es.length + 1 ≤ 1000000000)
    (hK : ∀ g' cap' w', OwnE w' g' cap' (es ++ [y]) → w.grownBy w' (some g) → (g' = g ∨ g' = w.heap.size) → K (a.put o.dst (.slice (some ⟨g', 0, none⟩) (k + 1) cap')) w') :
    if Region.wanted o (yielded ops a.tmps) = true then Oper.wp Ydrm.prog o a w K Q else E := by
  subst hk
  refine step_of_wp hgd ?_
  obtain ⟨i, hi, hz0, hz1, hz2⟩ := info_parts infoEdge
  refine wp_append_lies w s x 30 hop g 45 i _ 2 16 Ydrm.underlying30 hi hz0 hz1 hz2 rfl (by decide) _ es.length (cellsE es) hs hown ⟨h, 0, none⟩ 1 c (cellsE [y]) hx rfl (news_edge hcell) (one_cellsP _ _) (by omega) (by unfold maxLen; omega) (by omega) (Nat.le_of_lt (Own.lt hown)) w.heap.size rfl ?_
  intro g' cap' w' h1 h2 h3 h4
  refine hK g' cap' w' ?_ h2 ?_
  · unfold OwnE Own
    rw [cellsE_append]
    refine ⟨by simpa using h1.1, ?_⟩
    rcases h1.2 with ⟨h', _⟩ | ⟨g2, cap2, cur, h', _, r⟩
    · simp at h'
    · simp only [Value.slice.injEq, Option.some.injEq, Addr.mk.injEq, and_true, true_and] at h'
      obtain ⟨rfl, rfl⟩ := h'
      exact .inr ⟨g', cap', cur, by simp, Nat.le_refl _, by simpa using r⟩
  · rcases h3 with h3 | h3
    · simp [Value.ownBlock] at h3; exact .inl h3.symm
    · exact .inr h3
end
end Go.Proofs.Ymbrdr
