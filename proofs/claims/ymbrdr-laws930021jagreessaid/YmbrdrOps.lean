/- 'make' and 'append' at this program's own types, as laws for the walk. -/
import Derived.Test.YmbrdrHeap
namespace Go.Proofs.Ymbrdr
open Go.ChangeShapes Go.WideShapes Go.ChangeAt Go.RowKit

section
variable {w : World} {ops : Array Oper} {rest : List Oper} {o : Oper} {a : Act} {Q : Exit → Act → World → Prop}

/-- make([]T, 0, n) -/
theorem wpl_make0 (t e : TypeId) (z : Value) (size bytes : Nat) (ht : Ydrm.prog.underlying t = some (.slice e)) (hinfo : (Ydrm.prog.info? e).map (fun i => (i.zero, i.size, i.bytes)) = some (some z, size, bytes))
    (hgd : o.guard = none) (l c : Operand) (hop : o.op = Op.makeSlice t l c) (n : Nat) (C : Int) (hl : a.eval l = .int .i64 0) (hc : a.eval c = .int .i64 C) (hC : C = (n : Int)) (b2 : bytes * n ≤ 281474976710656) (b3 : n ≤ 9223372036854775807)
    (hK : ∀ w', Own w' e size w.heap.size 0 n [] → Below w.heap.size w w' → w.heap.size < w'.heap.size → wpList Ydrm.prog ops Q rest (a.put o.dst (.slice (some ⟨w.heap.size, 0, none⟩) 0 n)) w') :
    wpList Ydrm.prog ops Q (o :: rest) a w := by
  obtain ⟨i, hi, hz0, hz1, hz2⟩ := info_parts hinfo
  refine wpList_make_own w hgd l c t hop w.heap.size e i z size ht hi hz0 hz1 .i64 .i64 C n hl hc hC (by rw [hz2]; exact b2) (by unfold maxLen; omega) (Nat.le_refl _) ?_
  intro w' h1 h2
  exact hK w' h1 ((Below.refl _ _).grown h2 (Nat.le_refl _) (fun k hk => by cases hk)) (Own.lt h1)

/-- make([]T, n) -/
theorem wpl_make (t e : TypeId) (z : Value) (size bytes : Nat) (ht : Ydrm.prog.underlying t = some (.slice e)) (hinfo : (Ydrm.prog.info? e).map (fun i => (i.zero, i.size, i.bytes)) = some (some z, size, bytes))
    (hgd : o.guard = none) (l c : Operand) (hop : o.op = Op.makeSlice t l c) (n : Nat) (L C : Int) (hl : a.eval l = .int .i64 L) (hc : a.eval c = .int .i64 C) (hL : L = (n : Int)) (hC : C = (n : Int)) (b2 : bytes * n ≤ 281474976710656) (b3 : n ≤ 9223372036854775807)
    (hK : ∀ w', Own w' e size w.heap.size n n (madeCells z.cells (n * size)).toList → Below w.heap.size w w' → w.heap.size < w'.heap.size → wpList Ydrm.prog ops Q rest (a.put o.dst (.slice (some ⟨w.heap.size, 0, none⟩) n n)) w') :
    wpList Ydrm.prog ops Q (o :: rest) a w := by
  obtain ⟨i, hi, hz0, hz1, hz2⟩ := info_parts hinfo
  refine wpList_make_full w hgd l c t hop w.heap.size e i z size ht hi hz0 hz1 .i64 .i64 L C n hl hc hL hC (by rw [hz2]; exact b2) (by unfold maxLen; omega) (Nat.le_refl _) ?_
  intro w' h1 h2
  exact hK w' h1 ((Below.refl _ _).grown h2 (Nat.le_refl _) (fun k hk => by cases hk)) (Own.lt h1)

theorem wpl_makeI0 (hgd : o.guard = none) (l c : Operand) (hop : o.op = Op.makeSlice 22 l c) (n : Nat) (C : Int) (hl : a.eval l = .int .i64 0) (hc : a.eval c = .int .i64 C) (hC : C = (n : Int)) (b2 : n ≤ 1000000000)
    (hK : ∀ w', OwnI w' w.heap.size n [] → Below w.heap.size w w' → w.heap.size < w'.heap.size → wpList Ydrm.prog ops Q rest (a.put o.dst (.slice (some ⟨w.heap.size, 0, none⟩) 0 n)) w') :
    wpList Ydrm.prog ops Q (o :: rest) a w :=
  wpl_make0 22 3 _ 1 8 Ydrm.underlying22 infoInt hgd l c hop n C hl hc hC (by omega) (by omega) hK

theorem wpl_makeE0 (hgd : o.guard = none) (l c : Operand) (hop : o.op = Op.makeSlice 30 l c) (n : Nat) (C : Int) (hl : a.eval l = .int .i64 0) (hc : a.eval c = .int .i64 C) (hC : C = (n : Int)) (b2 : n ≤ 1000000000)
    (hK : ∀ w', OwnE w' w.heap.size n [] → Below w.heap.size w w' → w.heap.size < w'.heap.size → wpList Ydrm.prog ops Q rest (a.put o.dst (.slice (some ⟨w.heap.size, 0, none⟩) 0 n)) w') :
    wpList Ydrm.prog ops Q (o :: rest) a w :=
  wpl_make0 30 45 _ 2 16 Ydrm.underlying30 infoEdge hgd l c hop n C hl hc hC (by omega) (by omega) hK

theorem wpl_makeI (hgd : o.guard = none) (l c : Operand) (hop : o.op = Op.makeSlice 22 l c) (n : Nat) (L C : Int) (hl : a.eval l = .int .i64 L) (hc : a.eval c = .int .i64 C) (hL : L = (n : Int)) (hC : C = (n : Int)) (b2 : n ≤ 1000000000)
    (hK : ∀ w', OwnI w' w.heap.size n (List.replicate n 0) → Below w.heap.size w w' → w.heap.size < w'.heap.size → wpList Ydrm.prog ops Q rest (a.put o.dst (.slice (some ⟨w.heap.size, 0, none⟩) n n)) w') :
    wpList Ydrm.prog ops Q (o :: rest) a w := by
  refine wpl_make 22 3 _ 1 8 Ydrm.underlying22 infoInt hgd l c hop n L C hl hc hL hC (by omega) (by omega) ?_
  intro w' h
  refine hK w' ?_
  have e1 : (madeCells (Value.cells (.int .i64 0)) (n * 1)).toList = cellsI (List.replicate n 0) := by
    rw [Nat.mul_one]; exact (toList_madeCells_one _ n).trans (by simp [cellsI])
  rw [e1] at h
  unfold OwnI; simpa using h

theorem wpl_makeB (hgd : o.guard = none) (l c : Operand) (hop : o.op = Op.makeSlice 39 l c) (n : Nat) (L C : Int) (hl : a.eval l = .int .i64 L) (hc : a.eval c = .int .i64 C) (hL : L = (n : Int)) (hC : C = (n : Int)) (b2 : n ≤ 1000000000)
    (hK : ∀ w', OwnB w' w.heap.size n (List.replicate n false) → Below w.heap.size w w' → w.heap.size < w'.heap.size → wpList Ydrm.prog ops Q rest (a.put o.dst (.slice (some ⟨w.heap.size, 0, none⟩) n n)) w') :
    wpList Ydrm.prog ops Q (o :: rest) a w := by
  refine wpl_make 39 4 _ 1 1 Ydrm.underlying39 infoBool hgd l c hop n L C hl hc hL hC (by omega) (by omega) ?_
  intro w' h
  refine hK w' ?_
  have e1 : (madeCells (Value.cells (.bool false)) (n * 1)).toList = cellsB (List.replicate n false) := by
    rw [Nat.mul_one]; exact (toList_madeCells_one _ n).trans (by simp [cellsB])
  rw [e1] at h
  unfold OwnB; simpa using h

/-- append within the capacity, from whatever source -/
theorem wpl_app (t e : TypeId) (z : Value) (size bytes : Nat) (ht : Ydrm.prog.underlying t = some (.slice e)) (hinfo : (Ydrm.prog.info? e).map (fun i => (i.zero, i.size, i.bytes)) = some (some z, size, bytes))
    (hgd : o.guard = none) (s x : Operand) (hop : o.op = Op.call { callee := Callee.builtin Builtin.append, args := #[s, x], argTypes := #[t, t] })
    (g k cap : Nat) (xs : List Value) (hs : a.eval s = .slice (some ⟨g, 0, none⟩) k cap) (hown : Own w e size g k cap xs) (ao : Option Addr) (m c : Nat) (news : List Value) (hx : a.eval x = .slice ao m c) (hn : news.length = m * size)
    (hsrc : (ao = none → m = 0 ∧ c = 0) ∧ ∀ ad, ao = some ad → ∀ j u, news[j]? = some u → w.cell? (ad.add j) = some u) (h1c : ∀ u ∈ news, u.oneCell' = true) (b1 : k + m ≤ cap)
    (hK : ∀ w', Own w' e size g (k + m) cap (xs ++ news) → w.grownBy w' (some g) → wpList Ydrm.prog ops Q rest (a.put o.dst (.slice (some ⟨g, 0, none⟩) (k + m) cap)) w') :
    wpList Ydrm.prog ops Q (o :: rest) a w := by
  obtain ⟨i, hi, hz0, hz1, hz2⟩ := info_parts hinfo
  exact wpList_append_fits_any w hgd s x t hop g e i size ht hi hz1 g k cap xs hs hown ao m c news hx hn hsrc.1 hsrc.2 h1c b1 hK

/-- out = append(out, y), within the capacity, ints -/
theorem wpl_appI (hgd : o.guard = none) (s x : Operand) (hop : o.op = Op.call { callee := Callee.builtin Builtin.append, args := #[s, x], argTypes := #[22, 22] })
    (g cap k : Nat) (xs : List Int) (y : Int) (hs : a.eval s = .slice (some ⟨g, 0, none⟩) k cap) (hk : k = xs.length) (hown : OwnI w g cap xs) (h : Nat) (c : Nat) (hx : a.eval x = .slice (some ⟨h, 0, none⟩) 1 c) (hcell : w.cell? ⟨h, 0, none⟩ = some (.int .i64 y)) (b1 : xs.length + 1 ≤ cap)
    (hK : ∀ w', OwnI w' g cap (xs ++ [y]) → w.grownBy w' (some g) → wpList Ydrm.prog ops Q rest (a.put o.dst (.slice (some ⟨g, 0, none⟩) (k + 1) cap)) w') :
    wpList Ydrm.prog ops Q (o :: rest) a w := by
  subst hk
  refine wpl_app 22 3 _ 1 8 Ydrm.underlying22 infoInt hgd s x hop g xs.length cap (cellsI xs) hs hown (some ⟨h, 0, none⟩) 1 c (cellsI [y]) hx rfl ⟨fun h => (by cases h), fun ad had j u hu => ?_⟩ (one_cellsI _) b1 ?_
  · obtain rfl := Option.some.inj had
    match j, hu with
    | 0, hu => simp [cellsI] at hu; subst hu; rw [Addr.add_lit]; exact hcell
    | j + 1, hu => simp [cellsI] at hu
  · intro w' h1 h2
    refine hK w' ?_ h2
    unfold OwnI
    rw [cellsI_append]
    simpa using h1

/-- out = append(out, Edge), within the capacity -/
theorem wpl_appE (hgd : o.guard = none) (s x : Operand) (hop : o.op = Op.call { callee := Callee.builtin Builtin.append, args := #[s, x], argTypes := #[30, 30] })
    (g cap k : Nat) (es : List (Int × Int)) (y : Int × Int) (hs : a.eval s = .slice (some ⟨g, 0, none⟩) k cap) (hk : k = es.length) (hown : OwnE w g cap es) (h : Nat) (c : Nat) (hx : a.eval x = .slice (some ⟨h, 0, none⟩) 1 c)
    (hcell : w.cell? ⟨h, 0, none⟩ = some (.int .i64 y.1) ∧ w.cell? ⟨h, 1, none⟩ = some (.int .i64 y.2)) (b1 : es.length + 1 ≤ cap)
    (hK : ∀ w', OwnE w' g cap (es ++ [y]) → w.grownBy w' (some g) → wpList Ydrm.prog ops Q rest (a.put o.dst (.slice (some ⟨g, 0, none⟩) (k + 1) cap)) w') :
    wpList Ydrm.prog ops Q (o :: rest) a w := by
  subst hk
  refine wpl_app 30 45 _ 2 16 Ydrm.underlying30 infoEdge hgd s x hop g es.length cap (cellsE es) hs hown (some ⟨h, 0, none⟩) 1 c (cellsE [y]) hx rfl ⟨fun h => (by cases h), fun ad had j u hu => ?_⟩ (one_cellsP _ _) b1 ?_
  · obtain rfl := Option.some.inj had
    match j, hu with
    | 0, hu => simp [cellsE, cellsP] at hu; subst hu; rw [Addr.add_lit]; exact hcell.1
    | 1, hu => simp [cellsE, cellsP] at hu; subst hu; rw [Addr.add_lit]; exact hcell.2
    | j + 2, hu => simp [cellsE, cellsP] at hu
  · intro w' h1 h2
    refine hK w' ?_ h2
    unfold OwnE
    rw [cellsE_append]
    simpa using h1

/-- out = append(out, Edge), it may grow: the new row is the old one or the last block -/
theorem wpl_appEg (hgd : o.guard = none) (s x : Operand) (hop : o.op = Op.call { callee := Callee.builtin Builtin.append, args := #[s, x], argTypes := #[30, 30] })
    (g cap k : Nat) (es : List (Int × Int)) (y : Int × Int) (hs : a.eval s = .slice (some ⟨g, 0, none⟩) k cap) (hk : k = es.length) (hown : OwnE w g cap es) (h : Nat) (c : Nat) (hx : a.eval x = .slice (some ⟨h, 0, none⟩) 1 c)
    (hcell : w.cell? ⟨h, 0, none⟩ = some (.int .i64 y.1) ∧ w.cell? ⟨h, 1, none⟩ = some (.int .i64 y.2)) (b1 : es.length + 1 ≤ 1000000000)
    (hK : ∀ g' cap' w', OwnE w' g' cap' (es ++ [y]) → w.grownBy w' (some g) → (g' = g ∨ g' = w.heap.size) → wpList Ydrm.prog ops Q rest (a.put o.dst (.slice (some ⟨g', 0, none⟩) (k + 1) cap')) w') :
    wpList Ydrm.prog ops Q (o :: rest) a w := by
  subst hk
  obtain ⟨i, hi, hz0, hz1, hz2⟩ := info_parts infoEdge
  refine wpList_append_lies w hgd s x 30 hop g 45 i _ 2 16 Ydrm.underlying30 hi hz0 hz1 hz2 rfl (by decide) _ es.length (cellsE es) hs hown ⟨h, 0, none⟩ 1 c (cellsE [y]) hx rfl ?_ (one_cellsP _ _) (by omega) (by unfold maxLen; omega) (by omega) (Nat.le_of_lt (Own.lt hown)) w.heap.size rfl ?_
  · intro j u hu
    match j, hu with
    | 0, hu => simp [cellsE, cellsP] at hu; subst hu; rw [Addr.add_lit]; exact hcell.1
    | 1, hu => simp [cellsE, cellsP] at hu; subst hu; rw [Addr.add_lit]; exact hcell.2
    | j + 2, hu => simp [cellsE, cellsP] at hu
  · intro g' cap' w' h1 h2 h3 h4
    refine hK g' cap' w' ?_ h2 ?_
    · unfold OwnE Own
      rw [cellsE_append]
      refine ⟨by simpa using h1.1, ?_⟩
      rcases h1.2 with ⟨h', _⟩ | ⟨g2, cap2, cur, h', _, r⟩
      · simp at h'
      · simp only [Value.slice.injEq, Option.some.injEq, Addr.mk.injEq, and_true, true_and] at h'
        obtain ⟨rfl, rfl⟩ := h'
        exact .inr ⟨g', cap', cur, by simp, Nat.le_refl _, by simpa using r⟩
    · rcases h3 with h3 | h3
      · simp [Value.ownBlock] at h3; exact .inl h3.symm
      · exact .inr h3

/-- out = append(out, y), it may grow -/
theorem wpl_appIg (hgd : o.guard = none) (s x : Operand) (hop : o.op = Op.call { callee := Callee.builtin Builtin.append, args := #[s, x], argTypes := #[22, 22] })
    (g cap k : Nat) (xs : List Int) (y : Int) (hs : a.eval s = .slice (some ⟨g, 0, none⟩) k cap) (hk : k = xs.length) (hown : OwnI w g cap xs) (h : Nat) (c : Nat) (hx : a.eval x = .slice (some ⟨h, 0, none⟩) 1 c)
    (hcell : w.cell? ⟨h, 0, none⟩ = some (.int .i64 y)) (b1 : xs.length + 1 ≤ 1000000000)
    (hK : ∀ g' cap' w', OwnI w' g' cap' (xs ++ [y]) → w.grownBy w' (some g) → (g' = g ∨ g' = w.heap.size) → wpList Ydrm.prog ops Q rest (a.put o.dst (.slice (some ⟨g', 0, none⟩) (k + 1) cap')) w') :
    wpList Ydrm.prog ops Q (o :: rest) a w := by
  subst hk
  obtain ⟨i, hi, hz0, hz1, hz2⟩ := info_parts infoInt
  refine wpList_append_lies w hgd s x 22 hop g 3 i _ 1 8 Ydrm.underlying22 hi hz0 hz1 hz2 rfl (by decide) _ xs.length (cellsI xs) hs hown ⟨h, 0, none⟩ 1 c (cellsI [y]) hx rfl ?_ (one_cellsI _) (by omega) (by unfold maxLen; omega) (by omega) (Nat.le_of_lt (Own.lt hown)) w.heap.size rfl ?_
  · intro j u hu
    match j, hu with
    | 0, hu => simp [cellsI] at hu; subst hu; rw [Addr.add_lit]; exact hcell
    | j + 1, hu => simp [cellsI] at hu
  · intro g' cap' w' h1 h2 h3 h4
    refine hK g' cap' w' ?_ h2 ?_
    · unfold OwnI Own
      rw [cellsI_append]
      refine ⟨by simpa using h1.1, ?_⟩
      rcases h1.2 with ⟨h', _⟩ | ⟨g2, cap2, cur, h', _, r⟩
      · simp at h'
      · simp only [Value.slice.injEq, Option.some.injEq, Addr.mk.injEq, and_true, true_and] at h'
        obtain ⟨rfl, rfl⟩ := h'
        exact .inr ⟨g', cap', cur, by simp, Nat.le_refl _, by simpa using r⟩
    · rcases h3 with h3 | h3
      · simp [Value.ownBlock] at h3; exact .inl h3.symm
      · exact .inr h3
/-- copy(in, c), in a row of the call's own just as long as c -/
theorem wpl_copyI (hgd : o.guard = none) (d s : Operand) (hop : o.op = Op.call { callee := Callee.builtin Builtin.copy, args := #[d, s], argTypes := #[22, 22] })
    (g : Nat) (xs ys : List Int) (B cap : Nat) (ao : Option Addr) (n : Nat) (hx : n = xs.length) (hl : ys.length = xs.length) (hd : a.eval d = .slice (some ⟨g, 0, none⟩) n n) (hs : a.eval s = .slice ao ys.length cap)
    (hown : OwnI w g xs.length xs) (hsl : Sl w B ao ys.length cap 1 (cellsI ys)) (hB : B ≤ g)
    (hK : ∀ w', OwnI w' g xs.length ys → Below B w w' → wpList Ydrm.prog ops Q rest (a.put o.dst (.int .i64 ys.length)) w') :
    wpList Ydrm.prog ops Q (o :: rest) a w := by
  subst hx
  have hlt := hown.lt
  have hblk : w.heap[g]? = some (.cells (cellsI xs).toArray 3 (0, 0)) := by
    rcases hown.2 with ⟨h', _⟩ | ⟨g2, cap2, cur, h', _, hh, _, _, hc, ht⟩
    · simp at h'
    · simp only [Value.slice.injEq, Option.some.injEq, Addr.mk.injEq, and_true, true_and] at h'
      obtain ⟨rfl, rfl⟩ := h'
      rw [hh, ← ht, List.take_of_length_le (by simp; omega)]
  refine wpList_copy_splice hgd d s 22 22 hop 3 Ydrm.underlying22 (by kernel_rfl) (some ⟨g, 0, none⟩) ao xs.length xs.length ys.length cap hd hs g 0 (cellsI xs) 3 hblk (cellsI ys) (by rw [length_cellsI, hl]; exact (Nat.min_self _).symm) ?_ (by rw [length_cellsI, length_cellsI]; omega) (one_cellsI _) B w (Below.refl _ _) hB ?_
  · intro h0
    refine ⟨rfl, ?_⟩
    rw [length_cellsI] at h0
    rcases hsl.rd with h | ⟨b, off, h1, h2, h3⟩
    · omega
    · exact ⟨_, h2, fun j v hv => by rw [Addr.add_lit]; exact h3 j v hv⟩
  · intro w' h1 h2
    have e : splice (cellsI xs) 0 (cellsI ys) = cellsI ys := by
      simp only [splice, List.take_zero, List.nil_append, Nat.zero_add]
      rw [List.drop_eq_nil_of_le (by rw [length_cellsI, length_cellsI]; omega), List.append_nil]
    have h1' := h1.out
    rw [e] at h1'
    rw [length_cellsI]
    refine hK w' ?_ h2
    have hm := hown.2
    refine ⟨by rw [length_cellsI]; omega, .inr ⟨g, xs.length, (cellsI ys).toArray, by rw [hl], Nat.le_refl _, h1', by omega, ?_, by simp [length_cellsI]; omega, by rw [List.take_of_length_le (by simp [length_cellsI])]⟩⟩
    rcases hm with ⟨h', _⟩ | ⟨g2, cap2, cur, h', _, _, _, hc, _⟩
    · simp at h'
    · simp only [Value.slice.injEq, Option.some.injEq, Addr.mk.injEq, and_true, true_and] at h'
      obtain ⟨rfl, rfl⟩ := h'
      exact hc
end
end Go.Proofs.Ymbrdr
