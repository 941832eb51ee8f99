/- Slices that the call made ('Own') and slices that are only read ('Sl'): what the walks of this seat say of memory. -/
import Derived.Test.YmbrdrBase
import Derived.Deep.AppendLies
namespace Go.Proofs.Ymbrdr
open Go.ChangeShapes Go.WideShapes Go.ChangeAt Go.RowKit

/-! ### plain lists, behind names that the walk's rules leave alone -/
def nth (xs : List Int) (i : Nat) : Int := xs.getD i 0
def nthB (xs : List Bool) (i : Nat) : Bool := xs.getD i false
def nthF (es : List (Int × Int)) (i : Nat) : Int := (es.getD i (0, 0)).1
def nthT (es : List (Int × Int)) (i : Nat) : Int := (es.getD i (0, 0)).2
def cellsI (xs : List Int) : List Value := xs.map (Value.int .i64)
def cellsB (xs : List Bool) : List Value := xs.map Value.bool
def cellsK (k : IntKind) (xs : List Int) : List Value := xs.map (Value.int k)
def cellsP (k : IntKind) : List (Int × Int) → List Value
  | [] => []
  | e :: es => .int k e.1 :: .int k e.2 :: cellsP k es
def cellsE (es : List (Int × Int)) : List Value := cellsP .i64 es

theorem nth_eq {xs : List Int} {i : Nat} (h : i < xs.length) : nth xs i = xs[i] := by simp [nth, List.getD, h]
theorem nthB_eq {xs : List Bool} {i : Nat} (h : i < xs.length) : nthB xs i = xs[i] := by simp [nthB, List.getD, h]
theorem nthF_eq {es : List (Int × Int)} {i : Nat} (h : i < es.length) : nthF es i = es[i].1 := by simp [nthF, List.getD, h]
theorem nthT_eq {es : List (Int × Int)} {i : Nat} (h : i < es.length) : nthT es i = es[i].2 := by simp [nthT, List.getD, h]

theorem length_cellsI (xs : List Int) : (cellsI xs).length = xs.length := by simp [cellsI]
theorem length_cellsB (xs : List Bool) : (cellsB xs).length = xs.length := by simp [cellsB]
theorem length_cellsK (k : IntKind) (xs : List Int) : (cellsK k xs).length = xs.length := by simp [cellsK]
theorem length_cellsP (k : IntKind) (es : List (Int × Int)) : (cellsP k es).length = es.length * 2 := by
  induction es with
  | nil => rfl
  | cons e es ih => simp [cellsP, ih]; omega
theorem length_cellsE (es : List (Int × Int)) : (cellsE es).length = es.length * 2 := length_cellsP _ es

theorem cellsI_append (xs ys : List Int) : cellsI (xs ++ ys) = cellsI xs ++ cellsI ys := by simp [cellsI]
theorem cellsB_append (xs ys : List Bool) : cellsB (xs ++ ys) = cellsB xs ++ cellsB ys := by simp [cellsB]
theorem cellsP_append (k : IntKind) (xs ys : List (Int × Int)) : cellsP k (xs ++ ys) = cellsP k xs ++ cellsP k ys := by
  induction xs with
  | nil => rfl
  | cons e es ih => simp [cellsP, ih]
theorem cellsE_append (xs ys : List (Int × Int)) : cellsE (xs ++ ys) = cellsE xs ++ cellsE ys := cellsP_append _ _ _

theorem cellsP_at (k : IntKind) (es : List (Int × Int)) (i : Nat) (h : i < es.length) : (cellsP k es)[i * 2]? = some (.int k (nthF es i)) ∧ (cellsP k es)[i * 2 + 1]? = some (.int k (nthT es i)) := by
  induction es generalizing i with
  | nil => simp at h
  | cons e es ih =>
    cases i with
    | zero => simp [cellsP, nthF, nthT]
    | succ i =>
      have := ih i (by simpa using h)
      have e1 : (i + 1) * 2 = i * 2 + 1 + 1 := by omega
      rw [e1]
      simpa [cellsP, nthF, nthT] using this
theorem cellsK_at (k : IntKind) (xs : List Int) (i : Nat) (h : i < xs.length) : (cellsK k xs)[i]? = some (.int k (nth xs i)) := by simp [cellsK, nth, List.getD, h]
theorem cellsI_at (xs : List Int) (i : Nat) (h : i < xs.length) : (cellsI xs)[i]? = some (.int .i64 (nth xs i)) := cellsK_at _ _ _ h
theorem cellsB_at (xs : List Bool) (i : Nat) (h : i < xs.length) : (cellsB xs)[i]? = some (.bool (nthB xs i)) := by simp [cellsB, nthB, List.getD, h]

theorem one_cellsI (xs : List Int) : ∀ u ∈ cellsI xs, u.oneCell' = true := ints_oneCell _ _
theorem one_cellsB (xs : List Bool) : ∀ u ∈ cellsB xs, u.oneCell' = true := by
  intro u hu
  obtain ⟨_, _, rfl⟩ := List.mem_map.1 hu
  rfl
theorem one_cellsP (k : IntKind) (es : List (Int × Int)) : ∀ u ∈ cellsP k es, u.oneCell' = true := by
  induction es with
  | nil => intro u hu; simp [cellsP] at hu
  | cons e es ih =>
    intro u hu
    simp only [cellsP, List.mem_cons] at hu
    rcases hu with rfl | rfl | hu
    · rfl
    · rfl
    · exact ih u hu
theorem cellsP_drop (k : IntKind) (es : List (Int × Int)) (i : Nat) : (cellsP k es).drop (i * 2) = cellsP k (es.drop i) := by
  induction es generalizing i with
  | nil => simp [cellsP]
  | cons e es ih =>
    cases i with
    | zero => simp
    | succ i => rw [show (i + 1) * 2 = i * 2 + 1 + 1 from by omega]; simpa [cellsP] using ih i
theorem cellsP_take (k : IntKind) (es : List (Int × Int)) (i : Nat) : (cellsP k es).take (i * 2) = cellsP k (es.take i) := by
  induction es generalizing i with
  | nil => simp [cellsP]
  | cons e es ih =>
    cases i with
    | zero => simp [cellsP]
    | succ i => rw [show (i + 1) * 2 = i * 2 + 1 + 1 from by omega]; simpa [cellsP] using ih i

/-! ### a slice that the call made -/
def Own (w : World) (e size g k cap : Nat) (xs : List Value) : Prop := w.ownsRow g e size (.slice (some ⟨g, 0, none⟩) k cap) k xs
def OwnI (w : World) (g cap : Nat) (xs : List Int) : Prop := Own w 3 1 g xs.length cap (cellsI xs)
def OwnB (w : World) (g cap : Nat) (xs : List Bool) : Prop := Own w 4 1 g xs.length cap (cellsB xs)
def OwnE (w : World) (g cap : Nat) (es : List (Int × Int)) : Prop := Own w 45 2 g es.length cap (cellsE es)

section
variable {w w' : World} {e size g k cap : Nat} {xs : List Value}
theorem Own.lt (h : Own w e size g k cap xs) : g < w.heap.size := (World.ownsRow.lt h g rfl).2
theorem Own.le (h : Own w e size g k cap xs) : k ≤ cap := by
  rcases h.2 with ⟨h', _⟩ | ⟨g', cap', cur, h', _, _, hn, _⟩
  · simp at h'
  · simp only [Value.slice.injEq, Option.some.injEq, Addr.mk.injEq, and_true, true_and] at h'
    obtain ⟨rfl, rfl⟩ := h'
    exact hn
theorem Own.grown {row : Option Nat} (h : Own w e size g k cap xs) (hg : w.grownBy w' row) (hne : some g ≠ row) : Own w' e size g k cap xs := World.ownsRow.kept h hg (.inr (by simpa [Value.ownBlock] using hne))
theorem Own.alloc (h : Own w e size g k cap xs) (o : Obj) : Own (w.alloc o) e size g k cap xs := World.ownsRow.alloc h o
theorem Own.drew (h : Own w e size g k cap xs) : Own w.drew e size g k cap xs := h
theorem Own.below {B : Nat} (h : Own w e size g k cap xs) (hb : Below B w w') (hg : g < B) : Own w' e size g k cap xs := by
  refine ⟨h.1, ?_⟩
  rcases h.2 with ⟨h', _⟩ | ⟨g', cap', cur, h', hbb, hh, r⟩
  · simp at h'
  · have e0 := h'
    simp only [Value.slice.injEq, Option.some.injEq, Addr.mk.injEq, and_true, true_and] at e0
    obtain ⟨rfl, rfl⟩ := e0
    exact .inr ⟨g, cap, cur, rfl, hbb, by rw [hb.block g hg]; exact hh, r⟩
theorem Own.other (h : Own w e size g k cap xs) {a : Addr} (ha : a.block ≠ g) (u : Value) : Own (w.setCell a u) e size g k cap xs := by
  refine h.grown (row := some a.block) ⟨rfl, rfl, rfl, by simp [World.setCell], fun j _ hj => heap_setCell_other w a j u (fun e => hj (by simp [e]))⟩ ?_
  intro h; exact ha (Option.some.inj h).symm
theorem Own.cell (h : Own w e size g k cap xs) (j : Nat) (hj : j < k * size) : w.cell? ⟨g, j, none⟩ = xs[j]? := World.ownsRow.cellAt h j hj
theorem Own.frozen (h : Own w e size g k cap xs) (j : Nat) : w.frozen? ⟨g, j, none⟩ = false := World.ownsRow.frozenAt h j
theorem Own.set (h : Own w e size g k cap xs) (j : Nat) (u : Value) : Own (w.setCell ⟨g, j, none⟩ u) e size g k cap (xs.set j u) := (World.ownsRow.stored h j u).1
end

section
variable {w w' : World} {g cap : Nat} {xs : List Int} {bs : List Bool} {es : List (Int × Int)}
theorem OwnI.lt (h : OwnI w g cap xs) : g < w.heap.size := Own.lt h
theorem OwnB.lt (h : OwnB w g cap bs) : g < w.heap.size := Own.lt h
theorem OwnE.lt (h : OwnE w g cap es) : g < w.heap.size := Own.lt h
theorem OwnI.le (h : OwnI w g cap xs) : xs.length ≤ cap := Own.le h
theorem OwnB.le (h : OwnB w g cap bs) : bs.length ≤ cap := Own.le h
theorem OwnE.le (h : OwnE w g cap es) : es.length ≤ cap := Own.le h
theorem OwnI.grown {row : Option Nat} (h : OwnI w g cap xs) (hg : w.grownBy w' row) (hne : some g ≠ row) : OwnI w' g cap xs := Own.grown h hg hne
theorem OwnB.grown {row : Option Nat} (h : OwnB w g cap bs) (hg : w.grownBy w' row) (hne : some g ≠ row) : OwnB w' g cap bs := Own.grown h hg hne
theorem OwnE.grown {row : Option Nat} (h : OwnE w g cap es) (hg : w.grownBy w' row) (hne : some g ≠ row) : OwnE w' g cap es := Own.grown h hg hne
theorem OwnI.alloc (h : OwnI w g cap xs) (o : Obj) : OwnI (w.alloc o) g cap xs := Own.alloc h o
theorem OwnB.alloc (h : OwnB w g cap bs) (o : Obj) : OwnB (w.alloc o) g cap bs := Own.alloc h o
theorem OwnE.alloc (h : OwnE w g cap es) (o : Obj) : OwnE (w.alloc o) g cap es := Own.alloc h o
theorem OwnI.below {B : Nat} (h : OwnI w g cap xs) (hb : Below B w w') (hg : g < B) : OwnI w' g cap xs := Own.below h hb hg
theorem OwnB.below {B : Nat} (h : OwnB w g cap bs) (hb : Below B w w') (hg : g < B) : OwnB w' g cap bs := Own.below h hb hg
theorem OwnE.below {B : Nat} (h : OwnE w g cap es) (hb : Below B w w') (hg : g < B) : OwnE w' g cap es := Own.below h hb hg
theorem OwnI.other (h : OwnI w g cap xs) {a : Addr} (ha : a.block ≠ g) (u : Value) : OwnI (w.setCell a u) g cap xs := Own.other h ha u
theorem OwnB.other (h : OwnB w g cap bs) {a : Addr} (ha : a.block ≠ g) (u : Value) : OwnB (w.setCell a u) g cap bs := Own.other h ha u
theorem OwnE.other (h : OwnE w g cap es) {a : Addr} (ha : a.block ≠ g) (u : Value) : OwnE (w.setCell a u) g cap es := Own.other h ha u
theorem OwnI.cell (h : OwnI w g cap xs) (i : Nat) (hi : i < xs.length) : w.cell? ⟨g, i, none⟩ = some (.int .i64 (nth xs i)) := (Own.cell h i (by omega)).trans (cellsI_at xs i hi)
theorem OwnB.cell (h : OwnB w g cap bs) (i : Nat) (hi : i < bs.length) : w.cell? ⟨g, i, none⟩ = some (.bool (nthB bs i)) := (Own.cell h i (by omega)).trans (cellsB_at bs i hi)
theorem OwnE.cell (h : OwnE w g cap es) (i : Nat) (hi : i < es.length) : w.cell? ⟨g, i * 2, none⟩ = some (.int .i64 (nthF es i)) ∧ w.cell? ⟨g, i * 2 + 1, none⟩ = some (.int .i64 (nthT es i)) :=
  ⟨(Own.cell h _ (by omega)).trans (cellsP_at _ es i hi).1, (Own.cell h _ (by omega)).trans (cellsP_at _ es i hi).2⟩
theorem OwnI.frozen (h : OwnI w g cap xs) (i : Nat) : w.frozen? ⟨g, i, none⟩ = false := Own.frozen h i
theorem OwnB.frozen (h : OwnB w g cap bs) (i : Nat) : w.frozen? ⟨g, i, none⟩ = false := Own.frozen h i
theorem OwnI.set (h : OwnI w g cap xs) (i : Nat) (y : Int) : OwnI (w.setCell ⟨g, i, none⟩ (.int .i64 y)) g cap (xs.set i y) := by
  have := Own.set h i (.int .i64 y)
  unfold OwnI; simpa [cellsI] using this
theorem OwnB.set (h : OwnB w g cap bs) (i : Nat) (y : Bool) : OwnB (w.setCell ⟨g, i, none⟩ (.bool y)) g cap (bs.set i y) := by
  have := Own.set h i (.bool y)
  unfold OwnB; simpa [cellsB] using this
end

/-! ### a slice that is read: its cells lie below block B -/
structure Sl (w : World) (B : Nat) (ao : Option Addr) (n cap size : Nat) (cs : List Value) : Prop where
  len : cs.length = n * size
  le : n ≤ cap
  nil : ao = none → cap = 0
  rd : n = 0 ∨ ∃ b off, b < B ∧ ao = some ⟨b, off, none⟩ ∧ ∀ i u, cs[i]? = some u → w.cell? ⟨b, off + i, none⟩ = some u

section
variable {w w' : World} {B : Nat} {ao : Option Addr} {n cap size : Nat} {cs : List Value}
theorem Sl.below (h : Sl w B ao n cap size cs) (hb : Below B w w') : Sl w' B ao n cap size cs :=
  ⟨h.len, h.le, h.nil, h.rd.imp id fun ⟨b, off, h1, h2, h3⟩ => ⟨b, off, h1, h2, fun i u hu => (hb.cell h1).trans (h3 i u hu)⟩⟩
theorem Sl.mono {B' : Nat} (h : Sl w B ao n cap size cs) (hB : B ≤ B') : Sl w B' ao n cap size cs :=
  ⟨h.len, h.le, h.nil, h.rd.imp id fun ⟨b, off, h1, h2⟩ => ⟨b, off, by omega, h2⟩⟩
theorem Own.sl {e g : Nat} (h : Own w e size g n cap cs) (hg : g < B) : Sl w B (some ⟨g, 0, none⟩) n cap size cs :=
  ⟨h.1, h.le, fun h => (by cases h), .inr ⟨g, 0, hg, rfl, fun i u hu => by
    have hi : i < n * size := by rw [← h.1]; exact (List.getElem?_eq_some_iff.1 hu).1
    rw [Nat.zero_add, h.cell i hi]; exact hu⟩⟩
theorem Sl.empty (w : World) (B : Nat) (ao : Option Addr) (cap size : Nat) (h : ao = none → cap = 0) : Sl w B ao 0 cap size [] := ⟨by simp, Nat.zero_le _, h, .inl rfl⟩

/-- A cut from l on: where its cells lie. -/
theorem Sl.from_ (h : Sl w B ao n cap size cs) (l : Nat) (hl : l ≤ n) {A : Option Addr} (hA : A = if cap = l then ao else ao.map (·.add (l * size))) :
    (A = none → n - l = 0 ∧ cap - l = 0) ∧ ∀ ad, A = some ad → ∀ j u, (cs.drop (l * size))[j]? = some u → w.cell? (ad.add j) = some u := by
  subst hA
  refine ⟨fun hn => ?_, fun ad had j u hu => ?_⟩
  · have := h.le
    cases ao with
    | none => have := h.nil rfl; omega
    | some x => split at hn <;> simp at hn
  · have hj : l * size + j < n * size := by
      have := (List.getElem?_eq_some_iff.1 hu).1
      rw [List.length_drop, h.len] at this; omega
    rw [List.getElem?_drop] at hu
    rcases h.rd with h0 | ⟨b, off, h1, rfl, h3⟩
    · subst h0; simp at hj
    · have hlt : l < n := by
        rcases Nat.lt_or_ge l n with h' | h'
        · exact h'
        · have := Nat.mul_le_mul_right size h'; omega
      rw [if_neg (by have := h.le; omega)] at had
      simp only [Option.map_some, Option.some.injEq, Addr.add_lit] at had
      subst had
      rw [Addr.add_lit, Nat.add_assoc]
      exact h3 _ u hu
/-- A cut up to l. -/
theorem Sl.upto (h : Sl w B ao n cap size cs) (l : Nat) (hl : l ≤ n) :
    (ao = none → l = 0 ∧ cap = 0) ∧ ∀ ad, ao = some ad → ∀ j u, (cs.take (l * size))[j]? = some u → w.cell? (ad.add j) = some u := by
  refine ⟨fun hn => ?_, fun ad had j u hu => ?_⟩
  · have := h.le; have := h.nil hn; omega
  · have hj : j < l * size := by
      have := (List.getElem?_eq_some_iff.1 hu).1
      rw [List.length_take] at this; omega
    rw [List.getElem?_take_of_lt hj] at hu
    rcases h.rd with h0 | ⟨b, off, h1, rfl, h3⟩
    · have : l = 0 := by omega
      subst this; simp at hj
    · obtain rfl := Option.some.inj had
      rw [Addr.add_lit]
      exact h3 _ u hu
end

theorem Sl.intsAt {w : World} {B : Nat} {ao : Option Addr} {cap : Nat} {k : IntKind} {xs : List Int} (h : Sl w B ao xs.length cap 1 (cellsK k xs)) (h0 : 0 < xs.length) :
    ∃ b off, b < B ∧ ao = some ⟨b, off, none⟩ ∧ ∀ i, i < xs.length → w.cell? ⟨b, off + i, none⟩ = some (.int k (nth xs i)) := by
  rcases h.rd with h' | ⟨b, off, h1, h2, h3⟩
  · omega
  · exact ⟨b, off, h1, h2, fun i hi => h3 i _ (cellsK_at k xs i hi)⟩
theorem Sl.boolsAt {w : World} {B : Nat} {ao : Option Addr} {cap : Nat} {xs : List Bool} (h : Sl w B ao xs.length cap 1 (cellsB xs)) (h0 : 0 < xs.length) :
    ∃ b off, b < B ∧ ao = some ⟨b, off, none⟩ ∧ ∀ i, i < xs.length → w.cell? ⟨b, off + i, none⟩ = some (.bool (nthB xs i)) := by
  rcases h.rd with h' | ⟨b, off, h1, h2, h3⟩
  · omega
  · exact ⟨b, off, h1, h2, fun i hi => h3 i _ (cellsB_at xs i hi)⟩
theorem Sl.pairsAt {w : World} {B : Nat} {ao : Option Addr} {cap : Nat} {k : IntKind} {es : List (Int × Int)} (h : Sl w B ao es.length cap 2 (cellsP k es)) (h0 : 0 < es.length) :
    ∃ b off, b < B ∧ ao = some ⟨b, off, none⟩ ∧ ∀ i, i < es.length → w.cell? ⟨b, off + i * 2, none⟩ = some (.int k (nthF es i)) ∧ w.cell? ⟨b, off + i * 2 + 1, none⟩ = some (.int k (nthT es i)) := by
  rcases h.rd with h' | ⟨b, off, h1, h2, h3⟩
  · omega
  · exact ⟨b, off, h1, h2, fun i hi => ⟨h3 _ _ (cellsP_at k es i hi).1, by rw [Nat.add_assoc]; exact h3 _ _ (cellsP_at k es i hi).2⟩⟩

theorem OwnI.sl {w : World} {g cap n B : Nat} {xs : List Int} (h : OwnI w g cap xs) (hn : n = xs.length) (hg : g < B) : Sl w B (some ⟨g, 0, none⟩) n cap 1 (cellsI xs) := by subst hn; exact Own.sl h hg
theorem OwnB.sl {w : World} {g cap n B : Nat} {xs : List Bool} (h : OwnB w g cap xs) (hn : n = xs.length) (hg : g < B) : Sl w B (some ⟨g, 0, none⟩) n cap 1 (cellsB xs) := by subst hn; exact Own.sl h hg
theorem OwnE.sl {w : World} {g cap n B : Nat} {es : List (Int × Int)} (h : OwnE w g cap es) (hn : n = es.length) (hg : g < B) : Sl w B (some ⟨g, 0, none⟩) n cap 2 (cellsE es) := by subst hn; exact Own.sl h hg
theorem OwnI.drewN {w : World} {g cap : Nat} {xs : List Int} (h : OwnI w g cap xs) (q : Nat) : OwnI (w.drewN q) g cap xs := h
theorem OwnB.drewN {w : World} {g cap : Nat} {xs : List Bool} (h : OwnB w g cap xs) (q : Nat) : OwnB (w.drewN q) g cap xs := h
theorem OwnE.drewN {w : World} {g cap : Nat} {es : List (Int × Int)} (h : OwnE w g cap es) (q : Nat) : OwnE (w.drewN q) g cap es := h
theorem Sl.drewN {w : World} {B : Nat} {ao : Option Addr} {n cap size : Nat} {cs : List Value} (h : Sl w B ao n cap size cs) (q : Nat) : Sl (w.drewN q) B ao n cap size cs := h.below ⟨rfl, rfl, rfl, Nat.le_refl _, fun _ _ => rfl⟩

theorem cell_new1 {w : World} {n t : Nat} {v : Value} (h : n = w.heap.size) : (w.alloc (.cells #[v] t)).cell? ⟨n, 0, none⟩ = some v := by rw [World.cell?_alloc_at _ _ _ _ h]; rfl
theorem cell_new2 {w : World} {n t : Nat} {u v : Value} (h : n = w.heap.size) : (w.alloc (.cells #[u, v] t)).cell? ⟨n, 0, none⟩ = some u ∧ (w.alloc (.cells #[u, v] t)).cell? ⟨n, 1, none⟩ = some v := by rw [World.cell?_alloc_at _ _ _ _ h, World.cell?_alloc_at _ _ _ _ h]; exact ⟨rfl, rfl⟩
theorem size_setCell (w : World) (a : Addr) (v : Value) : (w.setCell a v).heap.size = w.heap.size := by simp [World.setCell]

/-- 'Below' behind a law on one own row. -/
theorem below_grown {B : Nat} {w0 w w' : World} {g : Nat} (h : Below B w0 w) (hg : w.grownBy w' (some g)) (hB : B ≤ g) (hlt : g < w.heap.size) : Below B w0 w' :=
  h.grown hg (by omega) (fun k hk => by cases hk; exact hB)
end Go.Proofs.Ymbrdr
