/- A Graph in memory, told of the world. -/
import Derived.Test.YmbrdrOps
namespace Go.Proofs.Ymbrdr
open Go.ChangeShapes Go.WideShapes Go.ChangeAt Go.RowKit

/-- block gb holds a Graph of n vertices whose edge list reads es (its cells below block B) -/
structure Gr (w : World) (B gb : Nat) (n : Int) (eo : Option Addr) (cap : Nat) (es : List (Int × Int)) : Prop where
  lt : gb < B
  c0 : w.cell? ⟨gb, 0, none⟩ = some (.int .i64 n)
  c1 : w.cell? ⟨gb, 1, none⟩ = some (.slice eo es.length cap)
  sl : Sl w B eo es.length cap 2 (cellsE es)
theorem Gr.below {w w' : World} {B gb : Nat} {n : Int} {eo : Option Addr} {cap : Nat} {es : List (Int × Int)} (h : Gr w B gb n eo cap es) (hb : Below B w w') : Gr w' B gb n eo cap es :=
  ⟨h.lt, (hb.cell h.lt).trans h.c0, (hb.cell h.lt).trans h.c1, h.sl.below hb⟩
theorem Gr.mono {w : World} {B B' gb : Nat} {n : Int} {eo : Option Addr} {cap : Nat} {es : List (Int × Int)} (h : Gr w B gb n eo cap es) (hB : B ≤ B') : Gr w B' gb n eo cap es :=
  ⟨by have := h.lt; omega, h.c0, h.c1, h.sl.mono hB⟩
theorem Gr.drewN {w : World} {B gb : Nat} {n : Int} {eo : Option Addr} {cap : Nat} {es : List (Int × Int)} (h : Gr w B gb n eo cap es) (q : Nat) : Gr (w.drewN q) B gb n eo cap es :=
  ⟨h.lt, h.c0, h.c1, h.sl.drewN q⟩
theorem gr_new {w : World} {n : Int} {eo : Option Addr} {ec t : Nat} {es : List (Int × Int)} (h : Sl w w.heap.size eo es.length ec 2 (cellsE es)) : Gr (w.alloc (.cells #[.int .i64 n, .slice eo es.length ec] t)) (w.heap.size + 1) w.heap.size n eo ec es :=
  ⟨by omega, (cell_new2 rfl).1, (cell_new2 rfl).2, (h.below ((Below.refl _ _).alloc (Nat.le_refl _) _)).mono (by omega)⟩
end Go.Proofs.Ymbrdr
