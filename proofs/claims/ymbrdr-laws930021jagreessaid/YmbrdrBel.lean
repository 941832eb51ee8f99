/- Small laws on worlds: 'Below' with room, and 'all but one block'. -/
import Derived.Test.YmbrdrStep
import Derived.Test.YmbrdrGr
import Derived.Test.YmbrdrSrt
import Derived.Test.YmbrdrFind
namespace Go.Proofs.Ymbrdr
open Go.ChangeShapes Go.WideShapes Go.ChangeAt Go.RowKit

/-- Below, with room to allocate -/
def BelowA (B : Nat) (w0 w : World) : Prop := Below B w0 w ∧ B ≤ w.heap.size
theorem BelowA.refl (w : World) : BelowA w.heap.size w w := ⟨Below.refl _ _, Nat.le_refl _⟩
theorem BelowA.alloc {B : Nat} {w0 w : World} (h : BelowA B w0 w) (o : Obj) : BelowA B w0 (w.alloc o) := ⟨h.1.alloc h.2 o, by have := h.2; rw [size_alloc]; omega⟩
theorem BelowA.grown {B : Nat} {w0 w w' : World} {g : Nat} (h : BelowA B w0 w) (hg : w.grownBy w' (some g)) (hB : B ≤ g) (hlt : g < w.heap.size) : BelowA B w0 w' :=
  have hb := below_grown h.1 hg hB hlt
  ⟨hb, by have := hg.size; have := h.2; omega⟩
theorem BelowA.then {B B' : Nat} {w0 w w' : World} (h : BelowA B w0 w) (hb : Below B' w w') (hB : B ≤ B') : BelowA B w0 w' :=
  ⟨h.1.trans (hb.mono hB), by have := hb.size; have := h.2; omega⟩
theorem BelowA.next {B : Nat} {w0 w w' : World} (h : BelowA B w0 w) (hb : Below w.heap.size w w') : BelowA B w0 w' := h.then hb h.2
theorem BelowA.drew {B : Nat} {w0 w : World} (h : BelowA B w0 w) : BelowA B w0 w.drew := ⟨h.1.drew, h.2⟩
theorem BelowA.drewN {B : Nat} {w0 w : World} (h : BelowA B w0 w) (q : Nat) : BelowA B w0 (w.drewN q) := ⟨below_drewN h.1 q, h.2⟩

/-- nothing but block gb has turned -/
def But (gb : Nat) (w w' : World) : Prop := w.grownBy w' (some gb)
theorem But.refl (gb : Nat) (w : World) : But gb w w := ⟨rfl, rfl, rfl, Nat.le_refl _, fun _ _ _ => rfl⟩
theorem But.trans {gb : Nat} {a b c : World} (h : But gb a b) (k : But gb b c) : But gb a c :=
  ⟨k.os.trans h.os, k.tape.trans h.tape, k.output.trans h.output, Nat.le_trans h.size k.size, fun i hi hn => (k.block i (Nat.lt_of_lt_of_le hi h.size) hn).trans (h.block i hi hn)⟩
theorem but_below {w w' : World} (gb : Nat) (h : Below w.heap.size w w') : But gb w w' := ⟨h.os, h.tape, h.output, h.size, fun i hi _ => h.block i hi⟩
theorem But.below {gb B : Nat} {w w' : World} (h : But gb w w') (hB : B ≤ gb) (hw : B ≤ w.heap.size) : Below B w w' :=
  ⟨h.os, h.tape, h.output, h.size, fun i hi => h.block i (Nat.lt_of_lt_of_le hi hw) (fun e => by cases e; omega)⟩
theorem But.cell {gb : Nat} {w w' : World} (h : But gb w w') {a : Addr} (hlt : a.block < w.heap.size) (hne : a.block ≠ gb) : w'.cell? a = w.cell? a := h.cell_far a hlt (fun e => hne (Option.some.inj e))
theorem But.frozen {gb : Nat} {w w' : World} (h : But gb w w') {a : Addr} (hlt : a.block < w.heap.size) (hne : a.block ≠ gb) : w'.frozen? a = w.frozen? a := World.frozen?_of_block (h.block _ hlt (fun e => hne (Option.some.inj e)))
theorem but_setCell (gb : Nat) (w : World) (j : Nat) (v : Value) : But gb w (w.setCell ⟨gb, j, none⟩ v) :=
  ⟨rfl, rfl, rfl, by simp [World.setCell], fun i _ hn => heap_setCell_other w ⟨gb, j, none⟩ i v (fun e => hn (by rw [e]))⟩
theorem Sl.but {w w' : World} {B gb : Nat} {ao : Option Addr} {n cap size : Nat} {cs : List Value} (h : Sl w B ao n cap size cs) (hb : But gb w w') (hB : B ≤ w.heap.size) (ha : ∀ a, ao = some a → a.block ≠ gb) : Sl w' B ao n cap size cs :=
  ⟨h.len, h.le, h.nil, h.rd.imp id fun ⟨b, off, h1, h2, h3⟩ => ⟨b, off, h1, h2, fun i u hu => (hb.cell (a := ⟨b, off + i, none⟩) (Nat.lt_of_lt_of_le h1 hB) (show b ≠ gb from ha _ h2)).trans (h3 i u hu)⟩⟩

/-- a Graph of the call's own, that may be written -/
structure GrW (w : World) (gb : Nat) (n : Int) (eo : Option Addr) (cap : Nat) (es : List (Int × Int)) : Prop where
  gr : Gr w w.heap.size gb n eo cap es
  fr : ∀ j, w.frozen? ⟨gb, j, none⟩ = false
  ap : ∀ a, eo = some a → a.block ≠ gb
theorem GrW.but {w w' : World} {gb hb : Nat} {n : Int} {eo : Option Addr} {cap : Nat} {es : List (Int × Int)} (h : GrW w gb n eo cap es) (b : But hb w w') (hne : gb ≠ hb) (ha : ∀ a, eo = some a → a.block ≠ hb) : GrW w' gb n eo cap es := by
  have hlt := h.gr.lt
  refine ⟨⟨Nat.lt_of_lt_of_le hlt b.size, ?_, ?_, (h.gr.sl.but b (Nat.le_refl _) ha).mono b.size⟩, fun j => ?_, h.ap⟩
  · rw [b.cell (a := ⟨gb, 0, none⟩) hlt hne]; exact h.gr.c0
  · rw [b.cell (a := ⟨gb, 1, none⟩) hlt hne]; exact h.gr.c1
  · rw [b.frozen (a := ⟨gb, j, none⟩) hlt hne]; exact h.fr j
theorem GrW.below {w w' : World} {gb : Nat} {n : Int} {eo : Option Addr} {cap : Nat} {es : List (Int × Int)} (h : GrW w gb n eo cap es) (b : Below w.heap.size w w') : GrW w' gb n eo cap es :=
  ⟨(h.gr.below b).mono b.size, fun j => by rw [World.frozen?_of_block (b.block gb h.gr.lt)]; exact h.fr j, h.ap⟩
theorem GrW.alloc {w : World} {gb : Nat} {n : Int} {eo : Option Addr} {cap : Nat} {es : List (Int × Int)} (h : GrW w gb n eo cap es) (o : Obj) : GrW (w.alloc o) gb n eo cap es := h.below ((Below.refl _ _).alloc (Nat.le_refl _) o)
theorem GrW.drewN {w : World} {gb : Nat} {n : Int} {eo : Option Addr} {cap : Nat} {es : List (Int × Int)} (h : GrW w gb n eo cap es) (q : Nat) : GrW (w.drewN q) gb n eo cap es := h.below (below_drewN (Below.refl _ _) q)
theorem GrW.drew {w : World} {gb : Nat} {n : Int} {eo : Option Addr} {cap : Nat} {es : List (Int × Int)} (h : GrW w gb n eo cap es) : GrW w.drew gb n eo cap es := h.below ((Below.refl _ _).drew)
theorem grw_new {w : World} {n : Int} {eo : Option Addr} {ec t : Nat} {es : List (Int × Int)} (h : Sl w w.heap.size eo es.length ec 2 (cellsE es)) (ha : ∀ a, eo = some a → a.block ≠ w.heap.size) : GrW (w.alloc (.cells #[.int .i64 n, .slice eo es.length ec] t)) w.heap.size n eo ec es :=
  ⟨by rw [size_alloc]; exact gr_new h, fun j => World.frozen?_alloc_at _ _ _ _ rfl, ha⟩
/-- the edge list of a Graph is set anew -/
theorem GrW.set {w : World} {gb : Nat} {n : Int} {eo : Option Addr} {cap : Nat} {es : List (Int × Int)} (h : GrW w gb n eo cap es) {g cap' : Nat} {fs : List (Int × Int)} (ho : OwnE w g cap' fs) (hne : g ≠ gb) :
    GrW (w.setCell ⟨gb, 1, none⟩ (.slice (some ⟨g, 0, none⟩) fs.length cap')) gb n (some ⟨g, 0, none⟩) cap' fs := by
  have h0 := h.gr.c0
  have h1 := h.gr.c1
  refine ⟨⟨by rw [size_setCell]; exact h.gr.lt, ?_, ?_, (ho.other (fun e => hne e.symm) _).sl rfl (by rw [size_setCell]; exact ho.lt)⟩, fun j => by rw [World.frozen?_setCell]; exact h.fr j, fun a ha => by cases ha; exact hne⟩
  · rw [World.cell?_setCell_other _ _ _ _ (by simp)]; exact h0
  · exact World.cell?_setCell_same _ _ _ h1
end Go.Proofs.Ymbrdr
