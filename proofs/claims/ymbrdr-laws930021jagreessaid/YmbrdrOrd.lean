/- Order. -/
import Derived.Test.YmbrdrPeel
import Derived.Test.YmbrdrPeelMore
import Derived.Test.YmbrdrPermDef
namespace Go.Proofs.Ymbrdr
open Go.ChangeShapes Go.WideShapes Go.ChangeAt Go.RowKit
set_option linter.unusedVariables false
set_option linter.unusedSimpArgs false

def OrderPost (n : Nat) (es : List (Int × Int)) (w : World) (r : Ending) (w' : World) : Prop := Below w.heap.size w w' ∧ ∃ os tk, Peeled n es os tk ∧
  ((os.length = n ∧ ∃ g, r = .returned (.tuple #[.slice (some ⟨g, 0, none⟩) os.length n, .bool true]) ∧ OwnI w' g n os ∧ w.heap.size ≤ g) ∨ (os.length ≠ n ∧ r = .returned (.tuple #[.slice none 0 0, .bool false])))

set_option maxRecDepth 20000 in
set_option maxHeartbeats 4000000 in
theorem order_any (n gb : Nat) (eo : Option Addr) (cap : Nat) (es : List (Int × Int)) (w : World) (hn : n ≤ 1000000) (hes : es.length ≤ 1000000) (hr : Rng n es) (hg : Gr w w.heap.size gb n eo cap es) :
    Calls Ydrm.prog 23 #[.pointer (some ⟨gb, 0, none⟩)] w (OrderPost n es w) := by
  go_enter Ydrm.func23, Ydrm.ntmps23
  go_wp2_with fail
  refine (peel_any n gb eo cap es w hn hes hr hg).mono ?_
  rintro e w1 ⟨hb1, g1, g2, os, tk, rfl, ho, _, hg1, _, _, hp⟩
  have HP : Hid _ := hp
  clear hp hr
  have k0 := (hg.below hb1).c0
  have hol := ho.le
  by_cases hl : os.length = n
  · have i0 : ((os.length : Int) != (n : Int)) = false := by simp [hl]
    have HL : Hid _ := hl
    clear hl
    go_wp2_with fail
    go_ret2
    exact ⟨hb1, os, tk, HP.out, .inl ⟨HL.out, g1, rfl, ho, hg1⟩⟩
  · have i0 : ((os.length : Int) != (n : Int)) = true := by simp; omega
    have HL : Hid (¬ os.length = n) := hl
    clear hl
    go_wp2_with fail
    go_ret2
    exact ⟨hb1, os, tk, HP.out, .inr ⟨HL.out, rfl⟩⟩

/-- what peel lists is listed once -/
theorem Peeled.inj {n : Nat} {es : List (Int × Int)} {os : List Int} {tk : List Bool} (h : Peeled n es os tk) {i j : Nat} (hi : i < os.length) (hj : j < os.length) (e : nth os i = nth os j) : i = j := by
  rcases Nat.lt_trichotomy i j with h' | h' | h'
  · exact absurd ⟨i, h', e⟩ (h.free j hj).1
  · exact h'
  · exact absurd ⟨j, h', e.symm⟩ (h.free i hi).1
theorem Peeled.perm {n : Nat} {es : List (Int × Int)} {os : List Int} {tk : List Bool} (h : Peeled n es os tk) (hl : os.length = n) : IsPerm n os :=
  ⟨by omega, h.rng, fun i j hij hj e => by have := h.inj (by omega) hj e; omega⟩
/-- From is listed before To -/
theorem Peeled.before {n : Nat} {es : List (Int × Int)} {os : List Int} {tk : List Bool} (h : Peeled n es os tk) {k i j : Nat} (hk : k < es.length) (hi : i < os.length) (hj : j < os.length) (e1 : nth os i = nthF es k) (e2 : nth os j = nthT es k) : i < j := by
  obtain ⟨i', h1, h2⟩ := (h.free j hj).2 k hk e2.symm
  have := h.inj hi (show i' < os.length by omega) (by rw [e1, h2])
  omega
end Go.Proofs.Ymbrdr
