/- IsOrder, and the plain statement of what it is for. -/
import Derived.Test.YmbrdqPos
import Derived.Test.YmbrdqPerm
import Derived.Test.YmbrdqPeelPlain
import Derived.Test.YmbrdqBel
namespace Go.Proofs.Ymbrdq
open Go.ChangeShapes Go.WideShapes Go.ChangeAt Go.RowKit
set_option linter.unusedVariables false
set_option linter.unusedSimpArgs false
attribute [local go_sem ↓] Go.wp_at_zero Go.wp_at_succ

/-- os lists 0..n-1, each once, From before To on every edge -/
def IsOrd (n : Nat) (es : List (Int × Int)) (os : List Int) : Prop :=
  IsPerm n os ∧ ∀ k, k < es.length → ∀ i j, i < os.length → j < os.length → nth os i = nthF es k → nth os j = nthT es k → i < j
theorem PosOf.atv {os ps : List Int} (h : PosOf os ps) {v : Nat} (hv : v < os.length) : ∃ i, i < os.length ∧ nth os i = v ∧ nth ps v = i := by
  obtain ⟨i, hi, e⟩ := h.perm.surj v hv
  refine ⟨i, hi, e, ?_⟩
  have := (h.2 i hi).2.2
  rw [e] at this
  simpa using this
theorem isOrd_pos {n : Nat} {es : List (Int × Int)} {os ps : List Int} (h : PosOf os ps) (hn : n = os.length) (hr : Rng n es) : IsOrd n es os ↔ ∀ k, k < es.length → nth ps (nthF es k).toNat < nth ps (nthT es k).toNat := by
  have hp : IsPerm n os := by rw [hn]; exact h.perm
  constructor
  · intro ho k hk
    obtain ⟨⟨a1, a2⟩, b1, b2⟩ := hr k hk
    obtain ⟨i, i1, i2, i3⟩ := h.atv (v := (nthF es k).toNat) (by omega)
    obtain ⟨j, j1, j2, j3⟩ := h.atv (v := (nthT es k).toNat) (by omega)
    have := ho.2 k hk i j i1 j1 (by omega) (by omega)
    rw [i3, j3]; omega
  · intro hk'
    refine ⟨hp, fun k hk i j hi hj e1 e2 => ?_⟩
    have h1 := (h.2 i hi).2.2
    have h2 := (h.2 j hj).2.2
    rw [e1] at h1
    rw [e2] at h2
    have := hk' k hk
    rw [h1, h2] at this
    omega

def IsOrderPost (n : Nat) (es : List (Int × Int)) (os : List Int) (w : World) (r : Ending) (w' : World) : Prop := Below w.heap.size w w' ∧ ∃ b : Bool, r = .returned (.bool b) ∧ (b = true ↔ IsOrd n es os)

set_option maxRecDepth 20000 in
set_option maxHeartbeats 4000000 in
theorem isOrder_any (n gb : Nat) (eo : Option Addr) (cap : Nat) (es : List (Int × Int)) (os : List Int) (oo : Option Addr) (oc : Nat) (w : World) (hn : n ≤ 1000000) (hes : es.length ≤ 1000000) (hos : os.length ≤ 1000000) (hr : Rng n es) (hg : Gr w w.heap.size gb n eo cap es) (hs : Sl w w.heap.size oo os.length oc 1 (cellsI os)) :
    Calls Ydqm.prog 23 #[.pointer (some ⟨gb, 0, none⟩), .slice oo os.length oc] w (IsOrderPost n es os w) := by
  have HR : Hid (Rng n es) := hr
  clear hr
  have k0 := hg.c0
  have k1 := hg.c1
  go_enter Ydqm.func23, Ydqm.ntmps23
  go_wp2_with fail
  refine (pos_any n os oc oo w hos hs).mono ?_
  rintro e w1 ⟨hb1, ⟨rfl, hno⟩ | ⟨g, ps, rfl, ho, hgl, hnn, hpos⟩⟩
  · have HNO : Hid _ := hno
    clear hno
    go_wp2_with fail
    go_ret
    exact ⟨hb1, false, by simp, fun h => (by cases h), fun h => absurd h.1 HNO.out⟩
  · have HNN : Hid (n = os.length) := by show _ = _; omega
    have HPO : Hid _ := hpos
    clear hpos hnn
    have hg1 := hg.below hb1
    have k1' := hg1.c1
    have hz1 := hb1.size
    have hgl2 := ho.lt
    go_wp2_with fail
    go_loopw [25] (fun i wr => ∃ k : Nat, k ≤ es.length ∧ i = .int .i64 k ∧ Hid (∀ j, j < k → nth ps (nthF es j).toNat < nth ps (nthT es j).toNat) ∧ BelowA w1.heap.size w1 wr) (fun i _ => es.length - (intOf i).toNat)
    case atStart => exact ⟨0, by omega, rfl, fun j hj => (by omega), BelowA.refl _⟩
    case round =>
      obtain ⟨k, hk, rfl, HJ, hb⟩ := hrel
      by_cases hlt : k < es.length
      · obtain ⟨b, off, hbB, rfl, hc⟩ := Sl.pairsAt (hg1.sl.below (hb.1.mono hz1)) (by omega)
        obtain ⟨c1, c2⟩ := hc k hlt
        clear hc
        obtain ⟨⟨a1, a2⟩, b1, b2⟩ := HR.out k hlt
        obtain ⟨f, hf⟩ := Int.eq_ofNat_of_zero_le a1
        obtain ⟨t, ht⟩ := Int.eq_ofNat_of_zero_le b1
        have hfn : f < os.length := by have := HNN.out; omega
        have htn : t < os.length := by have := HNN.out; omega
        have HF : Hid _ := hf
        have HT : Hid _ := ht
        rw [hf] at c1
        rw [ht] at c2
        clear a1 a2 b1 b2 hf ht
        have hpl := HPO.out.1
        have o2 := ho.below hb.1 hgl2
        have p1 := o2.cell f (by omega)
        have p2 := o2.cell t (by omega)
        clear hpl
        have hgw : g < wr.heap.size := by have := hb.2; omega
        have i1 : (0 : Int) ≤ (f : Int) := by omega
        have i2 : (f : Int) < (os.length : Int) := by omega
        have i3 : (0 : Int) ≤ (t : Int) := by omega
        have i4 : (t : Int) < (os.length : Int) := by omega
        by_cases hge : nth ps f ≥ nth ps t
        · have j1 : decide (nth ps f ≥ nth ps t) = true := by simp; omega
          have HB : Hid (¬ IsOrd n es os) := fun h => by
            have := (isOrd_pos HPO.out HNN.out HR.out).1 h k hlt
            rw [HF.out, HT.out] at this
            simp only [Int.toNat_natCast] at this
            omega
          clear hge
          go_upto_region 7 with fail
          go_quiet (fail)
          go_wp2_with fail
          go_ret
          exact ⟨below_drewN (((⟨hb1, hz1⟩ : BelowA w.heap.size w w1) |> fun h => (BelowA.next h hb.1)) |> fun h => (BelowA.alloc h _).1) _, false, by simp, fun h => (by cases h), fun h => absurd h HB.out⟩
        · have j1 : decide (nth ps f ≥ nth ps t) = false := by simp; omega
          have HLT : Hid (nth ps f < nth ps t) := by show _ < _; omega
          clear hge
          go_upto_region 7 with fail
          go_quiet (fail)
          go_wp2_with fail
          go_roundw
          case rel => exact ⟨k + 1, by omega, by simp, fun j hj => (by rcases Nat.lt_or_ge j k with h | h; exact HJ.out j h; obtain rfl : j = k := (by omega); rw [HF.out, HT.out]; exact HLT.out), (hb.alloc _).drewN _⟩
          case measure => simp [intOf]; omega
      · have HY : Hid (IsOrd n es os) := (isOrd_pos HPO.out HNN.out HR.out).2 (fun j hj => HJ.out j (by omega))
        go_wp2_with fail
        go_ret
        exact ⟨hb1.trans (hb.1.mono hz1), true, by simp, fun _ => HY.out, fun _ => rfl⟩

/-- the first y stands behind some x -/
def Bef (os : List Int) (x y : Int) : Prop := ∃ j, j < os.length ∧ nth os j = y ∧ (∀ j', j' < j → nth os j' ≠ y) ∧ ∃ i, i < j ∧ nth os i = x
def GBefPost (os : List Int) (x y : Int) (w : World) (r : Ending) (w' : World) : Prop := Below w.heap.size w w' ∧ ∃ b : Bool, r = .returned (.bool b) ∧ (b = true ↔ Bef os x y)

set_option maxRecDepth 20000 in
set_option maxHeartbeats 4000000 in
theorem gbefore_any (os : List Int) (x y : Int) (oo : Option Addr) (oc : Nat) (w : World) (hos : os.length ≤ 1000000) (hs : Sl w w.heap.size oo os.length oc 1 (cellsI os)) :
    Calls Ydqm.prog 34 #[.slice oo os.length oc, .agg #[.int .i64 x, .int .i64 y]] w (GBefPost os x y w) := by
  have hbe : Below w.heap.size w (w.alloc (.cells #[.int .i64 x, .int .i64 y] 23)) := (Below.refl _ _).alloc (Nat.le_refl _) _
  go_enter Ydqm.func34, Ydqm.ntmps34
  go_wp2_with fail
  go_loopw [5, 6] (fun s i wr => ∃ (k : Nat) (b : Bool), k ≤ os.length ∧ i = .int .i64 k ∧ s = .bool b ∧ Hid (∀ j, j < k → nth os j ≠ y) ∧ Hid (b = true ↔ ∃ i, i < k ∧ nth os i = x) ∧ BelowA (w.heap.size + 1) (w.alloc (.cells #[.int .i64 x, .int .i64 y] 23)) wr) (fun _ i _ => os.length - (intOf i).toNat)
  case atStart => exact ⟨0, false, by omega, rfl, rfl, fun j hj => (by omega), ⟨fun h => (by cases h), fun ⟨i, hi, _⟩ => by omega⟩, Below.refl _ _, by rw [size_alloc]; omega⟩
  case round =>
    obtain ⟨k, b, hk, rfl, rfl, HN, HB, hb⟩ := hrel
    have hz := hb.2
    have d1 : wr.cell? ⟨w.heap.size, 0, none⟩ = some (.int .i64 x) := (hb.1.cell (by dsimp only; omega)).trans (cell_new2 rfl).1
    have d2 : wr.cell? ⟨w.heap.size, 1, none⟩ = some (.int .i64 y) := (hb.1.cell (by dsimp only; omega)).trans (cell_new2 rfl).2
    have hbr := hbe.trans (hb.1.mono (by omega))
    by_cases hlt : k < os.length
    · obtain ⟨bb, off, hbB, rfl, hc⟩ := Sl.intsAt (hs.below hbr) (by omega)
      have c1 := hc k hlt
      clear hc
      have i1 : (0 : Int) ≤ (k : Int) := by omega
      have i2 : (k : Int) < (os.length : Int) := by omega
      by_cases hy : nth os k = y
      · have j1 : (nth os k == y) = true := by simp [hy]
        have HY : Hid _ := hy
        clear hy
        go_wp2_with fail
        go_quiet (fail)
        go_wp2_with fail
        go_ret
        refine ⟨below_drewN hbr _, b, by simp, fun h => ⟨k, hlt, HY.out, HN.out, HB.out.1 h⟩, ?_⟩
        rintro ⟨j, h1, h2, h3, h4⟩
        have hjk : j = k := by
          rcases Nat.lt_trichotomy j k with h | h | h
          · exact absurd h2 (HN.out j h)
          · exact h
          · exact absurd HY.out (h3 k h)
        rw [hjk] at h4
        exact HB.out.2 h4
      · have j1 : (nth os k == y) = false := by simp [hy]
        have HY : Hid (¬ nth os k = y) := hy
        clear hy
        by_cases hx : nth os k = x
        · have j2 : (nth os k == x) = true := by simp [hx]
          have HX : Hid _ := hx
          clear hx
          go_wp2_with fail
          go_quiet (fail)
          go_wp2_with fail
          go_quiet (fail)
          go_wp2_with fail
          go_roundw
          case rel => exact ⟨k + 1, true, by omega, by simp, rfl, fun j hj => (by rcases Nat.lt_or_ge j k with h | h; exact HN.out j h; obtain rfl : j = k := (by omega); exact HY.out), ⟨fun _ => ⟨k, by omega, HX.out⟩, fun _ => rfl⟩, hb.drewN _⟩
          case measure => simp [intOf]; omega
        · have j2 : (nth os k == x) = false := by simp [hx]
          have HX : Hid (¬ nth os k = x) := hx
          clear hx
          go_wp2_with fail
          go_quiet (fail)
          go_wp2_with fail
          go_quiet (fail)
          go_wp2_with fail
          go_roundw
          case rel => exact ⟨k + 1, b, by omega, by simp, rfl, fun j hj => (by rcases Nat.lt_or_ge j k with h | h; exact HN.out j h; obtain rfl : j = k := (by omega); exact HY.out), ⟨fun h => (by obtain ⟨i, hi, e⟩ := HB.out.1 h; exact ⟨i, by omega, e⟩), fun ⟨i, hi, e⟩ => HB.out.2 (by rcases Nat.lt_or_ge i k with h | h; exact ⟨i, h, e⟩; obtain rfl : i = k := (by omega); exact absurd e HX.out)⟩, hb.drewN _⟩
          case measure => simp [intOf]; omega
    · go_wp2_with fail
      go_ret
      refine ⟨hbr, false, by simp, fun h => (by cases h), ?_⟩
      rintro ⟨j, h1, h2, _⟩
      exact absurd h2 (HN.out j (by omega))
end Go.Proofs.Ymbrdq
