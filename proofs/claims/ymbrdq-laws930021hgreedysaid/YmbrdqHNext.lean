/- zzs930021hnext: the smallest vertex not gone into which no edge from a vertex not gone leads. -/
import Derived.Test.YmbrdqPeelMore
import Derived.Test.YmbrdqGr
import Derived.WalkSpells
import Derived.WalkSmall
namespace Go.Proofs.Ymbrdq
open Go.ChangeShapes Go.WideShapes Go.ChangeAt Go.RowKit
set_option linter.unusedVariables false
set_option linter.unusedSimpArgs false

def FreeG (es : List (Int × Int)) (gs : List Bool) (v : Nat) : Prop := nthB gs v = false ∧ ∀ k, k < es.length → nthT es k = v → nthB gs (nthF es k).toNat = true
def BlockTo (n : Nat) (es : List (Int × Int)) (gs bs : List Bool) (k : Nat) : Prop := bs.length = n ∧ ∀ v : Nat, v < n → (nthB bs v = true ↔ ∃ j, j < k ∧ nthT es j = v ∧ nthB gs (nthF es j).toNat = false)

theorem BlockTo.free {n : Nat} {es : List (Int × Int)} {gs bs : List Bool} (h : BlockTo n es gs bs es.length) {v : Nat} (hv : v < n) : FreeG es gs v ↔ nthB gs v = false ∧ nthB bs v = false := by
  unfold FreeG
  constructor
  · rintro ⟨a, b⟩
    refine ⟨a, ?_⟩
    rcases Bool.eq_false_or_eq_true (nthB bs v) with h' | h'
    · obtain ⟨j, hj, e, hg⟩ := (h.2 v hv).1 h'
      rw [b j hj e] at hg
      cases hg
    · exact h'
  · rintro ⟨a, b⟩
    refine ⟨a, fun k hk e => ?_⟩
    rcases Bool.eq_false_or_eq_true (nthB gs (nthF es k).toNat) with h' | h'
    · exact h'
    · rw [(h.2 v hv).2 ⟨k, hk, e, h'⟩] at b
      cases b

def HNextPost (n : Nat) (es : List (Int × Int)) (gs : List Bool) (w : World) (e : Ending) (w' : World) : Prop := Below w.heap.size w w' ∧
  ((e = .returned (.int .i64 (-1)) ∧ ∀ v, v < n → ¬ FreeG es gs v) ∨ ∃ v : Nat, v < n ∧ e = .returned (.int .i64 v) ∧ FreeG es gs v ∧ ∀ u, u < v → ¬ FreeG es gs u)

set_option maxRecDepth 20000 in
set_option maxHeartbeats 4000000 in
theorem hnext_any (n : Nat) (es : List (Int × Int)) (gs : List Bool) (ec gc : Nat) (eo go : Option Addr) (w : World) (hn : n ≤ 1000000) (hes : es.length ≤ 1000000) (hr : Rng n es) (hgl : gs.length = n)
    (hs : Sl w w.heap.size eo es.length ec 2 (cellsE es)) (hg : Sl w w.heap.size go n gc 1 (cellsB gs)) :
    Calls Ydqm.prog 30 #[.int .i64 n, .slice eo es.length ec, .slice go n gc] w (HNextPost n es gs w) := by
  have HR : Hid (Rng n es) := hr
  have HGL : Hid (gs.length = n) := hgl
  have hg' : Sl w w.heap.size go gs.length gc 1 (cellsB gs) := by rw [hgl]; exact hg
  clear hr hgl hg
  go_enter Ydqm.func30, Ydqm.ntmps30
  go_wp2_with (at_make; refine wpl_makeB rfl _ _ rfl n _ _ (by rfl) (by rfl) rfl rfl (by omega) ?_; intro w1 ho1 hb1 hz1)
  go_loopw [15] (fun i wr => ∃ (k : Nat) (bs : List Bool), k ≤ es.length ∧ i = .int .i64 k ∧ Hid (BlockTo n es gs bs k) ∧ OwnB wr w.heap.size n bs ∧ Below w.heap.size w wr) (fun i _ => es.length - (intOf i).toNat)
  case atStart => exact ⟨0, _, by omega, rfl, ⟨by simp, fun v hv => by rw [nthB_replicate hv]; exact ⟨fun h => (by cases h), fun h => (by obtain ⟨j, hj, _⟩ := h; omega)⟩⟩, ho1, hb1⟩
  case round =>
    clear ho1 hb1 hz1 w1
    obtain ⟨k, bs, hk, rfl, HB, ho, hb⟩ := hrel
    have hlo := ho.lt
    by_cases hlt : k < es.length
    · obtain ⟨⟨r1, r2⟩, r3, r4⟩ := HR.out k hlt
      obtain ⟨b1, o1, hbB1, rfl, hc1⟩ := Sl.pairsAt (hs.below hb) (by omega)
      obtain ⟨b2, o2, hbB2, rfl, hc2⟩ := Sl.boolsAt (hg'.below hb) (by rw [HGL.out]; omega)
      obtain ⟨c1, c2⟩ := hc1 k hlt
      clear hc1
      obtain ⟨f, hf⟩ := Int.eq_ofNat_of_zero_le r1
      obtain ⟨t, ht⟩ := Int.eq_ofNat_of_zero_le r3
      have HF : Hid (nthF es k = f) := hf
      have HT : Hid (nthT es k = t) := ht
      rw [hf] at c1 r1 r2
      rw [ht] at c2 r3 r4
      clear hf ht
      have c3 := hc2 f (by rw [HGL.out]; omega)
      clear hc2
      have c4 := ho.cell t (by rw [HB.out.1]; omega)
      have f4 := ho.frozen t
      have hb2l : b2 < wr.heap.size := by omega
      rcases Bool.eq_false_or_eq_true (nthB gs f) with hgf | hgf
      · rw [hgf] at c3
        have HGF : Hid (nthB gs f = true) := hgf
        clear hgf
        go_wp2_with fail
        go_roundw
        case rel =>
          refine ⟨k + 1, bs, by omega, by go_num, ⟨HB.out.1, fun v hv => ?_⟩, ho.alloc _, hb.alloc hb.size _⟩
          rw [HB.out.2 v hv]
          constructor
          · rintro ⟨j, hj, e, hg0⟩; exact ⟨j, by omega, e, hg0⟩
          · rintro ⟨j, hj, e, hg0⟩
            rcases Nat.lt_or_ge j k with h' | h'
            · exact ⟨j, h', e, hg0⟩
            · obtain rfl : j = k := by omega
              rw [HF.out] at hg0
              simp only [Int.toNat_natCast] at hg0
              rw [HGF.out] at hg0
              cases hg0
        case measure => simp [intOf]; omega
      · rw [hgf] at c3
        have HGF : Hid (nthB gs f = false) := hgf
        clear hgf
        go_wp2_with fail
        go_roundw
        case rel =>
          refine ⟨k + 1, bs.set t true, by omega, by go_num, ⟨by rw [List.length_set]; exact HB.out.1, fun v hv => ?_⟩, (ho.set t true).alloc _, (hb.setCell (Nat.le_refl _) _).alloc (by rw [size_setCell]; exact hb.size) _⟩
          rw [nthB_set (by rw [HB.out.1]; omega)]
          by_cases e : t = v
          · rw [if_pos e]
            refine ⟨fun _ => ⟨k, by omega, by rw [HT.out, e], by rw [HF.out]; simpa using HGF.out⟩, fun _ => rfl⟩
          · rw [if_neg e, HB.out.2 v hv]
            constructor
            · rintro ⟨j, hj, e, hg0⟩; exact ⟨j, by omega, e, hg0⟩
            · rintro ⟨j, hj, e', hg0⟩
              rcases Nat.lt_or_ge j k with h' | h'
              · exact ⟨j, h', e', hg0⟩
              · obtain rfl : j = k := by omega
                rw [HT.out] at e'
                omega
        case measure => simp [intOf]; omega
    · obtain rfl : k = es.length := by omega
      go_wp2_with fail
      go_loop [10] (fun v => ∃ j : Nat, j ≤ n ∧ v = .int .i64 j ∧ Hid (∀ u, u < j → ¬ FreeG es gs u)) (fun v => n - (intOf v).toNat)
      case atStart => exact ⟨0, by omega, rfl, fun u hu => by omega⟩
      case round =>
        obtain ⟨j, hj, rfl, HJ⟩ := hrel
        by_cases hjn : j < n
        · obtain ⟨b2, o2, hbB2, rfl, hc2⟩ := Sl.boolsAt (hg'.below hb) (by rw [HGL.out]; omega)
          have c1 := hc2 j (by rw [HGL.out]; exact hjn)
          clear hc2
          have c2 := ho.cell j (by rw [HB.out.1]; exact hjn)
          have HF : Hid _ := HB.out.free hjn
          rcases Bool.eq_false_or_eq_true (nthB gs j) with h1 | h1
          · rw [h1] at c1
            have HN : Hid (¬ FreeG es gs j) := fun h => by have := (HF.out.1 h).1; rw [h1] at this; cases this
            clear h1
            go_wp2_with fail
            go_round
            case rel =>
              refine ⟨j + 1, by omega, by go_num, fun u hu => ?_⟩
              rcases Nat.lt_or_ge u j with h | h
              · exact HJ.out u h
              · obtain rfl : u = j := by omega
                exact HN.out
            case measure => simp [intOf]; omega
          · rw [h1] at c1
            have H1 : Hid (nthB gs j = false) := h1
            clear h1
            rcases Bool.eq_false_or_eq_true (nthB bs j) with h2 | h2
            · rw [h2] at c2
              have HN : Hid (¬ FreeG es gs j) := fun h => by have := (HF.out.1 h).2; rw [h2] at this; cases this
              clear h2
              go_wp2_with fail
              go_round
              case rel =>
                refine ⟨j + 1, by omega, by go_num, fun u hu => ?_⟩
                rcases Nat.lt_or_ge u j with h | h
                · exact HJ.out u h
                · obtain rfl : u = j := by omega
                  exact HN.out
              case measure => simp [intOf]; omega
            · rw [h2] at c2
              have HY : Hid (FreeG es gs j) := HF.out.2 ⟨H1.out, h2⟩
              clear h2
              go_wp2_with fail
              go_ret
              exact ⟨hb, .inr ⟨j, hjn, rfl, HY.out, HJ.out⟩⟩
        · obtain rfl : n = j := by omega
          go_wp2_with fail
          go_ret
          exact ⟨hb, .inl ⟨rfl, HJ.out⟩⟩
end Go.Proofs.Ymbrdq
