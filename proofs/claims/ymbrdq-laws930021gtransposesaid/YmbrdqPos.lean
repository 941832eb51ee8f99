/- Positions answers the inverse of a permutation, or nil and false. -/
import Derived.Test.YmbrdqOps
import Derived.Test.YmbrdqPermDef
import Derived.WalkSmall
namespace Go.Proofs.Ymbrdq
open Go.ChangeShapes Go.WideShapes Go.ChangeAt Go.RowKit
set_option linter.unusedVariables false
set_option linter.unusedSimpArgs false

theorem ret2 {a b : Value} {c d : Bool} (h : a = b) (h' : c = d) : Ending.returned (.tuple #[a, .bool c]) = .returned (.tuple #[b, .bool d]) := by rw [h, h']

set_option maxHeartbeats 1000000 in
theorem pos_any (n : Int) (xs : List Int) (cap : Nat) (ao : Option Addr) (w : World) (hlen : xs.length ≤ 1000000) (hs : Sl w w.heap.size ao xs.length cap 1 (cellsI xs)) :
    Calls Ydqm.prog 33 #[.int .i64 n, .slice ao xs.length cap] w fun e w' => Below w.heap.size w w' ∧
      ((e = .returned (.tuple #[.slice none 0 0, .bool false]) ∧ ¬ IsPerm n xs) ∨
       ∃ g ps, e = .returned (.tuple #[.slice (some ⟨g, 0, none⟩) xs.length xs.length, .bool true]) ∧ OwnI w' g xs.length ps ∧ w.heap.size ≤ g ∧ n = xs.length ∧ PosOf xs ps) := by
  by_cases hn : n = xs.length
  · subst hn
    have hne : ((xs.length : Int) != (xs.length : Int)) = false := by simp
    go_enter Ydqm.func33, Ydqm.ntmps33
    go_wp2_with (at_make; refine wpl_makeI rfl _ _ rfl xs.length _ _ (by rfl) (by rfl) rfl rfl (by omega) ?_; intro w1 ho1 hb1 hz1)
    go_loopw [18] (fun i wr => ∃ (k : Nat) (zs : List Int), k ≤ xs.length ∧ i = .int .i64 k ∧ Hid (zs.length = xs.length ∧ ∀ j, j < k → nth zs j = -1) ∧ OwnI wr w.heap.size xs.length zs ∧ Below w.heap.size w wr) (fun i _ => xs.length - (intOf i).toNat)
    case atStart => exact ⟨0, _, by omega, rfl, ⟨by simp, fun j hj => by omega⟩, ho1, hb1⟩
    case round =>
      clear ho1 hb1 hz1 w1
      obtain ⟨k, zs, hk, rfl, HZ, ho, hb⟩ := hrel
      by_cases hlt : k < xs.length
      · have c1 := ho.cell k (by rw [HZ.out.1]; exact hlt)
        have f1 := ho.frozen k
        go_wp2_with fail
        go_roundw
        case rel =>
          refine ⟨k + 1, zs.set k (-1), by omega, by go_num, ⟨by rw [List.length_set]; exact HZ.out.1, fun j hj => ?_⟩, ho.set k _, hb.setCell (Nat.le_refl _) _⟩
          rw [nth_set (by rw [HZ.out.1]; exact hlt)]
          split
          · rfl
          · exact HZ.out.2 j (by omega)
        case measure => simp [intOf]; omega
      · obtain rfl : k = xs.length := by omega
        go_wp2_with fail
        go_loopw [27] (fun i wr => ∃ (k : Nat) (ps : List Int), k ≤ xs.length ∧ i = .int .i64 k ∧ Hid (PosTo xs ps k) ∧ OwnI wr w.heap.size xs.length ps ∧ Below w.heap.size w wr) (fun i _ => xs.length - (intOf i).toNat)
        case atStart => exact ⟨0, zs, by omega, rfl, ⟨HZ.out.1, fun i hi => by omega, fun v hv hp => by have := HZ.out.2 v hv; omega⟩, ho, hb⟩
        case round =>
          clear ho hb HZ zs
          obtain ⟨k, ps, hk, rfl, HP, ho, hb⟩ := hrel
          by_cases hlt : k < xs.length
          · obtain ⟨b, off, hbB, rfl, hc⟩ := Sl.intsAt (hs.below hb) (by omega)
            have c1 := hc k hlt
            clear hc
            have hpl := HP.out.1
            have HPL : Hid (ps.length = xs.length) := hpl
            clear hpl
            by_cases hneg : nth xs k < 0
            · go_wp2_with fail
              go_ret2
              refine ⟨hb, .inl ⟨rfl, fun hp => ?_⟩⟩
              have := (hp.2.1 k hlt).1
              omega
            · obtain ⟨m, hm⟩ := Int.eq_ofNat_of_zero_le (show 0 ≤ nth xs k by omega)
              rw [hm] at c1 hneg
              have HM : Hid (nth xs k = m) := hm
              clear hm
              by_cases hge : xs.length ≤ m
              · go_wp2_with fail
                go_ret2
                refine ⟨hb, .inl ⟨rfl, fun hp => ?_⟩⟩
                have := (hp.2.1 k hlt).2
                rw [HM.out] at this
                omega
              · have c2 := ho.cell m (by rw [HPL.out]; omega)
                have f2 := ho.frozen m
                by_cases hp0 : 0 ≤ nth ps m
                · go_wp2_with fail
                  go_ret2
                  refine ⟨hb, .inl ⟨rfl, fun hp => ?_⟩⟩
                  obtain ⟨i, hi, e⟩ := HP.out.2.2 m (by omega) hp0
                  exact hp.2.2 i k hi hlt (by rw [e, HM.out])
                · go_wp2_with fail
                  go_roundw
                  case rel =>
                    exact ⟨k + 1, ps.set m k, by omega, by go_num, HP.out.step hlt HM.out (by omega) (by omega), ho.set m _, hb.setCell (Nat.le_refl _) _⟩
                  case measure => simp [intOf]; omega
          · obtain rfl : k = xs.length := by omega
            go_wp2_with fail
            go_ret2
            exact ⟨hb, .inr ⟨w.heap.size, ps, rfl, ho, Nat.le_refl _, (by first | rfl | trivial), HP.out.1, HP.out.2.1⟩⟩
  · have hne : ((xs.length : Int) != n) = true := by simp; omega
    go_enter Ydqm.func33, Ydqm.ntmps33
    go_wp2_with fail
    go_ret2
    exact ⟨Below.refl _ _, .inl ⟨rfl, fun h => hn h.1⟩⟩

theorem pos_len (n : Int) (xs : List Int) (N cap : Nat) (ao : Option Addr) (w : World) (h : N = xs.length) (hlen : N ≤ 1000000) (hs : Sl w w.heap.size ao N cap 1 (cellsI xs)) :
    Calls Ydqm.prog 33 #[.int .i64 n, .slice ao N cap] w fun e w' => Below w.heap.size w w' ∧
      ((e = .returned (.tuple #[.slice none 0 0, .bool false]) ∧ ¬ IsPerm n xs) ∨
       ∃ g ps, e = .returned (.tuple #[.slice (some ⟨g, 0, none⟩) N N, .bool true]) ∧ OwnI w' g N ps ∧ w.heap.size ≤ g ∧ n = N ∧ PosOf xs ps) := by
  subst h; exact pos_any n xs cap ao w hlen hs

theorem pos_yes (n : Int) (xs : List Int) (N cap : Nat) (ao : Option Addr) (w : World) (h : N = xs.length) (hlen : N ≤ 1000000) (hs : Sl w w.heap.size ao N cap 1 (cellsI xs)) (hp : IsPerm n xs) :
    Calls Ydqm.prog 33 #[.int .i64 n, .slice ao N cap] w fun e w' => Below w.heap.size w w' ∧
       ∃ g ps, e = .returned (.tuple #[.slice (some ⟨g, 0, none⟩) N N, .bool true]) ∧ OwnI w' g N ps ∧ w.heap.size ≤ g ∧ PosOf xs ps := by
  refine (pos_len n xs N cap ao w h hlen hs).mono ?_
  rintro e w' ⟨hb, ⟨_, h'⟩ | ⟨g, ps, rfl, ho, hg, _, hpos⟩⟩
  · exact absurd hp h'
  · exact ⟨hb, g, ps, rfl, ho, hg, hpos⟩

theorem pos_no (n : Int) (xs : List Int) (N cap : Nat) (ao : Option Addr) (w : World) (h : N = xs.length) (hlen : N ≤ 1000000) (hs : Sl w w.heap.size ao N cap 1 (cellsI xs)) (hp : ¬ IsPerm n xs) :
    Calls Ydqm.prog 33 #[.int .i64 n, .slice ao N cap] w fun e w' => Below w.heap.size w w' ∧ e = .returned (.tuple #[.slice none 0 0, .bool false]) := by
  refine (pos_len n xs N cap ao w h hlen hs).mono ?_
  rintro e w' ⟨hb, ⟨rfl, h'⟩ | ⟨g, ps, rfl, ho, hg, hn, hpos⟩⟩
  · exact ⟨hb, rfl⟩
  · have := hpos.perm
    rw [← h, ← hn] at this
    exact absurd this hp
end Go.Proofs.Ymbrdq
