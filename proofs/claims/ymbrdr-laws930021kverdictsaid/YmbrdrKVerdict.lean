/- The walk of LawS930021KVerdict. -/
import Derived.Test.YmbrdrKParts
import Derived.WalkSpells
import Derived.Deep.DeepCutAuto
namespace Go.Proofs.Ymbrdr
open Go.ChangeShapes Go.WideShapes Go.ChangeAt Go.RowKit
set_option linter.unusedVariables false
set_option linter.unusedSimpArgs false

/-- each of the first k values occurs once -/
def onceTo (xs : List Int) (k : Nat) : Bool := decide (∀ v : Nat, v < k → cntTo xs v xs.length = 1)
theorem onceTo_zero (xs : List Int) : onceTo xs 0 = true := by simp [onceTo]
theorem onceTo_yes {xs : List Int} {k : Nat} (h : cntTo xs k xs.length = 1) : onceTo xs (k + 1) = onceTo xs k := by
  unfold onceTo
  congr 1
  apply propext
  constructor
  · intro h' v hv; exact h' v (by omega)
  · intro h' v hv
    rcases Nat.lt_or_ge v k with h1 | h1
    · exact h' v h1
    · obtain rfl : v = k := by omega
      exact h
theorem onceTo_no {xs : List Int} {k : Nat} (h : cntTo xs k xs.length ≠ 1) : onceTo xs (k + 1) = false := by
  unfold onceTo
  rw [decide_eq_false_iff_not]
  intro h'
  exact h (h' k (by omega))
theorem onceTo_perm {xs : List Int} : onceTo xs xs.length = true ↔ IsPerm xs.length xs := by
  unfold onceTo
  rw [decide_eq_true_iff, perm_iff]

set_option maxHeartbeats 2000000 in
theorem kVerdict_walk (s n : Int) (xs : List Int) (cap : Nat) (ao : Option Addr) (w : World) (hs0 : 0 ≤ s ∧ s ≤ 255) (hs : Sl w w.heap.size ao xs.length cap 1 (cellsI xs)) :
    Calls Ydrm.prog 8 #[.int .u8 s, .int .i64 n, .slice ao xs.length cap] w fun e w' => e = .returned (.bool true) ∧ Below w.heap.size w w' := by
  by_cases hbig : 1024 < xs.length
  · go_enter Ydrm.func8, Ydrm.ntmps8
    go_wp2_with fail
    go_ret
    exact ⟨rfl, Below.refl _ _⟩
  have hnil := fun (w : World) (a : Option Addr) (l c : Nat) => Lib.run_eql_slice_nil (P := Ydrm.prog) w 22 3 a l c 0 0 Ydrm.underlying22
  obtain ⟨M, HM⟩ : ∃ M : Int, Hid (M = if (s % 4 != 0) = true then (xs.length : Int) else n) := ⟨_, rfl⟩
  go_enter Ydrm.func8, Ydrm.ntmps8
  go_upto_if 17 with fail
  go_cut [1] (fun t w' => t = .int .i64 M ∧ w = w')
  case first =>
    by_cases h : (s % 4 != 0) = true
    · go_wp2_with fail
      go_meet
      case rel => exact ⟨by have := HM.out; rw [if_pos h] at this; rw [this], rfl⟩
    · have h' : (s % 4 != 0) = false := by simpa using h
      go_wp2_with fail
      go_meet
      case rel => exact ⟨by have := HM.out; rw [if_neg h] at this; rw [this], rfl⟩
  case rest =>
    obtain ⟨rfl, rfl⟩ := hcut
    clear HM
    go_wp2_with fail
    refine (pos_any M xs cap ao w (by omega) hs).mono ?_
    rintro e w1 ⟨hb1, ⟨rfl, hp⟩ | ⟨g, ps, rfl, ho1, hg1, rfl, hpos⟩⟩
    · -- not accepted
      by_cases hM : M = xs.length
      · obtain rfl := hM
        have ho : onceTo xs xs.length = false := by
          rcases Bool.eq_false_or_eq_true (onceTo xs xs.length) with h | h
          · exact absurd (onceTo_perm.1 h) hp
          · exact h
        have HO : Hid (onceTo xs xs.length = false) := ho
        clear ho
        have HP : Hid (¬ IsPerm xs.length xs) := hp
        clear hp
        have hs1 := (hs.below hb1).mono hb1.size
        have heq : ((xs.length : Int) == (xs.length : Int)) = true := by simp
        go_wp2_with fail
        go_loop [9, 10] (fun t i => ∃ k : Nat, k ≤ xs.length ∧ i = .int .i64 k ∧ t = .bool (onceTo xs k)) (fun _ i => xs.length - (intOf i).toNat)
        case atStart => exact ⟨0, by omega, rfl, by rw [onceTo_zero]⟩
        case round =>
          obtain ⟨k, hk, rfl, rfl⟩ := hrel
          by_cases hlt : k < xs.length
          · by_cases hc : cntTo xs k xs.length = 1
            · have HC : Hid (cntTo xs k xs.length = 1) := hc
              have hcb : ((cntTo xs k xs.length : Int) != 1) = false := by simp [hc]
              clear hc
              go_wp2_with fail
              refine (kcount_any xs k cap ao w1 (by omega) hs1).mono ?_
              rintro e w2 ⟨rfl, rfl⟩
              go_wp2_with fail
              go_round
              case rel => exact ⟨k + 1, by omega, by go_num, by rw [onceTo_yes HC.out]⟩
              case measure => simp [intOf]; omega
            · have HC : Hid (¬ cntTo xs k xs.length = 1) := hc
              have hcb : ((cntTo xs k xs.length : Int) != 1) = true := by simp; omega
              clear hc
              go_wp2_with fail
              refine (kcount_any xs k cap ao w1 (by omega) hs1).mono ?_
              rintro e w2 ⟨rfl, rfl⟩
              go_wp2_with fail
              go_round
              case rel => exact ⟨k + 1, by omega, by go_num, by rw [onceTo_no HC.out]⟩
              case measure => simp [intOf]; omega
          · obtain rfl : k = xs.length := by omega
            rw [HO.out]
            go_wp2_with fail
            go_ret
            exact ⟨rfl, hb1⟩
      · have heq : ((xs.length : Int) == M) = false := by rw [beq_eq_false_iff_ne]; omega
        go_wp2_with fail
        go_ret
        exact ⟨rfl, hb1⟩
    · -- accepted
      have HO : Hid (onceTo xs xs.length = true) := onceTo_perm.2 hpos.perm
      have HP : Hid (PosOf xs ps) := hpos
      clear hpos
      have hs1 := (hs.below hb1).mono hb1.size
      have heq : ((xs.length : Int) == (xs.length : Int)) = true := by simp
      have hne2 : ((xs.length : Int) != (xs.length : Int)) = false := by simp
      go_wp2_with fail
      go_loop [9, 10] (fun t i => ∃ k : Nat, k ≤ xs.length ∧ i = .int .i64 k ∧ t = .bool (onceTo xs k)) (fun _ i => xs.length - (intOf i).toNat)
      case atStart => exact ⟨0, by omega, rfl, by rw [onceTo_zero]⟩
      case round =>
        obtain ⟨k, hk, rfl, rfl⟩ := hrel
        by_cases hlt : k < xs.length
        · have hc : cntTo xs k xs.length = 1 := (perm_iff xs).1 HP.out.perm k hlt
          have HC : Hid (cntTo xs k xs.length = 1) := hc
          have hcb : ((cntTo xs k xs.length : Int) != 1) = false := by simp [hc]
          clear hc
          go_wp2_with fail
          refine (kcount_any xs k cap ao w1 (by omega) hs1).mono ?_
          rintro e w2 ⟨rfl, rfl⟩
          go_wp2_with fail
          go_round
          case rel => exact ⟨k + 1, by omega, by go_num, by rw [onceTo_yes HC.out]⟩
          case measure => simp [intOf]; omega
        · obtain rfl : k = xs.length := by omega
          rw [HO.out]
          go_wp2_with fail
          go_loop [11] (fun i => ∃ k : Nat, k ≤ xs.length ∧ i = .int .i64 k) (fun i => xs.length - (intOf i).toNat)
          case atStart => exact ⟨0, by omega, rfl⟩
          case round =>
            obtain ⟨k, hk, rfl⟩ := hrel
            by_cases hlt : k < xs.length
            · obtain ⟨b, off, hbB, rfl, hc⟩ := Sl.intsAt hs1 (by omega)
              have c1 := hc k hlt
              clear hc
              obtain ⟨p1, p2, p3⟩ := HP.out.2 k hlt
              obtain ⟨m, hm⟩ := Int.eq_ofNat_of_zero_le p1
              rw [hm] at c1 p1 p2 p3
              simp only [Int.toNat_natCast] at p3
              have c2 := ho1.cell m (by rw [HP.out.1]; omega)
              rw [p3] at c2
              clear p3 hm
              have hkk : ((k : Int) != (k : Int)) = false := by simp
              go_wp2_with fail
              go_round
              case rel => exact ⟨k + 1, by omega, by go_num⟩
              case measure => simp [intOf]; omega
            · go_wp2_with fail
              go_ret
              exact ⟨rfl, hb1⟩
end Go.Proofs.Ymbrdr
