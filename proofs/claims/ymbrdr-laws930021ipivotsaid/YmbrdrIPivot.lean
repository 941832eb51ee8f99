/- The walk of LawS930021IPivot. -/
import Derived.Test.YmbrdrRotPlain
import Derived.Test.YmbrdrISame
import Derived.WalkSpells
import Derived.Deep.DeepCutAuto
namespace Go.Proofs.Ymbrdr
open Go.ChangeShapes Go.WideShapes Go.ChangeAt Go.RowKit
set_option linter.unusedVariables false
set_option linter.unusedSimpArgs false

theorem minAt_uniq (xs : List Int) (m : Nat) (hm : m < xs.length) (h1 : ∀ j, j < m → nth xs m < nth xs j) (h2 : ∀ j, j < xs.length → nth xs m ≤ nth xs j) : minAt xs xs.length = m := by
  have a1 := minAt_lt xs xs.length (by omega)
  have a2 := minAt_min xs xs.length m hm
  rcases Nat.lt_trichotomy (minAt xs xs.length) m with h | h | h
  · have := h1 _ h; omega
  · exact h
  · have := minAt_first xs xs.length m h
    have := h2 _ a1
    omega

def upB (lo : Int) (xs : List Int) : List Int := xs.map (fun t => lo + 1 + t)
def upA (lo : Int) (xs : List Int) : List Int := xs.map (fun t => lo + t)
theorem length_upB (lo : Int) (xs : List Int) : (upB lo xs).length = xs.length := by simp [upB]
theorem length_upA (lo : Int) (xs : List Int) : (upA lo xs).length = xs.length := by simp [upA]
theorem nth_take_succ (xs : List Int) (k : Nat) (h : k < xs.length) : xs.take (k + 1) = xs.take k ++ [nth xs k] := by
  rw [nth_eq h, List.take_succ_eq_append_getElem h]
theorem upB_succ (lo : Int) (xs : List Int) (k : Nat) (h : k < xs.length) : upB lo (xs.take (k + 1)) = upB lo (xs.take k) ++ [lo + 1 + nth xs k] := by
  rw [nth_take_succ xs k h]; simp [upB]
theorem upA_succ (lo : Int) (xs : List Int) (k : Nat) (h : k < xs.length) : upA lo (xs.take (k + 1)) = upA lo (xs.take k) ++ [lo + nth xs k] := by
  rw [nth_take_succ xs k h]; simp [upA]

theorem pivot_plain (lo : Int) (bs as_ : List Int) (hb : ∀ x ∈ bs, 0 ≤ x) (ha : ∀ x ∈ as_, 0 ≤ x) :
    rotMin (upB lo bs ++ [lo] ++ upA lo as_) = [lo] ++ upA lo as_ ++ upB lo bs := by
  have hlen : (upB lo bs ++ [lo] ++ upA lo as_).length = bs.length + 1 + as_.length := by simp [upA, upB]; omega
  have hm : minAt (upB lo bs ++ [lo] ++ upA lo as_) (upB lo bs ++ [lo] ++ upA lo as_).length = bs.length := by
    have hat : nth (upB lo bs ++ [lo] ++ upA lo as_) bs.length = lo := by
      unfold nth
      simp [upA, upB]
    have hlo : ∀ j, j < bs.length → lo < nth (upB lo bs ++ [lo] ++ upA lo as_) j := by
      intro j hj
      rw [nth_eq (by omega)]
      have e : (upB lo bs ++ [lo] ++ upA lo as_)[j]'(by omega) = lo + 1 + bs[j] := by
        simp [upA, upB, List.getElem_append, hj]
      rw [e]
      have := hb _ (List.getElem_mem hj)
      omega
    apply minAt_uniq _ _ (by omega)
    · intro j hj
      rw [hat]; exact hlo j hj
    · intro j hj
      rw [hat]
      rw [hlen] at hj
      rcases Nat.lt_trichotomy j bs.length with h | h | h
      · have := hlo j h; omega
      · subst h; omega
      · rw [nth_eq (by omega)]
        have e : (upB lo bs ++ [lo] ++ upA lo as_)[j]'(by omega) = lo + as_[j - (bs.length + 1)]'(by omega) := by
          rw [List.getElem_append_right (by simp [upB]; omega)]
          simp [upA, upB]
        rw [e]
        have := ha _ (List.getElem_mem (show j - (bs.length + 1) < as_.length by omega))
        omega
  unfold rotMin
  rw [hm]
  simp [upB, upA]

set_option maxRecDepth 20000 in
set_option maxHeartbeats 2000000 in
theorem iPivot_walk (bs as_ : List Int) (lo : Int) (c1 c2 : Nat) (ao bo : Option Addr) (w : World)
    (hb : ∀ x ∈ bs, 0 ≤ x ∧ x ≤ 65535) (ha : ∀ x ∈ as_, 0 ≤ x ∧ x ≤ 65535) (hlo : -9223372036854775808 ≤ lo)
    (hs : Sl w w.heap.size ao bs.length c1 1 (cellsK .u16 bs)) (ht : Sl w w.heap.size bo as_.length c2 1 (cellsK .u16 as_)) :
    Calls Ydrm.prog 4 #[.slice ao bs.length c1, .int .i64 lo, .slice bo as_.length c2] w fun e w' => e = .returned (.bool true) ∧ Below w.heap.size w w' := by
  by_cases hbig : 1024 < bs.length
  · go_enter Ydrm.func4, Ydrm.ntmps4
    go_wp2_with fail
    go_ret
    exact ⟨rfl, Below.refl _ _⟩
  by_cases hbig2 : 1024 < as_.length
  · go_enter Ydrm.func4, Ydrm.ntmps4
    go_wp2_with fail
    go_ret
    exact ⟨rfl, Below.refl _ _⟩
  have hbn : ∀ k, k < bs.length → 0 ≤ nth bs k ∧ nth bs k ≤ 65535 := fun k hk => by rw [nth_eq hk]; exact hb _ (List.getElem_mem hk)
  have han : ∀ k, k < as_.length → 0 ≤ nth as_ k ∧ nth as_ k ≤ 65535 := fun k hk => by rw [nth_eq hk]; exact ha _ (List.getElem_mem hk)
  have HB : Hid _ := hbn
  have HA : Hid _ := han
  obtain ⟨L, HLd, hL1, hL2⟩ : ∃ L : Int, Hid (L = if 1073741824 < lo then 1073741824 else lo) ∧ L ≤ 1073741824 ∧ -9223372036854775808 ≤ L := ⟨_, rfl, by split <;> omega, by split <;> omega⟩
  have HP : Hid _ := pivot_plain L bs as_ (fun x hx => (hb x hx).1) (fun x hx => (ha x hx).1)
  clear hbn han hb ha
  go_enter Ydrm.func4, Ydrm.ntmps4
  go_upto_if 27 with fail
  go_cut [1] (fun t w' => t = .int .i64 L ∧ w = w')
  case first =>
    by_cases h : 1073741824 < lo
    · go_wp2_with fail
      go_meet
      case rel => exact ⟨by have := HLd.out; rw [if_pos h] at this; rw [this], rfl⟩
    · go_wp2_with fail
      go_meet
      case rel => exact ⟨by have := HLd.out; rw [if_neg (by omega)] at this; rw [this], rfl⟩
  case rest =>
    obtain ⟨rfl, rfl⟩ := hcut
    clear hlo HLd
    obtain ⟨N, HN, hN1⟩ : ∃ N : Nat, Hid (N = bs.length + 1 + as_.length) ∧ N ≤ 2049 := ⟨_, rfl, by omega⟩
    go_wp2_with (at_make; refine wpl_makeI0 rfl _ _ rfl N _ (by rfl) (by rfl) (by rw [HN.out]; omega) (by omega) ?_; intro w1 ho1 hb1 hz1)
    have hbb : Below w.heap.size w w1 := hb1
    go_loopw [8, 38] (fun v i wr => ∃ k : Nat, k ≤ bs.length ∧ i = .int .i64 k ∧ v = .slice (some ⟨w.heap.size, 0, none⟩) k N ∧ OwnI wr w.heap.size N (upB L (bs.take k)) ∧ Below w.heap.size w wr) (fun _ i _ => bs.length - (intOf i).toNat)
    case atStart => exact ⟨0, by omega, rfl, rfl, ho1, hb1⟩
    case round =>
      obtain ⟨k, hk, rfl, rfl, ho, hbr⟩ := hrel
      clear ho1 hb1 hbb hz1 w1
      by_cases hlt : k < bs.length
      · have hs1 := hs.below hbr
        obtain ⟨b1, o1, hb1, rfl, hc1⟩ := Sl.intsAt hs1 (by omega)
        have cc := hc1 k hlt
        obtain ⟨p1, p2⟩ := HB.out k hlt
        clear hc1
        have hlk : k = (upB L (bs.take k)).length := by rw [length_upB, List.length_take]; omega
        have HK : Hid (k = (upB L (bs.take k)).length) := hlk
        clear hlk
        go_wp2_with (at_builtin; (refine wpl_appI rfl (.tmp 42) (.tmp 48) rfl w.heap.size N k (upB L (bs.take k)) (L + 1 + nth bs k) (by rfl) HK.out (ho.alloc _) wr.heap.size 1 (by rfl) (by simp) (by rw [← HK.out, HN.out]; omega) ?_); intro w2 ho2 hg2)
        go_roundw
        case rel => exact ⟨k + 1, by omega, by go_num, rfl, by rw [upB_succ L bs k hlt]; exact ho2, below_grown (hbr.alloc hbr.size _) hg2 (Nat.le_refl _) (by have := ho.lt; simp; omega)⟩
        case measure => simp [intOf]; omega
      · obtain rfl : k = bs.length := by omega
        rw [List.take_length] at ho
        have HK : Hid (bs.length = (upB L bs).length) := (length_upB _ _).symm
        go_wp2_with (at_builtin; (refine wpl_appI rfl (.tmp 51) (.tmp 53) rfl w.heap.size N bs.length (upB L bs) L (by rfl) HK.out (ho.alloc _) wr.heap.size 1 (by rfl) (by simp) (by rw [← HK.out, HN.out]; omega) ?_); intro w2 ho2 hg2)
        have hb2 := below_grown (hbr.alloc hbr.size (.cells #[.int .i64 L] 3)) hg2 (Nat.le_refl _) (by have := ho.lt; simp; omega)
        clear ho hg2 hbr
        go_loopw [8, 57] (fun v i wr => ∃ k : Nat, k ≤ as_.length ∧ i = .int .i64 k ∧ v = .slice (some ⟨w.heap.size, 0, none⟩) (bs.length + 1 + k) N ∧ OwnI wr w.heap.size N (upB L bs ++ [L] ++ upA L (as_.take k)) ∧ Below w.heap.size w wr) (fun _ i _ => as_.length - (intOf i).toNat)
        case atStart => exact ⟨0, by omega, rfl, rfl, by simpa [upA] using ho2, hb2⟩
        case round =>
          obtain ⟨k, hk, rfl, rfl, ho, hbr⟩ := hrel
          by_cases hlt : k < as_.length
          · have hs1 := ht.below hbr
            obtain ⟨b1, o1, hb1, rfl, hc1⟩ := Sl.intsAt hs1 (by omega)
            have cc := hc1 k hlt
            obtain ⟨p1, p2⟩ := HA.out k hlt
            clear hc1
            have HK : Hid (bs.length + 1 + k = (upB L bs ++ [L] ++ upA L (as_.take k)).length) := show _ = _ by rw [List.length_append, List.length_append, length_upA, length_upB, List.length_take, List.length_singleton]; omega
            go_wp2_with (at_builtin; (refine wpl_appI rfl (.tmp 61) (.tmp 66) rfl w.heap.size N (bs.length + 1 + k) (upB L bs ++ [L] ++ upA L (as_.take k)) (L + nth as_ k) (by rfl) HK.out (ho.alloc _) wr.heap.size 1 (by rfl) (by simp) (by rw [← HK.out, HN.out]; omega) ?_); intro w2 ho2 hg2)
            go_roundw
            case rel => exact ⟨k + 1, by omega, by go_num, rfl, by rw [upA_succ L as_ k hlt, ← List.append_assoc]; exact ho2, below_grown (hbr.alloc hbr.size _) hg2 (Nat.le_refl _) (by have := ho.lt; simp; omega)⟩
            case measure => simp [intOf]; omega
          · obtain rfl : k = as_.length := by omega
            rw [List.take_length] at ho
            clear ho2 hb2 w2
            obtain ⟨g, hg⟩ : ∃ g, g = w.heap.size := ⟨_, rfl⟩
            have HG : Hid (g = w.heap.size) := hg
            rw [← hg] at ho hbr ⊢
            clear hg
            have hlt1 := ho.lt
            have hoC := ho
            clear ho
            rename World => W2
            go_wp2_with (first
              | (at_make; refine wpl_makeI0 rfl _ _ rfl N _ (by rfl) (by rfl) (by rw [HN.out]; omega) (by omega) ?_; intro w3 ho3 hb3 hz3)
              | (at_builtin; (refine wpl_appI rfl (.tmp 71) (.tmp 73) rfl W2.heap.size N 0 [] L (by rfl) rfl (ho3.alloc _) w3.heap.size 1 (by rfl) (by simp) (by rw [HN.out]; simp; omega) ?_); intro w4 ho4 hg4))
            have hb4 := below_grown (hb3.alloc hb3.size (.cells #[.int .i64 L] 3)) hg4 (Nat.le_refl _) (by simp; omega)
            clear ho3 hb3 hg4
            go_loopw [13, 77] (fun v i wr => ∃ k : Nat, k ≤ as_.length ∧ i = .int .i64 k ∧ v = .slice (some ⟨W2.heap.size, 0, none⟩) (1 + k) N ∧ OwnI wr W2.heap.size N ([L] ++ upA L (as_.take k)) ∧ Below W2.heap.size W2 wr) (fun _ i _ => as_.length - (intOf i).toNat)
            case atStart => exact ⟨0, by omega, rfl, rfl, by simpa [upA] using ho4, hb4⟩
            case round =>
              obtain ⟨k, hk, rfl, rfl, ho, hbr3⟩ := hrel
              by_cases hlt : k < as_.length
              · have hs1 := (ht.below (hbr.mono (Nat.le_of_eq HG.out.symm))).below (hbr3.mono (by have := HG.out; omega))
                obtain ⟨b1, o1, hb1, rfl, hc1⟩ := Sl.intsAt hs1 (by omega)
                have cc := hc1 k hlt
                obtain ⟨p1, p2⟩ := HA.out k hlt
                clear hc1
                have HK : Hid (1 + k = ([L] ++ upA L (as_.take k)).length) := show _ = _ by rw [List.length_append, length_upA, List.length_take, List.length_singleton]; omega
                go_wp2_with (at_builtin; (refine wpl_appI rfl (.tmp 81) (.tmp 86) rfl W2.heap.size N (1 + k) ([L] ++ upA L (as_.take k)) (L + nth as_ k) (by rfl) HK.out (ho.alloc _) wr.heap.size 1 (by rfl) (by simp) (by rw [← HK.out, HN.out]; omega) ?_); intro w2 ho2 hg2)
                go_roundw
                case rel => exact ⟨k + 1, by omega, by go_num, rfl, by rw [upA_succ L as_ k hlt, ← List.append_assoc]; exact ho2, below_grown (hbr3.alloc hbr3.size _) hg2 (Nat.le_refl _) (by have := ho.lt; simp; omega)⟩
                case measure => simp [intOf]; omega
              · obtain rfl : k = as_.length := by omega
                rw [List.take_length] at ho
                clear ho4 hb4 w4
                rename World => W3
                go_wp2_with fail
                go_loopw [13, 91] (fun v i wr => ∃ k : Nat, k ≤ bs.length ∧ i = .int .i64 k ∧ v = .slice (some ⟨W2.heap.size, 0, none⟩) (1 + as_.length + k) N ∧ OwnI wr W2.heap.size N ([L] ++ upA L as_ ++ upB L (bs.take k)) ∧ Below W2.heap.size W2 wr) (fun _ i _ => bs.length - (intOf i).toNat)
                case atStart => exact ⟨0, by omega, rfl, rfl, by simpa [upB] using ho, hbr3⟩
                case round =>
                  clear ho hbr3
                  obtain ⟨k, hk, rfl, rfl, ho, hbr3⟩ := hrel
                  by_cases hlt : k < bs.length
                  · have hs1 := (hs.below (hbr.mono (Nat.le_of_eq HG.out.symm))).below (hbr3.mono (by have := HG.out; omega))
                    obtain ⟨b1, o1, hb1, rfl, hc1⟩ := Sl.intsAt hs1 (by omega)
                    have cc := hc1 k hlt
                    obtain ⟨p1, p2⟩ := HB.out k hlt
                    clear hc1
                    have HK : Hid (1 + as_.length + k = ([L] ++ upA L as_ ++ upB L (bs.take k)).length) := show _ = _ by rw [List.length_append, List.length_append, length_upA, length_upB, List.length_take, List.length_singleton]; omega
                    go_wp2_with (at_builtin; (refine wpl_appI rfl (.tmp 95) (.tmp 101) rfl W2.heap.size N (1 + as_.length + k) ([L] ++ upA L as_ ++ upB L (bs.take k)) (L + 1 + nth bs k) (by rfl) HK.out (ho.alloc _) wr.heap.size 1 (by rfl) (by simp) (by rw [← HK.out, HN.out]; omega) ?_); intro w2 ho2 hg2)
                    go_roundw
                    case rel => exact ⟨k + 1, by omega, by go_num, rfl, by rw [upB_succ L bs k hlt, ← List.append_assoc]; exact ho2, below_grown (hbr3.alloc hbr3.size _) hg2 (Nat.le_refl _) (by have := ho.lt; simp; omega)⟩
                    case measure => simp [intOf]; omega
                  · obtain rfl : k = bs.length := by omega
                    rw [List.take_length] at ho
                    have hoC' := hoC.below hbr3 hlt1
                    have HK1 : Hid (bs.length + 1 + as_.length = (upB L bs ++ [L] ++ upA L as_).length) := show _ = _ by rw [List.length_append, List.length_append, length_upA, length_upB, List.length_singleton]
                    have HK2 : Hid (1 + as_.length + bs.length = ([L] ++ upA L as_ ++ upB L bs).length) := show _ = _ by rw [List.length_append, List.length_append, length_upA, length_upB, List.length_singleton]
                    have hfin : sameI (rotMin (upB L bs ++ [L] ++ upA L as_)) ([L] ++ upA L as_ ++ upB L bs) = true := by simp only [sameI, HP.out, decide_true]
                    have hbf := hbr.trans (hbr3.mono (Nat.le_of_lt hlt1))
                    clear hoC
                    go_wp2_with fail
                    refine (rot_len (upB L bs ++ [L] ++ upA L as_) _ N _ wr HK1.out (by omega) (hoC'.sl HK1.out hoC'.lt)).mono ?_
                    rintro e w6 ⟨g6, rfl, ho6, hg6, hb6⟩
                    have ho' := ho.below hb6 ho.lt
                    go_wp2_with fail
                    refine (isame_len (rotMin (upB L bs ++ [L] ++ upA L as_)) ([L] ++ upA L as_ ++ upB L bs) _ _ _ _ _ _ w6 (by rw [length_rotMin]; exact HK1.out) HK2.out (by omega) (by omega) (ho6.sl (by rw [length_rotMin]; exact HK1.out) ho6.lt) (ho'.sl HK2.out ho'.lt)).mono ?_
                    rintro e w7 ⟨rfl, q7, rfl⟩
                    go_wp2_with fail
                    go_ret
                    refine ⟨ret_bool (by simpa using hfin), below_drewN ?_ _⟩
                    rw [← HG.out]
                    exact hbf.trans (hb6.mono (Nat.le_of_lt hoC'.lt))
end Go.Proofs.Ymbrdr
