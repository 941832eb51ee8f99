/- zzs930021llay. -/
import Derived.Test.YmbrdrLParts
import Derived.Test.YmbrdrIsCyc
namespace Go.Proofs.Ymbrdr
open Go.ChangeShapes Go.WideShapes Go.ChangeAt Go.RowKit
set_option linter.unusedVariables false
set_option linter.unusedSimpArgs false
attribute [local go_sem ↓] Go.wp_at_zero Go.wp_at_succ

theorem nxt_mid {l i : Nat} (h : i + 1 < l) : nxt l i = i + 1 := Nat.mod_eq_of_lt h
theorem nxt_last {l i : Nat} (h : i < l) (h2 : ¬ i + 1 < l) : nxt l i = 0 := by
  unfold nxt
  rw [show i + 1 = l by omega, Nat.mod_self]

/-- es with the first k edges of the closed walk c that are in range -/
def LayTo (n : Nat) (es : List (Int × Int)) (cs : List Int) (k : Nat) (fs : List (Int × Int)) : Prop :=
  InE n fs ∧ ∀ x, x ∈ fs ↔ x ∈ es ∨ ∃ i, i < k ∧ x = (nth cs i, nth cs (nxt cs.length i)) ∧ inB n x.1 x.2 = true
theorem LayTo.yes {n : Nat} {es : List (Int × Int)} {cs : List Int} {k : Nat} {fs : List (Int × Int)} (h : LayTo n es cs k fs) {v : Int} (hv : v = nth cs (nxt cs.length k)) (hin : inB n (nth cs k) v = true) : LayTo n es cs (k + 1) (fs ++ [(nth cs k, v)]) := by
  subst hv
  refine ⟨h.1.snoc hin, fun x => ?_⟩
  rw [List.mem_append, List.mem_singleton, h.2 x]
  constructor
  · rintro ((h' | ⟨i, hi, r⟩) | h')
    · exact .inl h'
    · exact .inr ⟨i, by omega, r⟩
    · exact .inr ⟨k, by omega, h', by rw [h']; exact hin⟩
  · rintro (h' | ⟨i, hi, e, r⟩)
    · exact .inl (.inl h')
    · rcases Nat.lt_or_ge i k with h2 | h2
      · exact .inl (.inr ⟨i, h2, e, r⟩)
      · obtain rfl : i = k := by omega
        exact .inr e
theorem LayTo.no {n : Nat} {es : List (Int × Int)} {cs : List Int} {k : Nat} {fs : List (Int × Int)} (h : LayTo n es cs k fs) {v : Int} (hv : v = nth cs (nxt cs.length k)) (hin : ¬ inB n (nth cs k) v = true) : LayTo n es cs (k + 1) fs := by
  subst hv
  refine ⟨h.1, fun x => ?_⟩
  rw [h.2 x]
  constructor
  · rintro (h' | ⟨i, hi, r⟩)
    · exact .inl h'
    · exact .inr ⟨i, by omega, r⟩
  · rintro (h' | ⟨i, hi, e, r⟩)
    · exact .inl h'
    · rcases Nat.lt_or_ge i k with h2 | h2
      · exact .inr ⟨i, h2, e, r⟩
      · obtain rfl : i = k := by omega
        rw [e] at r
        exact absurd r hin

def LLayPost (n : Nat) (es : List (Int × Int)) (cs : List Int) (lay g : Nat) (w : World) (r : Ending) (w' : World) : Prop := But g w w' ∧
  ∃ g' cap' fs, r = .returned (.slice (some ⟨g', 0, none⟩) (fs : List (Int × Int)).length cap') ∧ OwnE w' g' cap' fs ∧ LayTo n es cs (min cs.length lay) fs ∧ g ≤ g' ∧ fs.length ≤ es.length + cs.length

set_option maxRecDepth 20000 in
set_option maxHeartbeats 4000000 in
theorem llay_any (n : Nat) (es : List (Int × Int)) (cs : List Int) (lay g cap cc : Nat) (co : Option Addr) (w : World) (hn : n ≤ 100) (hes : es.length ≤ 100000) (hcs : cs.length ≤ 100000) (hlay : lay ≤ 100000) (hin : InE n es) (ho0 : OwnE w g cap es) (hcg : ∀ a, co = some a → a.block ≠ g) (hs : Sl w w.heap.size co cs.length cc 1 (cellsI cs)) :
    Calls Ydrm.prog 31 #[.slice (some ⟨g, 0, none⟩) es.length cap, .int .i64 n, .slice co cs.length cc, .int .i64 lay] w (LLayPost n es cs lay g w) := by
  have HIN : Hid _ := hin
  clear hin
  have hgl0 := ho0.lt
  go_enter Ydrm.func31, Ydrm.ntmps31
  go_wp2_with fail
  go_loopw [0, 9] (fun t i wr => ∃ (k g' cap' : Nat) (fs : List (Int × Int)), k ≤ cs.length ∧ k ≤ lay ∧ i = .int .i64 k ∧ t = .slice (some ⟨g', 0, none⟩) fs.length cap' ∧ fs.length ≤ es.length + k ∧ Hid (LayTo n es cs k fs) ∧ OwnE wr g' cap' fs ∧ g ≤ g' ∧ (g' = g ∨ w.heap.size ≤ g') ∧ But g w wr) (fun _ i _ => cs.length - (intOf i).toNat)
  case atStart => exact ⟨0, g, cap, es, by omega, by omega, rfl, rfl, by omega, ⟨HIN.out, fun x => ⟨.inl, fun h => h.elim id (fun ⟨i, hi, _⟩ => by omega)⟩⟩, ho0, Nat.le_refl _, .inl rfl, But.refl _ _⟩
  case round =>
    obtain ⟨k, g', cap', fs, hk, hkl, rfl, rfl, hfl, HL, ho, hgg, hgo, hb⟩ := hrel
    have hz := ho.lt
    have hzw := hb.size
    by_cases hlt : k < cs.length
    · have i1 : decide ((k : Int) < (cs.length : Int)) = true := by simp; omega
      by_cases hll : k < lay
      · have i2 : decide ((k : Int) < (lay : Int)) = true := by simp; omega
        have hsr := hs.but hb (Nat.le_refl _) hcg
        obtain ⟨b, off, hbB, rfl, hc⟩ := Sl.intsAt hsr (by omega)
        have c1 := hc k hlt
        have c0 := hc 0 (by omega)
        rw [Nat.add_zero] at c0
        obtain ⟨v, HV⟩ : ∃ v, Hid (v = nth cs (nxt cs.length k)) := ⟨_, rfl⟩
        have hx1 : 0 < cs.length := by omega
        go_upto_if 34 with fail
        go_cut [11] (fun t w' => t = .int .i64 v ∧ wr = w')
        case first =>
          by_cases hmid : k + 1 < cs.length
          · have j1 : decide ((k : Int) + 1 < (cs.length : Int)) = true := by simp; omega
            have c2 := hc (k + 1) hmid
            have hv : v = nth cs (k + 1) := by rw [HV.out, nxt_mid hmid]
            have HV2 : Hid _ := hv
            clear hv hc
            have c3 : wr.cell? ⟨b, off + (k + 1), none⟩ = some (.int .i64 v) := by rw [HV2.out]; exact c2
            clear c2
            go_wp2_with fail
            go_meet
            case rel => exact ⟨rfl, rfl⟩
          · have j1 : decide ((k : Int) + 1 < (cs.length : Int)) = false := by simp; omega
            have hv : v = nth cs 0 := by rw [HV.out, nxt_last hlt hmid]
            have HV2 : Hid _ := hv
            clear hv hc
            go_wp2_with fail
            go_meet
            case rel => exact ⟨by rw [HV2.out], rfl⟩
        case rest =>
        obtain ⟨rfl, rfl⟩ := hcut
        rename World => W4
        clear hc
        go_upto_region 8 with fail
        go_cut [55] (fun t w' => t = .bool (inB n (nth cs k) v) ∧ W4 = w')
        case first =>
          by_cases h1 : 0 ≤ nth cs k
          · have i1 : decide (nth cs k ≥ 0) = true := by simp; omega
            by_cases h2 : nth cs k < n
            · have i2 : decide (nth cs k < (n : Int)) = true := by simp; omega
              by_cases h3 : 0 ≤ v
              · have i3 : decide (v ≥ 0) = true := by simp; omega
                by_cases h4 : v < n
                · have i4 : decide (v < (n : Int)) = true := by simp; omega
                  have i5 : inB n (nth cs k) v = true := inB_true.2 ⟨h1, h2, h3, h4⟩
                  clear h1 h2 h3 h4
                  go_wp2_with fail
                  go_meet
                  case rel => exact ⟨by rw [i5], rfl⟩
                · have i4 : decide (v < (n : Int)) = false := by simp; omega
                  have i5 : inB n (nth cs k) v = false := inB_false.2 (by omega)
                  clear h1 h2 h3 h4
                  go_wp2_with fail
                  go_meet
                  case rel => exact ⟨by rw [i5], rfl⟩
              · have i3 : decide (v ≥ 0) = false := by simp; omega
                have i5 : inB n (nth cs k) v = false := inB_false.2 (by omega)
                clear h1 h2 h3
                go_wp2_with fail
                go_meet
                case rel => exact ⟨by rw [i5], rfl⟩
            · have i2 : decide (nth cs k < (n : Int)) = false := by simp; omega
              have i5 : inB n (nth cs k) v = false := inB_false.2 (by omega)
              clear h1 h2
              go_wp2_with fail
              go_meet
              case rel => exact ⟨by rw [i5], rfl⟩
          · have i1 : decide (nth cs k ≥ 0) = false := by simp; omega
            have i5 : inB n (nth cs k) v = false := inB_false.2 (by omega)
            clear h1
            go_wp2_with fail
            go_meet
            case rel => exact ⟨by rw [i5], rfl⟩
        case rest =>
        obtain ⟨rfl, rfl⟩ := hcut
        rename World => W5
        cases hin : inB n (nth cs k) v
        · have HI : Hid (¬ inB n (nth cs k) v = true) := by show ¬ _; rw [hin]; simp
          clear hin
          go_wp2_with fail
          go_roundw
          case rel => exact ⟨k + 1, g', cap', fs, by omega, by omega, by simp, rfl, by omega, HL.out.no HV.out HI.out, ho, hgg, hgo, hb⟩
          case measure => simp [intOf]; omega
        · have HI : Hid _ := hin
          clear hin
          go_wp2_with (at_builtin; go_must (refine wpl_appEg rfl (.tmp 56) (.tmp 60) rfl g' cap' fs.length fs (nth cs k, v) (by rfl) rfl (ho.alloc _) W5.heap.size 1 (by rfl) (cell_new2 rfl) (by omega) ?_); intro g8 cap8 w8 ho8 hg8 hg9)
          have hb8 : But g w w8 := by
            have h1 : But g w (W5.alloc (.cells #[.int .i64 (nth cs k), .int .i64 v] 45)) := hb.trans (but_below g ((Below.refl _ _).alloc (Nat.le_refl _) _))
            refine ⟨hg8.os.trans h1.os, hg8.tape.trans h1.tape, hg8.output.trans h1.output, Nat.le_trans h1.size hg8.size, fun i hi hne => ?_⟩
            rw [hg8.block i (by have := h1.size; omega) (fun e => by cases e; rcases hgo with h | h; exact hne (by rw [h]); omega)]
            exact h1.block i hi hne
          have hz9 : w.heap.size ≤ (W5.alloc (.cells #[.int .i64 (nth cs k), .int .i64 v] 45)).heap.size := by rw [size_alloc]; omega
          have hgg8 : g ≤ g8 := by
            rcases hg9 with h | h
            · omega
            · omega
          have hgo8 : g8 = g ∨ w.heap.size ≤ g8 := by
            rcases hg9 with h | h
            · rw [h]; exact hgo
            · right; omega
          clear hg9
          go_roundw
          case rel => exact ⟨k + 1, g8, cap8, _, by omega, by omega, by simp, by simp, by simp; omega, HL.out.yes HV.out HI.out, ho8, hgg8, hgo8, hb8⟩
          case measure => simp [intOf]; omega
      · have i2 : decide ((k : Int) < (lay : Int)) = false := by simp; omega
        have hmin : min cs.length lay = k := by omega
        have HM : Hid _ := hmin
        clear hmin
        go_wp2_with fail
        go_ret
        exact ⟨hb, g', cap', fs, by simp, ho, by rw [HM.out]; exact HL.out, hgg, by omega⟩
    · have i1 : decide ((k : Int) < (cs.length : Int)) = false := by simp; omega
      have hmin : min cs.length lay = k := by omega
      have HM : Hid _ := hmin
      clear hmin
      go_wp2_with fail
      go_ret
      exact ⟨hb, g', cap', fs, by simp, ho, by rw [HM.out]; exact HL.out, hgg, by omega⟩
end Go.Proofs.Ymbrdr
