/- zzs930021cmeets is true at every n and every list. -/
import Derived.Test.YmbrdpCIn
import Derived.Deep.DeepCutAuto
import Derived.Lib.SliceRun
namespace Go.Proofs.Ymbrdp
open Go.ChangeShapes Go.WideShapes Go.ChangeAt Go.RowKit
set_option linter.unusedVariables false
set_option linter.unusedSimpArgs false
attribute [local go_sem ↓] Go.wp_at_zero Go.wp_at_succ

def WantAt (n : Int) (es : List (Int × Int)) (k : Nat) (b : Bool) : Prop := b = true ↔ (0 ≤ n ∧ n ≤ 4096) ∧ ∀ j, j < k → inB n (nthF es j) (nthT es j) = true
theorem WantAt.no {n : Int} {es : List (Int × Int)} {k : Nat} (h : ¬ inB n (nthF es k) (nthT es k) = true) : WantAt n es (k + 1) false :=
  ⟨fun h => (by cases h), fun h' => absurd (h'.2 k (by omega)) h⟩
theorem WantAt.yes {n : Int} {es : List (Int × Int)} {k : Nat} {b : Bool} (hw : WantAt n es k b) (h : inB n (nthF es k) (nthT es k) = true) : WantAt n es (k + 1) b :=
  ⟨fun hb => ⟨(hw.1 hb).1, fun j hj => (by rcases Nat.lt_or_ge j k with h' | h'; exact (hw.1 hb).2 j h'; obtain rfl : j = k := (by omega); exact h)⟩, fun h' => hw.2 ⟨h'.1, fun j hj => h'.2 j (by omega)⟩⟩

set_option maxRecDepth 20000 in
set_option maxHeartbeats 4000000 in
theorem cmeets_any (n : Int) (es : List (Int × Int)) (ec : Nat) (eo : Option Addr) (w : World) (hes : es.length ≤ 100000) (hs : Sl w w.heap.size eo es.length ec 2 (cellsE es)) :
    Calls Ydpm.prog 24 #[.int .i64 n, .slice eo es.length ec] w fun e w' => e = .returned (.bool true) ∧ Below w.heap.size w w' := by
  obtain ⟨b0, hb0, hw0⟩ : ∃ b0 : Bool, b0 = decide (0 ≤ n ∧ n ≤ 4096) ∧ WantAt n es 0 b0 := ⟨_, rfl, by unfold WantAt; rw [decide_eq_true_iff]; exact ⟨fun h => ⟨h, fun j hj => (by omega)⟩, fun h => h.1⟩⟩
  have qT : ∀ (w : World) (a : Option Addr) (n c n' c' : Nat), (binOp .eql 26 (.slice a n c) (.slice none n' c')).run Ydpm.prog w = .ok (.bool a.isNone) w := fun w a n c n' c' => Lib.run_eql_slice_nil w _ _ a n c n' c' Ydpm.underlying26
  go_enter Ydpm.func24, Ydpm.ntmps24
  have HW0 : Hid (WantAt n es 0 b0) := hw0
  have HB0 : Hid (b0 = decide (0 ≤ n ∧ n ≤ 4096)) := hb0
  clear hw0 hb0
  go_upto_region 1 with fail
  go_cut [5] (fun t w' => t = .bool b0 ∧ w = w')
  case first =>
    by_cases h1 : 0 ≤ n
    · have i1 : decide (n ≥ 0) = true := by simp; omega
      go_wp2_with fail
      go_meet
      case rel => exact ⟨by rw [HB0.out]; simp [h1], rfl⟩
    · have i1 : decide (n ≥ 0) = false := by simp; omega
      go_wp2_with fail
      go_meet
      case rel => exact ⟨by rw [HB0.out, decide_eq_false (by omega)], rfl⟩
  case rest =>
  obtain ⟨rfl, rfl⟩ := hcut
  go_wp2_with fail
  go_loopw [5, 6] (fun t i wr => ∃ (k : Nat) (b : Bool), k ≤ es.length ∧ i = .int .i64 k ∧ t = .bool b ∧ Hid (WantAt n es k b) ∧ BelowA w.heap.size w wr) (fun _ i _ => es.length - (intOf i).toNat)
  case atStart => exact ⟨0, b0, by omega, rfl, rfl, HW0.out, BelowA.refl w⟩
  case round =>
    obtain ⟨k, b, hk, rfl, rfl, HW, hb⟩ := hrel
    by_cases hlt : k < es.length
    · obtain ⟨bb, off, hbB, rfl, hc⟩ := Sl.pairsAt (hs.below hb.1) (by omega)
      obtain ⟨c1, c2⟩ := hc k hlt
      clear hc
      by_cases hin : inB n (nthF es k) (nthT es k) = true
      · obtain ⟨u1, u2, v1, v2⟩ := inB_true.1 hin
        have i1 : decide (nthF es k < 0) = false := by simp; omega
        have i2 : decide (nthF es k ≥ n) = false := by simp; omega
        have i3 : decide (nthT es k < 0) = false := by simp; omega
        have i4 : decide (nthT es k ≥ n) = false := by simp; omega
        have HIN : Hid (inB n (nthF es k) (nthT es k) = true) := hin
        clear hin
        go_wp2_with fail
        go_roundw
        case rel => exact ⟨k + 1, b, by omega, by simp, rfl, HW.out.yes HIN.out, hb.alloc _⟩
        case measure => simp [intOf]; omega
      · have hn := inB_false.1 (Bool.eq_false_iff.2 hin)
        have HIN : Hid (¬ inB n (nthF es k) (nthT es k) = true) := hin
        clear hin
        have hd : (decide (nthF es k < 0) = true) ∨ (decide (nthF es k < 0) = false ∧ decide (nthF es k ≥ n) = true) ∨ (decide (nthF es k < 0) = false ∧ decide (nthF es k ≥ n) = false ∧ decide (nthT es k < 0) = true) ∨ (decide (nthF es k < 0) = false ∧ decide (nthF es k ≥ n) = false ∧ decide (nthT es k < 0) = false ∧ decide (nthT es k ≥ n) = true) := by
          simp only [decide_eq_true_iff, decide_eq_false_iff_not]; omega
        clear hn
        rcases hd with i1 | ⟨i1, i2⟩ | ⟨i1, i2, i3⟩ | ⟨i1, i2, i3, i4⟩
        all_goals
          go_wp2_with fail
          go_roundw
          case rel => exact ⟨k + 1, false, by omega, by simp, rfl, WantAt.no HIN.out, hb.alloc _⟩
          case measure => simp [intOf]; omega
    · obtain rfl : k = es.length := by omega
      clear hlt hk
      have hsr := (hs.below hb.1).mono hb.2
      go_wp2_with fail
      refine (fromEdges_any n es ec eo _ (by omega) hsr).mono ?_
      rintro e w2 ⟨hb2, ⟨hok, fo, fc, rfl, hsf, hlf⟩ | ⟨hno, rfl⟩⟩
      · obtain rfl : b = true := HW.out.2 ⟨⟨hok.1, hok.2.1⟩, hok.2.2⟩
        have hbA := hb.next hb2
        have hz2 := hb2.size
        clear hok hlf
        have hfl := length_insAll es
        have HM : Hid (∀ x, x ∈ insAll es ↔ x ∈ es) := fun x => mem_insAll
        have HS : Hid (Srt (insAll es)) := srt_insAll es
        generalize insAll es = fs at *
        have hnn : (n != n) = false := by simp
        go_wp2_with fail
        have hG3 := gr_new (w := w2) (n := n) (t := 29) hsf
        have hbB := hbA.alloc (.cells #[.int .i64 n, .slice fo fs.length fc] 29)
        have hs3 := (hs.below hbB.1).mono hbB.2
        have hz3 : w2.heap.size + 1 = (w2.alloc (.cells #[.int .i64 n, .slice fo fs.length fc] 29)).heap.size := (size_alloc _ _).symm
        rw [hz3] at hG3
        clear hsf hbA hsr hb hb2 hz2
        obtain ⟨G, hG⟩ : ∃ G, w2.heap.size = G := ⟨_, rfl⟩
        rw [hG] at hG3 ⊢
        generalize w2.alloc (.cells #[.int .i64 n, .slice fo fs.length fc] 29) = W3 at *
        clear hz3 hG
        have hgl := hG3.lt
        go_loopw [10] (fun i wr => ∃ (k : Nat), 1 ≤ k ∧ (k ≤ fs.length ∨ k = 1) ∧ i = .int .i64 k ∧ BelowA W3.heap.size W3 wr) (fun i _ => fs.length + 1 - (intOf i).toNat)
        case atStart => exact ⟨1, by omega, .inr rfl, rfl, BelowA.refl _⟩
        case round =>
          obtain ⟨k, hk1, hk, rfl, hb⟩ := hrel
          have hG := hG3.below hb.1
          have k1 := hG.c1
          have hzr := hb.2
          have hn1 : G < wr.heap.size := by omega
          by_cases hlt : k < fs.length
          · obtain ⟨bb, off, hbB2, rfl, hc⟩ := Sl.pairsAt hG.sl (by omega)
            obtain ⟨p, HP⟩ : ∃ p : Nat, Hid (k = p + 1) := ⟨k - 1, by show _ = _; omega⟩
            have hpl : p < fs.length := by have := HP.out; omega
            obtain ⟨c1, c2⟩ := hc k hlt
            obtain ⟨c3, c4⟩ := hc p hpl
            clear hc
            have hnb : bb < wr.heap.size := by omega
            have hkp : (k : Int) - 1 = (p : Int) := by have := HP.out; omega
            have hl : ltE (nthE fs p) (nthE fs k) := srt_lt HS.out (by have := HP.out; omega) hlt
            have hl1 : nthF fs p < nthF fs k ∨ (nthF fs p = nthF fs k ∧ nthT fs p < nthT fs k) := hl
            clear hl hk
            rcases hl1 with h1 | ⟨h1, h2⟩
            · have i1 : decide (nthF fs p < nthF fs k) = true := by simp; omega
              clear h1
              go_wp2_with fail
              go_roundw
              case rel => exact ⟨k + 1, by omega, .inl (by omega), by simp, (hb.alloc _).alloc _⟩
              case measure => simp [intOf]; omega
            · have i1 : decide (nthF fs p < nthF fs k) = false := by simp; omega
              have i2 : (nthF fs p == nthF fs k) = true := by simp; omega
              have i3 : decide (nthT fs p < nthT fs k) = true := by simp; omega
              clear h1 h2
              go_wp2_with fail
              go_roundw
              case rel => exact ⟨k + 1, by omega, .inl (by omega), by simp, (hb.alloc _).alloc _⟩
              case measure => simp [intOf]; omega
          · clear hk
            have hbC := hbB.next (hb.1.mono (by omega))
            have hs4 := (hs3.below hb.1).mono hb.2
            have hG4 := hG.mono hb.2
            go_wp2_with fail
            clear hs3 hG3 hG hb hbB hgl hzr k1 hk1 hlt
            rename World => W5
            go_loopw [13] (fun i wr => ∃ (k : Nat), k ≤ es.length ∧ i = .int .i64 k ∧ BelowA W5.heap.size W5 wr) (fun i _ => es.length - (intOf i).toNat)
            case atStart => exact ⟨0, by omega, rfl, BelowA.refl _⟩
            case round =>
              obtain ⟨k, hk, rfl, hb⟩ := hrel
              have hG := hG4.below hb.1
              have k1 := hG.c1
              have hzr := hb.2
              have hn2 : G < wr.heap.size := by omega
              by_cases hlt : k < es.length
              · obtain ⟨bb, off, hbB2, rfl, hc⟩ := Sl.pairsAt (hs4.below hb.1) (by omega)
                obtain ⟨c1, c2⟩ := hc k hlt
                clear hc
                have hnb : bb < wr.heap.size := by omega
                have i1 : (0 : Int) ≤ (k : Int) := by omega
                have i2 : (k : Int) < (es.length : Int) := by omega
                have hmem : decide ((nthF es k, nthT es k) ∈ fs) = true := decide_eq_true ((HM.out _).2 (mem_nthE.2 ⟨k, hlt, rfl⟩))
                go_upto_region 25 with fail
                go_region_held3 (fun w' => w'.cell? ⟨G, 1, none⟩ = some (.slice fo fs.length fc) ∧ w'.cell? ⟨bb, off + k * 2, none⟩ = some (.int .i64 (nthF es k)) ∧ w'.cell? ⟨bb, off + k * 2 + 1, none⟩ = some (.int .i64 (nthT es k)))
                  (first | go_keep | (go_split_ands; all_goals assumption))
                  ((go_at_call 32; refine (cin_any fs (nthF es k) (nthT es k) fc fo _ (by omega) ((hG.mono hb.2).drewN 1).sl).mono ?_; rintro e w' ⟨hb2, rfl⟩
                    have s1 := (hb2.cell (p := ⟨G, 1, none⟩) hn2).trans k1
                    have s2 := (hb2.cell (p := ⟨bb, off + k * 2, none⟩) hnb).trans c1
                    have s3 := (hb2.cell (p := ⟨bb, off + k * 2 + 1, none⟩) hnb).trans c2))
                rename_i hHeld
                clear hHeld
                go_wp2_with fail
                go_roundw
                case rel => exact ⟨k + 1, by omega, by simp, (hb.drewN 1).next hb2⟩
                case measure => simp [intOf]; omega
              · have hbD := hbC.next (hb.1.mono (by omega))
                have hs6 := (hs4.below hb.1).mono hb.2
                have hG6 := hG.mono hb.2
                go_wp2_with fail
                clear hs4 hG4 hG hb hbC hn1 hzr k1 hk hlt
                rename World => W7
                go_loopw [14] (fun i wr => ∃ (k : Nat), k ≤ fs.length ∧ i = .int .i64 k ∧ BelowA W7.heap.size W7 wr) (fun i _ => fs.length - (intOf i).toNat)
                case atStart => exact ⟨0, by omega, rfl, BelowA.refl _⟩
                case round =>
                  obtain ⟨k, hk, rfl, hb⟩ := hrel
                  have hG := hG6.below hb.1
                  have k1 := hG.c1
                  have hzr := hb.2
                  have hn3 : G < wr.heap.size := by omega
                  by_cases hlt : k < fs.length
                  · obtain ⟨bb, off, hbB2, rfl, hc⟩ := Sl.pairsAt hG.sl (by omega)
                    obtain ⟨c1, c2⟩ := hc k hlt
                    clear hc
                    have hmem : decide ((nthF fs k, nthT fs k) ∈ es) = true := decide_eq_true ((HM.out _).1 (mem_nthE.2 ⟨k, hlt, rfl⟩))
                    go_wp2_with fail
                    refine (cin_any es (nthF fs k) (nthT fs k) ec _ _ (by omega) ((hs6.below hb.1).mono hb.2)).mono ?_
                    rintro e w' ⟨hb2, rfl⟩
                    rw [hmem]
                    go_wp2_with fail
                    go_roundw
                    case rel => exact ⟨k + 1, by omega, by simp, hb.next hb2⟩
                    case measure => simp [intOf]; omega
                  · go_wp2_with fail
                    go_ret
                    exact ⟨by simp, (hbD.next (hb.1.mono (by omega))).1⟩
      · obtain rfl : b = false := by
          rcases Bool.eq_false_or_eq_true b with h | h
          · exact absurd ⟨(HW.out.1 h).1.1, (HW.out.1 h).1.2, (HW.out.1 h).2⟩ hno
          · exact h
        clear hno
        have hbA := (hb.next hb2).alloc (.cells #[.int .i64 0, .slice none 0 0] 29)
        go_wp2_with fail
        go_ret
        exact ⟨by simp, hbA.1⟩
end Go.Proofs.Ymbrdp
