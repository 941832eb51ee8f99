/- The walk of LawS930021BUndo. -/
import Derived.Test.YmbrdpBEdges
import Derived.Test.YmbrdpGRem
import Derived.Test.YmbrdpGFrom
import Derived.Deep.DeepCutAuto
namespace Go.Proofs.Ymbrdp
open Go.ChangeShapes Go.WideShapes Go.ChangeAt Go.RowKit
set_option linter.unusedVariables false
set_option linter.unusedSimpArgs false
attribute [local go_sem ↓] Go.wp_at_zero Go.wp_at_succ

/-- the raw list so far: all in range, 'had' says whether e is among them -/
def RawAt (n : Nat) (os : List (Int × Int)) (e : Int × Int) (b : Bool) : Prop := (∀ x ∈ os, inB n x.1 x.2 = true) ∧ (b = true ↔ e ∈ os)
theorem not_mem_delE (es : List (Int × Int)) (e : Int × Int) : ¬ e ∈ delE es e := fun h => (mem_delE.1 h).2 rfl
theorem delE_delE (es : List (Int × Int)) (e : Int × Int) : delE (delE es e) e = delE es e := delE_not (not_mem_delE es e)
theorem insE_delE {es : List (Int × Int)} {e : Int × Int} (hs : Srt es) (h : e ∈ es) : insE (delE es e) e = es :=
  srt_ext (srt_insE (srt_delE hs)) hs (fun x => by
    rw [mem_insE, mem_delE]
    constructor
    · rintro (rfl | h'); exact h; exact h'.1
    · intro hx
      by_cases hxe : x = e
      · exact .inl hxe
      · exact .inr ⟨hx, hxe⟩)
theorem delE_insE {es : List (Int × Int)} {e : Int × Int} (hs : Srt es) (h : ¬ e ∈ es) : delE (insE es e) e = es :=
  srt_ext (srt_delE (srt_insE hs)) hs (fun x => by
    rw [mem_delE, mem_insE]
    constructor
    · rintro ⟨h1 | h1, h2⟩; exact absurd h1 h2; exact h1
    · intro hx; exact ⟨.inr hx, fun e' => h (e' ▸ hx)⟩)
theorem length_delE (es : List (Int × Int)) (e : Int × Int) : (delE es e).length ≤ es.length := List.length_filter_le _ _

theorem RawAt.yes {n : Nat} {os : List (Int × Int)} {e x : Int × Int} {b : Bool} (h : RawAt n os e b) (hx : inB n x.1 x.2 = true) (he : x = e) : RawAt n (os ++ [x]) e true :=
  ⟨fun y hy => by rw [List.mem_append, List.mem_singleton] at hy; rcases hy with hy | rfl; exact h.1 y hy; exact hx, fun _ => by simp [he], fun _ => rfl⟩
theorem RawAt.no {n : Nat} {os : List (Int × Int)} {e x : Int × Int} {b : Bool} (h : RawAt n os e b) (hx : inB n x.1 x.2 = true) (he : x ≠ e) : RawAt n (os ++ [x]) e b :=
  ⟨fun y hy => by rw [List.mem_append, List.mem_singleton] at hy; rcases hy with hy | rfl; exact h.1 y hy; exact hx, by rw [h.2, List.mem_append, List.mem_singleton]; exact ⟨.inl, fun h => h.resolve_right (fun e => he e.symm)⟩⟩

set_option maxRecDepth 20000 in
set_option maxHeartbeats 4000000 in
theorem bUndo_walk (sz : Int) (rs : List (Int × Int)) (u v : Int) (rc : Nat) (ro : Option Addr) (w : World) (hsz : 0 ≤ sz ∧ sz ≤ 255) (hrs : rs.length ≤ 9223372036854775807) (hr : ∀ k, k < rs.length → (0 ≤ nthF rs k ∧ nthF rs k ≤ 255) ∧ (0 ≤ nthT rs k ∧ nthT rs k ≤ 255)) (hs : Sl w w.heap.size ro rs.length rc 2 (cellsP .u8 rs)) :
    Calls Ydpm.prog 7 #[.int .u8 sz, .slice ro rs.length rc, .int .i64 u, .int .i64 v] w fun e w' => e = .returned (.bool true) ∧ Below w.heap.size w w' := by
  have HR : Hid _ := hr
  clear hr
  by_cases hbig : rs.length > 512
  · go_enter Ydpm.func7, Ydpm.ntmps7
    go_wp2_with fail
    go_ret
    exact ⟨by simp, Below.refl _ _⟩
  obtain ⟨N, hN, hN0, hN1⟩ : ∃ N : Nat, 1 + sz % 16 = (N : Int) ∧ 0 < N ∧ N ≤ 16 := ⟨(1 + sz % 16).toNat, by omega, by omega, by omega⟩
  go_enter Ydpm.func7, Ydpm.ntmps7
  go_wp2_with (at_make; refine wpl_makeE0 rfl _ _ rfl 0 _ (by rfl) (by rfl) rfl (by omega) ?_; intro w1 ho1 hb1 hz1)
  go_loopw [10, 11, 12] (fun t hd i wr => ∃ (k g cap : Nat) (os : List (Int × Int)) (b : Bool), k ≤ rs.length ∧ i = .int .i64 k ∧ t = .slice (some ⟨g, 0, none⟩) os.length cap ∧ hd = .bool b ∧ os.length ≤ k ∧ Hid (RawAt N os (u, v) b) ∧ OwnE wr g cap os ∧ w.heap.size ≤ g ∧ BelowA w.heap.size w wr) (fun _ _ i _ => rs.length - (intOf i).toNat)
  case atStart => exact ⟨0, w.heap.size, 0, [], false, by omega, rfl, rfl, rfl, by simp, ⟨by simp, by simp⟩, ho1, Nat.le_refl _, hb1, by omega⟩
  case round =>
    obtain ⟨k, g, cap, os, b, hk, rfl, rfl, rfl, hol, HRA, ho, hg, hb⟩ := hrel
    have hgl := ho.lt
    by_cases hlt : k < rs.length
    · obtain ⟨bb, off, hbB, rfl, hc⟩ := Sl.pairsAt (hs.below hb.1) (by omega)
      obtain ⟨c1, c2⟩ := hc k hlt
      obtain ⟨⟨q1, q2⟩, q3, q4⟩ := HR.out k hlt
      clear hc
      have n0 : ¬ N = 0 := by omega
      have i1 : (0 : Int) ≤ (k : Int) := by omega
      have i2 : (k : Int) < (rs.length : Int) := by omega
      obtain ⟨t1, v1, x1⟩ := rem_facts (nthF rs k) N q1 (by omega) hN0 (by omega)
      obtain ⟨t2, v2, x2⟩ := rem_facts (nthT rs k) N q3 (by omega) hN0 (by omega)
      have hxin : inB N (nthF rs k % N) (nthT rs k % N) = true := inB_true.2 ⟨Int.emod_nonneg _ (by omega), Int.emod_lt_of_pos _ (by omega), Int.emod_nonneg _ (by omega), Int.emod_lt_of_pos _ (by omega)⟩
      have HXIN : Hid _ := hxin
      clear hxin
      have hbw : bb < wr.heap.size := by have := hb.2; omega
      go_upto_region 9 with fail
      go_region_held3 (fun w' => w'.cell? ⟨bb, off + k * 2, none⟩ = some (.int .u8 (nthF rs k)) ∧ w'.cell? ⟨bb, off + k * 2 + 1, none⟩ = some (.int .u8 (nthT rs k)))
        (first | go_keep)
        (fail)
      rename_i hHeld
      clear hHeld t1 v1 x1 t2 v2 x2 q1 q2 q3 q4 n0
      generalize nthF rs k % (N : Int) = X at *
      generalize nthT rs k % (N : Int) = Y at *
      by_cases hx : X = u ∧ Y = v
      · have j1 : (X == u) = true := by simp [hx.1]
        have j2 : (Y == v) = true := by simp [hx.2]
        have HX : Hid ((X, Y) = (u, v)) := by show _ = _; rw [hx.1, hx.2]
        clear hx
        go_wp2_with (at_builtin; go_must (refine wpl_appEg rfl (.tmp 60) (.tmp 62) rfl g cap os.length os (X, Y) (by rfl) rfl (((ho.alloc _).alloc _).drewN 1) (wr.heap.size + 1) 1 (by rfl) (cell_new2 (w := wr.alloc _) (size_alloc _ _).symm) (by omega) ?_); intro g' cap' w8 ho8 hg8 hgg)
        have hgg' : w.heap.size ≤ g' := by
          rcases hgg with h | h
          · omega
          · rw [h]; have := hb.2; show w.heap.size ≤ ((wr.alloc _).alloc _).heap.size; rw [size_alloc, size_alloc]; omega
        clear hgg
        go_roundw
        case rel => exact ⟨k + 1, g', cap', _, true, by omega, by simp, by simp, rfl, by simp; omega, HRA.out.yes HXIN.out HX.out, ho8, hgg', (((hb.alloc _).alloc _).drew).grown hg8 hg (by show g < ((wr.alloc _).alloc _).heap.size; rw [size_alloc, size_alloc]; omega)⟩
        case measure => simp [intOf]; omega
      · have HX : Hid ((X, Y) ≠ (u, v)) := fun h => hx ⟨congrArg Prod.fst h, congrArg Prod.snd h⟩
        have hd : ((X == u) = false) ∨ ((X == u) = true ∧ (Y == v) = false) := by
          by_cases h1 : X = u
          · exact .inr ⟨by simp [h1], by simp; exact fun h => hx ⟨h1, h⟩⟩
          · exact .inl (by simp [h1])
        clear hx
        rcases hd with j1 | ⟨j1, j2⟩
        all_goals
          go_wp2_with (at_builtin; go_must (refine wpl_appEg rfl (.tmp 60) (.tmp 62) rfl g cap os.length os (X, Y) (by rfl) rfl (((ho.alloc _).alloc _).drewN 1) (wr.heap.size + 1) 1 (by rfl) (cell_new2 (w := wr.alloc _) (size_alloc _ _).symm) (by omega) ?_); intro g' cap' w8 ho8 hg8 hgg)
          have hgg' : w.heap.size ≤ g' := by
            rcases hgg with h | h
            · omega
            · rw [h]; have := hb.2; show w.heap.size ≤ ((wr.alloc _).alloc _).heap.size; rw [size_alloc, size_alloc]; omega
          clear hgg
          go_roundw
          case rel => exact ⟨k + 1, g', cap', _, b, by omega, by simp, by simp, rfl, by simp; omega, HRA.out.no HXIN.out HX.out, ho8, hgg', (((hb.alloc _).alloc _).drew).grown hg8 hg (by show g < ((wr.alloc _).alloc _).heap.size; rw [size_alloc, size_alloc]; omega)⟩
          case measure => simp [intOf]; omega
    · have hsr := ho.sl rfl ho.lt
      go_wp2_with fail
      refine (fromEdges_any N os cap _ _ (by omega) hsr).mono ?_
      rintro e w2 ⟨hb2, ⟨hok, fo, fc, rfl, hsf, hlf⟩ | ⟨hno, rfl⟩⟩
      · have hbA := hb.next hb2
        have hfl := length_insAll os
        have HAI : Hid (∀ x ∈ insAll os, inB N x.1 x.2 = true) := fun x hx => HRA.out.1 x (mem_insAll.1 hx)
        have HBM : Hid (b = decide ((u, v) ∈ insAll os)) := by show _ = _; rw [Bool.eq_iff_iff, decide_eq_true_iff, mem_insAll]; exact HRA.out.2
        have HS : Hid (Srt (insAll os)) := srt_insAll os
        clear hok HRA ho hb hb2 hsr hg hgl
        generalize insAll os = es at *
        have hG := grw_new (n := (N : Int)) (t := 29) hsf (fun a ha => Nat.ne_of_lt (hlf a ha))
        have hbB := hbA.alloc (.cells #[.int .i64 N, .slice fo es.length fc] 29)
        have hszG : (w2.alloc (.cells #[.int .i64 N, .slice fo es.length fc] 29)).heap.size = w2.heap.size + 1 := size_alloc _ _
        have hwG := hbA.2
        clear hsf hbA
        go_wp2_with (at_make; refine wpl_makeE0 rfl _ _ rfl 0 _ (by rfl) (by rfl) rfl (by omega) ?_; intro w3 ho3 hb3 hz3)
        rw [hszG] at ho3 hz3
        have hG3 := hG.below hb3
        have hbC := hbB.next hb3
        clear hG hbB hb3
        obtain ⟨G, hGG⟩ : ∃ G, w2.heap.size = G := ⟨_, rfl⟩
        rw [hGG] at hG3 ho3 hz3 hwG hlf ⊢
        clear hszG hGG
        go_loopw [16, 17] (fun t i wr => ∃ (k g cap : Nat) (ts : List (Int × Int)), k ≤ es.length ∧ i = .int .i64 k ∧ t = .slice (some ⟨g, 0, none⟩) ts.length cap ∧ ts.length ≤ k ∧ Hid (ts = es.take k) ∧ OwnE wr g cap ts ∧ G < g ∧ GrW wr G N fo fc es ∧ BelowA w.heap.size w wr) (fun _ i _ => es.length - (intOf i).toNat)
        case atStart => exact ⟨0, G + 1, 0, [], by omega, rfl, rfl, by simp, by show _ = _; simp, ho3, by omega, hG3, hbC⟩
        case round =>
          obtain ⟨k, g, cap, ts, hk, rfl, rfl, htl, HT, ho, hgg, hG, hb⟩ := hrel
          have k1 := hG.gr.c1
          have hgl := ho.lt
          have hGl := hG.gr.lt
          by_cases hlt : k < es.length
          · obtain ⟨bb, off, hbB, rfl, hc⟩ := Sl.pairsAt hG.gr.sl (by omega)
            obtain ⟨c1, c2⟩ := hc k hlt
            clear hc
            go_wp2_with (at_builtin; go_must (refine wpl_appEg rfl (.tmp 80) (.tmp 86) rfl g cap ts.length ts (nthF es k, nthT es k) (by rfl) rfl (ho.alloc _) wr.heap.size 1 (by rfl) (cell_new2 rfl) (by omega) ?_); intro g' cap' w8 ho8 hg8 hg9)
            have hgg' : G < g' := by
              rcases hg9 with h | h
              · omega
              · rw [h, size_alloc]; omega
            clear hg9
            go_roundw
            case rel => exact ⟨k + 1, g', cap', _, by omega, by simp, by simp, by simp; omega, by show _ = _; rw [List.take_succ_eq_append_getElem hlt, ← nthE_eq hlt, HT.out]; rfl, ho8, hgg', (hG.alloc _).but hg8 (by omega) (fun a ha => by have := hlf a ha; omega), (hb.alloc _).grown hg8 (by omega) (by rw [size_alloc]; omega)⟩
            case measure => simp [intOf]; omega
          · obtain rfl : ts = es := by have := HT.out; rw [List.take_of_length_le (by omega)] at this; exact this
            clear HT htl hk hG3 hbC ho3 hlf
            go_wp2_with fail
            refine (removeEdge_any G N fo fc ts u v _ (by omega) HS.out hG).mono ?_
            rintro e w4 ⟨hb4, fo4, fc4, rfl, hG4, _⟩
            have hz4 := hb4.size
            have ho4 : OwnE w4 g cap ts := ho.grown hb4 (fun e => by cases e; omega)
            have hbD : BelowA w.heap.size w w4 := ⟨hb.1.trans (hb4.below hwG hb.2), by have := hb.2; omega⟩
            have hbm := HBM.out
            rw [← hbm]
            clear hbm k1 hG ho hb hb4
            have bb1 : (b != b) = false := by simp
            have hdl := length_delE ts (u, v)
            go_wp2_with fail
            refine (hasEdge_any G N fo4 fc4 (delE ts (u, v)) u v _ (by omega) (srt_delE HS.out) hG4.gr).mono ?_
            rintro e w5 ⟨hb5, rfl⟩
            rw [decide_eq_false (not_mem_delE ts (u, v))]
            have hG5 := hG4.below hb5
            have hz5 := hb5.size
            go_wp2_with fail
            refine (removeEdge_any G N fo4 fc4 (delE ts (u, v)) u v _ (by omega) (srt_delE HS.out) hG5).mono ?_
            rintro e w6 ⟨hb6, fo6, fc6, rfl, hG6, _⟩
            rw [decide_eq_false (not_mem_delE ts (u, v))]
            rw [delE_delE] at hG6
            have hz6 := hb6.size
            have hbT : But G w4 w6 := (but_below G hb5).trans hb6
            have ho6 : OwnE w6 g cap ts := ho4.grown hbT (fun e => by cases e; omega)
            have hbE : BelowA w.heap.size w w6 := ⟨hbD.1.trans (hbT.below hwG hbD.2), by have := hbD.2; omega⟩
            clear hG4 hG5 hb5 hb6 hbT ho4 hbD
            go_upto_region 26 with fail
            go_cut [116] (fun t w' => t = .bool (!inB N u v) ∧ w6 = w')
            case first =>
              by_cases hin : inB N u v = true
              · obtain ⟨a1, a2, a3, a4⟩ := inB_true.1 hin
                have i1 : decide (u < 0) = false := by simp; omega
                have i2 : decide (u ≥ (N : Int)) = false := by simp; omega
                have i3 : decide (v < 0) = false := by simp; omega
                have i4 : decide (v ≥ (N : Int)) = false := by simp; omega
                have HIN : Hid _ := hin
                clear hin
                go_wp2_with fail
                go_meet
                case rel => exact ⟨by rw [HIN.out]; rfl, rfl⟩
              · have hn := inB_false.1 (Bool.eq_false_iff.2 hin)
                have HIN : Hid (inB N u v = false) := Bool.eq_false_iff.2 hin
                clear hin
                have hd : (decide (u < 0) = true) ∨ (decide (u < 0) = false ∧ decide (u ≥ (N : Int)) = true) ∨ (decide (u < 0) = false ∧ decide (u ≥ (N : Int)) = false ∧ decide (v < 0) = true) ∨ (decide (u < 0) = false ∧ decide (u ≥ (N : Int)) = false ∧ decide (v < 0) = false ∧ decide (v ≥ (N : Int)) = true) := by
                  simp only [decide_eq_true_iff, decide_eq_false_iff_not]; omega
                clear hn
                rcases hd with i1 | ⟨i1, i2⟩ | ⟨i1, i2, i3⟩ | ⟨i1, i2, i3, i4⟩
                all_goals
                  go_wp2_with fail
                  go_meet
                  case rel => exact ⟨by rw [HIN.out]; rfl, rfl⟩
            case rest =>
            obtain ⟨rfl, rfl⟩ := hcut
            rename World => W6
            have HAD : Hid (∀ w' r, AddPost G N fo6 fc6 (delE ts (u, v)) u v W6 r w' → But G W6 w' ∧ ∃ fo' fc', r = .returned (.int .i64 (if inB N u v = true then 0 else 2)) ∧ GrW w' G N fo' fc' (addTo N (delE ts (u, v)) u v)) := by
              rintro w' r ⟨hb, fo', fc', rfl, hG', _⟩
              refine ⟨hb, fo', fc', ?_, hG'⟩
              unfold addCode
              rw [if_neg (not_mem_delE ts (u, v))]
            have HTO : Hid ((addTo N (delE ts (u, v)) u v).length ≤ ts.length + 1) := by
              show _ ≤ _
              unfold addTo
              split
              · have := length_insE_le (delE ts (u, v)) (u, v); omega
              · omega
            cases hin : inB N u v
            · have hb0 : b = false := by
                rcases Bool.eq_false_or_eq_true b with h | h
                · have hm := HBM.out
                  rw [h] at hm
                  have := HAI.out _ (of_decide_eq_true hm.symm)
                  rw [hin] at this
                  cases this
                · exact h
              subst hb0
              have hnm : ¬ (u, v) ∈ ts := fun hm => by have := HBM.out; rw [decide_eq_true hm] at this; cases this
              have HDEL : Hid (delE ts (u, v) = ts) := delE_not hnm
              have HTS : Hid (addTo N (delE ts (u, v)) u v = ts) := by show _ = _; unfold addTo; rw [if_neg (by rw [hin]; simp), HDEL.out]
              have HIF : Hid ((if inB N u v = true then (0 : Int) else 2) = 2) := if_neg (by rw [hin]; simp)
              clear hnm bb1
              simp only [hin, Bool.not_false]
              clear hin
              go_wp2_with fail
              refine (addEdge_any G N fo6 fc6 (delE ts (u, v)) u v _ (by omega) (srt_delE HS.out) hG6).mono ?_
              intro e w7 hpost
              obtain ⟨hb7, fo7, fc7, rfl, hG7⟩ := HAD.out _ _ hpost
              rw [HTS.out] at hG7
              rw [HIF.out]
              have hz7 := hb7.size
              have ho7 : OwnE w7 g cap ts := ho6.grown hb7 (fun e => by cases e; omega)
              have hbF : BelowA w.heap.size w w7 := ⟨hbE.1.trans (hb7.below hwG hbE.2), by have := hbE.2; omega⟩
              clear hpost hb7 ho6 hbE hG6
              have k0 := hG7.gr.c0
              have k1 := hG7.gr.c1
              go_wp2_with fail
              refine (bsame_any ts ts fc7 cap _ _ _ (by omega) (by omega) hG7.gr.sl (ho7.sl rfl ho7.lt)).mono ?_
              rintro e w9 ⟨hb9, rfl⟩
              go_wp2_with fail
              go_ret
              exact ⟨by simp, (hbF.next hb9).1⟩
            · have HIF : Hid ((if inB N u v = true then (0 : Int) else 2) = 0) := if_pos hin
              have HTS : Hid (addTo N (delE ts (u, v)) u v = insE (delE ts (u, v)) (u, v)) := if_pos hin
              simp only [hin, Bool.not_true]
              clear hin
              cases b
              · have hnm : ¬ (u, v) ∈ ts := fun hm => by have := HBM.out; rw [decide_eq_true hm] at this; cases this
                have HDEL : Hid (delE ts (u, v) = ts) := delE_not hnm
                have HNM : Hid _ := hnm
                clear hnm
                go_wp2_with fail
                refine (addEdge_any G N fo6 fc6 (delE ts (u, v)) u v _ (by omega) (srt_delE HS.out) hG6).mono ?_
                intro e w7 hpost
                obtain ⟨hb7, fo7, fc7, rfl, hG7⟩ := HAD.out _ _ hpost
                rw [HTS.out, HDEL.out] at hG7
                rw [HIF.out]
                have hz7 := hb7.size
                have ho7 : OwnE w7 g cap ts := ho6.grown hb7 (fun e => by cases e; omega)
                have hbF : BelowA w.heap.size w w7 := ⟨hbE.1.trans (hb7.below hwG hbE.2), by have := hbE.2; omega⟩
                clear hpost hb7 ho6 hbE hG6
                have hil := length_insE_le ts (u, v)
                go_wp2_with fail
                refine (removeEdge_any G N fo7 fc7 (insE ts (u, v)) u v _ (by omega) (srt_insE HS.out) hG7).mono ?_
                rintro e w8 ⟨hb8, fo8, fc8, rfl, hG8, _⟩
                rw [decide_eq_true (mem_insE.2 (.inl rfl))]
                rw [delE_insE HS.out HNM.out] at hG8
                have hz8 := hb8.size
                have ho8 : OwnE w8 g cap ts := ho7.grown hb8 (fun e => by cases e; omega)
                have hbH : BelowA w.heap.size w w8 := ⟨hbF.1.trans (hb8.below hwG hbF.2), by have := hbF.2; omega⟩
                have k0 := hG8.gr.c0
                have k1 := hG8.gr.c1
                clear hb8 ho7 hbF hG7
                go_wp2_with fail
                refine (bsame_any ts ts fc8 cap _ _ _ (by omega) (by omega) hG8.gr.sl (ho8.sl rfl ho8.lt)).mono ?_
                rintro e w9 ⟨hb9, rfl⟩
                go_wp2_with fail
                go_ret
                exact ⟨by simp, (hbH.next hb9).1⟩
              · have hm : (u, v) ∈ ts := of_decide_eq_true HBM.out.symm
                have HINS : Hid (insE (delE ts (u, v)) (u, v) = ts) := insE_delE HS.out hm
                clear hm
                go_wp2_with fail
                refine (addEdge_any G N fo6 fc6 (delE ts (u, v)) u v _ (by omega) (srt_delE HS.out) hG6).mono ?_
                intro e w7 hpost
                obtain ⟨hb7, fo7, fc7, rfl, hG7⟩ := HAD.out _ _ hpost
                rw [HTS.out, HINS.out] at hG7
                rw [HIF.out]
                have hz7 := hb7.size
                have ho7 : OwnE w7 g cap ts := ho6.grown hb7 (fun e => by cases e; omega)
                have hbF : BelowA w.heap.size w w7 := ⟨hbE.1.trans (hb7.below hwG hbE.2), by have := hbE.2; omega⟩
                clear hpost hb7 ho6 hbE hG6
                have k0 := hG7.gr.c0
                have k1 := hG7.gr.c1
                go_wp2_with fail
                refine (bsame_any ts ts fc7 cap _ _ _ (by omega) (by omega) hG7.gr.sl (ho7.sl rfl ho7.lt)).mono ?_
                rintro e w9 ⟨hb9, rfl⟩
                go_wp2_with fail
                go_ret
                exact ⟨by simp, (hbF.next hb9).1⟩
      · exact absurd ⟨by omega, by omega, fun i hi => HRA.out.1 _ (mem_nthE.2 ⟨i, hi, rfl⟩)⟩ hno
end Go.Proofs.Ymbrdp
