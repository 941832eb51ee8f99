/- The walk of LawS930021BScript. -/
import Derived.Test.YmbrdpBEdges
import Derived.Test.YmbrdpGRem
import Derived.Test.YmbrdpSteps
import Derived.Deep.DeepCutAuto
namespace Go.Proofs.Ymbrdp
open Go.ChangeShapes Go.WideShapes Go.ChangeAt Go.RowKit
set_option linter.unusedVariables false
set_option linter.unusedSimpArgs false
attribute [local go_sem ↓] Go.wp_at_zero Go.wp_at_succ

theorem nthB_set {ms : List Bool} {s i : Nat} {b : Bool} (hi : i < ms.length) : nthB (ms.set s b) i = if i = s then b else nthB ms i := by
  rw [nthB_eq (by simpa using hi), List.getElem_set, nthB_eq hi]
  by_cases h : i = s
  · simp [h]
  · rw [if_neg (fun e => h e.symm), if_neg h]
theorem mem_tab0 {n : Nat} {ms : List Bool} (hl : ms.length = n * n) {x : Int × Int} : x ∈ tab n ms (-1) ↔ ∃ i, i < n * n ∧ nthB ms i = true ∧ x = cellE n i := by
  rw [mem_tab]
  constructor
  · rintro ⟨i, h1, h2, _, h4⟩; exact ⟨i, h1.2, h2, h4⟩
  · rintro ⟨i, h1, h2, h4⟩; exact ⟨i, ⟨by omega, h1⟩, h2, by omega, h4⟩
theorem tab_add {n : Nat} (hn : 0 < n) {ms : List Bool} (hl : ms.length = n * n) {u v : Nat} (hu : u < n) (hv : v < n) : insE (tab n ms (-1)) ((u : Int), (v : Int)) = tab n (ms.set (u * n + v) true) (-1) := by
  obtain ⟨c1, c2⟩ := cell_of hu hv
  refine srt_ext (srt_insE (srt_tab hn _ _)) (srt_tab hn _ _) (fun x => ?_)
  rw [mem_insE, mem_tab0 hl, mem_tab0 (by simpa using hl)]
  constructor
  · rintro (h | ⟨i, h1, h2, h3⟩)
    · exact ⟨_, c2, by rw [nthB_set (by omega), if_pos rfl], by rw [h, c1]⟩
    · refine ⟨i, h1, ?_, h3⟩
      rw [nthB_set (by omega)]
      split
      · rfl
      · exact h2
  · rintro ⟨i, h1, h2, h3⟩
    rw [nthB_set (by omega)] at h2
    split at h2
    · rename_i h
      exact .inl (by rw [h3, h, c1])
    · exact .inr ⟨i, h1, h2, h3⟩
theorem tab_del {n : Nat} (hn : 0 < n) {ms : List Bool} (hl : ms.length = n * n) {u v : Nat} (hu : u < n) (hv : v < n) : delE (tab n ms (-1)) ((u : Int), (v : Int)) = tab n (ms.set (u * n + v) false) (-1) := by
  obtain ⟨c1, c2⟩ := cell_of hu hv
  refine srt_ext (srt_delE (srt_tab hn _ _)) (srt_tab hn _ _) (fun x => ?_)
  rw [mem_delE, mem_tab0 hl, mem_tab0 (by simpa using hl)]
  constructor
  · rintro ⟨⟨i, h1, h2, h3⟩, hne⟩
    refine ⟨i, h1, ?_, h3⟩
    rw [nthB_set (by omega), if_neg (fun e => hne (by rw [h3, e, c1]))]
    exact h2
  · rintro ⟨i, h1, h2, h3⟩
    rw [nthB_set (by omega)] at h2
    split at h2
    · cases h2
    · rename_i h
      refine ⟨⟨i, h1, h2, h3⟩, fun e => h ?_⟩
      rw [e, ← c1] at h3
      exact (cellE_inj hn h3).symm
theorem mem_tab_nat {n : Nat} (hn : 0 < n) {ms : List Bool} (hl : ms.length = n * n) {u v : Nat} (hu : u < n) (hv : v < n) : ((u : Int), (v : Int)) ∈ tab n ms (-1) ↔ nthB ms (u * n + v) = true := by
  obtain ⟨c1, c2⟩ := cell_of hu hv
  rw [mem_tab0 hl]
  constructor
  · rintro ⟨i, h1, h2, h3⟩
    rw [← c1] at h3
    rw [cellE_inj hn h3]; exact h2
  · intro h; exact ⟨_, c2, h, c1.symm⟩
theorem tab_rng {n : Nat} (hn : 0 < n) {ms : List Bool} (hl : ms.length = n * n) {u v : Int} (h : (u, v) ∈ tab n ms (-1)) : inB n u v = true := by
  obtain ⟨i, h1, _, h3⟩ := (mem_tab0 hl).1 h
  obtain ⟨a1, a2⟩ := cellE_lt_n h1
  have e1 : u = ((i / n : Nat) : Int) := congrArg Prod.fst h3
  have e2 : v = ((i % n : Nat) : Int) := congrArg Prod.snd h3
  subst e1
  subst e2
  exact inB_true.2 ⟨Int.natCast_nonneg _, by exact_mod_cast a1, Int.natCast_nonneg _, by exact_mod_cast a2⟩
theorem rep_tab {n : Nat} (hn : 0 < n) : tab n (List.replicate (n * n) false) (-1) = [] := by
  rw [List.eq_nil_iff_forall_not_mem]
  intro x hx
  obtain ⟨i, h1, h2, _⟩ := (mem_tab0 (by simp)).1 hx
  rw [nthB_eq (by simpa using h1)] at h2
  simp at h2

theorem bedges_len (n : Nat) (bs : List Bool) (skip : Int) (bc : Nat) (bo : Option Addr) (w : World) {len : Nat} (hlen : len = bs.length) (hn0 : 0 < n) (hn : n ≤ 4096) (hbs : bs.length ≤ 1000000) (hs : Sl w w.heap.size bo len bc 1 (cellsB bs)) :
    Calls Ydpm.prog 21 #[.int .i64 n, .slice bo len bc, .int .i64 skip] w (BEdgesPost n bs skip w) := by subst hlen; exact bedges_any n bs skip bc bo w hn0 hn hbs hs

set_option maxRecDepth 20000 in
set_option maxHeartbeats 8000000 in
theorem bScript_walk (sz : Int) (rs : List (Bool × Int × Int)) (rc : Nat) (ro : Option Addr) (w : World) (hsz : 0 ≤ sz ∧ sz ≤ 255) (hrs : rs.length ≤ 9223372036854775807) (hr : ∀ k, k < rs.length → (0 ≤ nthU rs k ∧ nthU rs k ≤ 255) ∧ (0 ≤ nthV rs k ∧ nthV rs k ≤ 255)) (hs : StepsAt w w.heap.size ro rs) :
    Calls Ydpm.prog 8 #[.int .u8 sz, .slice ro rs.length rc] w fun e w' => e = .returned (.bool true) ∧ Below w.heap.size w w' := by
  have HR : Hid _ := hr
  clear hr
  by_cases hbig : rs.length > 512
  · go_enter Ydpm.func8, Ydpm.ntmps8
    go_wp2_with fail
    go_ret
    exact ⟨by simp, Below.refl _ _⟩
  obtain ⟨N, hN, hN0, hN1⟩ : ∃ N : Nat, 1 + sz % 16 = (N : Int) ∧ 0 < N ∧ N ≤ 16 := ⟨(1 + sz % 16).toNat, by omega, by omega, by omega⟩
  obtain ⟨M, HM⟩ : ∃ M : Nat, Hid (M = N * N) := ⟨_, rfl⟩
  have hMM : (N : Int) * (N : Int) = (M : Int) := by rw [HM.out]; exact_mod_cast rfl
  have hM2 : M ≤ 256 := by rw [HM.out]; exact Nat.mul_le_mul hN1 hN1
  have hMw : IntKind.i64.wrap ((N : Int) * (N : Int)) = (M : Int) := by rw [hMM, IntKind.wrap_i64]; omega
  go_enter Ydpm.func8, Ydpm.ntmps8
  go_wp2_with (at_make; go_must (refine wpl_makeB rfl _ _ rfl M _ _ (by rfl) (by rfl) rfl rfl (by omega) ?_); intro w1 ho1 hb1 hz1)
  have hG0 := grw_new (w := w) (n := (N : Int)) (eo := none) (ec := 0) (t := 29) (es := []) (Sl.empty _ _ _ _ _ (fun _ => rfl)) (fun a ha => by cases ha)
  have hG1 := hG0.below hb1
  rw [size_alloc] at ho1 hz1
  have hbA : BelowA w.heap.size w w1 := ((BelowA.refl w).alloc _).next hb1
  clear hb1 hG0
  go_loopw [8] (fun i wr => ∃ (k : Nat) (ms : List Bool) (es : List (Int × Int)) (fo : Option Addr) (fc : Nat), k ≤ rs.length ∧ i = .int .i64 k ∧ ms.length = M ∧ es.length ≤ M ∧ Hid (es = tab N ms (-1)) ∧ OwnB wr (w.heap.size + 1) M ms ∧ GrW wr w.heap.size N fo fc es ∧ (∀ a, fo = some a → a.block ≠ w.heap.size + 1) ∧ BelowA w.heap.size w wr) (fun i _ => rs.length - (intOf i).toNat)
  case atStart => exact ⟨0, List.replicate M false, [], none, 0, by omega, rfl, by simp, by simp, by show _ = _; rw [HM.out, rep_tab hN0], ho1, hG1, fun a ha => (by cases ha), hbA⟩
  case round =>
    obtain ⟨k, ms, es, fo, fc, hk, rfl, hml, hel, HES, ho, hG, hap, hb⟩ := hrel
    have hgl := ho.lt
    have hGl := hG.gr.lt
    by_cases hlt : k < rs.length
    · obtain ⟨bb, off, hbB, rfl, hc⟩ := (hs.below hb.1).resolve_left (by omega)
      obtain ⟨c1, c2, c3⟩ := hc k hlt
      obtain ⟨⟨q1, q2⟩, q3, q4⟩ := HR.out k hlt
      clear hc
      obtain ⟨x, hx, hx1, hx2⟩ : ∃ x : Int, (nthU rs k).tmod ((N : Int) + 2) = x + 1 ∧ -1 ≤ x ∧ x ≤ N := by
        have e1 := Int.emod_nonneg (nthU rs k) (show (N : Int) + 2 ≠ 0 by omega)
        have e2 := Int.emod_lt_of_pos (nthU rs k) (show 0 < (N : Int) + 2 by omega)
        exact ⟨nthU rs k % ((N : Int) + 2) - 1, by rw [Int.tmod_eq_emod_of_nonneg q1]; omega, by omega, by omega⟩
      obtain ⟨y, hy, hy1, hy2⟩ : ∃ y : Int, (nthV rs k).tmod ((N : Int) + 2) = y + 1 ∧ -1 ≤ y ∧ y ≤ N := by
        have e1 := Int.emod_nonneg (nthV rs k) (show (N : Int) + 2 ≠ 0 by omega)
        have e2 := Int.emod_lt_of_pos (nthV rs k) (show 0 < (N : Int) + 2 by omega)
        exact ⟨nthV rs k % ((N : Int) + 2) - 1, by rw [Int.tmod_eq_emod_of_nonneg q3]; omega, by omega, by omega⟩
      have n2 : ¬ ((N : Int) + 2 = 0) := by omega
      go_upto_region 11 with fail
      clear hx hy n2 q1 q2 q3 q4
      go_cut [11] (fun t w' => t = .bool (inB N x y) ∧ wr = w')
      case first =>
        by_cases h1 : 0 ≤ x
        · have i1 : decide (x ≥ 0) = true := by simp; omega
          by_cases h2 : x < N
          · have i2 : decide (x < (N : Int)) = true := by simp; omega
            by_cases h3 : 0 ≤ y
            · have i3 : decide (y ≥ 0) = true := by simp; omega
              by_cases h4 : y < N
              · have i4 : decide (y < (N : Int)) = true := by simp; omega
                have i5 : inB N x y = true := inB_true.2 ⟨h1, h2, h3, h4⟩
                clear h1 h2 h3 h4
                go_wp2_with fail
                go_meet
                case rel => exact ⟨by rw [i5], rfl⟩
              · have i4 : decide (y < (N : Int)) = false := by simp; omega
                have i5 : inB N x y = false := inB_false.2 (by omega)
                clear h1 h2 h3 h4
                go_wp2_with fail
                go_meet
                case rel => exact ⟨by rw [i5], rfl⟩
            · have i3 : decide (y ≥ 0) = false := by simp; omega
              have i5 : inB N x y = false := inB_false.2 (by omega)
              clear h1 h2 h3
              go_wp2_with fail
              go_meet
              case rel => exact ⟨by rw [i5], rfl⟩
          · have i2 : decide (x < (N : Int)) = false := by simp; omega
            have i5 : inB N x y = false := inB_false.2 (by omega)
            clear h1 h2
            go_wp2_with fail
            go_meet
            case rel => exact ⟨by rw [i5], rfl⟩
        · have i1 : decide (x ≥ 0) = false := by simp; omega
          have i5 : inB N x y = false := inB_false.2 (by omega)
          clear h1
          go_wp2_with fail
          go_meet
          case rel => exact ⟨by rw [i5], rfl⟩
      case rest =>
      obtain ⟨rfl, rfl⟩ := hcut
      rename World => W4
      have HS : Hid (Srt es) := by show Srt _; rw [HES.out]; exact srt_tab hN0 _ _
      have hmlN : ms.length = N * N := by rw [hml]; exact HM.out
      have HML : Hid _ := hmlN
      clear hmlN
      have hGB : ∀ w', But w.heap.size W4 w' → BelowA w.heap.size w w' := fun w' h => ⟨hb.1.trans (h.below (Nat.le_refl _) hb.2), by have := h.size; have := hb.2; omega⟩
      have HGB : Hid _ := hGB
      clear hGB
      cases hin : inB N x y
      · have HNM : Hid (¬ (x, y) ∈ es) := fun h => by rw [HES.out] at h; have := tab_rng hN0 HML.out h; rw [hin] at this; cases this
        have HC : Hid (addCode N es x y = 2) := if_neg (by rw [hin]; simp)
        have HT : Hid (addTo N es x y = es) := if_neg (by rw [hin]; simp)
        clear hin
        cases hA : nthA rs k
        · rw [hA] at c1
          clear hA
          go_wp2_with fail
          refine (removeEdge_any w.heap.size N fo fc es x y _ (by omega) HS.out hG).mono ?_
          rintro e w5 ⟨hb5, fo5, fc5, rfl, hG5, hno⟩
          rw [decide_eq_false HNM.out]
          rw [delE_not HNM.out] at hG5
          have ho5 : OwnB w5 (w.heap.size + 1) M ms := ho.grown hb5 (fun e => by simp at e)
          have hb6 := HGB.out _ hb5
          have hap5 := hno.ap hap hgl
          clear hno hb5
          go_wp2_with fail
          go_roundw
          case rel => exact ⟨k + 1, ms, es, fo5, fc5, by omega, by simp, hml, hel, HES.out, ho5, hG5, hap5, hb6⟩
          case measure => simp [intOf]; omega
        · rw [hA] at c1
          clear hA
          go_wp2_with fail
          refine (addEdge_any w.heap.size N fo fc es x y _ (by omega) HS.out hG).mono ?_
          rintro e w5 ⟨hb5, fo5, fc5, rfl, hG5, hno⟩
          rw [HC.out]
          rw [HT.out] at hG5
          have ho5 : OwnB w5 (w.heap.size + 1) M ms := ho.grown hb5 (fun e => by simp at e)
          have hb6 := HGB.out _ hb5
          have hap5 := hno.ap hap hgl
          clear hno hb5
          go_wp2_with fail
          go_roundw
          case rel => exact ⟨k + 1, ms, es, fo5, fc5, by omega, by simp, hml, hel, HES.out, ho5, hG5, hap5, hb6⟩
          case measure => simp [intOf]; omega
      · obtain ⟨a1, a2, a3, a4⟩ := inB_true.1 hin
        obtain ⟨p, rfl⟩ := Int.eq_ofNat_of_zero_le a1
        obtain ⟨q, rfl⟩ := Int.eq_ofNat_of_zero_le a3
        have hp : p < N := by omega
        have hq : q < N := by omega
        obtain ⟨P, HP⟩ : ∃ P : Nat, Hid (P = p * N) := ⟨_, rfl⟩
        have hP2 : P ≤ 256 := by rw [HP.out]; exact Nat.le_trans (Nat.mul_le_mul (show p ≤ 16 by omega) hN1) (by omega)
        have hPP : (p : Int) * (N : Int) = (P : Int) := by rw [HP.out]; exact_mod_cast rfl
        have hPw : IntKind.i64.wrap ((p : Int) * (N : Int)) = (P : Int) := by rw [hPP, IntKind.wrap_i64]; omega
        obtain ⟨t, HTT⟩ : ∃ t : Nat, Hid (t = P + q) := ⟨_, rfl⟩
        have ht1 : (P : Int) + (q : Int) = (t : Int) := by rw [HTT.out]; omega
        have ht2 : t < M := by have := (cell_of hp hq).2; rw [← HP.out, ← HM.out, ← HTT.out] at this; exact this
        have hts : Hid (p * N + q = t) := by show _ = _; rw [HTT.out, HP.out]
        have m1 := ho.cell t (by omega)
        have f1 := ho.frozen t
        have HMEM : Hid ((((p : Int), (q : Int)) ∈ es) ↔ nthB ms t = true) := by show _ ↔ _; rw [HES.out, mem_tab_nat hN0 HML.out hp hq, hts.out]
        have HADD : Hid (insE es ((p : Int), (q : Int)) = tab N (ms.set t true) (-1)) := by show _ = _; rw [HES.out, tab_add hN0 HML.out hp hq, hts.out]
        have HDEL : Hid (delE es ((p : Int), (q : Int)) = tab N (ms.set t false) (-1)) := by show _ = _; rw [HES.out, tab_del hN0 HML.out hp hq, hts.out]
        have HTO : Hid (addTo N es (p : Int) (q : Int) = tab N (ms.set t true) (-1)) := by show _ = _; unfold addTo; rw [if_pos hin, HADD.out]
        have HCO : Hid (addCode N es (p : Int) (q : Int) = if nthB ms t = true then 1 else 0) := by
          show _ = _
          unfold addCode
          rw [if_pos hin]
          by_cases h : nthB ms t = true
          · rw [if_pos (HMEM.out.2 h), if_pos h]
          · rw [if_neg (fun h' => h (HMEM.out.1 h')), if_neg h]
        have HLE : Hid (∀ b, (tab N (ms.set t b) (-1)).length ≤ M) := fun b => by have := tab_le N (ms.set t b) (-1); rw [List.length_set, hml] at this; exact this
        clear hin a1 a2 a3 a4 hx1 hx2 hy1 hy2
        have tm1 : (0 : Int) ≤ (t : Int) := by omega
        have tm2 : (t : Int) < (M : Int) := by omega
        cases hA : nthA rs k
        · rw [hA] at c1
          clear hA
          cases hW : nthB ms t
          · rw [hW] at m1
            have hdec : decide (((p : Int), (q : Int)) ∈ es) = false := by rw [Bool.eq_iff_iff, decide_eq_true_iff, HMEM.out, hW]
            have HDEC : Hid _ := hdec
            clear hdec hW
            go_wp2_with fail
            refine (removeEdge_any w.heap.size N fo fc es (p : Int) (q : Int) _ (by omega) HS.out hG).mono ?_
            rintro e w5 ⟨hb5, fo5, fc5, rfl, hG5, hno⟩
            rw [HDEC.out]
            rw [HDEL.out] at hG5
            have ho5 : OwnB w5 (w.heap.size + 1) M ms := ho.grown hb5 (fun e => by simp at e)
            have hb6 := HGB.out _ hb5
            have hap5 := hno.ap hap hgl
            have m5 := (hb5.cell (a := ⟨w.heap.size + 1, t, none⟩) hgl (by dsimp only; omega)).trans m1
            have f5 := (hb5.frozen (a := ⟨w.heap.size + 1, t, none⟩) hgl (by dsimp only; omega)).trans f1
            have d1 := (hb5.cell (a := ⟨bb, off + k * 3, none⟩) (by dsimp only; omega) (by dsimp only; omega)).trans c1
            have hz5 := hb5.size
            clear hno hb5
            go_wp2_with fail
            go_roundw
            case rel => exact ⟨k + 1, ms.set t false, _, fo5, fc5, by omega, by simp, by rw [List.length_set]; exact hml, HLE.out false, rfl, ho5.set t false, hG5.but (but_setCell (w.heap.size + 1) w5 t _) (by omega) hap5, hap5, hb6.1.trans ((but_setCell (w.heap.size + 1) w5 t _).below (by omega) hb6.2), by rw [size_setCell]; exact hb6.2⟩
            case measure => simp [intOf]; omega
          · rw [hW] at m1
            have hdec : decide (((p : Int), (q : Int)) ∈ es) = true := by rw [Bool.eq_iff_iff, decide_eq_true_iff, HMEM.out, hW]
            have HDEC : Hid _ := hdec
            clear hdec hW
            go_wp2_with fail
            refine (removeEdge_any w.heap.size N fo fc es (p : Int) (q : Int) _ (by omega) HS.out hG).mono ?_
            rintro e w5 ⟨hb5, fo5, fc5, rfl, hG5, hno⟩
            rw [HDEC.out]
            rw [HDEL.out] at hG5
            have ho5 : OwnB w5 (w.heap.size + 1) M ms := ho.grown hb5 (fun e => by simp at e)
            have hb6 := HGB.out _ hb5
            have hap5 := hno.ap hap hgl
            have m5 := (hb5.cell (a := ⟨w.heap.size + 1, t, none⟩) hgl (by dsimp only; omega)).trans m1
            have f5 := (hb5.frozen (a := ⟨w.heap.size + 1, t, none⟩) hgl (by dsimp only; omega)).trans f1
            have d1 := (hb5.cell (a := ⟨bb, off + k * 3, none⟩) (by dsimp only; omega) (by dsimp only; omega)).trans c1
            have hz5 := hb5.size
            clear hno hb5
            go_wp2_with fail
            go_roundw
            case rel => exact ⟨k + 1, ms.set t false, _, fo5, fc5, by omega, by simp, by rw [List.length_set]; exact hml, HLE.out false, rfl, ho5.set t false, hG5.but (but_setCell (w.heap.size + 1) w5 t _) (by omega) hap5, hap5, hb6.1.trans ((but_setCell (w.heap.size + 1) w5 t _).below (by omega) hb6.2), by rw [size_setCell]; exact hb6.2⟩
            case measure => simp [intOf]; omega
        · rw [hA] at c1
          clear hA
          cases hW : nthB ms t
          · rw [hW] at m1
            have hcode : addCode N es (p : Int) (q : Int) = 0 := by rw [HCO.out, hW]; rfl
            have HCODE : Hid _ := hcode
            clear hcode hW
            go_wp2_with fail
            refine (addEdge_any w.heap.size N fo fc es (p : Int) (q : Int) _ (by omega) HS.out hG).mono ?_
            rintro e w5 ⟨hb5, fo5, fc5, rfl, hG5, hno⟩
            rw [HCODE.out]
            rw [HTO.out] at hG5
            have ho5 : OwnB w5 (w.heap.size + 1) M ms := ho.grown hb5 (fun e => by simp at e)
            have hb6 := HGB.out _ hb5
            have hap5 := hno.ap hap hgl
            have m5 := (hb5.cell (a := ⟨w.heap.size + 1, t, none⟩) hgl (by dsimp only; omega)).trans m1
            have f5 := (hb5.frozen (a := ⟨w.heap.size + 1, t, none⟩) hgl (by dsimp only; omega)).trans f1
            have d1 := (hb5.cell (a := ⟨bb, off + k * 3, none⟩) (by dsimp only; omega) (by dsimp only; omega)).trans c1
            have hz5 := hb5.size
            clear hno hb5
            go_wp2_with fail
            go_roundw
            case rel => exact ⟨k + 1, ms.set t true, _, fo5, fc5, by omega, by simp, by rw [List.length_set]; exact hml, HLE.out true, rfl, ho5.set t true, hG5.but (but_setCell (w.heap.size + 1) w5 t _) (by omega) hap5, hap5, hb6.1.trans ((but_setCell (w.heap.size + 1) w5 t _).below (by omega) hb6.2), by rw [size_setCell]; exact hb6.2⟩
            case measure => simp [intOf]; omega
          · rw [hW] at m1
            have hcode : addCode N es (p : Int) (q : Int) = 1 := by rw [HCO.out, hW]; rfl
            have HCODE : Hid _ := hcode
            clear hcode hW
            go_wp2_with fail
            refine (addEdge_any w.heap.size N fo fc es (p : Int) (q : Int) _ (by omega) HS.out hG).mono ?_
            rintro e w5 ⟨hb5, fo5, fc5, rfl, hG5, hno⟩
            rw [HCODE.out]
            rw [HTO.out] at hG5
            have ho5 : OwnB w5 (w.heap.size + 1) M ms := ho.grown hb5 (fun e => by simp at e)
            have hb6 := HGB.out _ hb5
            have hap5 := hno.ap hap hgl
            have m5 := (hb5.cell (a := ⟨w.heap.size + 1, t, none⟩) hgl (by dsimp only; omega)).trans m1
            have f5 := (hb5.frozen (a := ⟨w.heap.size + 1, t, none⟩) hgl (by dsimp only; omega)).trans f1
            have d1 := (hb5.cell (a := ⟨bb, off + k * 3, none⟩) (by dsimp only; omega) (by dsimp only; omega)).trans c1
            have hz5 := hb5.size
            clear hno hb5
            go_wp2_with fail
            go_roundw
            case rel => exact ⟨k + 1, ms.set t true, _, fo5, fc5, by omega, by simp, by rw [List.length_set]; exact hml, HLE.out true, rfl, ho5.set t true, hG5.but (but_setCell (w.heap.size + 1) w5 t _) (by omega) hap5, hap5, hb6.1.trans ((but_setCell (w.heap.size + 1) w5 t _).below (by omega) hb6.2), by rw [size_setCell]; exact hb6.2⟩
            case measure => simp [intOf]; omega
    · have k0 := hG.gr.c0
      have k1 := hG.gr.c1
      have hN00 : ((N : Int) == (N : Int)) = true := by simp
      go_upto_region 25 with fail
      go_region_held3 (fun w' => w'.cell? ⟨w.heap.size, 0, none⟩ = some (.int .i64 N) ∧ w'.cell? ⟨w.heap.size, 1, none⟩ = some (.slice fo es.length fc))
        (first | go_keep | (go_split_ands; all_goals assumption))
        (first
          | (go_at_call 21; refine (bedges_len N ms (-1) M _ _ hml.symm hN0 (by omega) (by omega) ((ho.sl hml.symm ho.lt).drewN 1)).mono ?_; rintro e w8 ⟨hb8, g8, cap8, rfl, ho8, hg8⟩
             rw [← HES.out] at ho8 ⊢
             have hG8 := (hG.drewN 1).below hb8
             have s0 := hG8.gr.c0
             have s1 := hG8.gr.c1)
          | (go_at_call 22; refine (bsame_any es es fc cap8 _ _ _ (by omega) (by omega) hG8.gr.sl (ho8.sl rfl ho8.lt)).mono ?_; rintro e w9 ⟨hb9, rfl⟩
             have s2 := (hG8.below hb9).gr.c0
             have s3 := (hG8.below hb9).gr.c1
             have hbW := hb8.trans (hb9.mono hb8.size)))
      go_wp2_with fail
      go_ret
      exact ⟨by simp, (((hb.drewN 1).next hbW)).1⟩
end Go.Proofs.Ymbrdp
