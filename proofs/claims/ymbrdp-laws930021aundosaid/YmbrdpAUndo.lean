/- The walk of LawS930021AUndo. -/
import Derived.Test.YmbrdpAParts
import Derived.Test.YmbrdpGRem
import Derived.Deep.DeepCutAuto
namespace Go.Proofs.Ymbrdp
open Go.ChangeShapes Go.WideShapes Go.ChangeAt Go.RowKit
set_option linter.unusedVariables false
set_option linter.unusedSimpArgs false
attribute [local go_sem ↓] Go.wp_at_zero Go.wp_at_succ

theorem delE_insE' {es : List (Int × Int)} {e : Int × Int} (hs : Srt es) (h : ¬ e ∈ es) : delE (insE es e) e = es :=
  srt_ext (srt_delE (srt_insE hs)) hs (fun x => by
    rw [mem_delE, mem_insE]
    constructor
    · rintro ⟨h1 | h1, h2⟩; exact absurd h1 h2; exact h1
    · intro hx; exact ⟨.inr hx, fun e' => h (e' ▸ hx)⟩)

theorem ais_any' (m : Int) (es : List (Int × Int)) (cs : List Int) (ec cc : Nat) (eo co : Option Addr) (w : World) {len : Nat} (hlen : len = es.length) (hm : 0 ≤ m ∧ m ≤ 4096) (hes : es.length ≤ 100000000) (hcs : cs.length ≤ 1000000) (hok : CodesOk m cs) (hse : Sl w w.heap.size eo es.length ec 2 (cellsE es)) (hs : Sl w w.heap.size co cs.length cc 1 (cellsI cs)) :
    Calls Ydpm.prog 18 #[.slice eo len ec, .int .i64 m, .slice co cs.length cc] w (AIsPost m es cs w) := by subst hlen; exact ais_any m es cs ec cc eo co w hm hes hcs hok hse hs

set_option maxRecDepth 20000 in
set_option maxHeartbeats 8000000 in
theorem aUndo_walk (n : Int) (gs : List Int) (a b x y : Int) (gc : Nat) (go : Option Addr) (w : World) (hn : 0 ≤ n ∧ n ≤ 65535) (ha : 0 ≤ a ∧ a ≤ 65535) (hb : 0 ≤ b ∧ b ≤ 65535) (hgs : gs.length ≤ 9223372036854775807) (hr : ∀ k, k < gs.length → 0 ≤ nth gs k ∧ nth gs k ≤ 4294967295) (hs : Sl w w.heap.size go gs.length gc 1 (cellsK .u32 gs)) :
    Calls Ydpm.prog 4 #[.int .u16 n, .slice go gs.length gc, .int .u16 a, .int .u16 b, .int .i64 x, .int .i64 y] w fun e w' => e = .returned (.bool true) ∧ Below w.heap.size w w' := by
  have HR : Hid _ := hr
  clear hr
  by_cases hbig : gs.length > 1024
  · go_enter Ydpm.func4, Ydpm.ntmps4
    go_wp2_with fail
    go_ret
    exact ⟨by simp, Below.refl _ _⟩
  obtain ⟨m, hm, hm0, hm1⟩ : ∃ m : Int, 1 + n % 4096 = m ∧ 0 < m ∧ m ≤ 4096 := ⟨_, rfl, by omega, by omega⟩
  obtain ⟨u, hu, hu0, hu1⟩ : ∃ u : Int, a.tmod m = u ∧ 0 ≤ u ∧ u < m := ⟨_, rfl, by rw [Int.tmod_eq_emod_of_nonneg ha.1]; exact Int.emod_nonneg _ (by omega), by rw [Int.tmod_eq_emod_of_nonneg ha.1]; exact Int.emod_lt_of_pos _ hm0⟩
  obtain ⟨v, hv, hv0, hv1⟩ : ∃ v : Int, b.tmod m = v ∧ 0 ≤ v ∧ v < m := ⟨_, rfl, by rw [Int.tmod_eq_emod_of_nonneg hb.1]; exact Int.emod_nonneg _ (by omega), by rw [Int.tmod_eq_emod_of_nonneg hb.1]; exact Int.emod_lt_of_pos _ hm0⟩
  have HIN : Hid (inB m u v = true) := inB_true.2 ⟨hu0, hu1, hv0, hv1⟩
  have m0 : ¬ m = 0 := by omega
  go_enter Ydpm.func4, Ydpm.ntmps4
  go_wp2_with fail
  refine (acodes_any m gs gc go w ⟨by omega, hm1⟩ (by omega) HR.out hs).mono ?_
  rintro e w1 ⟨hb1, g1, cs, rfl, ho1, hok, hg1⟩
  have HOK : Hid _ := hok
  clear hok hm hu hv m0 ha hb
  have hcl := ho1.le
  have hgl1 := ho1.lt
  have hz1 := hb1.size
  go_wp2_with fail
  refine (aedges_any m cs gs.length _ w1 ⟨by omega, hm1⟩ (by omega) HOK.out (ho1.sl rfl ho1.lt)).mono ?_
  rintro e w2 ⟨hb2, g2, rfl, ho2, hg2⟩
  have hgl2 := ho2.lt
  have hz2 := hb2.size
  have hc2 := (ho1.below hb2 hgl1)
  have hG := grw_new (n := m) (eo := some ⟨g2, 0, none⟩) (ec := cs.length + 2) (t := 29) (ho2.sl rfl ho2.lt) (fun a ha => by cases ha; dsimp only; omega)
  rw [length_decE] at hG
  have hbA : BelowA w.heap.size w (w2.alloc (.cells #[.int .i64 m, .slice (some ⟨g2, 0, none⟩) cs.length (cs.length + 2)] 29)) := (BelowA.next ⟨hb1, hz1⟩ hb2).alloc _
  have hc3 := hc2.alloc (.cells #[.int .i64 m, .slice (some ⟨g2, 0, none⟩) cs.length (cs.length + 2)] 29)
  go_wp2_with fail
  generalize w2.alloc (.cells #[.int .i64 m, .slice (some ⟨g2, 0, none⟩) cs.length (cs.length + 2)] 29) = W3 at *
  obtain ⟨G, hGG⟩ : ∃ G, w2.heap.size = G := ⟨_, rfl⟩
  rw [hGG] at hG hgl2 ⊢
  have hg1G : g1 < G := by omega
  have hwG : w.heap.size ≤ G := by omega
  clear ho2 hb2 hc2 ho1 hb1 hz1 hz2 hGG
  have HS : Hid (Srt (decE m cs)) := srt_decE HOK.out (by omega)
  obtain ⟨ds, HDS⟩ : ∃ ds, Hid (decE m cs = ds) := ⟨_, rfl⟩
  have HDL := length_decE m cs
  rw [HDS.out] at hG HS HDL
  refine (hasEdge_any G m _ _ ds u v _ (by omega) HS.out hG.gr).mono ?_
  rintro e w4 ⟨hb4, rfl⟩
  have hG4 := hG.below hb4
  have hc4 := hc3.below hb4 hc3.lt
  have hbB := hbA.next hb4
  clear hG hc3 hbA hb4
  obtain ⟨B0, HB0⟩ : ∃ B0, Hid (decide ((u, v) ∈ ds) = B0) := ⟨_, rfl⟩
  obtain ⟨B1, HB1⟩ : ∃ B1, Hid (decide ((x, y) ∈ ds) = B1) := ⟨_, rfl⟩
  rw [HB0.out]
  go_wp2_with fail
  refine (hasEdge_any G m _ _ ds x y _ (by omega) HS.out hG4.gr).mono ?_
  rintro e w5 ⟨hb5, rfl⟩
  have hG5 := hG4.below hb5
  have hc5 := hc4.below hb5 hc4.lt
  have hbC := hbB.next hb5
  clear hG4 hc4 hbB hb5
  rw [HB1.out]
  go_wp2_with fail
  refine (addEdge_any G m _ _ ds u v _ (by omega) HS.out hG5).mono ?_
  rintro e w6 ⟨hb6, fo, fc, rfl, hG6, _⟩
  have hz6 := hb6.size
  have hto : addTo m ds u v = insE ds (u, v) := if_pos HIN.out
  have hcode : addCode m ds u v = if B0 = true then 1 else 0 := by
    unfold addCode
    rw [if_pos HIN.out, ← HB0.out]
    by_cases h : (u, v) ∈ ds
    · rw [if_pos h, if_pos (decide_eq_true h)]
    · rw [if_neg h, if_neg (by rw [decide_eq_false h]; simp)]
  rw [hto] at hG6
  rw [hcode]
  clear hto hcode
  have hc6 : OwnI w6 g1 gs.length cs := hc5.grown hb6 (fun e => by cases e; omega)
  have hbD : BelowA w.heap.size w w6 := ⟨hbC.1.trans (hb6.below hwG hbC.2), by have := hbC.2; omega⟩
  clear hG5 hc5 hbC hb6
  have hil := length_insE_le ds (u, v)
  have HS2 : Hid (Srt (insE ds (u, v))) := srt_insE HS.out
  obtain ⟨es, HES⟩ : ∃ es, Hid (insE ds (u, v) = es) := ⟨_, rfl⟩
  rw [HES.out] at hG6 hil HS2
  obtain ⟨cd, HCD⟩ : ∃ cd : Int, Hid ((if B0 = true then (1 : Int) else 0) = cd) := ⟨_, rfl⟩
  rw [HCD.out]
  -- the two answers agree
  go_upto_region 11 with fail
  go_cut [65] (fun t w' => t = .bool false ∧ w6 = w')
  case first =>
    cases B0
    · have i1 : (cd != 0) = false := by rw [← HCD.out]; rfl
      go_wp2_with fail
      go_meet
      case rel => exact ⟨rfl, rfl⟩
    · have i1 : (cd != 1) = false := by rw [← HCD.out]; rfl
      go_wp2_with fail
      go_meet
      case rel => exact ⟨rfl, rfl⟩
  case rest =>
  obtain ⟨rfl, rfl⟩ := hcut
  rename World => W6
  go_wp2_with fail
  refine (hasEdge_any G m _ _ es u v _ (by omega) HS2.out hG6.gr).mono ?_
  rintro e w7 ⟨hb7, rfl⟩
  rw [decide_eq_true (by rw [← HES.out]; exact mem_insE.2 (.inl rfl))]
  have hG7 := hG6.below hb7
  have hc7 := hc6.below hb7 hc6.lt
  have hbE := hbD.next hb7
  clear hG6 hc6 hbD hb7
  go_upto_region 15 with fail
  go_cut [84] (fun t w' => t = .bool false ∧ Below w7.heap.size w7 w')
  case first =>
    have HD2 : Hid (∀ D2 : Bool, decide ((x, y) ∈ es) = D2 → D2 = (B1 || (x == u && y == v))) := by
      rintro D2 rfl
      rw [Bool.eq_iff_iff, decide_eq_true_iff, ← HES.out, mem_insE, ← HB1.out, Bool.or_eq_true, decide_eq_true_iff, Bool.and_eq_true, beq_iff_eq, beq_iff_eq, Prod.mk.injEq]
      exact Or.comm
    go_wp2_with fail
    refine (hasEdge_any G m _ _ es x y _ (by omega) HS2.out hG7.gr).mono ?_
    rintro e w8 ⟨hb8, rfl⟩
    obtain ⟨D2, hD2⟩ : ∃ D2, decide ((x, y) ∈ es) = D2 := ⟨_, rfl⟩
    have hD := HD2.out D2 hD2
    rw [hD2]
    clear hD2
    cases B1
    · cases hx : (x == u)
      · rw [hx] at hD
        obtain rfl : D2 = false := by simpa using hD
        clear hD
        go_wp2_with fail
        go_meet
        case rel => exact ⟨rfl, hb8⟩
      · cases hy : (y == v)
        · rw [hx, hy] at hD
          obtain rfl : D2 = false := by simpa using hD
          clear hD
          go_wp2_with fail
          go_meet
          case rel => exact ⟨rfl, hb8⟩
        · rw [hx, hy] at hD
          obtain rfl : D2 = true := by simpa using hD
          clear hD
          go_wp2_with fail
          go_meet
          case rel => exact ⟨rfl, hb8⟩
    · obtain rfl : D2 = true := by simpa using hD
      clear hD
      go_wp2_with fail
      go_meet
      case rel => exact ⟨rfl, hb8⟩
  case rest =>
  obtain ⟨rfl, hb8⟩ := hcut
  have hG8 := hG7.below hb8
  have hc8 := hc7.below hb8 hc7.lt
  have hbF := hbE.next hb8
  clear hG7 hc7 hbE hb8
  rename World => W8
  go_wp2_with fail
  refine (addEdge_any G m _ _ es u v _ (by omega) HS2.out hG8).mono ?_
  rintro e w9 ⟨hb9, fo9, fc9, rfl, hG9, _⟩
  have hz9 := hb9.size
  have hmem : (u, v) ∈ es := by rw [← HES.out]; exact mem_insE.2 (.inl rfl)
  have hto : addTo m es u v = es := by unfold addTo; rw [if_pos HIN.out, insE_mem HS2.out hmem]
  have hcode : addCode m es u v = 1 := by unfold addCode; rw [if_pos HIN.out, if_pos hmem]
  rw [hto] at hG9
  rw [hcode]
  have HMEM : Hid _ := hmem
  clear hto hcode hmem
  have hc9 : OwnI w9 g1 gs.length cs := hc8.grown hb9 (fun e => by cases e; omega)
  have hbH : BelowA w.heap.size w w9 := ⟨hbF.1.trans (hb9.below hwG hbF.2), by have := hbF.2; omega⟩
  clear hG8 hc8 hbF hb9
  cases B0
  · have hcd : cd = 0 := HCD.out.symm
    subst hcd
    have hnm : ¬ (u, v) ∈ ds := of_decide_eq_false HB0.out
    have HDEL : Hid (delE es (u, v) = ds) := by show _ = _; rw [← HES.out]; exact delE_insE' HS.out hnm
    clear hnm
    go_wp2_with fail
    refine (removeEdge_any G m _ _ es u v _ (by omega) HS2.out hG9).mono ?_
    rintro e w10 ⟨hb10, fo10, fc10, rfl, hG10, _⟩
    rw [decide_eq_true HMEM.out]
    rw [HDEL.out] at hG10
    have hz10 := hb10.size
    have hc10 : OwnI w10 g1 gs.length cs := hc9.grown hb10 (fun e => by cases e; omega)
    have hbI : BelowA w.heap.size w w10 := ⟨hbH.1.trans (hb10.below hwG hbH.2), by have := hbH.2; omega⟩
    have k0 := hG10.gr.c0
    have k1 := hG10.gr.c1
    clear hG9 hc9 hbH hb10
    go_wp2_with fail
    refine (ais_any' m ds cs fc10 gs.length _ _ _ HDL.symm ⟨by omega, hm1⟩ (by omega) (by omega) HOK.out hG10.gr.sl (hc10.sl rfl hc10.lt)).mono ?_
    rintro e w11 ⟨hb11, rfl⟩
    rw [decide_eq_true HDS.out.symm]
    go_wp2_with fail
    go_ret
    exact ⟨by simp, (hbI.next hb11).1⟩
  · have hcd : cd = 1 := HCD.out.symm
    subst hcd
    have hm : (u, v) ∈ ds := of_decide_eq_true HB0.out
    have HED : Hid (es = ds) := by show _ = _; rw [← HES.out]; exact insE_mem HS.out hm
    clear hm
    rw [HED.out] at hG9
    have k0 := hG9.gr.c0
    have k1 := hG9.gr.c1
    go_wp2_with fail
    refine (ais_any' m ds cs fc9 gs.length _ _ _ HDL.symm ⟨by omega, hm1⟩ (by omega) (by omega) HOK.out hG9.gr.sl (hc9.sl rfl hc9.lt)).mono ?_
    rintro e w11 ⟨hb11, rfl⟩
    rw [decide_eq_true HDS.out.symm]
    go_wp2_with fail
    go_ret
    exact ⟨by simp, (hbH.next hb11).1⟩
end Go.Proofs.Ymbrdp
