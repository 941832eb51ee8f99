/- The walk of LawS930021AExact. -/
import Derived.Test.YmbrdpAParts
import Derived.Deep.DeepCutAuto
namespace Go.Proofs.Ymbrdp
open Go.ChangeShapes Go.WideShapes Go.ChangeAt Go.RowKit
set_option linter.unusedVariables false
set_option linter.unusedSimpArgs false
attribute [local go_sem ↓] Go.wp_at_zero Go.wp_at_succ

theorem insI_less {cs : List Int} {e : Int} {k : Nat} (hk : k ≤ cs.length) (h : ∀ j, j < k → nth cs j < e) : insI cs e = cs.take k ++ insI (cs.drop k) e := by
  induction k with
  | zero => simp
  | succ k ih =>
    have hk' : k < cs.length := by omega
    rw [ih (by omega) (fun j hj => h j (by omega)), List.take_succ_eq_append_getElem hk', List.drop_eq_getElem_cons hk', List.append_assoc]
    congr 1
    have := h k (by omega)
    rw [nth_eq hk'] at this
    show (if cs[k] < e then _ else _) = _
    rw [if_pos this]; rfl
theorem nth_inc {cs : List Int} (h : cs.Pairwise (· < ·)) {i j : Nat} (hij : i < j) (hj : j < cs.length) : nth cs i < nth cs j := by
  rw [nth_eq (by omega), nth_eq hj]
  exact List.pairwise_iff_getElem.1 h i j (by omega) hj hij

/-- behind k codes of AExact's merging loop -/
structure MergeTo (cs : List Int) (e : Int) (k : Nat) (p : Bool) (wt : Int) (os : List Int) : Prop where
  no : p = false → os = cs.take k ∧ (∀ j, j < k → nth cs j < e) ∧ wt = 0
  yes : p = true → os ++ cs.drop k = insI cs e ∧ (∀ j, k ≤ j → j < cs.length → e < nth cs j) ∧ wt = if e ∈ cs then 1 else 0
theorem MergeTo.eq {cs : List Int} {e : Int} {k : Nat} {wt : Int} {os : List Int} (h : MergeTo cs e k false wt os) (hi : cs.Pairwise (· < ·)) (hk : k < cs.length) (he : nth cs k = e) : MergeTo cs e (k + 1) true 1 (os ++ [nth cs k]) := by
  obtain ⟨h1, h2, h3⟩ := h.no rfl
  have hm : e ∈ cs := by rw [← he, nth_eq hk]; exact List.getElem_mem hk
  refine ⟨fun h => (by cases h), fun _ => ⟨?_, fun j hj hj2 => by rw [← he]; exact nth_inc hi (by omega) hj2, by rw [if_pos hm]⟩⟩
  rw [insI_less (Nat.le_of_lt hk) h2, h1, List.append_assoc, List.drop_eq_getElem_cons hk]
  congr 1
  rw [nth_eq hk] at he ⊢
  show _ = if cs[k] < e then _ else if cs[k] = e then _ else _
  rw [if_neg (by omega), if_pos he]; rfl
theorem MergeTo.more {cs : List Int} {e : Int} {k : Nat} {wt : Int} {os : List Int} (h : MergeTo cs e k false wt os) (hi : cs.Pairwise (· < ·)) (hk : k < cs.length) (he : e < nth cs k) : MergeTo cs e (k + 1) true wt ((os ++ [e]) ++ [nth cs k]) := by
  obtain ⟨h1, h2, h3⟩ := h.no rfl
  have hm : ¬ e ∈ cs := fun hm => by
    obtain ⟨i, h4, h5⟩ := List.getElem_of_mem hm
    rw [← nth_eq h4] at h5
    rcases Nat.lt_trichotomy i k with h' | h' | h'
    · have := h2 i h'; omega
    · subst h'; omega
    · have := nth_inc hi h' h4; omega
  refine ⟨fun h => (by cases h), fun _ => ⟨?_, fun j hj hj2 => by have := nth_inc hi (show k < j by omega) hj2; omega, by rw [if_neg hm, h3]⟩⟩
  rw [insI_less (Nat.le_of_lt hk) h2, h1, List.append_assoc, List.append_assoc, List.drop_eq_getElem_cons hk]
  congr 1
  rw [nth_eq hk] at he ⊢
  show _ = if cs[k] < e then _ else if cs[k] = e then _ else _
  rw [if_neg (by omega), if_neg (by omega)]; rfl
theorem MergeTo.less {cs : List Int} {e : Int} {k : Nat} {wt : Int} {os : List Int} (h : MergeTo cs e k false wt os) (hk : k < cs.length) (he : nth cs k < e) : MergeTo cs e (k + 1) false wt (os ++ [nth cs k]) := by
  obtain ⟨h1, h2, h3⟩ := h.no rfl
  refine ⟨fun _ => ⟨by rw [h1, List.take_succ_eq_append_getElem hk, nth_eq hk], fun j hj => by rcases Nat.lt_or_ge j k with h' | h'; exact h2 j h'; obtain rfl : j = k := (by omega); exact he, h3⟩, fun h => (by cases h)⟩
theorem MergeTo.go {cs : List Int} {e : Int} {k : Nat} {wt : Int} {os : List Int} (h : MergeTo cs e k true wt os) (hk : k < cs.length) : MergeTo cs e (k + 1) true wt (os ++ [nth cs k]) := by
  obtain ⟨h1, h2, h3⟩ := h.yes rfl
  refine ⟨fun h => (by cases h), fun _ => ⟨?_, fun j hj hj2 => h2 j (by omega) hj2, h3⟩⟩
  rw [← h1, List.append_assoc, List.drop_eq_getElem_cons hk, nth_eq hk]; rfl
theorem MergeTo.last {cs : List Int} {e : Int} {wt : Int} {os : List Int} (h : MergeTo cs e cs.length false wt os) : os ++ [e] = insI cs e ∧ wt = if e ∈ cs then 1 else 0 := by
  obtain ⟨h1, h2, h3⟩ := h.no rfl
  have hm : ¬ e ∈ cs := fun hm => by
    obtain ⟨i, h4, h5⟩ := List.getElem_of_mem hm
    rw [← nth_eq h4] at h5
    have := h2 i h4; omega
  refine ⟨?_, by rw [if_neg hm, h3]⟩
  rw [insI_less (Nat.le_refl _) h2, h1]; simp [insI]
theorem MergeTo.done {cs : List Int} {e : Int} {wt : Int} {os : List Int} (h : MergeTo cs e cs.length true wt os) : os = insI cs e ∧ wt = if e ∈ cs then 1 else 0 := by
  obtain ⟨h1, h2, h3⟩ := h.yes rfl
  exact ⟨by simpa using h1, h3⟩

theorem ais_len (m : Int) (es : List (Int × Int)) (cs : List Int) (ec cc : Nat) (eo co : Option Addr) (w : World) {len : Nat} (hlen : len = es.length) (hm : 0 ≤ m ∧ m ≤ 4096) (hes : es.length ≤ 100000000) (hcs : cs.length ≤ 1000000) (hok : CodesOk m cs) (hse : Sl w w.heap.size eo es.length ec 2 (cellsE es)) (hs : Sl w w.heap.size co cs.length cc 1 (cellsI cs)) :
    Calls Ydpm.prog 18 #[.slice eo len ec, .int .i64 m, .slice co cs.length cc] w (AIsPost m es cs w) := by subst hlen; exact ais_any m es cs ec cc eo co w hm hes hcs hok hse hs

theorem aisc_len (m : Int) (es : List (Int × Int)) (cs : List Int) (ec cc : Nat) (eo co : Option Addr) (w : World) {len : Nat} (hlen : len = cs.length) (hm : 0 ≤ m ∧ m ≤ 4096) (hes : es.length ≤ 100000000) (hcs : cs.length ≤ 1000000) (hok : CodesOk m cs) (hse : Sl w w.heap.size eo es.length ec 2 (cellsE es)) (hs : Sl w w.heap.size co cs.length cc 1 (cellsI cs)) :
    Calls Ydpm.prog 18 #[.slice eo es.length ec, .int .i64 m, .slice co len cc] w (AIsPost m es cs w) := by subst hlen; exact ais_any m es cs ec cc eo co w hm hes hcs hok hse hs

set_option maxRecDepth 20000 in
set_option maxHeartbeats 8000000 in
theorem aExact_walk (n : Int) (gs : List Int) (u v : Int) (gc : Nat) (go : Option Addr) (w : World) (hn : 0 ≤ n ∧ n ≤ 65535) (hgs : gs.length ≤ 9223372036854775807) (hr : ∀ k, k < gs.length → 0 ≤ nth gs k ∧ nth gs k ≤ 4294967295) (hs : Sl w w.heap.size go gs.length gc 1 (cellsK .u32 gs)) :
    Calls Ydpm.prog 3 #[.int .u16 n, .slice go gs.length gc, .int .i64 u, .int .i64 v] w fun e w' => e = .returned (.bool true) ∧ Below w.heap.size w w' := by
  have HR : Hid _ := hr
  clear hr
  by_cases hbig : gs.length > 1024
  · go_enter Ydpm.func3, Ydpm.ntmps3
    go_wp2_with fail
    go_ret
    exact ⟨by simp, Below.refl _ _⟩
  obtain ⟨m, hm, hm0, hm1⟩ : ∃ m : Int, n % 4097 = m ∧ 0 ≤ m ∧ m ≤ 4096 := ⟨_, rfl, by omega, by omega⟩
  go_enter Ydpm.func3, Ydpm.ntmps3
  go_wp2_with fail
  refine (acodes_any m gs gc go w ⟨hm0, hm1⟩ (by omega) HR.out hs).mono ?_
  rintro e w1 ⟨hb1, g1, cs, rfl, ho1, hok, hg1⟩
  have HOK : Hid _ := hok
  clear hok hm
  have hcl := ho1.le
  have hgl1 := ho1.lt
  have hz1 := hb1.size
  go_wp2_with fail
  refine (aedges_any m cs gs.length _ w1 ⟨hm0, hm1⟩ (by omega) HOK.out (ho1.sl rfl ho1.lt)).mono ?_
  rintro e w2 ⟨hb2, g2, rfl, ho2, hg2⟩
  have hgl2 := ho2.lt
  have hz2 := hb2.size
  have hc2 := (ho1.below hb2 hgl1)
  have hsd := ho2.sl (length_decE m cs).symm ho2.lt
  have hG := grw_new (n := m) (eo := some ⟨g2, 0, none⟩) (ec := cs.length + 2) (t := 29) (ho2.sl rfl ho2.lt) (fun a ha => by cases ha; dsimp only; omega)
  rw [length_decE] at hG
  have hG2 := hG.alloc (.cells #[.int .i64 m, .slice (some ⟨g2, 0, none⟩) cs.length (cs.length + 2)] 29)
  have hO := gr_new (n := m) (t := 29) (hG.gr.sl)
  rw [size_alloc, length_decE] at hO
  go_wp2_with fail
  have hbA : BelowA w.heap.size w ((w2.alloc (.cells #[.int .i64 m, .slice (some ⟨g2, 0, none⟩) cs.length (cs.length + 2)] 29)).alloc (.cells #[.int .i64 m, .slice (some ⟨g2, 0, none⟩) cs.length (cs.length + 2)] 29)) := ((BelowA.next ⟨hb1, hz1⟩ hb2).alloc _).alloc _
  have hsz : ((w2.alloc (.cells #[.int .i64 m, .slice (some ⟨g2, 0, none⟩) cs.length (cs.length + 2)] 29)).alloc (.cells #[.int .i64 m, .slice (some ⟨g2, 0, none⟩) cs.length (cs.length + 2)] 29)).heap.size = w2.heap.size + 1 + 1 := by rw [size_alloc, size_alloc]
  have hc3 := (hc2.alloc (.cells #[.int .i64 m, .slice (some ⟨g2, 0, none⟩) cs.length (cs.length + 2)] 29)).alloc (.cells #[.int .i64 m, .slice (some ⟨g2, 0, none⟩) cs.length (cs.length + 2)] 29)
  generalize (w2.alloc (.cells #[.int .i64 m, .slice (some ⟨g2, 0, none⟩) cs.length (cs.length + 2)] 29)).alloc (.cells #[.int .i64 m, .slice (some ⟨g2, 0, none⟩) cs.length (cs.length + 2)] 29) = W3 at *
  rw [← hsz] at hO
  obtain ⟨G, hGG⟩ : ∃ G, w2.heap.size = G := ⟨_, rfl⟩
  rw [hGG] at hG2 hO hsz hgl2 ⊢
  have hg1G : g1 < G := by omega
  have hwG : w.heap.size ≤ G := by omega
  clear hG hsd ho2 hb2 hc2 ho1 hb1 hz1 hz2 hGG
  have HS : Hid (Srt (decE m cs)) := srt_decE HOK.out hm0
  refine (addEdge_any G m _ _ (decE m cs) u v _ (by rw [length_decE]; omega) HS.out hG2).mono ?_
  rintro e w4 ⟨hb4, fo, fc, rfl, hG4, _⟩
  have hz4 := hb4.size
  have hc4 : OwnI w4 g1 gs.length cs := hc3.grown hb4 (fun e => by cases e; omega)
  have hO4 : Gr w4 w4.heap.size (G + 1) m (some ⟨g2, 0, none⟩) (cs.length + 2) (decE m cs) := by
    have hlt := hO.lt
    refine ⟨by omega, ?_, ?_, (hO.sl.but hb4 (Nat.le_refl _) (fun a ha => by cases ha; dsimp only; omega)).mono hz4⟩
    · rw [hb4.cell (a := ⟨G + 1, 0, none⟩) hlt (by dsimp only; omega)]; exact hO.c0
    · rw [hb4.cell (a := ⟨G + 1, 1, none⟩) hlt (by dsimp only; omega)]; exact hO.c1
  have hbB : BelowA w.heap.size w w4 := ⟨hbA.1.trans (hb4.below hwG hbA.2), by have := hbA.2; omega⟩
  clear hG2 hO hc3 hb4 hbA
  have hfl : (addTo m (decE m cs) u v).length ≤ cs.length + 1 := by
    unfold addTo
    split
    · have := length_insE_le (decE m cs) (u, v); rw [length_decE] at this; exact this
    · rw [length_decE]; omega
  obtain ⟨fs, HFS⟩ : ∃ fs, Hid (addTo m (decE m cs) u v = fs) := ⟨_, rfl⟩
  obtain ⟨cd, HCD⟩ : ∃ cd, Hid (addCode m (decE m cs) u v = cd) := ⟨_, rfl⟩
  rw [HFS.out] at hG4 hfl
  rw [HCD.out]
  have HDL := length_decE m cs
  obtain ⟨ds, HDS⟩ : ∃ ds, Hid (decE m cs = ds) := ⟨_, rfl⟩
  rw [HDS.out] at hO4 HDL
  go_upto_region 10 with fail
  go_cut [55] (fun t w' => t = .bool (inB m u v) ∧ w4 = w')
  case first =>
    by_cases h1 : 0 ≤ u
    · have i1 : decide (0 ≤ u) = true := by simp; omega
      by_cases h2 : u < m
      · have i2 : decide (u < m) = true := by simp; omega
        by_cases h3 : 0 ≤ v
        · have i3 : decide (0 ≤ v) = true := by simp; omega
          by_cases h4 : v < m
          · have i4 : decide (v < m) = true := by simp; omega
            have i5 : inB m u v = true := inB_true.2 ⟨h1, h2, h3, h4⟩
            clear h1 h2 h3 h4
            go_wp2_with fail
            go_meet
            case rel => exact ⟨by rw [i5], rfl⟩
          · have i4 : decide (v < m) = false := by simp; omega
            have i5 : inB m u v = false := inB_false.2 (by omega)
            clear h1 h2 h3 h4
            go_wp2_with fail
            go_meet
            case rel => exact ⟨by rw [i5], rfl⟩
        · have i3 : decide (0 ≤ v) = false := by simp; omega
          have i5 : inB m u v = false := inB_false.2 (by omega)
          clear h1 h2 h3
          go_wp2_with fail
          go_meet
          case rel => exact ⟨by rw [i5], rfl⟩
      · have i2 : decide (u < m) = false := by simp; omega
        have i5 : inB m u v = false := inB_false.2 (by omega)
        clear h1 h2
        go_wp2_with fail
        go_meet
        case rel => exact ⟨by rw [i5], rfl⟩
    · have i1 : decide (0 ≤ u) = false := by simp; omega
      have i5 : inB m u v = false := inB_false.2 (by omega)
      clear h1
      go_wp2_with fail
      go_meet
      case rel => exact ⟨by rw [i5], rfl⟩
  case rest =>
  obtain ⟨rfl, rfl⟩ := hcut
  rename World => W4
  have hmm : (m == m) = true := by simp
  cases hin : inB m u v
  · have hcd : cd = 2 := by rw [← HCD.out]; exact if_neg (by rw [hin]; simp)
    have HFE : Hid (fs = ds) := by show _ = _; rw [← HFS.out, ← HDS.out]; exact if_neg (by rw [hin]; simp)
    subst hcd
    clear hin
    have k0 := hG4.gr.c0
    have k1 := hG4.gr.c1
    have j0 := hO4.c0
    have j1 := hO4.c1
    go_wp2_with fail
    refine (ais_any m fs cs fc gs.length fo _ _ ⟨hm0, hm1⟩ (by omega) (by omega) HOK.out hG4.gr.sl (hc4.sl rfl hc4.lt)).mono ?_
    rintro e w7 ⟨hb7, rfl⟩
    rw [decide_eq_true (HFE.out.trans HDS.out.symm)]
    have hz7 := hb7.size
    have hO7 := (hO4.below hb7).mono hz7
    have j0 := hO7.c0
    have j1 := hO7.c1
    go_wp2_with fail
    refine (ais_len m ds cs (cs.length + 2) gs.length _ _ _ HDL.symm ⟨hm0, hm1⟩ (by omega) (by omega) HOK.out hO7.sl ((hc4.below hb7 hc4.lt).sl rfl (by have := hc4.lt; omega))).mono ?_
    rintro e w8 ⟨hb8, rfl⟩
    rw [decide_eq_true HDS.out.symm]
    go_wp2_with fail
    go_ret
    exact ⟨by simp, ((hbB.next hb7).next hb8).1⟩
  · obtain ⟨a1, a2, a3, a4⟩ := inB_true.1 hin
    have hmp : 0 < m := by omega
    obtain ⟨P, HP⟩ : ∃ P : Int, Hid (P = u * m) := ⟨_, rfl⟩
    have hPP : u * m = P := HP.out.symm
    have hP0 : 0 ≤ P := by rw [HP.out]; exact Int.mul_nonneg a1 hm0
    have hP1 : P ≤ 16777216 := by rw [HP.out]; exact Int.mul_le_mul (show u ≤ 4096 by omega) hm1 hm0 (by omega)
    have hPw : IntKind.i64.wrap (u * m) = P := by rw [hPP, IntKind.wrap_i64]; omega
    obtain ⟨E, hE⟩ : ∃ E : Int, P + v = E := ⟨_, rfl⟩
    have hEr : 0 ≤ E ∧ E < m * m := by
      have h1 : (u + 1) * m ≤ m * m := Int.mul_le_mul_of_nonneg_right (by omega) hm0
      rw [Int.add_mul, Int.one_mul, hPP] at h1
      omega
    have HER : Hid _ := hEr
    have HDE : Hid (dec m E = (u, v)) := by show _ = _; rw [← hE, HP.out]; exact dec_enc hmp ⟨a3, a4⟩
    have HFE : Hid (fs = decE m (insI cs E)) := by show _ = _; rw [← HFS.out]; unfold addTo; rw [if_pos hin, decE_insI hmp, HDE.out]
    have HCE : Hid (cd = if E ∈ cs then 1 else 0) := by
      show _ = _
      rw [← HCD.out]
      unfold addCode
      rw [if_pos hin, ← HDE.out]
      by_cases h : E ∈ cs
      · rw [if_pos ((mem_decE hmp).2 h), if_pos h]
      · rw [if_neg (fun h' => h ((mem_decE hmp).1 h')), if_neg h]
    clear hin hEr
    go_wp2_with (at_make; go_must (refine wpl_makeI0 rfl _ _ rfl (cs.length + 1) _ (by rfl) (by rfl) (by omega) (by omega) ?_); intro w5 ho5 hb5 hz5)
    clear hPP hPw hE hP0 hP1
    go_loopw [14, 17, 18, 67] (fun wt t p i wr => ∃ (k : Nat) (os : List Int) (b : Bool) (x : Int), k ≤ cs.length ∧ i = .int .i64 k ∧ p = .bool b ∧ wt = .int .i64 x ∧ t = .slice (some ⟨W4.heap.size, 0, none⟩) os.length (cs.length + 1) ∧ os.length ≤ k + 1 ∧ (b = false → os.length ≤ k) ∧ Hid (MergeTo cs E k b x os) ∧ OwnI wr W4.heap.size (cs.length + 1) os ∧ BelowA W4.heap.size W4 wr) (fun _ _ _ i _ => cs.length - (intOf i).toNat)
    case atStart => exact ⟨0, [], false, 0, by omega, rfl, rfl, rfl, rfl, by simp, by simp, ⟨fun _ => ⟨by simp, fun j hj => (by omega), rfl⟩, fun h => by cases h⟩, ho5, hb5, by omega⟩
    case round =>
      obtain ⟨k, os, b, x, hk, rfl, rfl, rfl, rfl, hol, hol2, HMT, ho, hb⟩ := hrel
      have hz := ho.lt
      by_cases hlt : k < cs.length
      · have c1 := (hc4.below hb.1 hc4.lt).cell k hlt
        cases b
        · have hol3 := hol2 rfl
          clear hol2 hol
          rcases Int.lt_trichotomy (nth cs k) E with h | h | h
          · have i1 : (nth cs k == E) = false := by rw [beq_eq_false_iff_ne]; omega
            have i2 : decide (nth cs k > E) = false := by simp; omega
            have HH : Hid _ := h
            clear h
            go_wp2_with (at_builtin; go_must (refine wpl_appI rfl (.tmp 85) (.tmp 87) rfl W4.heap.size (cs.length + 1) os.length os (nth cs k) (by rfl) rfl (ho.alloc _) wr.heap.size 1 (by rfl) (cell_new1 rfl) (by omega) ?_); intro w6 ho6 hg6)
            go_roundw
            case rel => exact ⟨k + 1, _, false, x, by omega, by simp, rfl, rfl, by simp, by simp; omega, by simp; omega, HMT.out.less hlt HH.out, ho6, (hb.alloc _).grown hg6 (Nat.le_refl _) (by rw [size_alloc]; omega)⟩
            case measure => simp [intOf]; omega
          · have i1 : (nth cs k == E) = true := by rw [beq_iff_eq]; exact h
            have i2 : decide (nth cs k > E) = false := by simp; omega
            have HH : Hid _ := h
            clear h
            go_wp2_with (at_builtin; go_must (refine wpl_appI rfl (.tmp 85) (.tmp 87) rfl W4.heap.size (cs.length + 1) os.length os (nth cs k) (by rfl) rfl (ho.alloc _) wr.heap.size 1 (by rfl) (cell_new1 rfl) (by omega) ?_); intro w6 ho6 hg6)
            go_roundw
            case rel => exact ⟨k + 1, _, true, 1, by omega, by simp, rfl, rfl, by simp, by simp; omega, by simp, HMT.out.eq HOK.out.inc hlt HH.out, ho6, (hb.alloc _).grown hg6 (Nat.le_refl _) (by rw [size_alloc]; omega)⟩
            case measure => simp [intOf]; omega
          · have i1 : (nth cs k == E) = false := by rw [beq_eq_false_iff_ne]; omega
            have i2 : decide (nth cs k > E) = true := by simp; omega
            have HH : Hid _ := h
            clear h
            go_wp2_with (first
              | (at_builtin; refine wpl_appI rfl (.tmp 81) (.tmp 83) rfl W4.heap.size (cs.length + 1) os.length os E (by rfl) rfl (ho.alloc _) wr.heap.size 1 (by rfl) (cell_new1 rfl) (by omega) ?_; intro w6 ho6 hg6)
              | (at_builtin; go_must (refine wpl_appI rfl (.tmp 85) (.tmp 87) rfl W4.heap.size (cs.length + 1) (os.length + 1) (os ++ [E]) (nth cs k) (by rfl) (by simp) (ho6.alloc _) w6.heap.size 1 (by rfl) (cell_new1 rfl) (by simp; omega) ?_); intro w7 ho7 hg7))
            have hz6 := ho6.lt
            go_roundw
            case rel => exact ⟨k + 1, _, true, x, by omega, by simp, rfl, rfl, by simp, by simp; omega, by simp, HMT.out.more HOK.out.inc hlt HH.out, ho7, (((hb.alloc _).grown hg6 (Nat.le_refl _) (by rw [size_alloc]; omega)).alloc _).grown hg7 (Nat.le_refl _) (by rw [size_alloc]; omega)⟩
            case measure => simp [intOf]; omega
        · have h := (HMT.out.yes rfl).2.1 k (Nat.le_refl _) hlt
          have i1 : (nth cs k == E) = false := by rw [beq_eq_false_iff_ne]; omega
          have i2 : decide (nth cs k > E) = true := by simp; omega
          clear h
          go_wp2_with (at_builtin; go_must (refine wpl_appI rfl (.tmp 85) (.tmp 87) rfl W4.heap.size (cs.length + 1) os.length os (nth cs k) (by rfl) rfl (ho.alloc _) wr.heap.size 1 (by rfl) (cell_new1 rfl) (by omega) ?_); intro w6 ho6 hg6)
          go_roundw
          case rel => exact ⟨k + 1, _, true, x, by omega, by simp, rfl, rfl, by simp, by simp; omega, by simp, HMT.out.go hlt, ho6, (hb.alloc _).grown hg6 (Nat.le_refl _) (by rw [size_alloc]; omega)⟩
          case measure => simp [intOf]; omega
      · obtain rfl : k = cs.length := by omega
        cases b
        · have hol3 := hol2 rfl
          obtain ⟨l1, l2⟩ := HMT.out.last
          have HLS : Hid (os ++ [E] = insI cs E) := l1
          have HX : Hid (x = if E ∈ cs then 1 else 0) := l2
          clear l1 l2 hol2
          go_upto_if 91 with fail
          go_wp2_with (at_builtin; go_must (refine wpl_appI rfl (.tmp 92) (.tmp 94) rfl W4.heap.size (cs.length + 1) os.length os E (by rfl) rfl (ho.alloc _) wr.heap.size 1 (by rfl) (cell_new1 rfl) (by omega) ?_); intro w6 hoF hg6; have hbF := (hb.alloc _).grown hg6 (Nat.le_refl _) (by rw [size_alloc]; omega); have hG7 := hG4.below hbF.1; have hO7 := (hO4.below hbF.1).mono hbF.2; have k0 := hG7.gr.c0; have k1 := hG7.gr.c1; have j0 := hO7.c0; have j1 := hO7.c1; have hcc : (cd == x) = true := by rw [beq_iff_eq, HX.out, HCE.out])
          have hG7 := hG4.below hbF.1
          have hO7 := (hO4.below hbF.1).mono hbF.2
          have hc7 := (hc4.below hbF.1 hc4.lt).sl rfl (show g1 < w6.heap.size by have := hc4.lt; have := hbF.2; omega)
          have k0 := hG7.gr.c0
          have k1 := hG7.gr.c1
          have j0 := hO7.c0
          have j1 := hO7.c1
          have hil := length_insI_le cs E
          have hcc : (cd == x) = true := by rw [beq_iff_eq, HX.out, HCE.out]
          refine (aisc_len m fs (insI cs E) fc (cs.length + 1) fo _ _ (by rw [← HLS.out]; simp) ⟨hm0, hm1⟩ (by omega) (by omega) (HOK.out.ins HER.out) hG7.gr.sl (by have := hoF.sl rfl hoF.lt; rw [HLS.out] at this; exact this)).mono ?_
          rintro e w8 ⟨hb8, rfl⟩
          rw [decide_eq_true HFE.out]
          have hz8 := hb8.size
          have hO8 := (hO7.below hb8).mono hz8
          have j0 := hO8.c0
          have j1 := hO8.c1
          go_wp2_with fail
          refine (ais_len m ds cs (cs.length + 2) gs.length _ _ _ HDL.symm ⟨hm0, hm1⟩ (by omega) (by omega) HOK.out hO8.sl ((hc7.below hb8).mono hz8)).mono ?_
          rintro e w9 ⟨hb9, rfl⟩
          rw [decide_eq_true HDS.out.symm]
          go_wp2_with fail
          go_ret
          exact ⟨by simp, (((hbB.next hbF.1).next hb8).next hb9).1⟩
        · obtain ⟨l1, l2⟩ := HMT.out.done
          have HLS : Hid (os = insI cs E) := l1
          have HX : Hid (x = if E ∈ cs then 1 else 0) := l2
          clear l1 l2 hol2
          have hoF := ho
          have hG7 := hG4.below hb.1
          have hO7 := (hO4.below hb.1).mono hb.2
          have hc7 := (hc4.below hb.1 hc4.lt).sl rfl (show g1 < wr.heap.size by have := hc4.lt; have := hb.2; omega)
          have k0 := hG7.gr.c0
          have k1 := hG7.gr.c1
          have j0 := hO7.c0
          have j1 := hO7.c1
          have hil := length_insI_le cs E
          have hcc : (cd == x) = true := by rw [beq_iff_eq, HX.out, HCE.out]
          go_wp2_with fail
          refine (aisc_len m fs (insI cs E) fc (cs.length + 1) fo _ _ (by rw [← HLS.out]) ⟨hm0, hm1⟩ (by omega) (by omega) (HOK.out.ins HER.out) hG7.gr.sl (by have := hoF.sl rfl hoF.lt; rw [HLS.out] at this; exact this)).mono ?_
          rintro e w8 ⟨hb8, rfl⟩
          rw [decide_eq_true HFE.out]
          have hz8 := hb8.size
          have hO8 := (hO7.below hb8).mono hz8
          have j0 := hO8.c0
          have j1 := hO8.c1
          go_wp2_with fail
          refine (ais_len m ds cs (cs.length + 2) gs.length _ _ _ HDL.symm ⟨hm0, hm1⟩ (by omega) (by omega) HOK.out hO8.sl ((hc7.below hb8).mono hz8)).mono ?_
          rintro e w9 ⟨hb9, rfl⟩
          rw [decide_eq_true HDS.out.symm]
          go_wp2_with fail
          go_ret
          exact ⟨by simp, (((hbB.next hb.1).next hb8).next hb9).1⟩
end Go.Proofs.Ymbrdp
