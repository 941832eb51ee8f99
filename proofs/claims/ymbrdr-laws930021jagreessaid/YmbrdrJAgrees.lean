/- The walk of LawS930021JAgrees. -/
import Derived.Test.YmbrdrJAgreesP
namespace Go.Proofs.Ymbrdr
open Go.ChangeShapes Go.WideShapes Go.ChangeAt Go.RowKit
set_option linter.unusedVariables false
set_option linter.unusedSimpArgs false
attribute [local go_sem ↓] Go.wp_at_zero Go.wp_at_succ

/-- what Cycle answers, in one -/
def Ans (n : Nat) (gs : List (Int × Int)) (B : Bool) (c : List Int) : Prop := ∃ os tk, Peeled n gs os tk ∧ ((os.length = n ∧ B = false ∧ c = []) ∨ (os.length ≠ n ∧ B = true ∧ ∃ v0 : Nat, FirstU n tk v0 ∧ CycAns n (itr gs (left tk) v0) c))
theorem Ans.unique {n : Nat} {gs : List (Int × Int)} {B B' : Bool} {c c' : List Int} (h : Ans n gs B c) (h' : Ans n gs B' c') (hr : Rng n gs) : B' = B ∧ c' = c := by
  obtain ⟨os, tk, hp, h1⟩ := h
  obtain ⟨os', tk', hp', h1'⟩ := h'
  rcases h1 with ⟨hl, rfl, rfl⟩ | ⟨hl, rfl, v, hf, ha⟩ <;> rcases h1' with ⟨hl', rfl, rfl⟩ | ⟨hl', rfl, v', hf', ha'⟩
  · exact ⟨rfl, rfl⟩
  · exact absurd (hp.full_same hp' hr hl) hl'
  · exact absurd (hp'.full_same hp hr hl') hl
  · exact ⟨rfl, CycAns.again hp hp' hr hf hf' ha ha'⟩
theorem Ans.isCyc {n : Nat} {gs : List (Int × Int)} {B : Bool} {c : List Int} (h : Ans n gs B c) (hr : Rng n gs) : B = true ↔ IsCyc gs c := by
  obtain ⟨os, tk, hp, ⟨hl, rfl, rfl⟩ | ⟨hl, rfl, v, hf, ha⟩⟩ := h
  · exact ⟨fun h => (by cases h), fun h => absurd h.1 (by simp)⟩
  · exact ⟨fun _ => CycAns.isCyc hp hr hf ha, fun _ => rfl⟩
theorem Ans.len {n : Nat} {gs : List (Int × Int)} {B : Bool} {c : List Int} (h : Ans n gs B c) : c.length ≤ n := by
  obtain ⟨os, tk, hp, ⟨hl, rfl, rfl⟩ | ⟨hl, rfl, v, hf, ha⟩⟩ := h
  · simp
  · exact ha.facts.le
theorem Ans.order {n : Nat} {gs : List (Int × Int)} {B : Bool} {c : List Int} (h : Ans n gs B c) (hr : Rng n gs) {os' : List Int} {tk' : List Bool} (hp' : Peeled n gs os' tk') : os'.length = n ↔ B = false := by
  obtain ⟨os, tk, hp, ⟨hl, rfl, rfl⟩ | ⟨hl, rfl, v, hf, ha⟩⟩ := h
  · exact ⟨fun _ => rfl, fun _ => hp.full_same hp' hr hl⟩
  · exact ⟨fun h => absurd (hp'.full_same hp hr h) hl, fun h => by cases h⟩
theorem Ans.tr {n : Nat} {gs : List (Int × Int)} {B B' : Bool} {c c' : List Int} (h : Ans n gs B c) (h' : Ans n (trE gs) B' c') (hr : Rng n gs) (hr' : Rng n (trE gs)) (hs : Srt gs) : B' = B := by
  obtain ⟨os, tk, hp, h1⟩ := h
  obtain ⟨os', tk', hp', h1'⟩ := h'
  rcases h1 with ⟨hl, rfl, rfl⟩ | ⟨hl, rfl, v, hf, ha⟩ <;> rcases h1' with ⟨hl', rfl, rfl⟩ | ⟨hl', rfl, v', hf', ha'⟩
  · rfl
  · exact absurd (hp.full_trE hp' hr hr' hl) hl'
  · have hp2 : Peeled n (trE (trE gs)) os tk := by rw [trE_trE hs]; exact hp
    exact absurd (hp'.full_trE hp2 hr' (by rw [trE_trE hs]; exact hr) hl') hl
  · rfl
def AnsPost (n : Nat) (gs : List (Int × Int)) (w : World) (r : Ending) (w' : World) : Prop := Below w.heap.size w w' ∧ ∃ B co c cc, r = .returned (.tuple #[.slice co (c : List Int).length cc, .bool B]) ∧ Sl w' w'.heap.size co c.length cc 1 (cellsI c) ∧ Ans n gs B c
theorem cycle_ans (n gb : Nat) (eo : Option Addr) (cap : Nat) (gs : List (Int × Int)) (w : World) (hn : n ≤ 100000) (hes : gs.length ≤ 1000000) (hr : Rng n gs) (hg : Gr w w.heap.size gb n eo cap gs) :
    Calls Ydrm.prog 18 #[.pointer (some ⟨gb, 0, none⟩)] w (AnsPost n gs w) := by
  refine (cycle_any n gb eo cap gs w hn hes hr hg).mono ?_
  rintro e w6 ⟨hb6, os, tk, hpe, ⟨hol, rfl⟩ | ⟨hol, g6, c, v0, rfl, ho6, hg6, hfu, hans⟩⟩
  · exact ⟨hb6, false, none, [], 0, rfl, Sl.empty _ _ _ _ _ (fun _ => rfl), os, tk, hpe, .inl ⟨hol, rfl, rfl⟩⟩
  · exact ⟨hb6, true, _, c, c.length, rfl, ho6.sl rfl ho6.lt, os, tk, hpe, .inr ⟨hol, rfl, v0, hfu, hans⟩⟩
theorem order_ans (n gb : Nat) (eo : Option Addr) (cap : Nat) (gs : List (Int × Int)) (w : World) {B : Bool} {c : List Int} (hans : Ans n gs B c) (hn : n ≤ 100000) (hes : gs.length ≤ 1000000) (hr : Rng n gs) (hg : Gr w w.heap.size gb n eo cap gs) :
    Calls Ydrm.prog 23 #[.pointer (some ⟨gb, 0, none⟩)] w (fun e w' => Below w.heap.size w w' ∧ ∃ so sl sc, e = .returned (.tuple #[.slice so sl sc, .bool (!B)])) := by
  refine (order_any n gb eo cap gs w (by omega) hes hr hg).mono ?_
  rintro e w6 ⟨hb6, os, tk, hpe, ⟨hol, g6, rfl, ho6, hg6⟩ | ⟨hol, rfl⟩⟩
  · have := (hans.order hr hpe).1 hol
    subst this
    exact ⟨hb6, _, _, _, rfl⟩
  · have : B = true := by
      cases B
      · exact absurd ((hans.order hr hpe).2 rfl) hol
      · rfl
    subst this
    exact ⟨hb6, _, _, _, rfl⟩

set_option maxRecDepth 20000 in
set_option maxHeartbeats 8000000 in
theorem jAgrees_walk (sz : Int) (rs : List (Int × Int)) (rc : Nat) (ro : Option Addr) (w : World) (hsz : 0 ≤ sz ∧ sz ≤ 255) (hrs : rs.length ≤ 9223372036854775807) (hr : ∀ k, k < rs.length → (0 ≤ nthF rs k ∧ nthF rs k ≤ 255) ∧ (0 ≤ nthT rs k ∧ nthT rs k ≤ 255))
    (hsr : Sl w w.heap.size ro rs.length rc 2 (cellsP .u8 rs)) :
    Calls Ydrm.prog 7 #[.int .u8 sz, .slice ro rs.length rc] w fun e w' => e = .returned (.bool true) ∧ Below w.heap.size w w' := by
  have HR : Hid _ := hr
  clear hr
  by_cases hb1 : rs.length > 1024
  · go_enter Ydrm.func7, Ydrm.ntmps7
    go_wp2_with fail
    go_ret
    exact ⟨by simp, Below.refl _ _⟩
  obtain ⟨N, rfl⟩ := Int.eq_ofNat_of_zero_le hsz.1
  have hN1 : N ≤ 255 := by omega
  clear hsz
  go_enter Ydrm.func7, Ydrm.ntmps7
  go_wp2_with fail
  refine (jedges_any N rs rc ro w (by omega) (by omega) HR.out hsr).mono ?_
  rintro e w1 ⟨hbw1, es, rfl, ho, hin, hel⟩
  have HE : Hid (AllIn N es) := hin
  clear hin
  have hb : BelowA w.heap.size w w1 := ⟨hbw1, hbw1.size⟩
  clear hbw1
  go_wp2_with fail
  refine (fromEdges_any N es rs.length _ w1 (by omega) (ho.sl rfl ho.lt)).mono ?_
  rintro e w4 ⟨hb4, ⟨hok, fo, fc, rfl, hsf, hlf⟩ | ⟨hno, rfl⟩⟩
  · have hfl2 := length_insAll es
    have HRN : Hid (Rng N es) := HE.out.rng
    have HRG : Hid (Rng N (insAll es)) := HE.out.rng.ins
    obtain ⟨gs, hgs⟩ : ∃ gs, insAll es = gs := ⟨_, rfl⟩
    rw [hgs] at hfl2 HRG hsf ⊢
    have HGS : Hid _ := hgs
    have hgl2 : gs.length ≤ 1024 := by omega
    clear hgs hfl2
    have hz := ho.lt
    have hz4 := hb4.size
    have hG := gr_new (n := (N : Int)) (t := 33) hsf
    have hb5 : Below w4.heap.size w4 (w4.alloc (.cells #[.int .i64 N, .slice fo gs.length fc] 33)) := (Below.refl _ _).alloc (Nat.le_refl _) _
    have hb45 := hb4.trans (hb5.mono hz4)
    have ho5 := ho.below hb45 hz
    have hse5 : Sl (w4.alloc (.cells #[.int .i64 N, .slice fo gs.length fc] 33)) (w4.alloc (.cells #[.int .i64 N, .slice fo gs.length fc] 33)).heap.size _ es.length rs.length 2 (cellsE es) := ho5.sl rfl ho5.lt
    have hbB := hb.next hb45
    rw [← size_alloc w4 (.cells #[.int .i64 N, .slice fo gs.length fc] 33)] at hG
    clear hok hsf hlf hb4 hb5 hb45 hb ho ho5
    have HSG : Hid (Srt gs) := by rw [← HGS.out]; exact srt_insAll es
    obtain ⟨G, hGG⟩ : ∃ G, w4.heap.size = G := ⟨_, rfl⟩
    obtain ⟨W5, hW5⟩ : ∃ W5, w4.alloc (.cells #[.int .i64 N, .slice fo gs.length fc] 33) = W5 := ⟨_, rfl⟩
    rw [hW5] at hG hbB hse5
    rw [hGG] at hG
    have HW5 : Hid _ := hW5
    have HSZ : Hid (W5.heap.size = G + 1) := by show _ = _; rw [← hW5, size_alloc, hGG]
    clear hse5 hW5
    go_wp2_with (first
      | (at_make; (refine wpl_makeE0 rfl _ _ rfl gs.length _ (by rfl) (by rfl) rfl (by omega) ?_); intro w6 ho6 hb6 hz6
         rw [HW5.out] at ho6 hb6 hz6
         have hG6 := (hG.below hb6).mono hb6.size
         have k16 := hG6.c1
         rw [HSZ.out] at ho6 hz6)
      | (at_builtin; go_must (refine wpl_app 30 45 _ 2 16 Ydrm.underlying30 infoEdge rfl (.tmp 39) (.tmp 41) rfl (G + 1) 0 gs.length [] (by rfl) ho6 _ gs.length fc (cellsE (gs.take gs.length)) (by rfl) (by rw [length_cellsE, List.length_take, Nat.min_self]) (upto_edges hG6.sl (Nat.le_refl _)) (one_cellsP _ _) (by omega) ?_); intro w7 ho7 hg7))
    have A7 : BelowA W5.heap.size W5 w7 := BelowA.grown ⟨hb6, hb6.size⟩ hg7 (by rw [HSZ.out]; exact Nat.le_refl _) hz6
    have hG7 := (hG.below A7.1).mono A7.2
    have hob7 : OwnE w7 (G + 1) gs.length gs := ownE_of ho7 (by omega) (by rw [List.take_length]; rfl)
    have hbC := hbB.next A7.1
    clear hG hb6 hG6 k16 ho6 ho7 hg7 A7 hbB hz6
    refine (cycle_ans N G _ fc gs _ (by omega) (by omega) HRG.out hG7).mono ?_
    rintro e w8 ⟨hb8, B, co, c, cc, rfl, hsc8, hans⟩
    have HANS : Hid (Ans N gs B c) := hans
    have hcN := hans.len
    clear hans
    have hG8 := (hG7.below hb8).mono hb8.size
    have hob8 := hob7.below hb8 hob7.lt
    have hbD := hbC.next hb8
    have k08 := hG8.c0
    have k18 := hG8.c1
    have hobl := hob8.lt
    clear hG7 hob7 hbC hb8
    have i1 : ((N : Int) != (N : Int)) = false := by simp
    have i2 : ((gs.length : Int) != (gs.length : Int)) = false := by simp
    go_wp2_with fail
    clear i1 i2
    go_loopw [61] (fun i wr => ∃ (k : Nat), k ≤ gs.length ∧ i = .int .i64 k ∧ BelowA w8.heap.size w8 wr) (fun i _ => gs.length - (intOf i).toNat)
    case atStart => exact ⟨0, by omega, rfl, BelowA.refl w8⟩
    case round =>
      clear k08 k18
      obtain ⟨k, hk, rfl, hb⟩ := hrel
      have hGr := (hG8.below hb.1).mono hb.2
      have k1 := hGr.c1
      have hGl := hGr.lt
      by_cases hlt : k < gs.length
      · have hobr := hob8.below hb.1 hobl
        have hobl2 : G + 1 < wr.heap.size := by have := hb.2; omega
        obtain ⟨c3, c4⟩ := hobr.cell k hlt
        obtain ⟨eb, off, heB, rfl, hc⟩ := Sl.pairsAt hGr.sl (by omega)
        obtain ⟨c1, c2⟩ := hc k hlt
        clear hc
        have j1 : (nthF gs k == nthF gs k) = true := by simp
        have j2 : (nthT gs k == nthT gs k) = true := by simp
        have hGl1 : G < wr.heap.size + 1 := by omega
        have heB1 : eb < wr.heap.size + 1 := by omega
        go_upto_region 15 with fail
        go_quiet (fail)
        go_wp2_with fail
        go_roundw
        case rel => exact ⟨k + 1, by omega, by simp, (hb.alloc _).drewN _⟩
        case measure => simp [intOf]; omega
      · obtain rfl : k = gs.length := by omega
        have hsc := (hsc8.below hb.1).mono hb.2
        have hbE := hbD.next hb.1
        clear hG8 hob8 hbD hsc8 hb k1 hobl hlt hk
        go_wp2_with fail
        refine (order_ans N G _ fc gs _ HANS.out (by omega) (by omega) HRG.out hGr).mono ?_
        rintro e w10 ⟨hb10, so, sl, sc, rfl⟩
        have hG10 := (hGr.below hb10).mono hb10.size
        have hsc10 := (hsc.below hb10).mono hb10.size
        have hbF := hbE.next hb10
        clear hGr hsc hbE hb10
        have HRT : Hid (Rng N (trE gs)) := InE.rng (fun x hx => by
          obtain ⟨a, b⟩ := x
          have hm := mem_trE.1 hx
          obtain ⟨k, hk, e⟩ := mem_nthE.1 hm
          obtain ⟨⟨a1, a2⟩, b1, b2⟩ := HRG.out k hk
          have e1 : nthF gs k = b := congrArg Prod.fst e
          have e2 : nthT gs k = a := congrArg Prod.snd e
          exact inB_true.2 ⟨by omega, by omega, by omega, by omega⟩)
        have htl2 := length_trE gs
        have HTR : Hid (∀ B' c', Ans N (trE gs) B' c' → B' = B) := fun B' c' h => HANS.out.tr h HRG.out HRT.out HSG.out
        have HCY : Hid (∀ b : Bool, (b = true ↔ IsCyc gs c) → b = B) := fun b h => Bool.eq_iff_iff.2 (h.trans (HANS.out.isCyc HRG.out).symm)
        have HUN : Hid (∀ B' c', Ans N gs B' c' → B' = B ∧ c' = c) := fun B' c' h => HANS.out.unique h HRG.out
        cases B
        all_goals
          go_wp2_with fail
          refine (isCycle_any N G _ fc gs c _ cc _ (by omega) (by omega) (by omega) HRG.out HSG.out hG10 hsc10).mono ?_
          rintro e w11 ⟨hb11, b11, rfl, hi11⟩
          obtain rfl := HCY.out b11 hi11
          clear hi11
          have hG11 := (hG10.below hb11).mono hb11.size
          have hsc11 := (hsc10.below hb11).mono hb11.size
          have hbH := hbF.next hb11
          clear hG10 hsc10 hbF hb11
          go_wp2_with fail
          refine (transpose_any N G gs fc _ _ (by omega) HRG.out hG11).mono ?_
          rintro e w12 ⟨hb12, tto, tc, rfl, hst, hlt2⟩
          generalize trE gs = ts at *
          have hz12 := hb12.size
          have hT := gr_new (n := (N : Int)) (t := 33) hst
          have hb9 : Below w12.heap.size w12 (w12.alloc (.cells #[.int .i64 N, .slice tto ts.length tc] 33)) := (Below.refl _ _).alloc (Nat.le_refl _) _
          have hb89 := hb12.trans (hb9.mono hz12)
          have hG12 := (hG11.below hb89).mono hb89.size
          have hsc12 := (hsc11.below hb89).mono hb89.size
          have hbI := hbH.next hb89
          rw [← size_alloc w12 (.cells #[.int .i64 N, .slice tto ts.length tc] 33)] at hT
          clear hst hlt2 hb12 hb9 hb89 hG11 hsc11 hbH
          go_wp2_with fail
          generalize w12.alloc (.cells #[.int .i64 N, .slice tto ts.length tc] 33) = W13 at *
          refine (cycle_ans N w12.heap.size _ tc ts _ (by omega) (by omega) HRT.out hT).mono ?_
          rintro e w14 ⟨hb14, B2, co2, c2, cc2, rfl, _, hans2⟩
          obtain rfl := HTR.out B2 c2 hans2
          clear hans2
          have hG14 := (hG12.below hb14).mono hb14.size
          have hsc14 := (hsc12.below hb14).mono hb14.size
          have hbJ := hbI.next hb14
          clear hG12 hsc12 hbI hb14 hT
          go_wp2_with fail
          refine (cycle_ans N G _ fc gs _ (by omega) (by omega) HRG.out hG14).mono ?_
          rintro e w15 ⟨hb15, B3, co3, c3, cc3, rfl, hsc3, hans3⟩
          obtain ⟨rfl, rfl⟩ := HUN.out B3 c3 hans3
          clear hans3
          have hsc15 := (hsc14.below hb15).mono hb15.size
          have hbK := hbJ.next hb15
          clear hG14 hsc14 hbJ hb15
          go_wp2_with fail
          refine (jsame_eq c3 cc cc3 co co3 _ (by omega) hsc15 hsc3).mono ?_
          rintro e w16 ⟨rfl, hb16⟩
          go_wp2_with fail
          go_ret
          exact ⟨by simp, (hbK.next hb16).1⟩
  · exact absurd ⟨by omega, by omega, HE.out⟩ hno
end Go.Proofs.Ymbrdr
