/- The walk of LawS930021ACommute. -/
import Derived.Test.YmbrdpAParts
import Derived.Deep.DeepCutAuto
namespace Go.Proofs.Ymbrdp
open Go.ChangeShapes Go.WideShapes Go.ChangeAt Go.RowKit
set_option linter.unusedVariables false
set_option linter.unusedSimpArgs false
attribute [local go_sem ↓] Go.wp_at_zero Go.wp_at_succ

theorem mem_addTo {n : Int} {es : List (Int × Int)} {u v : Int} {x : Int × Int} : x ∈ addTo n es u v ↔ (inB n u v = true ∧ x = (u, v)) ∨ x ∈ es := by
  unfold addTo
  split
  · rename_i h; rw [mem_insE]; exact ⟨fun h' => h'.imp (fun e => ⟨h, e⟩) id, fun h' => h'.imp (fun e => e.2) id⟩
  · rename_i h; exact ⟨.inr, fun h' => h'.elim (fun e => absurd e.1 h) id⟩
theorem srt_addTo {n : Int} {es : List (Int × Int)} {u v : Int} (hs : Srt es) : Srt (addTo n es u v) := by
  unfold addTo
  split
  · exact srt_insE hs
  · exact hs
theorem addTo_comm {n : Int} {es : List (Int × Int)} (hs : Srt es) (u1 v1 u2 v2 : Int) : addTo n (addTo n es u1 v1) u2 v2 = addTo n (addTo n es u2 v2) u1 v1 :=
  srt_ext (srt_addTo (srt_addTo hs)) (srt_addTo (srt_addTo hs)) (fun x => by
    rw [mem_addTo, mem_addTo, mem_addTo, mem_addTo]
    constructor
    · rintro (h | h | h)
      · exact .inr (.inl h)
      · exact .inl h
      · exact .inr (.inr h)
    · rintro (h | h | h)
      · exact .inr (.inl h)
      · exact .inl h
      · exact .inr (.inr h))
theorem addCode_other {n : Int} {es : List (Int × Int)} {u1 v1 u2 v2 : Int} (h : (u1, v1) ≠ (u2, v2)) : addCode n (addTo n es u1 v1) u2 v2 = addCode n es u2 v2 := by
  unfold addCode
  by_cases h1 : inB n u2 v2 = true
  · rw [if_pos h1, if_pos h1]
    by_cases h2 : (u2, v2) ∈ es
    · rw [if_pos h2, if_pos (mem_addTo.2 (.inr h2))]
    · rw [if_neg h2, if_neg (fun h' => (mem_addTo.1 h').elim (fun e => h e.2.symm) h2)]
  · rw [if_neg h1, if_neg h1]
theorem length_insE_new {es : List (Int × Int)} {e : Int × Int} (h : ¬ e ∈ es) : (insE es e).length = es.length + 1 := by
  induction es with
  | nil => rfl
  | cons y es ih =>
    rw [List.mem_cons, not_or] at h
    unfold insE
    split
    · rw [List.length_cons, ih h.2, List.length_cons]
    · rw [if_neg (fun e' => h.1 e'.symm)]; simp
theorem length_addTo {n : Int} {es : List (Int × Int)} {u v : Int} (hs : Srt es) : (addTo n es u v).length = es.length + (if addCode n es u v = 0 then 1 else 0) := by
  unfold addTo addCode
  by_cases h1 : inB n u v = true
  · rw [if_pos h1, if_pos h1]
    by_cases h2 : (u, v) ∈ es
    · rw [if_pos h2, insE_mem hs h2]; simp
    · rw [if_neg h2, length_insE_new h2]; simp
  · rw [if_neg h1, if_neg h1]; simp

set_option maxRecDepth 20000 in
set_option maxHeartbeats 8000000 in
theorem aCommute_walk (n : Int) (gs : List Int) (a b c d : Int) (gc : Nat) (go : Option Addr) (w : World) (hn : 0 ≤ n ∧ n ≤ 65535) (ha : 0 ≤ a ∧ a ≤ 65535) (hb : 0 ≤ b ∧ b ≤ 65535) (hc : 0 ≤ c ∧ c ≤ 65535) (hd : 0 ≤ d ∧ d ≤ 65535) (hgs : gs.length ≤ 9223372036854775807) (hr : ∀ k, k < gs.length → 0 ≤ nth gs k ∧ nth gs k ≤ 4294967295) (hs : Sl w w.heap.size go gs.length gc 1 (cellsK .u32 gs)) :
    Calls Ydpm.prog 5 #[.int .u16 n, .slice go gs.length gc, .int .u16 a, .int .u16 b, .int .u16 c, .int .u16 d] w fun e w' => e = .returned (.bool true) ∧ Below w.heap.size w w' := by
  have HR : Hid _ := hr
  clear hr
  by_cases hbig : gs.length > 1024
  · go_enter Ydpm.func5, Ydpm.ntmps5
    go_wp2_with fail
    go_ret
    exact ⟨by simp, Below.refl _ _⟩
  obtain ⟨m, hm, hm0, hm1⟩ : ∃ m : Int, n % 4097 = m ∧ 0 ≤ m ∧ m ≤ 4096 := ⟨_, rfl, by omega, by omega⟩
  have hmod : ∀ t : Int, 0 ≤ t → ∃ x : Int, t.tmod (m + 2) = x + 1 ∧ -1 ≤ x ∧ x ≤ m := fun t ht => by
    have e1 := Int.emod_nonneg t (show m + 2 ≠ 0 by omega)
    have e2 := Int.emod_lt_of_pos t (show 0 < m + 2 by omega)
    exact ⟨t % (m + 2) - 1, by rw [Int.tmod_eq_emod_of_nonneg ht]; omega, by omega, by omega⟩
  obtain ⟨u1, hu1, hu1a, hu1b⟩ := hmod a ha.1
  obtain ⟨v1, hv1, hv1a, hv1b⟩ := hmod b hb.1
  obtain ⟨u2, hu2, hu2a, hu2b⟩ := hmod c hc.1
  obtain ⟨v2, hv2, hv2a, hv2b⟩ := hmod d hd.1
  clear hmod
  have m0 : ¬ m + 2 = 0 := by omega
  go_enter Ydpm.func5, Ydpm.ntmps5
  go_wp2_with fail
  refine (acodes_any m gs gc go w ⟨by omega, hm1⟩ (by omega) HR.out hs).mono ?_
  rintro e w1 ⟨hb1, g1, cs, rfl, ho1, hok, hg1⟩
  have HOK : Hid _ := hok
  clear hok hm hu1 hv1 hu2 hv2 m0 ha hb hc hd hu1a hu1b hv1a hv1b hu2a hu2b hv2a hv2b
  have hcl := ho1.le
  have hgl1 := ho1.lt
  have hz1 := hb1.size
  go_wp2_with fail
  refine (aedges_any m cs gs.length _ w1 ⟨by omega, hm1⟩ (by omega) HOK.out (ho1.sl rfl ho1.lt)).mono ?_
  rintro e w2 ⟨hb2, g2, rfl, ho2, hg2⟩
  have hgl2 := ho2.lt
  have hz2 := hb2.size
  have hG := grw_new (n := m) (eo := some ⟨g2, 0, none⟩) (ec := cs.length + 2) (t := 29) (ho2.sl rfl ho2.lt) (fun a ha => by cases ha; dsimp only; omega)
  have hH := grw_new (n := m) (eo := some ⟨g2, 0, none⟩) (ec := cs.length + 2) (t := 29) hG.gr.sl (fun a ha => by cases ha; dsimp only; rw [size_alloc]; omega)
  have hG2 := hG.alloc (.cells #[.int .i64 m, .slice (some ⟨g2, 0, none⟩) (decE m cs).length (cs.length + 2)] 29)
  rw [size_alloc, length_decE] at hH
  rw [length_decE] at hG2
  have hbA : BelowA w.heap.size w ((w2.alloc (.cells #[.int .i64 m, .slice (some ⟨g2, 0, none⟩) cs.length (cs.length + 2)] 29)).alloc (.cells #[.int .i64 m, .slice (some ⟨g2, 0, none⟩) cs.length (cs.length + 2)] 29)) := ((BelowA.next ⟨hb1, hz1⟩ hb2).alloc _).alloc _
  have hsz : ((w2.alloc (.cells #[.int .i64 m, .slice (some ⟨g2, 0, none⟩) cs.length (cs.length + 2)] 29)).alloc (.cells #[.int .i64 m, .slice (some ⟨g2, 0, none⟩) cs.length (cs.length + 2)] 29)).heap.size = w2.heap.size + 1 + 1 := by rw [size_alloc, size_alloc]
  go_wp2_with fail
  generalize (w2.alloc (.cells #[.int .i64 m, .slice (some ⟨g2, 0, none⟩) cs.length (cs.length + 2)] 29)).alloc (.cells #[.int .i64 m, .slice (some ⟨g2, 0, none⟩) cs.length (cs.length + 2)] 29) = W3 at *
  obtain ⟨G, hGG⟩ : ∃ G, w2.heap.size = G := ⟨_, rfl⟩
  rw [hGG] at hG2 hH hsz hgl2 ⊢
  have hwG : w.heap.size ≤ G := by omega
  clear hG ho2 hb2 ho1 hb1 hz1 hz2 hGG
  have HS : Hid (Srt (decE m cs)) := srt_decE HOK.out (by omega)
  have HDL := length_decE m cs
  generalize decE m cs = ds at *
  have HD2 : Hid (ds.length = cs.length) := HDL
  have hdl : ds.length ≤ 1024 := by omega
  clear HDL
  -- four insertions
  refine (addEdge_any G m _ _ ds u1 v1 _ (by omega) HS.out hG2).mono ?_
  rintro e w4 ⟨hb4, fo4, fc4, rfl, hG4, no4⟩
  have hz4 := hb4.size
  have hH4 := hH.but hb4 (by omega) (fun a ha => by cases ha; dsimp only; omega)
  have ap4 : ∀ a, fo4 = some a → a.block ≠ G + 1 := no4.ap (fun a ha => by cases ha; dsimp only; omega) (by omega)
  have hbB : BelowA w.heap.size w w4 := ⟨hbA.1.trans (hb4.below hwG hbA.2), by have := hbA.2; omega⟩
  clear hG2 hH hb4 no4 hbA
  have l1 := length_addTo (n := m) (u := u1) (v := v1) HS.out
  have HS1 : Hid (Srt (addTo m ds u1 v1)) := srt_addTo HS.out
  have hl1 : (addTo m ds u1 v1).length ≤ 1025 := by rw [l1]; split <;> omega
  go_wp2_with fail
  refine (addEdge_any G m _ _ (addTo m ds u1 v1) u2 v2 _ (by omega) HS1.out hG4).mono ?_
  rintro e w5 ⟨hb5, fo5, fc5, rfl, hG5, no5⟩
  have hz5 := hb5.size
  have hH5 := hH4.but hb5 (by omega) (fun a ha => by cases ha; dsimp only; omega)
  have ap5 : ∀ a, fo5 = some a → a.block ≠ G + 1 := no5.ap ap4 (by omega)
  have hbC : BelowA w.heap.size w w5 := ⟨hbB.1.trans (hb5.below hwG hbB.2), by have := hbB.2; omega⟩
  clear hG4 hH4 hb5 no5 hbB ap4
  have l2 := length_addTo (n := m) (u := u2) (v := v2) HS1.out
  go_wp2_with fail
  refine (addEdge_any (G + 1) m _ _ ds u2 v2 _ (by omega) HS.out hH5).mono ?_
  rintro e w6 ⟨hb6, fo6, fc6, rfl, hH6, no6⟩
  have hz6 := hb6.size
  have hG6 := hG5.but hb6 (by omega) ap5
  have hbD : BelowA w.heap.size w w6 := ⟨hbC.1.trans (hb6.below (by omega) hbC.2), by have := hbC.2; omega⟩
  clear hG5 hH5 hb6 no6 hbC
  have HS3 : Hid (Srt (addTo m ds u2 v2)) := srt_addTo HS.out
  have l3 := length_addTo (n := m) (u := u2) (v := v2) HS.out
  have hl3 : (addTo m ds u2 v2).length ≤ 1025 := by rw [l3]; split <;> omega
  go_wp2_with fail
  refine (addEdge_any (G + 1) m _ _ (addTo m ds u2 v2) u1 v1 _ (by omega) HS3.out hH6).mono ?_
  rintro e w7 ⟨hb7, fo7, fc7, rfl, hH7, no7⟩
  have hz7 := hb7.size
  have hG7 := hG6.but hb7 (by omega) ap5
  have hbE : BelowA w.heap.size w w7 := ⟨hbD.1.trans (hb7.below (by omega) hbD.2), by have := hbD.2; omega⟩
  clear hG6 hH6 hb7 no7 hbD ap5
  rw [← addTo_comm HS.out u1 v1 u2 v2] at hH7
  have HEQ : Hid ((u1, v1) = (u2, v2) → addCode m ds u1 v1 = addCode m ds u2 v2 ∧ addCode m (addTo m ds u1 v1) u2 v2 = addCode m (addTo m ds u2 v2) u1 v1) := fun h => by
    obtain ⟨rfl, rfl⟩ := Prod.mk.inj h
    exact ⟨rfl, rfl⟩
  have HNE : Hid ((u1, v1) ≠ (u2, v2) → addCode m ds u1 v1 = addCode m (addTo m ds u2 v2) u1 v1 ∧ addCode m (addTo m ds u1 v1) u2 v2 = addCode m ds u2 v2) := fun h => ⟨(addCode_other (fun e => h e.symm)).symm, addCode_other h⟩
  have HLL : Hid ((addTo m (addTo m ds u1 v1) u2 v2).length = ds.length + (if addCode m ds u1 v1 = 0 then 1 else 0) + (if addCode m (addTo m ds u1 v1) u2 v2 = 0 then 1 else 0)) := by show _ = _; rw [l2, l1]
  clear l1 l2 l3 hl1 hl3 HS1 HS3
  generalize addCode m ds u1 v1 = C1 at *
  generalize addCode m (addTo m ds u1 v1) u2 v2 = C2 at *
  generalize addCode m ds u2 v2 = D2 at *
  generalize addCode m (addTo m ds u2 v2) u1 v1 = D1 at *
  generalize addTo m (addTo m ds u1 v1) u2 v2 = fs at *
  obtain ⟨EQ, HE⟩ : ∃ EQ : Bool, Hid (EQ = (u1 == u2 && v1 == v2)) := ⟨_, rfl⟩
  go_upto_region 15 with fail
  go_cut [86] (fun t w' => t = .bool EQ ∧ w7 = w')
  case first =>
    cases hx : (u1 == u2)
    · go_wp2_with fail
      go_meet
      case rel => exact ⟨by rw [HE.out, hx]; rfl, rfl⟩
    · go_wp2_with fail
      go_meet
      case rel => exact ⟨by rw [HE.out, hx]; simp, rfl⟩
  case rest =>
  obtain ⟨rfl, rfl⟩ := hcut
  rename World => W7
  go_upto_if 86 with fail
  go_cut [12] (fun t w' => t = .bool false ∧ W7 = w')
  case first =>
    cases EQ
    · have hne : (u1, v1) ≠ (u2, v2) := fun h => by
        obtain ⟨rfl, rfl⟩ := Prod.mk.inj h
        have := HE.out
        simp at this
      obtain ⟨e1, e2⟩ := HNE.out hne
      have i1 : (C1 != D1) = false := by rw [e1]; simp
      have i2 : (C2 != D2) = false := by rw [e2]; simp
      clear e1 e2 hne
      go_wp2_with fail
      go_meet
      case rel => exact ⟨rfl, rfl⟩
    · have he : (u1, v1) = (u2, v2) := by
        have := HE.out
        simp at this
        rw [this.1, this.2]
      obtain ⟨e1, e2⟩ := HEQ.out he
      have i1 : (C1 != D2) = false := by rw [e1]; simp
      have i2 : (C2 != D1) = false := by rw [e2]; simp
      clear e1 e2 he
      go_wp2_with fail
      go_meet
      case rel => exact ⟨rfl, rfl⟩
  case rest =>
  obtain ⟨rfl, rfl⟩ := hcut
  rename World => W8
  have k0 := hG7.gr.c0
  have k1 := hG7.gr.c1
  have j0 := hH7.gr.c0
  have j1 := hH7.gr.c1
  have mm : (m != m) = false := by simp
  have ff : ((fs.length : Int) != (fs.length : Int)) = false := by simp
  obtain ⟨Z1, HZ1⟩ : ∃ Z1 : Nat, Hid (Z1 = if C1 = 0 then 1 else 0) := ⟨_, rfl⟩
  obtain ⟨Z2, HZ2⟩ : ∃ Z2 : Nat, Hid (Z2 = if C2 = 0 then 1 else 0) := ⟨_, rfl⟩
  have hZ1 : Z1 ≤ 1 := by rw [HZ1.out]; split <;> omega
  have hZ2 : Z2 ≤ 1 := by rw [HZ2.out]; split <;> omega
  go_upto_if 118 with fail
  go_cut [25] (fun t w' => t = .int .i64 Z1 ∧ W8 = w')
  case first =>
    by_cases hc1 : C1 = 0
    · have i1 : (C1 == 0) = true := by simp [hc1]
      have hz : Z1 = 1 := by rw [HZ1.out, if_pos hc1]
      have HZ : Hid _ := hz
      clear hz hc1
      go_wp2_with fail
      go_meet
      case rel => exact ⟨by rw [HZ.out]; rfl, rfl⟩
    · have i1 : (C1 == 0) = false := by simp [hc1]
      have hz : Z1 = 0 := by rw [HZ1.out, if_neg hc1]
      have HZ : Hid _ := hz
      clear hz hc1
      go_wp2_with fail
      go_meet
      case rel => exact ⟨by rw [HZ.out]; rfl, rfl⟩
  case rest =>
  obtain ⟨rfl, rfl⟩ := hcut
  rename World => W9
  go_upto_if 122 with fail
  go_cut [25] (fun t w' => t = .int .i64 (Z1 + Z2 : Nat) ∧ W9 = w')
  case first =>
    by_cases hc1 : C2 = 0
    · have i1 : (C2 == 0) = true := by simp [hc1]
      have hz : Z2 = 1 := by rw [HZ2.out, if_pos hc1]
      have HZ : Hid _ := hz
      clear hz hc1
      go_wp2_with fail
      go_meet
      case rel => exact ⟨by rw [HZ.out]; simp, rfl⟩
    · have i1 : (C2 == 0) = false := by simp [hc1]
      have hz : Z2 = 0 := by rw [HZ2.out, if_neg hc1]
      have HZ : Hid _ := hz
      clear hz hc1
      go_wp2_with fail
      go_meet
      case rel => exact ⟨by rw [HZ.out]; simp, rfl⟩
  case rest =>
  obtain ⟨rfl, rfl⟩ := hcut
  rename World => W10
  have hfl : (fs.length : Int) = (cs.length : Int) + ((Z1 + Z2 : Nat) : Int) := by
    have h1 := HLL.out
    rw [← HZ1.out, ← HZ2.out, HD2.out] at h1
    omega
  have hfb : fs.length ≤ 1026 := by omega
  obtain ⟨Z, HZ⟩ : ∃ Z : Nat, Hid (Z1 + Z2 = Z) := ⟨_, rfl⟩
  rw [HZ.out] at hfl ⊢
  have hz2 : Z ≤ 2 := by rw [← HZ.out]; omega
  have hnl : ((fs.length : Int) != (cs.length : Int) + (Z : Int)) = false := by simp; exact hfl
  have hww : IntKind.i64.wrap ((cs.length : Int) + (Z : Int)) = (cs.length : Int) + (Z : Int) := by rw [IntKind.wrap_i64]; omega
  clear hfl
  go_wp2_with fail
  go_loopw [136] (fun i wr => ∃ (k : Nat), k ≤ fs.length ∧ i = .int .i64 k ∧ BelowA W10.heap.size W10 wr) (fun i _ => fs.length - (intOf i).toNat)
  case atStart => exact ⟨0, by omega, rfl, BelowA.refl _⟩
  case round =>
    obtain ⟨k, hk, rfl, hbr⟩ := hrel
    by_cases hlt : k < fs.length
    · have hGr := hG7.below hbr.1
      have hHr := hH7.below hbr.1
      obtain ⟨bb, off, hbB2, rfl, hc⟩ := Sl.pairsAt hGr.gr.sl (by omega)
      obtain ⟨c1, c2⟩ := hc k hlt
      obtain ⟨bb', off', hbB3, rfl, hc'⟩ := Sl.pairsAt hHr.gr.sl (by omega)
      obtain ⟨c3, c4⟩ := hc' k hlt
      clear hc hc'
      have q1 := hHr.gr.c1
      have hHl := hHr.gr.lt
      have i1 : (0 : Int) ≤ (k : Int) := by omega
      have i2 : (k : Int) < (fs.length : Int) := by omega
      have b1 : (nthF fs k == nthF fs k) = true := by simp
      have b2 : (nthT fs k == nthT fs k) = true := by simp
      go_upto_region 32 with fail
      go_quiet (fail)
      go_wp2_with fail
      go_roundw
      case rel => exact ⟨k + 1, by omega, by simp, (hbr.alloc _).drewN _⟩
      case measure => simp [intOf]; omega
    · go_wp2_with fail
      go_ret
      exact ⟨by simp, (hbE.next hbr.1).1⟩
end Go.Proofs.Ymbrdp
