/- The walk of LawS930021FIndex. -/
import Derived.Test.YmbrdqFSort2
namespace Go.Proofs.Ymbrdq
open Go.ChangeShapes Go.WideShapes Go.ChangeAt Go.RowKit
set_option linter.unusedVariables false
set_option linter.unusedSimpArgs false
attribute [local go_sem ↓] Go.wp_at_zero Go.wp_at_succ

/-- the first k edges without the i-th -/
def skipAt (fs : List (Int × Int)) (i k : Nat) : List (Int × Int) := fs.take (min i k) ++ (fs.take k).drop (i + 1)
theorem skip_zero (fs : List (Int × Int)) (i : Nat) : skipAt fs i 0 = [] := by simp [skipAt]
theorem skip_same (fs : List (Int × Int)) (i : Nat) : skipAt fs i (i + 1) = skipAt fs i i := by
  unfold skipAt
  rw [show min i (i + 1) = min i i by omega]
  congr 1
  rw [List.drop_eq_nil_of_le (by simp; omega), List.drop_eq_nil_of_le (by simp; omega)]
theorem skip_other {fs : List (Int × Int)} {i k : Nat} (hk : k < fs.length) (h : k ≠ i) : skipAt fs i (k + 1) = skipAt fs i k ++ [(nthF fs k, nthT fs k)] := by
  unfold skipAt
  rcases Nat.lt_or_ge k i with h' | h'
  · rw [show min i (k + 1) = k + 1 by omega, show min i k = k by omega, take_succ_E hk, List.drop_eq_nil_of_le (by simp; omega), List.drop_eq_nil_of_le (by simp; omega)]
    simp [nthE]
  · rw [show min i (k + 1) = i by omega, show min i k = i by omega, take_succ_E hk, List.drop_append_of_le_length (by simp; omega), List.append_assoc]
    rfl
theorem skip_all (fs : List (Int × Int)) {i : Nat} (h : i < fs.length) : skipAt fs i fs.length = fs.take i ++ fs.drop (i + 1) := by
  unfold skipAt
  rw [List.take_length, show min i fs.length = i by omega]

/-- in a strictly increasing list the edge at i is found at i -/
theorem find_own {fs : List (Int × Int)} {i lo : Nat} {ok : Bool} (hs : Srt fs) (hi : i < fs.length) (hf : FindAt fs (nthE fs i) lo ok) : lo = i ∧ ok = true := by
  obtain ⟨f1, f2, f3⟩ := findAt_srt hs hf
  have hle := hf.le
  have hlo : lo = i := by
    rcases Nat.lt_trichotomy lo i with h | h | h
    · exact absurd (srt_lt hs h hi) (f2 lo (Nat.le_refl _) (by omega))
    · exact h
    · exact absurd (f1 i h) (ltE_irrefl _)
  exact ⟨hlo, f3.2 (mem_nthE.2 ⟨i, hi, rfl⟩)⟩
theorem find_gone {fs : List (Int × Int)} {i lo : Nat} {ok : Bool} (hs : Srt fs) (hi : i < fs.length) (hf : FindAt (fs.take i ++ fs.drop (i + 1)) (nthE fs i) lo ok) : lo = i ∧ ok = false := by
  have hfa : FindAt fs (nthE fs i) i true := ⟨by omega, fun h => srt_lt hs (by omega) hi, fun _ => ltE_irrefl _, by simp [hi]⟩
  have hs2 : Srt (fs.take i ++ fs.drop (i + 1)) := by rw [cut_srt hs hfa]; exact srt_delE hs
  obtain ⟨f1, f2, f3⟩ := findAt_srt hs2 hf
  have hle := hf.le
  have hlen : (fs.take i ++ fs.drop (i + 1)).length = fs.length - 1 := by simp; omega
  have a1 : ∀ j, j < i → nthE (fs.take i ++ fs.drop (i + 1)) j = nthE fs j := fun j hj => by
    rw [nthE_eq (by omega), nthE_eq (by omega)]
    rw [List.getElem_append_left (by simp; omega)]
    simp
  have a2 : ∀ j, i ≤ j → j < fs.length - 1 → nthE (fs.take i ++ fs.drop (i + 1)) j = nthE fs (j + 1) := fun j hj hj2 => by
    rw [nthE_eq (by omega), nthE_eq (by omega)]
    rw [List.getElem_append_right (by simp; omega)]
    simp only [List.getElem_drop, List.length_take]
    congr 1
    omega
  have hok : ok = false := by
    rcases Bool.eq_false_or_eq_true ok with h | h
    · have := f3.1 h
      rw [cut_srt hs hfa, mem_delE] at this
      exact absurd rfl this.2
    · exact h
  refine ⟨?_, hok⟩
  rcases Nat.lt_trichotomy lo i with h | h | h
  · have := f2 lo (Nat.le_refl _) (by omega)
    rw [a1 lo h] at this
    exact absurd (srt_lt hs h hi) this
  · exact h
  · have := f1 i h
    rw [a2 i (Nat.le_refl _) (by omega)] at this
    exact absurd (ltE_trans this (srt_lt hs (show i < i + 1 by omega) (by omega))) (ltE_irrefl _)

set_option maxRecDepth 20000 in
set_option maxHeartbeats 4000000 in
theorem fIndex_walk (es : List (Int × Int)) (sel : Int) (ec : Nat) (eo : Option Addr) (w : World) (hes : es.length ≤ 9223372036854775807) (hsel : 0 ≤ sel ∧ sel ≤ 18446744073709551615) (hs : Sl w w.heap.size eo es.length ec 2 (cellsE es)) :
    Calls Ydqm.prog 7 #[.slice eo es.length ec, .int .u64 sel] w fun e w' => e = .returned (.bool true) ∧ Below w.heap.size w w' := by
  by_cases hbig : es.length > 1024
  · go_enter Ydqm.func7, Ydqm.ntmps7
    go_wp2_with fail
    go_ret
    exact ⟨by simp, Below.refl _ _⟩
  go_enter Ydqm.func7, Ydqm.ntmps7
  go_wp2_with fail
  refine (fsorted_any es ec eo _ (by omega) hs).mono ?_
  rintro e w2 ⟨hb3, fo, fc, rfl, hsf⟩
  obtain ⟨fs, HFS⟩ : ∃ fs, Hid (insAll es = fs) := ⟨_, rfl⟩
  have hfl := length_insAll es
  have HS : Hid (Srt fs) := by have := srt_insAll es; rw [HFS.out] at this; exact this
  rw [HFS.out] at hsf hfl ⊢
  have hz3 := hb3.size
  by_cases h0 : fs.length = 0
  · obtain rfl : fs = [] := List.eq_nil_of_length_eq_zero h0
    go_wp2_with fail
    refine (find_any [] 0 0 fc fo _ (by omega) hsf).mono ?_
    rintro e w9 ⟨hb9, lo, ok, rfl, hf⟩
    have hle := hf.le
    obtain rfl : lo = 0 := by simpa using hle
    obtain rfl : ok = false := by
      rcases Bool.eq_false_or_eq_true ok with h | h
      · have := (hf.ok_iff.1 h).1
        simp at this
      · exact h
    clear hf
    go_wp2_with fail
    go_ret
    exact ⟨by simp, hb3.trans (hb9.mono hz3)⟩
  · have hne : ((fs.length : Int) == 0) = false := by rw [beq_eq_false_iff_ne]; omega
    obtain ⟨i, hi, hil⟩ : ∃ i : Nat, sel % (fs.length : Int) = (i : Int) ∧ i < fs.length := by
      have e1 := Int.emod_nonneg sel (show (fs.length : Int) ≠ 0 by omega)
      have e2 := Int.emod_lt_of_pos sel (show 0 < (fs.length : Int) by omega)
      exact ⟨(sel % (fs.length : Int)).toNat, by omega, by omega⟩
    obtain ⟨b, off, hbB, rfl, hc⟩ := Sl.pairsAt hsf (by omega)
    obtain ⟨c1, c2⟩ := hc i hil
    clear h0
    go_wp2_with fail
    have hsA := (hsf.below ((Below.refl _ _).alloc (Nat.le_refl _) (.cells #[.int .i64 (nthF fs i), .int .i64 (nthT fs i)] 23))).mono (show w2.heap.size ≤ (w2.alloc (.cells #[.int .i64 (nthF fs i), .int .i64 (nthT fs i)] 23)).heap.size by rw [size_alloc]; omega)
    refine (find_any fs (nthF fs i) (nthT fs i) fc _ _ (by omega) hsA).mono ?_
    rintro e w4 ⟨hb4, lo, ok, rfl, hf⟩
    obtain ⟨rfl, rfl⟩ := find_own HS.out hil hf
    clear hf hc
    have d1 : w4.cell? ⟨w2.heap.size, 0, none⟩ = some (.int .i64 (nthF fs lo)) := (hb4.cell (by simp)).trans (cell_new2 rfl).1
    have d2 : w4.cell? ⟨w2.heap.size, 1, none⟩ = some (.int .i64 (nthT fs lo)) := (hb4.cell (by simp)).trans (cell_new2 rfl).2
    have hs4 := hsA.below hb4
    rw [size_alloc] at hb4 hs4
    have hz4 := hb4.size
    rw [size_alloc] at hz4
    have hb5 := (hb3.alloc hz3 (.cells #[.int .i64 (nthF fs lo), .int .i64 (nthT fs lo)] 23)).trans (hb4.mono (by omega))
    have hnn : ((lo : Int) != (lo : Int)) = false := by simp
    clear hb4 hsA hsf c1 c2 hi
    go_wp2_with (at_make; refine wpl_makeE0 rfl _ _ rfl fs.length _ (by rfl) (by rfl) (by omega) (by omega) ?_; intro w6 ho6 hb6 hz6)
    obtain ⟨G, hG⟩ : ∃ G, w2.heap.size = G := ⟨_, rfl⟩
    rw [hG] at d1 d2 hz4 hs4 ⊢
    have hbG : b < G := by omega
    have hwz : w.heap.size < w4.heap.size := by omega
    clear hG
    go_loopw [12, 63] (fun v t wr => ∃ (k : Nat) (os : List (Int × Int)), k ≤ fs.length ∧ t = .int .i64 k ∧ os.length ≤ k ∧ v = .slice (some ⟨w4.heap.size, 0, none⟩) os.length fs.length ∧ Hid (os = skipAt fs lo k) ∧ OwnE wr w4.heap.size fs.length os ∧ BelowA w4.heap.size w4 wr) (fun _ t _ => fs.length - (intOf t).toNat)
    case atStart => exact ⟨0, [], by omega, rfl, by simp, rfl, (skip_zero fs lo).symm, ho6, hb6, by omega⟩
    case round =>
      obtain ⟨k, os, hk, rfl, hol, rfl, HO, ho, hb⟩ := hrel
      have hz := ho.lt
      by_cases hlt : k < fs.length
      · obtain ⟨b', off', hbB', hbe, hc⟩ := Sl.pairsAt (hs4.below (hb.1.mono (by omega))) (by omega)
        obtain ⟨rfl, rfl⟩ : b = b' ∧ off = off' := by simpa using hbe
        obtain ⟨c1, c2⟩ := hc k hlt
        clear hc hbe
        by_cases hki : k = lo
        · have HK : Hid (k = lo) := hki
          have hkb : ((k : Int) != (lo : Int)) = false := by simp [hki]
          clear hki
          go_wp2_with fail
          go_roundw
          case rel => exact ⟨k + 1, os, by omega, by simp, by omega, rfl, by show _ = _; rw [HO.out, HK.out, skip_same], ho.alloc _, hb.alloc _⟩
          case measure => simp [intOf]; omega
        · have HK : Hid (¬ k = lo) := hki
          have hkb : ((k : Int) != (lo : Int)) = true := by simp; omega
          clear hki
          go_wp2_with (at_builtin; go_must (refine wpl_appE rfl (.tmp 71) (.tmp 73) rfl w4.heap.size fs.length os.length os (nthF fs k, nthT fs k) (by rfl) rfl ((ho.alloc _).alloc _) (wr.heap.size + 1) 1 (by rfl) (cell_new2 (by simp)) (by omega) ?_); intro w8 ho8 hg8)
          go_roundw
          case rel => exact ⟨k + 1, _, by omega, by simp, by simp; omega, by simp, by show _ = _; rw [HO.out, skip_other hlt HK.out], ho8, ((hb.alloc _).alloc _).grown hg8 (Nat.le_refl _) (by simp only [size_alloc]; omega)⟩
          case measure => simp [intOf]; omega
      · obtain rfl : k = fs.length := by omega
        have e1 := (hb.1.cell (p := ⟨G, 0, none⟩) (by dsimp only; omega)).trans d1
        have e2 := (hb.1.cell (p := ⟨G, 1, none⟩) (by dsimp only; omega)).trans d2
        go_wp2_with fail
        refine (find_any os (nthF fs lo) (nthT fs lo) fs.length _ _ (by omega) (ho.sl rfl hz)).mono ?_
        rintro e w9 ⟨hb9, l2, ok, rfl, hf⟩
        obtain ⟨rfl, rfl⟩ : l2 = lo ∧ ok = false := by
          rw [HO.out, skip_all fs hil] at hf
          exact find_gone HS.out hil hf
        clear hf
        go_wp2_with fail
        go_ret
        exact ⟨by simp, hb5.trans ((hb.1.mono (by omega)).trans (hb9.mono (by omega)))⟩
end Go.Proofs.Ymbrdq
