/- The walk of LawS930021FCount. -/
import Derived.Test.YmbrdqFSort2
namespace Go.Proofs.Ymbrdq
open Go.ChangeShapes Go.WideShapes Go.ChangeAt Go.RowKit
set_option linter.unusedVariables false
set_option linter.unusedSimpArgs false

/-- behind k edges of the counting loop, on a strictly increasing list -/
def CntAt (fs : List (Int × Int)) (e : Int × Int) (k c : Nat) : Prop := c ≤ k ∧ (∀ j, j < c → ltE (nthE fs j) e) ∧ ∀ j, c ≤ j → j < k → ¬ ltE (nthE fs j) e
theorem CntAt.yes {fs : List (Int × Int)} {e : Int × Int} {k c : Nat} (h : CntAt fs e k c) (hs : Srt fs) (hk : k < fs.length) (hl : ltE (nthE fs k) e) : CntAt fs e (k + 1) (c + 1) := by
  obtain ⟨h1, h2, h3⟩ := h
  obtain rfl : c = k := by
    rcases Nat.lt_or_ge c k with h | h
    · exact absurd (ltE_trans (srt_lt hs h hk) hl) (h3 c (Nat.le_refl _) h)
    · omega
  exact ⟨Nat.le_refl _, fun j hj => by rcases Nat.lt_or_ge j c with h | h; exact h2 j h; obtain rfl : j = c := (by omega); exact hl, fun j h1 h2 => by omega⟩
theorem CntAt.no {fs : List (Int × Int)} {e : Int × Int} {k c : Nat} (h : CntAt fs e k c) (hl : ¬ ltE (nthE fs k) e) : CntAt fs e (k + 1) c := by
  obtain ⟨h1, h2, h3⟩ := h
  exact ⟨by omega, h2, fun j hj hj2 => by rcases Nat.lt_or_ge j k with h | h; exact h3 j hj h; obtain rfl : j = k := (by omega); exact hl⟩
theorem CntAt.eq {fs : List (Int × Int)} {e : Int × Int} {c lo : Nat} {ok : Bool} (h : CntAt fs e fs.length c) (hs : Srt fs) (hf : FindAt fs e lo ok) : lo = c := by
  obtain ⟨h1, h2, h3⟩ := h
  obtain ⟨f1, f2, _⟩ := findAt_srt hs hf
  have := hf.le
  rcases Nat.lt_trichotomy lo c with h | h | h
  · exact absurd (h2 lo h) (f2 lo (Nat.le_refl _) (by omega))
  · exact h
  · exact absurd (f1 c h) (h3 c (Nat.le_refl _) (by omega))

def MemAt (es : List (Int × Int)) (e : Int × Int) (k : Nat) (m : Bool) : Prop := m = true ↔ ∃ j, j < k ∧ nthE es j = e
theorem MemAt.yes {es : List (Int × Int)} {e : Int × Int} {k : Nat} (h : nthE es k = e) : MemAt es e (k + 1) true := ⟨fun _ => ⟨k, by omega, h⟩, fun _ => rfl⟩
theorem MemAt.no {es : List (Int × Int)} {e : Int × Int} {k : Nat} {m : Bool} (hm : MemAt es e k m) (h : nthE es k ≠ e) : MemAt es e (k + 1) m := by
  refine ⟨fun hh => ?_, fun ⟨j, hj, hj2⟩ => ?_⟩
  · obtain ⟨j, hj, hj2⟩ := hm.1 hh
    exact ⟨j, by omega, hj2⟩
  · rcases Nat.lt_or_ge j k with h' | h'
    · exact hm.2 ⟨j, h', hj2⟩
    · obtain rfl : j = k := by omega
      exact absurd hj2 h

set_option maxRecDepth 20000 in
set_option maxHeartbeats 4000000 in
theorem fCount_walk (es : List (Int × Int)) (sel u v : Int) (ec : Nat) (eo : Option Addr) (w : World) (hes : es.length ≤ 9223372036854775807) (hsel : 0 ≤ sel ∧ sel ≤ 18446744073709551615) (hs : Sl w w.heap.size eo es.length ec 2 (cellsE es)) :
    Calls Ydqm.prog 5 #[.slice eo es.length ec, .int .u64 sel, .int .i64 u, .int .i64 v] w fun e w' => e = .returned (.bool true) ∧ Below w.heap.size w w' := by
  by_cases hbig : es.length > 1024
  · go_enter Ydqm.func5, Ydqm.ntmps5
    go_wp2_with fail
    go_ret
    exact ⟨by simp, Below.refl _ _⟩
  go_enter Ydqm.func5, Ydqm.ntmps5
  go_wp2_with fail
  refine (fquery_any es sel u v ec eo w hes hsel hs).mono ?_
  rintro e w1 ⟨hb1, x, y, rfl⟩
  have hz1 := hb1.size
  have hb2 : Below w.heap.size w (w1.alloc (.cells #[.int .i64 x, .int .i64 y] 23)) := hb1.alloc hb1.size _
  go_wp2_with fail
  refine (fsorted_any es ec eo _ (by omega) ((hs.below hb2).mono hb2.size)).mono ?_
  rintro e w2 ⟨hb3, fo, fc, rfl, hsf⟩
  obtain ⟨fs, HFS⟩ : ∃ fs, Hid (insAll es = fs) := ⟨_, rfl⟩
  have hfl := length_insAll es
  have HS : Hid (Srt fs) := by have := srt_insAll es; rw [HFS.out] at this; exact this
  rw [HFS.out] at hsf hfl ⊢
  have d1 : w2.cell? ⟨w1.heap.size, 0, none⟩ = some (.int .i64 x) := (hb3.cell (by simp)).trans (cell_new2 rfl).1
  have d2 : w2.cell? ⟨w1.heap.size, 1, none⟩ = some (.int .i64 y) := (hb3.cell (by simp)).trans (cell_new2 rfl).2
  have hb4 := hb2.trans (hb3.mono hb2.size)
  have hz3 := hb3.size
  rw [size_alloc] at hz3
  have hs2 := (hs.below hb4).mono hb4.size
  clear hb1 hb2 hb3
  obtain ⟨G, hG⟩ : ∃ G, w1.heap.size = G := ⟨_, rfl⟩
  rw [hG] at d1 d2 hz1 hz3 ⊢
  clear hG
  go_wp2_with fail
  go_loopw [11, 31] (fun v i wr => ∃ (k c : Nat), k ≤ fs.length ∧ c ≤ k ∧ i = .int .i64 k ∧ v = .int .i64 c ∧ Hid (CntAt fs (x, y) k c) ∧ BelowA w2.heap.size w2 wr) (fun _ i _ => fs.length - (intOf i).toNat)
  case atStart => exact ⟨0, 0, by omega, by omega, rfl, rfl, ⟨by omega, fun j hj => by omega, fun j h1 h2 => by omega⟩, Below.refl _ _, Nat.le_refl _⟩
  case round =>
    obtain ⟨k, c, hk, hck, rfl, rfl, HC, hb⟩ := hrel
    have e1 := (hb.1.cell (p := ⟨G, 0, none⟩) (by dsimp only; omega)).trans d1
    have e2 := (hb.1.cell (p := ⟨G, 1, none⟩) (by dsimp only; omega)).trans d2
    have hz := hb.2
    have hG1 : G < wr.heap.size := by omega
    by_cases hlt : k < fs.length
    · obtain ⟨b, off, hbB, rfl, hc⟩ := Sl.pairsAt (hsf.below hb.1) (by omega)
      obtain ⟨c1, c2⟩ := hc k hlt
      clear hc
      by_cases hle : ltE (nthE fs k) (x, y)
      · have hlb : lessB (nthF fs k, nthT fs k) (x, y) = true := lessB_true.2 hle
        have HLE : Hid _ := hle
        clear hle
        go_wp2_with (go_at_call 18; refine (fless_any _ _ _ _ _).mono ?_; rintro e w' ⟨rfl, rfl⟩)
        go_roundw
        case rel => exact ⟨k + 1, c + 1, by omega, by omega, by simp, by simp, HC.out.yes HS.out hlt HLE.out, (((hb.alloc _).alloc _).alloc _)⟩
        case measure => simp [intOf]; omega
      · have hlb : lessB (nthF fs k, nthT fs k) (x, y) = false := lessB_false.2 hle
        have HLE : Hid _ := hle
        clear hle
        go_wp2_with (go_at_call 18; refine (fless_any _ _ _ _ _).mono ?_; rintro e w' ⟨rfl, rfl⟩)
        go_roundw
        case rel => exact ⟨k + 1, c, by omega, by omega, by simp, by simp, HC.out.no HLE.out, (((hb.alloc _).alloc _).alloc _)⟩
        case measure => simp [intOf]; omega
    · obtain rfl : k = fs.length := by omega
      have hs3 := hs2.below hb.1
      have hsf3 := hsf.below hb.1
      have hb5 := hb4.trans (hb.1.mono hb4.size)
      clear hs2 hsf d1 d2 hb hlt hk
      rename World => W5
      go_wp2_with fail
      go_loopw [14, 43] (fun v i wr => ∃ (k : Nat) (m : Bool), k ≤ es.length ∧ i = .int .i64 k ∧ v = .bool m ∧ Hid (MemAt es (x, y) k m) ∧ BelowA W5.heap.size W5 wr) (fun _ i _ => es.length - (intOf i).toNat)
      case atStart => exact ⟨0, false, by omega, rfl, rfl, ⟨fun h => (by cases h), fun ⟨j, hj, _⟩ => by omega⟩, Below.refl _ _, Nat.le_refl _⟩
      case round =>
        obtain ⟨k, m, hk, rfl, rfl, HM, hb⟩ := hrel
        have g1 := (hb.1.cell (p := ⟨G, 0, none⟩) hG1).trans e1
        have g2 := (hb.1.cell (p := ⟨G, 1, none⟩) hG1).trans e2
        have hz6 := hb.2
        have hG2 : G < wr.heap.size := by omega
        by_cases hlt : k < es.length
        · obtain ⟨b, off, hbB, rfl, hc⟩ := Sl.pairsAt (hs3.below (hb.1.mono hz)) (by omega)
          obtain ⟨c1, c2⟩ := hc k hlt
          clear hc
          by_cases hx1 : nthF es k = x
          · have hxb1 : (nthF es k == x) = true := by simp [hx1]
            have HX1 : Hid _ := hx1
            clear hx1
            by_cases hx2 : nthT es k = y
            · have hxb2 : (nthT es k == y) = true := by simp [hx2]
              have HX2 : Hid _ := hx2
              clear hx2
              go_wp2_with fail
              go_roundw
              case rel => exact ⟨k + 1, true, by omega, by simp, rfl, MemAt.yes (by unfold nthE; rw [HX1.out, HX2.out]), hb.alloc _⟩
              case measure => simp [intOf]; omega
            · have hxb2 : (nthT es k == y) = false := by simp [hx2]
              have HX2 : Hid (¬ nthT es k = y) := hx2
              clear hx2
              go_wp2_with fail
              go_roundw
              case rel => exact ⟨k + 1, m, by omega, by simp, rfl, HM.out.no (fun h => HX2.out (congrArg Prod.snd h)), hb.alloc _⟩
              case measure => simp [intOf]; omega
          · have hxb1 : (nthF es k == x) = false := by simp [hx1]
            have HX1 : Hid (¬ nthF es k = x) := hx1
            clear hx1
            go_wp2_with fail
            go_roundw
            case rel => exact ⟨k + 1, m, by omega, by simp, rfl, HM.out.no (fun h => HX1.out (congrArg Prod.fst h)), hb.alloc _⟩
            case measure => simp [intOf]; omega
        · obtain rfl : k = es.length := by omega
          go_wp2_with fail
          refine (find_any fs x y fc fo _ (by omega) ((hsf3.below (hb.1.mono hz)).mono (by omega))).mono ?_
          rintro e w9 ⟨hb9, lo, ok, rfl, hf⟩
          obtain rfl : lo = c := HC.out.eq HS.out hf
          obtain rfl : ok = m := by
            have h1 := (findAt_srt HS.out hf).2.2
            have h2 := HM.out
            rw [← HFS.out, mem_insAll, mem_nthE] at h1
            unfold MemAt at h2
            rw [Bool.eq_iff_iff, h1, h2]
          clear hf
          go_wp2_with fail
          go_ret
          exact ⟨by simp, hb5.trans ((hb.1.mono (by omega)).trans (hb9.mono (by omega)))⟩
end Go.Proofs.Ymbrdq
