/- zzs930021lhas, zzs930021lcycle, and the walk of LawS930021LExact. -/
import Derived.Test.YmbrdrLLay
import Derived.Test.YmbrdrGFrom
namespace Go.Proofs.Ymbrdr
open Go.ChangeShapes Go.WideShapes Go.ChangeAt Go.RowKit
set_option linter.unusedVariables false
set_option linter.unusedSimpArgs false
attribute [local go_sem ↓] Go.wp_at_zero Go.wp_at_succ

def LHasPost (es : List (Int × Int)) (x y : Int) (w : World) (r : Ending) (w' : World) : Prop := Below w.heap.size w w' ∧ r = .returned (.bool (decide ((x, y) ∈ es)))

set_option maxRecDepth 20000 in
set_option maxHeartbeats 4000000 in
theorem lhas_any (es : List (Int × Int)) (x y : Int) (ec : Nat) (eo : Option Addr) (w : World) (hes : es.length ≤ 100000000) (hs : Sl w w.heap.size eo es.length ec 2 (cellsE es)) :
    Calls Ydrm.prog 38 #[.slice eo es.length ec, .int .i64 x, .int .i64 y] w (LHasPost es x y w) := by
  go_enter Ydrm.func38, Ydrm.ntmps38
  go_wp2_with fail
  go_loopw [11] (fun i wr => ∃ (k : Nat), k ≤ es.length ∧ i = .int .i64 k ∧ Hid (∀ j, j < k → nthE es j ≠ (x, y)) ∧ BelowA w.heap.size w wr) (fun i _ => es.length - (intOf i).toNat)
  case atStart => exact ⟨0, by omega, rfl, fun j hj => (by omega), BelowA.refl w⟩
  case round =>
    obtain ⟨k, hk, rfl, HN, hb⟩ := hrel
    by_cases hlt : k < es.length
    · obtain ⟨b, off, hbB, rfl, hc⟩ := Sl.pairsAt (hs.below hb.1) (by omega)
      obtain ⟨c1, c2⟩ := hc k hlt
      clear hc
      by_cases hx : nthF es k = x
      · have hxb : (nthF es k == x) = true := by simp [hx]
        have HX : Hid (nthF es k = x) := hx
        clear hx
        by_cases hy : nthT es k = y
        · have hyb : (nthT es k == y) = true := by simp [hy]
          have HY : Hid (nthT es k = y) := hy
          clear hy
          go_wp2_with fail
          go_ret
          have hm : (x, y) ∈ es := mem_nthE.2 ⟨k, hlt, by unfold nthE; rw [HX.out, HY.out]⟩
          exact ⟨(hb.alloc _).1, by rw [decide_eq_true hm]; simp⟩
        · have hyb : (nthT es k == y) = false := by simp [hy]
          have HY : Hid (¬ nthT es k = y) := hy
          clear hy
          go_wp2_with fail
          go_roundw
          case rel => exact ⟨k + 1, by omega, by simp, fun j hj => (by rcases Nat.lt_or_ge j k with h | h; exact HN.out j h; obtain rfl : j = k := (by omega); exact fun h => HY.out (congrArg Prod.snd h)), hb.alloc _⟩
          case measure => simp [intOf]; omega
      · have hxb : (nthF es k == x) = false := by simp [hx]
        have HX : Hid (¬ nthF es k = x) := hx
        clear hx
        go_wp2_with fail
        go_roundw
        case rel => exact ⟨k + 1, by omega, by simp, fun j hj => (by rcases Nat.lt_or_ge j k with h | h; exact HN.out j h; obtain rfl : j = k := (by omega); exact fun h => HX.out (congrArg Prod.fst h)), hb.alloc _⟩
        case measure => simp [intOf]; omega
    · go_wp2_with fail
      go_ret
      have hm : ¬ (x, y) ∈ es := fun h => by
        obtain ⟨j, hj, e⟩ := mem_nthE.1 h
        exact HN.out j (by omega) e
      exact ⟨hb.1, by rw [decide_eq_false hm]; simp⟩

/-- what lcycle asks for -/
def LCyc (es : List (Int × Int)) (xs : List Int) : Prop := 0 < xs.length ∧ (∀ i j, i < j → j < xs.length → nth xs i ≠ nth xs j) ∧ (∀ i, 1 ≤ i → i < xs.length → (nth xs (i - 1), nth xs i) ∈ es) ∧ (nth xs (xs.length - 1), nth xs 0) ∈ es
theorem lcyc_iff {es : List (Int × Int)} {xs : List Int} : LCyc es xs ↔ IsCyc es xs := by
  constructor
  · rintro ⟨h0, h1, h2, h3⟩
    refine ⟨h0, fun i hi => ?_, h1⟩
    by_cases h : i + 1 < xs.length
    · rw [nxt_mid h]
      have := h2 (i + 1) (by omega) h
      rw [Nat.add_sub_cancel] at this
      exact this
    · rw [nxt_last hi h, show i = xs.length - 1 by omega]; exact h3
  · rintro ⟨h0, h1, h2⟩
    refine ⟨h0, h2, fun i h i2 => ?_, ?_⟩
    · have := h1 (i - 1) (by omega)
      rw [nxt_mid (by omega), show i - 1 + 1 = i by omega] at this
      exact this
    · have := h1 (xs.length - 1) (by omega)
      rw [nxt_last (by omega) (by omega)] at this
      exact this
theorem isCyc_mem {es fs : List (Int × Int)} {xs : List Int} (h : ∀ x, x ∈ es ↔ x ∈ fs) : IsCyc es xs ↔ IsCyc fs xs :=
  ⟨fun ⟨a, b, c⟩ => ⟨a, fun i hi => (h _).1 (b i hi), c⟩, fun ⟨a, b, c⟩ => ⟨a, fun i hi => (h _).2 (b i hi), c⟩⟩

def LCycPost (es : List (Int × Int)) (xs : List Int) (w : World) (r : Ending) (w' : World) : Prop := Below w.heap.size w w' ∧ ∃ b : Bool, r = .returned (.bool b) ∧ (b = true ↔ LCyc es xs)

set_option maxRecDepth 20000 in
set_option maxHeartbeats 8000000 in
theorem lcycle_any (es : List (Int × Int)) (xs : List Int) (ec xc : Nat) (eo xo : Option Addr) (w : World) (hes : es.length ≤ 1000000) (hxs : xs.length ≤ 1000000) (hse : Sl w w.heap.size eo es.length ec 2 (cellsE es)) (hsx : Sl w w.heap.size xo xs.length xc 1 (cellsI xs)) :
    Calls Ydrm.prog 33 #[.slice eo es.length ec, .slice xo xs.length xc] w (LCycPost es xs w) := by
  by_cases h0 : xs.length = 0
  · have i0 : ((xs.length : Int) == 0) = true := by simp [h0]
    have H0 : Hid (¬ LCyc es xs) := fun h => by have := h.1; omega
    clear h0
    go_enter Ydrm.func33, Ydrm.ntmps33
    go_wp2_with fail
    go_ret
    exact ⟨Below.refl _ _, false, by simp, fun h => (by cases h), fun h => absurd h H0.out⟩
  have i0 : ((xs.length : Int) == 0) = false := by rw [beq_eq_false_iff_ne]; omega
  have hx0 : 0 < xs.length := by omega
  clear h0
  go_enter Ydrm.func33, Ydrm.ntmps33
  go_wp2_with fail
  go_loopw [5] (fun i wr => ∃ k : Nat, k ≤ xs.length ∧ i = .int .i64 k ∧ Hid (∀ i j, i < j → j < k → nth xs i ≠ nth xs j) ∧ BelowA w.heap.size w wr) (fun i _ => xs.length - (intOf i).toNat)
  case atStart => exact ⟨0, by omega, rfl, fun i j _ hj => (by omega), BelowA.refl w⟩
  case round =>
    obtain ⟨k, hk, rfl, HD, hb⟩ := hrel
    by_cases hlt : k < xs.length
    · go_wp2_with fail
      rename World => W4
      go_loopw [6] (fun i wr => ∃ j : Nat, j ≤ k ∧ i = .int .i64 j ∧ Hid (∀ i, i < j → nth xs i ≠ nth xs k) ∧ BelowA w.heap.size w wr) (fun i _ => k - (intOf i).toNat)
      case atStart => exact ⟨0, by omega, rfl, fun i hi => (by omega), hb⟩
      case round =>
        obtain ⟨j, hj, rfl, HJ, hb2⟩ := hrel
        by_cases hjk : j < k
        · obtain ⟨b, off, hbB, rfl, hc⟩ := Sl.intsAt (hsx.below hb2.1) (by omega)
          have c1 := hc k hlt
          have c2 := hc j (by omega)
          clear hc
          have i1 : (0 : Int) ≤ (k : Int) := by omega
          have i2 : (k : Int) < (xs.length : Int) := by omega
          have i3 : (0 : Int) ≤ (j : Int) := by omega
          have i4 : (j : Int) < (xs.length : Int) := by omega
          by_cases he : nth xs k = nth xs j
          · have j1 : (nth xs k == nth xs j) = true := by simp [he]
            have HB : Hid (¬ LCyc es xs) := fun h => h.2.1 j k hjk hlt he.symm
            clear he
            go_wp2_with fail
            go_quiet (fail)
            go_wp2_with fail
            go_ret
            exact ⟨below_drewN hb2.1 _, false, by simp, fun h => (by cases h), fun h => absurd h HB.out⟩
          · have j1 : (nth xs k == nth xs j) = false := by simp [he]
            have HE : Hid (¬ nth xs k = nth xs j) := he
            clear he
            go_wp2_with fail
            go_quiet (fail)
            go_wp2_with fail
            go_roundw
            case rel => exact ⟨j + 1, by omega, by simp, fun i hi => (by rcases Nat.lt_or_ge i j with h | h; exact HJ.out i h; obtain rfl : i = j := (by omega); exact fun h => HE.out h.symm), hb2.drewN _⟩
            case measure => simp [intOf]; omega
        · go_wp2_with fail
          go_roundw
          case rel => exact ⟨k + 1, by omega, by simp, fun i j' hij hj' => (by rcases Nat.lt_or_ge j' k with h | h; exact HD.out i j' hij h; obtain rfl : j' = k := (by omega); exact HJ.out i (by omega)), hb2⟩
          case measure => simp [intOf]; omega
    · go_wp2_with fail
      rename World => W4
      have HD2 : Hid (∀ i j, i < j → j < xs.length → nth xs i ≠ nth xs j) := fun i j hij hj => HD.out i j hij (by omega)
      go_loopw [7] (fun i wr => ∃ k : Nat, 1 ≤ k ∧ k ≤ xs.length ∧ i = .int .i64 k ∧ Hid (∀ i, 1 ≤ i → i < k → (nth xs (i - 1), nth xs i) ∈ es) ∧ BelowA w.heap.size w wr) (fun i _ => xs.length - (intOf i).toNat)
      case atStart => exact ⟨1, by omega, by omega, rfl, fun i h1 h2 => (by omega), hb⟩
      case round =>
        obtain ⟨m, hm1, hm, rfl, HM, hb2⟩ := hrel
        obtain ⟨b, off, hbB, rfl, hc⟩ := Sl.intsAt (hsx.below hb2.1) (by omega)
        have hbw : b < wr.heap.size := by have := hb2.2; omega
        by_cases hlm : m < xs.length
        · obtain ⟨p, HP⟩ : ∃ p : Nat, Hid (m = p + 1) := ⟨m - 1, by show _ = _; omega⟩
          have hpl : p < xs.length := by have := HP.out; omega
          have c1 := hc m hlm
          have c2 := hc p hpl
          clear hc
          have hmp : (m : Int) - 1 = (p : Int) := by have := HP.out; omega
          have hmw : IntKind.i64.wrap ((m : Int) - 1) = (p : Int) := by rw [hmp, IntKind.wrap_i64]; omega
          clear hmp
          have i1 : (0 : Int) ≤ (m : Int) := by omega
          have i2 : (m : Int) < (xs.length : Int) := by omega
          have i3 : (0 : Int) ≤ (p : Int) := by omega
          have i4 : (p : Int) < (xs.length : Int) := by omega
          obtain ⟨B, HB⟩ : ∃ B, Hid (decide ((nth xs p, nth xs m) ∈ es) = B) := ⟨_, rfl⟩
          go_upto_region 14 with fail
          go_region_held3 (fun w' => w'.cell? ⟨b, off + m, none⟩ = some (.int .i64 (nth xs m)) ∧ w'.cell? ⟨b, off + p, none⟩ = some (.int .i64 (nth xs p)))
            (first | go_keep | (go_split_ands; all_goals assumption))
            ((go_at_call 38; refine (lhas_any es (nth xs p) (nth xs m) ec eo _ (by omega) (((hse.below hb2.1).mono hb2.2).drewN 1)).mono ?_; rintro e w5 ⟨hb5, rfl⟩
              rw [HB.out]
              have s1 := (hb5.cell (p := ⟨b, off + m, none⟩) hbw).trans c1
              have s2 := (hb5.cell (p := ⟨b, off + p, none⟩) hbw).trans c2))
          rename_i hHeld
          clear hHeld
          cases B
          · have HN : Hid (¬ LCyc es xs) := fun h => by
              have h2 := h.2.2.1 m hm1 hlm
              rw [HP.out, Nat.add_sub_cancel, ← HP.out] at h2
              have := of_decide_eq_false HB.out
              exact this h2
            go_wp2_with fail
            go_ret
            exact ⟨((hb2.drewN 1).next hb5).1, false, by simp, fun h => (by cases h), fun h => absurd h HN.out⟩
          · go_wp2_with fail
            go_roundw
            case rel => exact ⟨m + 1, by omega, by omega, by simp, fun i h1 h2 => (by rcases Nat.lt_or_ge i m with h | h; exact HM.out i h1 h; obtain rfl : i = m := (by omega); rw [show i - 1 = p by (have := HP.out; omega)]; exact of_decide_eq_true HB.out), (hb2.drewN 1).next hb5⟩
            case measure => simp [intOf]; omega
        · obtain ⟨p, HP⟩ : ∃ p : Nat, Hid (p = xs.length - 1) := ⟨_, rfl⟩
          have hpl : p < xs.length := by rw [HP.out]; omega
          have c1 := hc p hpl
          have c2 := hc 0 hx0
          rw [Nat.add_zero] at c2
          clear hc
          have hmp : (xs.length : Int) - 1 = (p : Int) := by rw [HP.out]; omega
          have hmw : IntKind.i64.wrap ((xs.length : Int) - 1) = (p : Int) := by rw [hmp, IntKind.wrap_i64]; omega
          clear hmp
          have i2 : (0 : Int) < (xs.length : Int) := by omega
          have i3 : (0 : Int) ≤ (p : Int) := by omega
          have i4 : (p : Int) < (xs.length : Int) := by omega
          obtain ⟨B, HB⟩ : ∃ B, Hid (decide ((nth xs p, nth xs 0) ∈ es) = B) := ⟨_, rfl⟩
          go_upto_region 16 with fail
          go_region_held3 (fun w' => w'.cell? ⟨b, off + p, none⟩ = some (.int .i64 (nth xs p)) ∧ w'.cell? ⟨b, off, none⟩ = some (.int .i64 (nth xs 0)))
            (first | go_keep | (go_split_ands; all_goals assumption))
            ((go_at_call 38; refine (lhas_any es (nth xs p) (nth xs 0) ec eo _ (by omega) (((hse.below hb2.1).mono hb2.2).drewN 1)).mono ?_; rintro e w5 ⟨hb5, rfl⟩
              rw [HB.out]
              have s1 := (hb5.cell (p := ⟨b, off + p, none⟩) hbw).trans c1
              have s2 := (hb5.cell (p := ⟨b, off, none⟩) hbw).trans c2))
          go_wp2_with fail
          go_ret
          refine ⟨((hb2.drewN 1).next hb5).1, B, by simp, ?_⟩
          rw [← HB.out, decide_eq_true_iff, HP.out]
          exact ⟨fun h => ⟨hx0, HD2.out, fun i h1 h2 => HM.out i h1 (by omega), h⟩, fun h => h.2.2.2⟩
end Go.Proofs.Ymbrdr
