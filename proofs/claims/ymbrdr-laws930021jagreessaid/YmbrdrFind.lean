/- find: the walk. -/
import Derived.Test.YmbrdrFindPlain
import Derived.Test.YmbrdrStep
import Derived.WalkSpells
import Derived.WalkSmall
import Derived.Deep.DeepCutAuto
namespace Go.Proofs.Ymbrdr
open Go.ChangeShapes Go.WideShapes Go.ChangeAt Go.RowKit
set_option linter.unusedVariables false
set_option linter.unusedSimpArgs false
attribute [local go_sem ↓] Go.wp_at_zero Go.wp_at_succ

def FindPost (es : List (Int × Int)) (e : Int × Int) (w : World) (r : Ending) (w' : World) : Prop := Below w.heap.size w w' ∧
  ∃ (lo : Nat) (ok : Bool), r = .returned (.tuple #[.int .i64 lo, .bool ok]) ∧ FindAt es e lo ok

set_option maxRecDepth 20000 in
set_option maxHeartbeats 4000000 in
theorem find_any (es : List (Int × Int)) (e1 e2 : Int) (ec : Nat) (eo : Option Addr) (w : World) (hes : es.length ≤ 9223372036854775807) (hs : Sl w w.heap.size eo es.length ec 2 (cellsE es)) :
    Calls Ydrm.prog 39 #[.slice eo es.length ec, .agg #[.int .i64 e1, .int .i64 e2]] w (FindPost es (e1, e2) w) := by
  have hbe : Below w.heap.size w (w.alloc (.cells #[.int .i64 e1, .int .i64 e2] 45)) := (Below.refl _ _).alloc (Nat.le_refl _) _
  go_enter Ydrm.func39, Ydrm.ntmps39
  go_wp2_with fail
  go_loopw [6, 7] (fun a b wr => ∃ lo hi : Nat, lo ≤ hi ∧ hi ≤ es.length ∧ a = .int .i64 lo ∧ b = .int .i64 hi ∧ Hid (0 < lo → ltE (nthE es (lo - 1)) (e1, e2)) ∧ Hid (hi < es.length → ¬ ltE (nthE es hi) (e1, e2)) ∧ Below (w.heap.size + 1) (w.alloc (.cells #[.int .i64 e1, .int .i64 e2] 45)) wr) (fun a b _ => (intOf b).toNat - (intOf a).toNat)
  case atStart => exact ⟨0, es.length, by omega, by omega, rfl, rfl, fun h => by omega, fun h => by omega, Below.refl _ _⟩
  case round =>
    obtain ⟨lo, hi, h1, h2, rfl, rfl, HL, HH, hb⟩ := hrel
    have hz := hb.size
    rw [size_alloc] at hz
    have d1 : wr.cell? ⟨w.heap.size, 0, none⟩ = some (.int .i64 e1) := (hb.cell (by simp)).trans (cell_new2 rfl).1
    have d2 : wr.cell? ⟨w.heap.size, 1, none⟩ = some (.int .i64 e2) := (hb.cell (by simp)).trans (cell_new2 rfl).2
    have hsr := (hs.below hbe).below (hb.mono (by omega))
    by_cases hlt : lo < hi
    · obtain ⟨b, off, hbB, rfl, hc⟩ := Sl.pairsAt hsr (by omega)
      obtain ⟨mid, hm1, hm2, HM⟩ : ∃ mid : Nat, lo ≤ mid ∧ mid < hi ∧ Hid (mid = lo + (hi - lo) / 2) := ⟨lo + (hi - lo) / 2, by omega, by omega, rfl⟩
      have hmid : (lo : Int) + ((hi : Int) - (lo : Int)) / 2 = (mid : Int) := by rw [HM.out]; omega
      obtain ⟨c1, c2⟩ := hc mid (by omega)
      clear hc
      have i1 : (0 : Int) ≤ (mid : Int) := by omega
      have i2 : (mid : Int) < (es.length : Int) := by omega
      have hn1 : w.heap.size < wr.heap.size := by omega
      have hn2 : b < wr.heap.size := by omega
      go_upto_region 4 with fail
      go_region_held3 (fun w' => w'.cell? ⟨b, off + mid * 2, none⟩ = some (.int .i64 (nthF es mid)) ∧ w'.cell? ⟨b, off + mid * 2 + 1, none⟩ = some (.int .i64 (nthT es mid)) ∧ w'.cell? ⟨w.heap.size, 0, none⟩ = some (.int .i64 e1) ∧ w'.cell? ⟨w.heap.size, 1, none⟩ = some (.int .i64 e2))
        (first | go_keep)
        ((go_at_call 40; refine (cmp_any _ _ _ _ _).mono ?_; rintro e w' ⟨rfl, rfl⟩))
      have hwr : Below (w.heap.size + 1) (w.alloc (.cells #[.int .i64 e1, .int .i64 e2] 45)) (((wr.alloc (.cells #[.int .i64 (nthF es mid), .int .i64 (nthT es mid)] 45)).alloc (.cells #[.int .i64 e1, .int .i64 e2] 45)).drew) := ((hb.alloc hz _).alloc (by rw [size_alloc]; omega) _).drew
      rename_i hHeld
      clear hHeld
      have HLT : Hid _ := ltE_cmp (nthE es mid) (e1, e2)
      by_cases hc : cmpE (nthF es mid) (nthT es mid) e1 e2 < 0
      · go_wp2_with fail
        go_roundw
        case rel => exact ⟨mid + 1, hi, by omega, h2, by go_num, rfl, fun _ => HLT.out.2 hc, HH, hwr⟩
        case measure => simp [intOf]; omega
      · go_wp2_with fail
        go_roundw
        case rel => exact ⟨lo, mid, by omega, by omega, rfl, by go_num, HL, fun _ h => by have := HLT.out.1 h; exact absurd this (by simp only [nthE]; omega), hwr⟩
        case measure => simp [intOf]; omega
    · obtain rfl : lo = hi := by omega
      by_cases hll : lo < es.length
      · obtain ⟨b, off, hbB, rfl, hc⟩ := Sl.pairsAt hsr (by omega)
        obtain ⟨c1, c2⟩ := hc lo hll
        clear hc
        have i1 : (0 : Int) ≤ (lo : Int) := by omega
        have i2 : (lo : Int) < (es.length : Int) := by omega
        have i3 : decide ((lo : Int) < (es.length : Int)) = true := by simp [hll]
        by_cases he : nthE es lo = (e1, e2)
        · have HE : Hid _ := he
          have he1 : (nthF es lo == e1) = true := by have := congrArg Prod.fst he; simpa [nthE] using this
          have he2 : (nthT es lo == e2) = true := by have := congrArg Prod.snd he; simpa [nthE] using this
          clear he
          go_wp2_with fail
          go_quiet (fail)
          go_wp2_with fail
          go_ret2
          exact ⟨below_drewN (hbe.trans (hb.mono (by omega))) _, lo, true, rfl, h2, HL.out, HH.out, fun _ => ⟨hll, HE.out⟩, fun _ => rfl⟩
        · have HE : Hid _ := he
          by_cases he1 : nthF es lo = e1
          · have hx1 : (nthF es lo == e1) = true := by simp [he1]
            have hx2 : (nthT es lo == e2) = false := by
              rw [beq_eq_false_iff_ne]; intro h; exact he (by unfold nthE; rw [he1, h])
            clear he he1
            go_wp2_with fail
            go_quiet (fail)
            go_wp2_with fail
            go_ret2
            exact ⟨below_drewN (hbe.trans (hb.mono (by omega))) _, lo, false, rfl, h2, HL.out, HH.out, fun h => (by cases h), fun h => absurd h.2 HE.out⟩
          · have hx1 : (nthF es lo == e1) = false := by simp [he1]
            clear he he1
            go_wp2_with fail
            go_quiet (fail)
            go_wp2_with fail
            go_ret2
            exact ⟨below_drewN (hbe.trans (hb.mono (by omega))) _, lo, false, rfl, h2, HL.out, HH.out, fun h => (by cases h), fun h => absurd h.2 HE.out⟩
      · have i3 : decide ((lo : Int) < (es.length : Int)) = false := by simp; omega
        go_wp2_with fail
        go_quiet (fail)
        go_wp2_with fail
        go_ret2
        exact ⟨below_drewN (hbe.trans (hb.mono (by omega))) _, lo, false, rfl, h2, HL.out, HH.out, fun h => (by cases h), fun h => absurd h.1 hll⟩
end Go.Proofs.Ymbrdr
