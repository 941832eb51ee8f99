/- zzs930021bedges, zzs930021bsame. -/
import Derived.Test.YmbrdpBTab
import Derived.Test.YmbrdpBel
namespace Go.Proofs.Ymbrdp
open Go.ChangeShapes Go.WideShapes Go.ChangeAt Go.RowKit
set_option linter.unusedVariables false
set_option linter.unusedSimpArgs false
attribute [local go_sem ↓] Go.wp_at_zero Go.wp_at_succ

def BEdgesPost (n : Nat) (bs : List Bool) (skip : Int) (w : World) (r : Ending) (w' : World) : Prop := Below w.heap.size w w' ∧
  ∃ g cap, r = .returned (.slice (some ⟨g, 0, none⟩) (tab n bs skip).length cap) ∧ OwnE w' g cap (tab n bs skip) ∧ w.heap.size ≤ g

theorem tabTo_yes {n : Nat} {bs : List Bool} {skip : Int} {k : Nat} (h1 : nthB bs k = true) (h2 : (k : Int) ≠ skip) : tabTo n bs skip (k + 1) = tabTo n bs skip k ++ [cellE n k] := by
  show (if nthB bs k = true ∧ (k : Int) ≠ skip then _ else _) = _
  rw [if_pos ⟨h1, h2⟩]
theorem tabTo_no {n : Nat} {bs : List Bool} {skip : Int} {k : Nat} (h : ¬ (nthB bs k = true ∧ (k : Int) ≠ skip)) : tabTo n bs skip (k + 1) = tabTo n bs skip k := by
  show (if nthB bs k = true ∧ (k : Int) ≠ skip then _ else _) = _
  rw [if_neg h]

set_option maxRecDepth 20000 in
set_option maxHeartbeats 4000000 in
theorem bedges_any (n : Nat) (bs : List Bool) (skip : Int) (bc : Nat) (bo : Option Addr) (w : World) (hn0 : 0 < n) (hn : n ≤ 4096) (hbs : bs.length ≤ 1000000) (hs : Sl w w.heap.size bo bs.length bc 1 (cellsB bs)) :
    Calls Ydpm.prog 21 #[.int .i64 n, .slice bo bs.length bc, .int .i64 skip] w (BEdgesPost n bs skip w) := by
  obtain ⟨M, HM⟩ : ∃ M : Nat, Hid (M = n * n) := ⟨_, rfl⟩
  have hMM : (n : Int) * (n : Int) = (M : Int) := by rw [HM.out]; exact_mod_cast rfl
  have hM2 : M ≤ 16777216 := by rw [HM.out]; exact Nat.mul_le_mul hn hn
  have hMw : IntKind.i64.wrap ((n : Int) * (n : Int)) = (M : Int) := by rw [hMM, IntKind.wrap_i64]; omega
  go_enter Ydpm.func21, Ydpm.ntmps21
  go_wp2_with (at_make; refine wpl_makeE0 rfl _ _ rfl 0 _ (by rfl) (by rfl) rfl (by omega) ?_; intro w1 ho1 hb1 hz1)
  go_loopw [7, 8] (fun v i wr => ∃ (k g cap : Nat) (os : List (Int × Int)), k ≤ bs.length ∧ k ≤ M ∧ i = .int .i64 k ∧ v = .slice (some ⟨g, 0, none⟩) os.length cap ∧ os.length ≤ k ∧ Hid (os = tabTo n bs skip k) ∧ OwnE wr g cap os ∧ w.heap.size ≤ g ∧ BelowA w.heap.size w wr) (fun _ i _ => bs.length - (intOf i).toNat)
  case atStart => exact ⟨0, w.heap.size, 0, [], by omega, by omega, rfl, rfl, by simp, rfl, ho1, Nat.le_refl _, hb1, by omega⟩
  case round =>
    obtain ⟨k, g, cap, os, hk, hkM, rfl, rfl, hol, HO, ho, hg, hb⟩ := hrel
    have hgl := ho.lt
    by_cases hlt : k < bs.length
    · have i1 : decide ((k : Int) < (bs.length : Int)) = true := by simp; omega
      by_cases hlM : k < M
      · have i2 : decide ((k : Int) < (M : Int)) = true := by simp; omega
        obtain ⟨b, off, hbB, rfl, hc⟩ := Sl.boolsAt (hs.below hb.1) (by omega)
        have c1 := hc k hlt
        clear hc
        by_cases hset : nthB bs k = true
        · rw [hset] at c1
          by_cases hsk : (k : Int) = skip
          · have i3 : ((k : Int) != skip) = false := by simp [hsk]
            have HSK : Hid ((k : Int) = skip) := hsk
            clear hsk
            go_wp2_with fail
            go_roundw
            case rel => exact ⟨k + 1, g, cap, os, by omega, by omega, by simp, rfl, by omega, by show _ = _; rw [tabTo_no (fun h => h.2 HSK.out)]; exact HO.out, ho, hg, hb⟩
            case measure => simp [intOf]; omega
          · have i3 : ((k : Int) != skip) = true := by simp [hsk]
            have HSK : Hid ((k : Int) ≠ skip) := hsk
            clear hsk
            have HSET : Hid _ := hset
            clear hset
            obtain ⟨q, HQ⟩ : ∃ q : Nat, Hid (q = k / n) := ⟨_, rfl⟩
            obtain ⟨r, HR⟩ : ∃ r : Nat, Hid (r = k % n) := ⟨_, rfl⟩
            have n0 : ¬ n = 0 := by omega
            have hqk : q ≤ k := by rw [HQ.out]; exact Nat.div_le_self _ _
            have hrk : r ≤ k := by rw [HR.out]; exact Nat.mod_le _ _
            have t1 : (k : Int).tdiv (n : Int) = (q : Int) := by rw [HQ.out, Int.tdiv_eq_ediv_of_nonneg (by omega)]; exact_mod_cast rfl
            have t2 : (k : Int).tmod (n : Int) = (r : Int) := by rw [HR.out, Int.tmod_eq_emod_of_nonneg (by omega)]; exact_mod_cast rfl
            have v1 : IntKind.i64.wrap (q : Int) = (q : Int) := by rw [IntKind.wrap_i64]; omega
            have v2 : IntKind.i64.wrap (r : Int) = (r : Int) := by rw [IntKind.wrap_i64]; omega
            go_upto_region 6 with fail
            go_region_held3 (fun w' => w.heap.size ≤ w.heap.size)
              (first | go_keep | exact Nat.le_refl _)
              ((refine step_appEg rfl _ _ (by rfl) g cap os.length os ((q : Int), (r : Int)) (by rfl) rfl (by first | exact (ho.alloc _).drewN 1 | exact ho.alloc _) wr.heap.size 1 (by rfl) (by exact cell_new2 rfl) (by omega) ?_; intro g' cap' w2 ho2 hg2 hgg))
            rename_i hHeld
            clear hHeld t1 t2 v1 v2
            have hgg' : w.heap.size ≤ g' := by
              rcases hgg with h | h
              · omega
              · rw [h]; have := hb.2; show w.heap.size ≤ (wr.alloc _).heap.size; rw [size_alloc]; omega
            clear hgg
            go_wp2_with fail
            go_roundw
            case rel => exact ⟨k + 1, g', cap', _, by omega, by omega, by simp, by simp, by simp; omega, by show _ = _; rw [tabTo_yes HSET.out HSK.out, HO.out]; unfold cellE; rw [HQ.out, HR.out], ho2, hgg', ((hb.alloc _).drew).grown hg2 hg (by show g < (wr.alloc _).heap.size; rw [size_alloc]; omega)⟩
            case measure => simp [intOf]; omega
        · have hset' : nthB bs k = false := Bool.eq_false_iff.2 hset
          rw [hset'] at c1
          have HSET : Hid (¬ nthB bs k = true) := hset
          clear hset hset'
          go_wp2_with fail
          go_roundw
          case rel => exact ⟨k + 1, g, cap, os, by omega, by omega, by simp, rfl, by omega, by show _ = _; rw [tabTo_no (fun h => HSET.out h.1)]; exact HO.out, ho, hg, hb⟩
          case measure => simp [intOf]; omega
      · have i2 : decide ((k : Int) < (M : Int)) = false := by simp; omega
        have hmin : min bs.length (n * n) = k := by rw [← HM.out]; omega
        have HT : Hid (os = tab n bs skip) := by show _ = _; unfold tab; rw [hmin]; exact HO.out
        clear hmin
        go_wp2_with fail
        go_ret
        exact ⟨hb.1, g, cap, by rw [← HT.out]; simp, by rw [← HT.out]; exact ho, hg⟩
    · have i1 : decide ((k : Int) < (bs.length : Int)) = false := by simp; omega
      have hmin : min bs.length (n * n) = k := by rw [← HM.out]; omega
      have HT : Hid (os = tab n bs skip) := by show _ = _; unfold tab; rw [hmin]; exact HO.out
      clear hmin
      go_wp2_with fail
      go_ret
      exact ⟨hb.1, g, cap, by rw [← HT.out]; simp, by rw [← HT.out]; exact ho, hg⟩

theorem ext_nthE {xs bs : List (Int × Int)} (hl : xs.length = bs.length) (h : ∀ j, j < xs.length → nthE xs j = nthE bs j) : xs = bs := by
  apply List.ext_getElem hl
  intro i h1 h2
  have := h i h1
  rwa [nthE_eq h1, nthE_eq h2] at this

def BSamePost (xs bs : List (Int × Int)) (w : World) (r : Ending) (w' : World) : Prop := Below w.heap.size w w' ∧ r = .returned (.bool (decide (xs = bs)))

set_option maxRecDepth 20000 in
set_option maxHeartbeats 4000000 in
theorem bsame_any (xs bs : List (Int × Int)) (ac bc : Nat) (ao bo : Option Addr) (w : World) (ha : xs.length ≤ 100000000) (hb : bs.length ≤ 100000000) (hsa : Sl w w.heap.size ao xs.length ac 2 (cellsE xs)) (hsb : Sl w w.heap.size bo bs.length bc 2 (cellsE bs)) :
    Calls Ydpm.prog 22 #[.slice ao xs.length ac, .slice bo bs.length bc] w (BSamePost xs bs w) := by
  by_cases hl : xs.length = bs.length
  · have i0 : ((xs.length : Int) != (bs.length : Int)) = false := by simp [hl]
    have HL : Hid (xs.length = bs.length) := hl
    clear hl
    go_enter Ydpm.func22, Ydpm.ntmps22
    go_wp2_with fail
    go_loopw [5] (fun i wr => ∃ (k : Nat), k ≤ xs.length ∧ i = .int .i64 k ∧ Hid (∀ j, j < k → nthE xs j = nthE bs j) ∧ BelowA w.heap.size w wr) (fun i _ => xs.length - (intOf i).toNat)
    case atStart => exact ⟨0, by omega, rfl, fun j hj => (by omega), BelowA.refl w⟩
    case round =>
      obtain ⟨k, hk, rfl, HE, hbr⟩ := hrel
      by_cases hlt : k < xs.length
      · have hlt2 : k < bs.length := by have := HL.out; omega
        obtain ⟨b, off, hbB, rfl, hc⟩ := Sl.pairsAt (hsa.below hbr.1) (by omega)
        obtain ⟨c1, c2⟩ := hc k hlt
        clear hc
        obtain ⟨b', off', hbB', rfl, hc'⟩ := Sl.pairsAt (hsb.below hbr.1) (by omega)
        obtain ⟨c3, c4⟩ := hc' k hlt2
        clear hc'
        have i1 : (0 : Int) ≤ (k : Int) := by omega
        have i2 : (k : Int) < (xs.length : Int) := by omega
        have i3 : (k : Int) < (bs.length : Int) := by omega
        by_cases hx : nthF xs k = nthF bs k ∧ nthT xs k = nthT bs k
        · have j1 : (nthF xs k == nthF bs k) = true := by simp [hx.1]
          have j2 : (nthT xs k == nthT bs k) = true := by simp [hx.2]
          have HX : Hid (nthE xs k = nthE bs k) := by show _ = _; unfold nthE; rw [hx.1, hx.2]
          clear hx
          go_wp2_with fail
          go_quiet (fail)
          go_wp2_with fail
          go_roundw
          case rel => exact ⟨k + 1, by omega, by simp, fun j hj => (by rcases Nat.lt_or_ge j k with h | h; exact HE.out j h; obtain rfl : j = k := (by omega); exact HX.out), hbr.drewN _⟩
          case measure => simp [intOf]; omega
        · have HX : Hid (¬ xs = bs) := fun h => hx (by rw [h]; exact ⟨rfl, rfl⟩)
          have hd : ((nthF xs k == nthF bs k) = false) ∨ ((nthF xs k == nthF bs k) = true ∧ (nthT xs k == nthT bs k) = false) := by
            by_cases h1 : nthF xs k = nthF bs k
            · exact .inr ⟨by simp [h1], by simp; exact fun h => hx ⟨h1, h⟩⟩
            · exact .inl (by simp [h1])
          clear hx
          rcases hd with j1 | ⟨j1, j2⟩
          all_goals
            go_wp2_with fail
            go_quiet (fail)
            go_wp2_with fail
            go_ret
            exact ⟨below_drewN hbr.1 _, by rw [decide_eq_false HX.out]; simp⟩
      · have HX : Hid (xs = bs) := ext_nthE HL.out (fun j hj => HE.out j (by omega))
        go_wp2_with fail
        go_ret
        exact ⟨hbr.1, by rw [decide_eq_true HX.out]; simp⟩
  · have i0 : ((xs.length : Int) != (bs.length : Int)) = true := by simp; omega
    have HX : Hid (¬ xs = bs) := fun h => hl (by rw [h])
    clear hl
    go_enter Ydpm.func22, Ydpm.ntmps22
    go_wp2_with fail
    go_ret
    exact ⟨Below.refl _ _, by rw [decide_eq_false HX.out]; simp⟩
end Go.Proofs.Ymbrdp
