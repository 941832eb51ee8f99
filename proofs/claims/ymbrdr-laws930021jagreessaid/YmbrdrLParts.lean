/- zzs930021ledges, zzs930021llist, zzs930021llay. -/
import Derived.Test.YmbrdrBel
import Derived.Test.YmbrdrGAdd
import Derived.Deep.DeepCutAuto
namespace Go.Proofs.Ymbrdr
open Go.ChangeShapes Go.WideShapes Go.ChangeAt Go.RowKit
set_option linter.unusedVariables false
set_option linter.unusedSimpArgs false
attribute [local go_sem ↓] Go.wp_at_zero Go.wp_at_succ

theorem ownI_empty (w : World) : OwnI (w.alloc (.cells #[] 3)) w.heap.size 0 [] := by
  have := World.ownsRow_made (base := w.heap.size) (e := 3) (size := 1) w #[] 0 (Nat.le_refl _) (by unfold maxLen; omega) rfl
  exact this
theorem ownE_empty (w : World) : OwnE (w.alloc (.cells #[] 45)) w.heap.size 0 [] := by
  have := World.ownsRow_made (base := w.heap.size) (e := 45) (size := 2) w #[] 0 (Nat.le_refl _) (by unfold maxLen; omega) rfl
  exact this

def LListPost (len : Nat) (w : World) (r : Ending) (w' : World) : Prop := Below w.heap.size w w' ∧
  ∃ g cap xs, r = .returned (.slice (some ⟨g, 0, none⟩) (xs : List Int).length cap) ∧ OwnI w' g cap xs ∧ w.heap.size ≤ g ∧ xs.length ≤ len

set_option maxRecDepth 20000 in
set_option maxHeartbeats 4000000 in
theorem llist_any (n : Nat) (cs : List Int) (fold : Bool) (cc : Nat) (co : Option Addr) (w : World) (hn : n ≤ 100) (hcs : cs.length ≤ 100000) (hr : ∀ k, k < cs.length → -9223372036854775808 ≤ nth cs k ∧ nth cs k ≤ 9223372036854775807) (hs : Sl w w.heap.size co cs.length cc 1 (cellsI cs)) :
    Calls Ydrm.prog 30 #[.int .i64 n, .slice co cs.length cc, .bool fold] w (LListPost cs.length w) := by
  have HR : Hid _ := hr
  clear hr
  go_enter Ydrm.func30, Ydrm.ntmps30
  go_wp2_with fail
  have ho1 := ownI_empty w
  have hbA : BelowA w.heap.size w (w.alloc (.cells #[] 3)) := (BelowA.refl w).alloc _
  generalize w.alloc (.cells #[] 3) = W1 at *
  go_loopw [7, 13] (fun t i wr => ∃ (k g cap : Nat) (xs : List Int), k ≤ cs.length ∧ i = .int .i64 k ∧ t = .slice (some ⟨g, 0, none⟩) xs.length cap ∧ xs.length ≤ k ∧ OwnI wr g cap xs ∧ w.heap.size ≤ g ∧ BelowA w.heap.size w wr) (fun _ i _ => cs.length - (intOf i).toNat)
  case atStart => exact ⟨0, w.heap.size, 0, [], by omega, rfl, rfl, by simp, ho1, Nat.le_refl _, hbA⟩
  case round =>
    obtain ⟨k, g, cap, xs, hk, rfl, rfl, hxl, ho, hg, hb⟩ := hrel
    have hz := ho.lt
    by_cases hlt : k < cs.length
    · obtain ⟨b, off, hbB, rfl, hc⟩ := Sl.intsAt (hs.below hb.1) (by omega)
      have c1 := hc k hlt
      clear hc
      obtain ⟨r1, r2⟩ := HR.out k hlt
      go_upto_if 17 with fail
      go_cut [9] (fun t w' => ∃ y : Int, t = .int .i64 y ∧ wr = w')
      case first =>
        cases fold
        · go_wp2_with fail
          go_meet
          case rel => exact ⟨nth cs k, rfl, rfl⟩
        · obtain ⟨y, hy, hy1, hy2⟩ : ∃ y : Int, (nth cs k).tmod ((n : Int) + 1) = y ∧ -1000 ≤ y ∧ y ≤ 1000 := by
            have h1 := Int.tmod_lt_of_pos (nth cs k) (show 0 < (n : Int) + 1 by omega)
            have h2 : -((n : Int) + 1) < (nth cs k).tmod ((n : Int) + 1) := by
              have := Int.lt_tmod_of_pos (nth cs k) (show 0 < (n : Int) + 1 by omega)
              omega
            exact ⟨_, rfl, by omega, by omega⟩
          have n1 : ¬ ((n : Int) + 1 = 0) := by omega
          by_cases hneg : y < 0
          · have j1 : decide (y < 0) = true := by simp; omega
            go_wp2_with fail
            go_meet
            case rel => exact ⟨-y, rfl, rfl⟩
          · have j1 : decide (y < 0) = false := by simp; omega
            go_wp2_with fail
            go_meet
            case rel => exact ⟨y, rfl, rfl⟩
      case rest =>
      obtain ⟨y, rfl, rfl⟩ := hcut
      rename World => W4
      go_wp2_with (at_builtin; go_must (refine wpl_appIg rfl (.tmp 26) (.tmp 28) rfl g cap xs.length xs y (by rfl) rfl (ho.alloc _) W4.heap.size 1 (by rfl) (cell_new1 rfl) (by omega) ?_); intro g' cap' w8 ho8 hg8 hgg)
      have hgg' : w.heap.size ≤ g' := by
        rcases hgg with h | h
        · omega
        · rw [h, size_alloc]; have := hb.2; omega
      clear hgg
      go_roundw
      case rel => exact ⟨k + 1, g', cap', _, by omega, by simp, by simp, by simp; omega, ho8, hgg', (hb.alloc _).grown hg8 hg (by rw [size_alloc]; omega)⟩
      case measure => simp [intOf]; omega
    · go_wp2_with fail
      go_ret
      exact ⟨hb.1, g, cap, xs, by simp, ho, hg, by omega⟩

/-- all edges between 0 and n-1 -/
def InE (n : Nat) (es : List (Int × Int)) : Prop := ∀ x ∈ es, inB n x.1 x.2 = true
theorem InE.snoc {n : Nat} {es : List (Int × Int)} (h : InE n es) {x y : Int} (hx : inB n x y = true) : InE n (es ++ [(x, y)]) := by
  intro z hz
  rw [List.mem_append, List.mem_singleton] at hz
  rcases hz with hz | rfl
  · exact h z hz
  · exact hx
def LEdgesPost (n len : Nat) (w : World) (r : Ending) (w' : World) : Prop := Below w.heap.size w w' ∧
  ∃ g cap es, r = .returned (.slice (some ⟨g, 0, none⟩) (es : List (Int × Int)).length cap) ∧ OwnE w' g cap es ∧ InE n es ∧ w.heap.size ≤ g ∧ es.length ≤ len

set_option maxRecDepth 20000 in
set_option maxHeartbeats 4000000 in
theorem ledges_any (n : Nat) (rs : List (Int × Int)) (rc : Nat) (ro : Option Addr) (w : World) (hn : n ≤ 100) (hrs : rs.length ≤ 100000) (hr : ∀ k, k < rs.length → (0 ≤ nthF rs k ∧ nthF rs k ≤ 255) ∧ (0 ≤ nthT rs k ∧ nthT rs k ≤ 255)) (hs : Sl w w.heap.size ro rs.length rc 2 (cellsP .u8 rs)) :
    Calls Ydrm.prog 32 #[.int .i64 n, .slice ro rs.length rc] w (LEdgesPost n rs.length w) := by
  have HR : Hid _ := hr
  clear hr
  have ho1 := ownE_empty w
  have hbA : BelowA w.heap.size w (w.alloc (.cells #[] 45)) := (BelowA.refl w).alloc _
  by_cases h0 : n = 0
  · have i0 : decide ((n : Int) ≤ 0) = true := by simp; omega
    go_enter Ydrm.func32, Ydrm.ntmps32
    go_wp2_with fail
    go_ret
    exact ⟨hbA.1, w.heap.size, 0, [], by simp, ho1, fun x hx => by simp at hx, Nat.le_refl _, by simp⟩
  have i0 : decide ((n : Int) ≤ 0) = false := by simp; omega
  have hn0 : 0 < n := by omega
  go_enter Ydrm.func32, Ydrm.ntmps32
  go_wp2_with fail
  generalize w.alloc (.cells #[] 45) = W1 at *
  go_loopw [5, 14] (fun t i wr => ∃ (k g cap : Nat) (es : List (Int × Int)), k ≤ rs.length ∧ i = .int .i64 k ∧ t = .slice (some ⟨g, 0, none⟩) es.length cap ∧ es.length ≤ k ∧ Hid (InE n es) ∧ OwnE wr g cap es ∧ w.heap.size ≤ g ∧ BelowA w.heap.size w wr) (fun _ i _ => rs.length - (intOf i).toNat)
  case atStart => exact ⟨0, w.heap.size, 0, [], by omega, rfl, rfl, by simp, fun x hx => (by simp at hx), ho1, Nat.le_refl _, hbA⟩
  case round =>
    obtain ⟨k, g, cap, es, hk, rfl, rfl, hel, HE, ho, hg, hb⟩ := hrel
    have hz := ho.lt
    by_cases hlt : k < rs.length
    · obtain ⟨b, off, hbB, rfl, hc⟩ := Sl.pairsAt (hs.below hb.1) (by omega)
      obtain ⟨c1, c2⟩ := hc k hlt
      clear hc
      obtain ⟨⟨q1, q2⟩, q3, q4⟩ := HR.out k hlt
      have n0 : ¬ n = 0 := by omega
      obtain ⟨t1, v1, x1⟩ := rem_facts (nthF rs k) n q1 (by omega) hn0 (by omega)
      obtain ⟨t2, v2, x2⟩ := rem_facts (nthT rs k) n q3 (by omega) hn0 (by omega)
      have hxin : inB n (nthF rs k % n) (nthT rs k % n) = true := inB_true.2 ⟨Int.emod_nonneg _ (by omega), Int.emod_lt_of_pos _ (by omega), Int.emod_nonneg _ (by omega), Int.emod_lt_of_pos _ (by omega)⟩
      have HXIN : Hid _ := hxin
      clear hxin
      go_upto_region 7 with fail
      go_region_held3 (fun w' => w'.cell? ⟨wr.heap.size, 0, none⟩ = some (.int .u8 (nthF rs k)) ∧ w'.cell? ⟨wr.heap.size, 1, none⟩ = some (.int .u8 (nthT rs k)))
        (first
          | go_keep
          | (go_split_ands
             refine ⟨?_, ?_⟩
             · (rw [hg2.cell_far _ (by simp; omega) (by simp; omega)]; assumption)
             · (rw [hg2.cell_far _ (by simp; omega) (by simp; omega)]; assumption)))
        ((refine step_appEg rfl _ _ (by rfl) g cap es.length es (nthF rs k % n, nthT rs k % n) (by rfl) rfl (((ho.alloc _).alloc _).drewN 1) (wr.heap.size + 1) 1 (by rfl) (by exact cell_new2 (size_alloc _ _).symm) (by omega) ?_; intro g' cap' w2 ho2 hg2 hgg))
      rename_i hHeld
      clear hHeld t1 v1 x1 t2 v2 x2 q1 q2 q3 q4
      have hgg' : w.heap.size ≤ g' := by
        rcases hgg with h | h
        · omega
        · rw [h]; have := hb.2; show w.heap.size ≤ ((wr.alloc _).alloc _).heap.size; rw [size_alloc, size_alloc]; omega
      clear hgg
      go_wp2_with fail
      go_roundw
      case rel => exact ⟨k + 1, g', cap', _, by omega, by simp, by simp, by simp; omega, HE.out.snoc HXIN.out, ho2, hgg', (((hb.alloc _).alloc _).drew).grown hg2 hg (by show g < ((wr.alloc _).alloc _).heap.size; rw [size_alloc, size_alloc]; omega)⟩
      case measure => simp [intOf]; omega
    · go_wp2_with fail
      go_ret
      exact ⟨hb.1, g, cap, es, by simp, ho, HE.out, hg, by omega⟩
end Go.Proofs.Ymbrdr
