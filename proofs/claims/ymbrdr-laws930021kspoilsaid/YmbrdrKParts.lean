/- zzs930021kcount and zzs930021kperm. -/
import Derived.Test.YmbrdrPerm
namespace Go.Proofs.Ymbrdr
open Go.ChangeShapes Go.WideShapes Go.ChangeAt Go.RowKit
set_option linter.unusedVariables false
set_option linter.unusedSimpArgs false

set_option maxHeartbeats 400000 in
theorem kcount_any (xs : List Int) (v : Int) (cap : Nat) (ao : Option Addr) (w : World) (hlen : xs.length ≤ 1000000) (hs : Sl w w.heap.size ao xs.length cap 1 (cellsI xs)) :
    Calls Ydrm.prog 28 #[.slice ao xs.length cap, .int .i64 v] w fun e w' => e = .returned (.int .i64 (cntTo xs v xs.length : Nat)) ∧ w' = w := by
  go_enter Ydrm.func28, Ydrm.ntmps28
  go_wp2_with fail
  go_loop [5, 6] (fun c i => ∃ k : Nat, k ≤ xs.length ∧ i = .int .i64 k ∧ c = .int .i64 (cntTo xs v k : Nat)) (fun _ i => xs.length - (intOf i).toNat)
  case atStart => exact ⟨0, by omega, rfl, rfl⟩
  case round =>
    obtain ⟨k, hk, rfl, rfl⟩ := hrel
    have hcl := cntTo_le xs v k
    by_cases hlt : k < xs.length
    · obtain ⟨b, off, hbB, rfl, hc⟩ := Sl.intsAt hs (by omega)
      have c1 := hc k hlt
      clear hc
      by_cases he : nth xs k = v
      · have HE : Hid (nth xs k = v) := he
        have hb : (nth xs k == v) = true := by simp [he]
        clear he
        go_wp2_with fail
        go_round
        case rel => exact ⟨k + 1, by omega, by go_num, by rw [cntTo_succ, if_pos HE.out]; go_num⟩
        case measure => simp [intOf]; omega
      · have HE : Hid (¬ nth xs k = v) := he
        have hb : (nth xs k == v) = false := by simp [he]
        clear he
        go_wp2_with fail
        go_round
        case rel => exact ⟨k + 1, by omega, by go_num, by rw [cntTo_succ, if_neg HE.out]; go_num⟩
        case measure => simp [intOf]; omega
    · obtain rfl : k = xs.length := by omega
      go_wp2_with fail
      go_ret
      exact ⟨rfl, rfl⟩

theorem perm_swap {xs : List Int} {i j : Nat} (h : IsPerm xs.length xs) (hi : i < xs.length) (hj : j < xs.length) : IsPerm xs.length ((xs.set i (nth xs j)).set j (nth xs i)) := by
  have hl : ((xs.set i (nth xs j)).set j (nth xs i)).length = xs.length := by simp
  have hn : ∀ m, nth ((xs.set i (nth xs j)).set j (nth xs i)) m = if j = m then nth xs i else if i = m then nth xs j else nth xs m := by
    intro m
    rw [nth_set (by simpa using hj), nth_set hi]
  refine ⟨by rw [hl], fun m hm => ?_, fun a b hab hb => ?_⟩
  · rw [hl] at hm
    rw [hn]
    split
    · exact h.2.1 i hi
    · split
      · exact h.2.1 j hj
      · exact h.2.1 m hm
  · rw [hl] at hb
    rw [hn, hn]
    intro e
    have key : ∀ {x y : Nat}, x < xs.length → y < xs.length → nth xs x = nth xs y → x = y := fun hx hy e => h.inj hx hy e
    split at e <;> split at e <;> (try split at e) <;> (try split at e)
    all_goals first
      | omega
      | (have := key (by omega) (by omega) e; omega)

theorem perm_range (n : Nat) (ps : List Int) (hl : ps.length = n) (h : ∀ i, i < n → nth ps i = i) : IsPerm n ps := by
  subst hl
  refine ⟨rfl, fun i hi => by rw [h i hi]; omega, fun i j hij hj e => ?_⟩
  rw [h i (by omega), h j hj] at e
  omega

set_option maxHeartbeats 1000000 in
theorem kperm_any (rs : List Int) (cap : Nat) (ao : Option Addr) (w : World) (hlen : rs.length ≤ 1000000) (hr : ∀ x ∈ rs, 0 ≤ x ∧ x ≤ 18446744073709551615) (hs : Sl w w.heap.size ao rs.length cap 1 (cellsK .u64 rs)) :
    Calls Ydrm.prog 29 #[.slice ao rs.length cap] w fun e w' => ∃ g ps, e = .returned (.slice (some ⟨g, 0, none⟩) rs.length rs.length) ∧ OwnI w' g rs.length ps ∧ ps.length = rs.length ∧ IsPerm rs.length ps ∧ w.heap.size ≤ g ∧ Below w.heap.size w w' := by
  have hrn : Hid (∀ k, k < rs.length → 0 ≤ nth rs k ∧ nth rs k ≤ 18446744073709551615) := fun k hk => by rw [nth_eq hk]; exact hr _ (List.getElem_mem hk)
  clear hr
  go_enter Ydrm.func29, Ydrm.ntmps29
  go_wp2_with (at_make; refine wpl_makeI rfl _ _ rfl rs.length _ _ (by rfl) (by rfl) rfl rfl (by omega) ?_; intro w1 ho1 hb1 hz1)
  go_loopw [4] (fun i wr => ∃ (k : Nat) (zs : List Int), k ≤ rs.length ∧ i = .int .i64 k ∧ Hid (zs.length = rs.length ∧ ∀ j : Nat, j < k → nth zs j = j) ∧ OwnI wr w.heap.size rs.length zs ∧ Below w.heap.size w wr) (fun i _ => rs.length - (intOf i).toNat)
  case atStart => exact ⟨0, _, by omega, rfl, ⟨by simp, fun j hj => by omega⟩, ho1, hb1⟩
  case round =>
    clear ho1 hb1 hz1 w1
    obtain ⟨k, zs, hk, rfl, HZ, ho, hb⟩ := hrel
    by_cases hlt : k < rs.length
    · have c1 := ho.cell k (by rw [HZ.out.1]; exact hlt)
      have f1 := ho.frozen k
      go_wp2_with fail
      go_roundw
      case rel =>
        refine ⟨k + 1, zs.set k k, by omega, by go_num, ⟨by rw [List.length_set]; exact HZ.out.1, fun j hj => ?_⟩, ho.set k _, hb.setCell (Nat.le_refl _) _⟩
        rw [nth_set (by rw [HZ.out.1]; exact hlt)]
        split
        · subst_vars; rfl
        · exact HZ.out.2 j (by omega)
      case measure => simp [intOf]; omega
    · obtain rfl : k = rs.length := by omega
      go_wp2_with fail
      go_loopw [5] (fun i wr => ∃ (k : Nat) (ps : List Int), k ≤ rs.length ∧ i = .int .i64 k ∧ Hid (ps.length = rs.length ∧ IsPerm rs.length ps) ∧ OwnI wr w.heap.size rs.length ps ∧ Below w.heap.size w wr) (fun i _ => rs.length - (intOf i).toNat)
      case atStart => exact ⟨0, zs, by omega, rfl, ⟨HZ.out.1, perm_range _ _ HZ.out.1 HZ.out.2⟩, ho, hb⟩
      case round =>
        clear ho hb HZ zs
        obtain ⟨k, ps, hk, rfl, HP, ho, hb⟩ := hrel
        by_cases hlt : k < rs.length
        · obtain ⟨b, off, hbB, rfl, hc⟩ := Sl.intsAt (hs.below hb) (by omega)
          have c1 := hc k hlt
          clear hc
          obtain ⟨p1, p2⟩ := hrn.out k hlt
          have c2 := ho.cell k (by rw [HP.out.1]; exact hlt)
          have f2 := ho.frozen k
          obtain ⟨j, hj, hjk⟩ : ∃ j : Nat, nth rs k % ((k : Int) + 1) = (j : Int) ∧ j ≤ k := by
            have h1 := Int.emod_nonneg (nth rs k) (show (k : Int) + 1 ≠ 0 by omega)
            have h2 := Int.emod_lt_of_pos (nth rs k) (show 0 < (k : Int) + 1 by omega)
            exact ⟨(nth rs k % ((k : Int) + 1)).toNat, by omega, by omega⟩
          have c3 := ho.cell j (by rw [HP.out.1]; omega)
          have f3 := ho.frozen j
          have HO : Hid (OwnI ((wr.setCell ⟨w.heap.size, k, none⟩ (.int .i64 (nth ps j))).setCell ⟨w.heap.size, j, none⟩ (.int .i64 (nth ps k))) w.heap.size rs.length ((ps.set k (nth ps j)).set j (nth ps k))) := (ho.set k _).set j _
          obtain ⟨v3, hv3⟩ := cell?_setCell_some (w := wr) (p := ⟨w.heap.size, k, none⟩) (x := .int .i64 (nth ps j)) (q := ⟨w.heap.size, j, none⟩) c3
          go_wp2_with fail
          go_roundw
          case rel =>
            refine ⟨k + 1, _, by omega, by go_num, ⟨by simp; exact HP.out.1, ?_⟩, HO.out, (hb.setCell (Nat.le_refl _) _).setCell (Nat.le_refl _) _⟩
            have h1 := HP.out.1
            have h2 := HP.out.2
            rw [← h1] at h2 ⊢
            exact perm_swap h2 (by omega) (by omega)
          case measure => simp [intOf]; omega
        · obtain rfl : k = rs.length := by omega
          go_wp2_with fail
          go_ret
          exact ⟨w.heap.size, ps, rfl, ho, HP.out.1, HP.out.2, Nat.le_refl _, hb⟩
end Go.Proofs.Ymbrdr
