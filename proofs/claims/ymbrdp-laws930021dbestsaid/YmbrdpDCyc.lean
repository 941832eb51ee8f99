/- zzs930021dcyclic. -/
import Derived.Test.YmbrdpBel
import Derived.Test.YmbrdpPeelMore
import Derived.BigQuiet
import Derived.RegionTactic
import Derived.ChangeAlike
import Derived.BigRegion
namespace Go.Proofs.Ymbrdp
open Go.ChangeShapes Go.WideShapes Go.ChangeAt Go.RowKit
set_option linter.unusedVariables false
set_option linter.unusedSimpArgs false
attribute [local go_sem ↓] Go.wp_at_zero Go.wp_at_succ

/-- a rank that every edge raises, below n -/
def Rank (n : Nat) (es : List (Int × Int)) (p : Nat → Nat) : Prop := ∀ k, k < es.length → p (nthF es k).toNat < p (nthT es k).toNat ∧ p (nthT es k).toNat < n
/-- the edge does not want raising -/
def Okay (es : List (Int × Int)) (ls : List Int) (k : Nat) : Prop := nth ls (nthF es k).toNat + 1 ≤ nth ls (nthT es k).toNat
/-- behind r rounds and k edges: what a rank p warrants -/
def Settled (es : List (Int × Int)) (ls : List Int) (p : Nat → Nat) (r k : Nat) : Prop := ∀ j, j < es.length → (p (nthT es j).toNat ≤ r ∨ (p (nthT es j).toNat ≤ r + 1 ∧ j < k)) → Okay es ls j

theorem Settled.keep {n : Nat} {es : List (Int × Int)} {ls : List Int} {p : Nat → Nat} {r k : Nat} (h : Settled es ls p r k) (hk : Okay es ls k) : Settled es ls p r (k + 1) := by
  intro j hj hc
  rcases Nat.lt_trichotomy j k with h' | h' | h'
  · exact h j hj (by omega)
  · subst h'; exact hk
  · exact h j hj (by omega)
theorem Settled.raise {n : Nat} {es : List (Int × Int)} {ls : List Int} {p : Nat → Nat} {r k : Nat} (h : Settled es ls p r k) (hp : Rank n es p) (hk : k < es.length) (hno : ¬ Okay es ls k) {x y : Nat} (hx : nthF es k = x) (hy : nthT es k = y) (hyl : y < ls.length) :
    Settled es (ls.set y (nth ls x + 1)) p r (k + 1) := by
  intro j hj hc
  have e1 : (nthF es k).toNat = x := by omega
  have e2 : (nthT es k).toNat = y := by omega
  have hpk := hp k hk
  have hpj := hp j hj
  rw [e1, e2] at hpk
  have hno' : nth ls y < nth ls x + 1 := by unfold Okay at hno; rw [e1, e2] at hno; omega
  have hpy : ¬ p y ≤ r := fun hle => hno (h k hk (.inl (by rw [e2]; exact hle)))
  unfold Okay
  rw [nth_set hyl, nth_set hyl]
  by_cases hjk : j = k
  · subst hjk
    rw [e1, e2, if_pos rfl]
    split
    · rename_i e; rw [e] at hpk; omega
    · omega
  · have hjo : Okay es ls j := h j hj (by omega)
    unfold Okay at hjo
    by_cases h1 : y = (nthF es j).toNat
    · rw [← h1] at hpj
      omega
    · rw [if_neg h1]
      split
      · rename_i e; rw [← e] at hjo; omega
      · exact hjo
theorem Settled.next {es : List (Int × Int)} {ls : List Int} {p : Nat → Nat} {r : Nat} (h : Settled es ls p r es.length) : Settled es ls p (r + 1) 0 := fun j hj hc => h j hj (by omega)

theorem prod_le {r n k m N M : Nat} (hr : r < n) (hk : k ≤ m) (hn : n ≤ N) (hm : m ≤ M) : r * m + k ≤ N * M := by
  have h1 : r * m + m = (r + 1) * m := by rw [Nat.add_mul, Nat.one_mul]
  have h2 : (r + 1) * m ≤ N * M := Nat.mul_le_mul (by omega) hm
  omega

def DCycPost (n : Nat) (es : List (Int × Int)) (w : World) (r : Ending) (w' : World) : Prop := Below w.heap.size w w' ∧
  ∃ b : Bool, r = .returned (.bool b) ∧ (b = true → ∀ p, ¬ Rank n es p) ∧ (b = false → ∃ ls : List Int, (∀ v, v < n → 0 ≤ nth ls v) ∧ ∀ k, k < es.length → Okay es ls k)

set_option maxRecDepth 20000 in
set_option maxHeartbeats 4000000 in
theorem dcyc_any (n : Nat) (es : List (Int × Int)) (ec : Nat) (eo : Option Addr) (w : World) (hn : n ≤ 1000) (hes : es.length ≤ 2000) (hr : Rng n es) (hse : Sl w w.heap.size eo es.length ec 2 (cellsE es)) :
    Calls Ydpm.prog 26 #[.int .i64 n, .slice eo es.length ec] w (DCycPost n es w) := by
  have HR : Hid (Rng n es) := hr
  clear hr
  go_enter Ydpm.func26, Ydpm.ntmps26
  go_wp2_with (at_make; refine wpl_makeI rfl _ _ rfl n _ _ (by rfl) (by rfl) rfl rfl (by omega) ?_; intro w1 ho1 hb1 hz1)
  have hbA : BelowA w.heap.size w w1 := ⟨hb1, by omega⟩
  clear hb1 hz1
  go_loopw [6] (fun i wr => ∃ (k : Nat) (ls : List Int), k ≤ n ∧ i = .int .i64 k ∧ Hid (ls.length = n) ∧ Hid (∀ v, v < n → 0 ≤ nth ls v ∧ nth ls v ≤ (k * es.length : Nat)) ∧ Hid (∀ p, Rank n es p → Settled es ls p k 0) ∧ OwnI wr w.heap.size n ls ∧ BelowA w.heap.size w wr) (fun i _ => n - (intOf i).toNat)
  case atStart => exact ⟨0, _, by omega, rfl, by show _ = _; simp, fun v hv => by rw [nth_replicate hv]; omega, fun p hp j hj hc => by have := hp j hj; omega, ho1, hbA⟩
  case round =>
    obtain ⟨r, ls, hrn, rfl, HL, HB, HS, ho, hb⟩ := hrel
    have hz := ho.lt
    by_cases hlt : r < n
    · clear ho1 hbA
      go_wp2_with fail
      go_loopw [20] (fun i wr => ∃ (k : Nat) (ls : List Int), k ≤ es.length ∧ i = .int .i64 k ∧ Hid (ls.length = n) ∧ Hid (∀ v, v < n → 0 ≤ nth ls v ∧ nth ls v ≤ (r * es.length + k : Nat)) ∧ Hid (∀ p, Rank n es p → Settled es ls p r k) ∧ OwnI wr w.heap.size n ls ∧ BelowA w.heap.size w wr) (fun i _ => es.length - (intOf i).toNat)
      case atStart => exact ⟨0, ls, by omega, rfl, HL, HB, HS, ho, hb⟩
      case round =>
        clear HL HB HS ho hb hz
        obtain ⟨k, ls, hk, rfl, HL, HB, HS, ho, hb⟩ := hrel
        have hz := ho.lt
        by_cases hlt2 : k < es.length
        · obtain ⟨eb, off, heB, rfl, hc⟩ := Sl.pairsAt (hse.below hb.1) (by omega)
          obtain ⟨c1, c2⟩ := hc k hlt2
          clear hc
          obtain ⟨⟨s1, s2⟩, t1, t2⟩ := HR.out k hlt2
          obtain ⟨x, hx⟩ := Int.eq_ofNat_of_zero_le s1
          obtain ⟨y, hy⟩ := Int.eq_ofNat_of_zero_le t1
          rw [hx] at c1 s1 s2
          rw [hy] at c2 t1 t2
          have HX : Hid _ := hx
          have HY : Hid _ := hy
          clear hx hy
          have hxn : x < n := by omega
          have hyn : y < n := by omega
          have d1 := ho.cell x (by rw [HL.out]; omega)
          have d2 := ho.cell y (by rw [HL.out]; omega)
          have f1 := ho.frozen y
          obtain ⟨a, ha⟩ : ∃ a, nth ls x = a := ⟨_, rfl⟩
          obtain ⟨b, hbb⟩ : ∃ b, nth ls y = b := ⟨_, rfl⟩
          have hba := HB.out x hxn
          have hbb2 := HB.out y hyn
          have hpl := prod_le hlt hk hn hes
          rw [ha] at d1 hba
          rw [hbb] at d2 hbb2
          have HA : Hid _ := ha
          have HBB : Hid _ := hbb
          have a1 : 0 ≤ a ∧ a ≤ 2000000 := by omega
          have b1 : 0 ≤ b ∧ b ≤ 2000000 := by omega
          clear ha hbb hba hbb2 hpl
          have heb : eb < wr.heap.size := by have := hb.2; omega
          go_upto_region 8 with fail
          by_cases hw : b < a + 1
          · have i1 : decide (b < a + 1) = true := by simp; omega
            have i2 : b ≤ a := by omega
            go_quiet (fail)
            go_wp2_with fail
            have ho3 := (ho.alloc (.cells #[.int .i64 (x : Int), .int .i64 (y : Int)] 36)).drewN nq
            have hb3 := (hb.alloc (.cells #[.int .i64 (x : Int), .int .i64 (y : Int)] 36)).drewN nq
            have g1 : ((wr.alloc (.cells #[.int .i64 (x : Int), .int .i64 (y : Int)] 36)).drewN nq).cell? ⟨wr.heap.size, 0, none⟩ = some (.int .i64 (x : Int)) := World.cell?_alloc_at _ _ _ _ rfl
            have g2 : ((wr.alloc (.cells #[.int .i64 (x : Int), .int .i64 (y : Int)] 36)).drewN nq).cell? ⟨wr.heap.size, 1, none⟩ = some (.int .i64 (y : Int)) := World.cell?_alloc_at _ _ _ _ rfl
            generalize (wr.alloc (.cells #[.int .i64 (x : Int), .int .i64 (y : Int)] 36)).drewN nq = W3 at *
            have e1 := ho3.cell x (by rw [HL.out]; omega)
            have e2 := ho3.frozen y
            have e3 := ho3.cell y (by rw [HL.out]; omega)
            rw [HA.out] at e1
            rw [HBB.out] at e3
            clear d1 d2 f1 c1 c2 i1
            go_region
            go_wp2_with fail
            go_roundw
            case rel =>
              refine ⟨k + 1, ls.set y (a + 1), by omega, by simp, by show _ = _; rw [List.length_set]; exact HL.out, fun v hv => ?_, fun p hp => ?_, (ho3.drewN 1).set y _, (hb3.drewN 1).1.setCell (Nat.le_refl _) _, by show _ ≤ (W3.setCell _ _).heap.size; rw [size_setCell]; exact hb3.2⟩
              · rw [nth_set (by rw [HL.out]; exact hyn)]
                split
                · have := HB.out x hxn
                  rw [HA.out] at this
                  omega
                · have := HB.out v hv; omega
              · rw [← HA.out]
                refine (HS.out p hp).raise hp hlt2 (fun h => ?_) HX.out HY.out (by rw [HL.out]; exact hyn)
                unfold Okay at h
                rw [HX.out, HY.out] at h
                have h' : nth ls x + 1 ≤ nth ls y := h
                rw [HA.out, HBB.out] at h'
                omega
            case measure => simp [intOf]; omega
          · have i1 : decide (b < a + 1) = false := by simp; omega
            have i2 : ¬ b ≤ a := by omega
            go_quiet (fail)
            go_wp2_with fail
            go_roundw
            case rel =>
              refine ⟨k + 1, ls, by omega, by simp, HL, fun v hv => ?_, fun p hp => (HS.out p hp).keep (n := n) ?_, (ho.alloc _).drewN _, (hb.alloc _).drewN _⟩
              · have := HB.out v hv; omega
              · unfold Okay
                rw [HX.out, HY.out]
                show nth ls x + 1 ≤ nth ls y
                rw [HA.out, HBB.out]; omega
            case measure => simp [intOf]; omega
        · obtain rfl : k = es.length := by omega
          go_wp2_with fail
          go_roundw
          case rel =>
            refine ⟨r + 1, ls, by omega, by simp, HL, fun v hv => ?_, fun p hp => (HS.out p hp).next, ho, hb⟩
            have := HB.out v hv
            rw [Nat.add_mul, Nat.one_mul]; exact this
          case measure => simp [intOf]; omega
    · obtain rfl : r = n := by omega
      clear ho1 hbA hlt hrn
      have HS2 : Hid (∀ p, Rank r es p → ∀ k, k < es.length → Okay es ls k) := fun p hp k hk => HS.out p hp k hk (.inl (Nat.le_of_lt (hp k hk).2))
      have HB2 : Hid (∀ v, v < r → 0 ≤ nth ls v ∧ nth ls v ≤ 2000000) := fun v hv => by
        have h1 := HB.out v hv
        have h2 : r * es.length ≤ 1000 * 2000 := Nat.mul_le_mul hn hes
        omega
      clear HS HB
      go_wp2_with fail
      go_loopw [49] (fun i wr => ∃ (k : Nat), k ≤ es.length ∧ i = .int .i64 k ∧ Hid (∀ j, j < k → Okay es ls j) ∧ OwnI wr w.heap.size r ls ∧ BelowA w.heap.size w wr) (fun i _ => es.length - (intOf i).toNat)
      case atStart => exact ⟨0, by omega, rfl, fun j hj => by omega, ho, hb⟩
      case round =>
        clear ho hb hz
        obtain ⟨k, hk, rfl, HK, ho, hb⟩ := hrel
        have hz := ho.lt
        by_cases hlt2 : k < es.length
        · obtain ⟨eb, off, heB, rfl, hc⟩ := Sl.pairsAt (hse.below hb.1) (by omega)
          obtain ⟨c1, c2⟩ := hc k hlt2
          clear hc
          obtain ⟨⟨s1, s2⟩, t1, t2⟩ := HR.out k hlt2
          obtain ⟨x, hx⟩ := Int.eq_ofNat_of_zero_le s1
          obtain ⟨y, hy⟩ := Int.eq_ofNat_of_zero_le t1
          rw [hx] at c1 s1 s2
          rw [hy] at c2 t1 t2
          have HX : Hid _ := hx
          have HY : Hid _ := hy
          clear hx hy
          have hxn : x < r := by omega
          have hyn : y < r := by omega
          have d1 := ho.cell x (by rw [HL.out]; omega)
          have d2 := ho.cell y (by rw [HL.out]; omega)
          obtain ⟨a, ha⟩ : ∃ a, nth ls x = a := ⟨_, rfl⟩
          obtain ⟨b, hbb⟩ : ∃ b, nth ls y = b := ⟨_, rfl⟩
          have a1 := HB2.out x hxn
          have b1 := HB2.out y hyn
          rw [ha] at d1 a1
          rw [hbb] at d2 b1
          have HA : Hid _ := ha
          have HBB : Hid _ := hbb
          clear ha hbb
          have heb : eb < wr.heap.size := by have := hb.2; omega
          have HOK : Hid (Okay es ls k ↔ a + 1 ≤ b) := by
            show _ ↔ _
            unfold Okay
            rw [HX.out, HY.out, ← HA.out, ← HBB.out]
            exact Iff.rfl
          go_upto_region 14 with fail
          by_cases hw : b < a + 1
          · have i1 : decide (b < a + 1) = true := by simp; omega
            have i2 : b ≤ a := by omega
            go_quiet (fail)
            go_wp2_with fail
            go_ret
            exact ⟨((hb.alloc _).drewN _).1, true, by simp, fun _ p hp => by have := HOK.out.1 (HS2.out p hp k hlt2); omega, fun h => by cases h⟩
          · have i1 : decide (b < a + 1) = false := by simp; omega
            have i2 : ¬ b ≤ a := by omega
            go_quiet (fail)
            go_wp2_with fail
            go_roundw
            case rel =>
              refine ⟨k + 1, by omega, by simp, fun j hj => ?_, (ho.alloc _).drewN _, (hb.alloc _).drewN _⟩
              rcases Nat.lt_or_ge j k with h | h
              · exact HK.out j h
              · obtain rfl : j = k := by omega
                exact HOK.out.2 (by omega)
            case measure => simp [intOf]; omega
        · obtain rfl : k = es.length := by omega
          go_wp2_with fail
          go_ret
          exact ⟨hb.1, false, by simp, fun h => (by cases h), fun _ => ⟨ls, fun v hv => (HB2.out v hv).1, HK.out⟩⟩
end Go.Proofs.Ymbrdp
