/- IsCycle. -/
import Derived.Test.YmbrdrGRem
import Derived.Test.YmbrdrPeelPlain
import Derived.Test.YmbrdrPermDef
namespace Go.Proofs.Ymbrdr
open Go.ChangeShapes Go.WideShapes Go.ChangeAt Go.RowKit
set_option linter.unusedVariables false
set_option linter.unusedSimpArgs false
attribute [local go_sem ↓] Go.wp_at_zero Go.wp_at_succ

/-- the place behind i, around the ring -/
def nxt (l i : Nat) : Nat := (i + 1) % l
theorem nxt_lt {l i : Nat} (h : i < l) : nxt l i < l := Nat.mod_lt _ (by omega)
/-- a simple cycle -/
def IsCyc (es : List (Int × Int)) (xs : List Int) : Prop := 0 < xs.length ∧ (∀ i, i < xs.length → (nth xs i, nth xs (nxt xs.length i)) ∈ es) ∧ ∀ i j, i < j → j < xs.length → nth xs i ≠ nth xs j

def IsCycPost (es : List (Int × Int)) (xs : List Int) (w : World) (r : Ending) (w' : World) : Prop := Below w.heap.size w w' ∧ ∃ b : Bool, r = .returned (.bool b) ∧ (b = true ↔ IsCyc es xs)

set_option maxRecDepth 20000 in
set_option maxHeartbeats 4000000 in
theorem isCycle_any (n gb : Nat) (eo : Option Addr) (cap : Nat) (es : List (Int × Int)) (xs : List Int) (xo : Option Addr) (xc : Nat) (w : World) (hn : n ≤ 1000000) (hes : es.length ≤ 1000000) (hxs : xs.length ≤ 1000000) (hr : Rng n es) (hs : Srt es) (hg : Gr w w.heap.size gb n eo cap es) (hsx : Sl w w.heap.size xo xs.length xc 1 (cellsI xs)) :
    Calls Ydrm.prog 24 #[.pointer (some ⟨gb, 0, none⟩), .slice xo xs.length xc] w (IsCycPost es xs w) := by
  have HR : Hid (Rng n es) := hr
  have HS : Hid (Srt es) := hs
  clear hr hs
  have k0 := hg.c0
  go_enter Ydrm.func24, Ydrm.ntmps24
  go_wp2_with (at_make; refine wpl_makeB rfl _ _ rfl n _ _ (by rfl) (by rfl) rfl rfl (by omega) ?_; intro w1 ho1 hb1 hz1)
  go_loopw [15] (fun i wr => ∃ (k : Nat) (tk : List Bool), k ≤ xs.length ∧ i = .int .i64 k ∧ Hid (tk.length = n) ∧ Hid (∀ j, j < k → (nth xs j, nth xs (nxt xs.length j)) ∈ es) ∧ Hid (∀ i j, i < j → j < k → nth xs i ≠ nth xs j) ∧ Hid (∀ v : Nat, v < n → (nthB tk v = true ↔ ∃ j, j < k ∧ nth xs j = v)) ∧ OwnB wr w.heap.size n tk ∧ BelowA w.heap.size w wr) (fun i _ => xs.length - (intOf i).toNat)
  case atStart => exact ⟨0, List.replicate n false, by omega, rfl, by show _ = _; simp, fun j hj => (by omega), fun i j _ hj => (by omega), fun v hv => by rw [nthB_replicate hv]; exact ⟨fun h => (by cases h), fun ⟨j, hj, _⟩ => by omega⟩, ho1, hb1, by omega⟩
  case round =>
    obtain ⟨k, tk, hk, rfl, HL, HE, HD, HT, ho, hb⟩ := hrel
    have hz := ho.lt
    by_cases hlt : k < xs.length
    · obtain ⟨xb, off, hxB, rfl, hc⟩ := Sl.intsAt (hsx.below hb.1) (by omega)
      obtain ⟨q, HQ⟩ : ∃ q : Nat, Hid (q = nxt xs.length k) := ⟨_, rfl⟩
      have hq : q < xs.length := by rw [HQ.out]; exact nxt_lt hlt
      have c1 := hc k hlt
      have c2 := hc q hq
      clear hc
      have t1 : ((k : Int) + 1).tmod (xs.length : Int) = (q : Int) := by
        rw [HQ.out, Int.tmod_eq_emod_of_nonneg (by omega)]
        unfold nxt
        exact_mod_cast rfl
      have x0 : ¬ xs.length = 0 := by omega
      go_wp2_with fail
      refine (hasEdge_any gb n eo cap es (nth xs k) (nth xs q) _ (by omega) HS.out ((hg.below hb.1).mono hb.2)).mono ?_
      rintro e w2 ⟨hb2, rfl⟩
      clear t1
      have ho2 := ho.below hb2 hz
      have hbB := hb.next hb2
      by_cases hm : (nth xs k, nth xs q) ∈ es
      · rw [decide_eq_true hm]
        obtain ⟨kk, hkk, ekk⟩ := mem_nthE.1 hm
        obtain ⟨⟨a1, a2⟩, _⟩ := HR.out kk hkk
        have e1 : nthF es kk = nth xs k := congrArg Prod.fst ekk
        rw [e1] at a1 a2
        obtain ⟨v, hv⟩ := Int.eq_ofNat_of_zero_le a1
        have hvn : v < n := by omega
        have HV : Hid _ := hv
        have HMM : Hid _ := hm
        have hvl : v < tk.length := by have := HL.out; omega
        have m1 := ho2.cell v hvl
        have f1 := ho2.frozen v
        have j1 : (0 : Int) ≤ (v : Int) := by omega
        have j2 : (v : Int) < (n : Int) := by omega
        clear a1 a2 e1 ekk hkk hm
        rw [hv]
        clear hv
        cases hB : nthB tk v
        · rw [hB] at m1
          have HB : Hid _ := hB
          clear hB
          go_wp2_with fail
          go_roundw
          case rel =>
            refine ⟨k + 1, tk.set v true, by omega, by simp, by show _ = _; rw [List.length_set]; exact HL.out, fun j hj => ?_, fun i j hij hj => ?_, fun u hu => ?_, ho2.set v true, ?_, ?_⟩
            · rcases Nat.lt_or_ge j k with h | h
              · exact HE.out j h
              · obtain rfl : j = k := by omega
                rw [← HQ.out]; exact HMM.out
            · rcases Nat.lt_or_ge j k with h | h
              · exact HD.out i j hij h
              · obtain rfl : j = k := by omega
                intro he
                have := (HT.out v hvn).2 ⟨i, hij, by rw [he, HV.out]⟩
                rw [HB.out] at this
                cases this
            · rw [nthB_set hvl]
              split
              · rename_i h
                subst h
                exact ⟨fun _ => ⟨k, by omega, HV.out⟩, fun _ => rfl⟩
              · rename_i h
                rw [HT.out u hu]
                constructor
                · rintro ⟨j, hj, e⟩; exact ⟨j, by omega, e⟩
                · rintro ⟨j, hj, e⟩
                  rcases Nat.lt_or_ge j k with h' | h'
                  · exact ⟨j, h', e⟩
                  · obtain rfl : j = k := by omega
                    have := HV.out
                    rw [e] at this
                    exact absurd (by omega) h
            · exact hbB.1.trans ((but_setCell w.heap.size w2 v _).below (Nat.le_refl _) hbB.2)
            · rw [size_setCell]; exact hbB.2
          case measure => simp [intOf]; omega
        · rw [hB] at m1
          have HB : Hid _ := hB
          clear hB
          go_wp2_with fail
          go_ret
          refine ⟨hbB.1, false, by simp, fun h => (by cases h), fun h => ?_⟩
          obtain ⟨j, hj, e⟩ := (HT.out v hvn).1 HB.out
          exact absurd (by rw [e, HV.out]) (h.2.2 j k hj hlt)
      · rw [decide_eq_false hm]
        have HM : Hid (¬ IsCyc es xs) := fun h => hm (by have := h.2.1 k hlt; rw [← HQ.out] at this; exact this)
        clear hm
        go_wp2_with fail
        go_ret
        exact ⟨hbB.1, false, by simp, fun h => (by cases h), fun h => absurd h HM.out⟩
    · obtain rfl : k = xs.length := by omega
      go_wp2_with fail
      go_ret
      refine ⟨hb.1, decide (0 < xs.length), by simp, ?_⟩
      rw [decide_eq_true_iff]
      exact ⟨fun h => ⟨h, HE.out, HD.out⟩, fun h => h.1⟩
end Go.Proofs.Ymbrdr
