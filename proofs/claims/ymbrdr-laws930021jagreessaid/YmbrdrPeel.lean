/- (*Graph).peel: the walk. -/
import Derived.Test.YmbrdrPeelPlain
import Derived.Test.YmbrdrGr
import Derived.WalkSpells
import Derived.WalkSmall
import Derived.Deep.DeepCutAuto
namespace Go.Proofs.Ymbrdr
open Go.ChangeShapes Go.WideShapes Go.ChangeAt Go.RowKit
set_option linter.unusedVariables false
set_option linter.unusedSimpArgs false

theorem outs_le (es : List (Int × Int)) (v u : Int) (k : Nat) : outs es v u k ≤ k := by
  induction k with
  | zero => simp [outs]
  | succ k ih => rw [outs_succ]; split <;> omega

theorem peelAt_start {n : Nat} {es : List (Int × Int)} {ds : List Int} (hr : Rng n es) (hl : ds.length = n) (hd : ∀ v : Nat, v < n → nth ds v = live es (List.replicate n false) v es.length) :
    PeelAt n es [] (List.replicate n false) ds 0 :=
  ⟨by simp, hl, rfl, fun v hv => by rw [nthB_replicate hv]; exact ⟨fun h => (by cases h), fun h => (by obtain ⟨j, hj, _⟩ := h; simp at hj)⟩, fun i hi => by simp at hi, fun i hi => by simp at hi, fun i hi => by simp at hi, hd⟩

def PeelPost (n : Nat) (es : List (Int × Int)) (w : World) (e : Ending) (w' : World) : Prop := Below w.heap.size w w' ∧
  ∃ g1 g2 os tk, e = .returned (.tuple #[.slice (some ⟨g1, 0, none⟩) os.length n, .slice (some ⟨g2, 0, none⟩) n n]) ∧ OwnI w' g1 n os ∧ OwnB w' g2 n tk ∧ w.heap.size ≤ g1 ∧ w.heap.size ≤ g2 ∧ g1 ≠ g2 ∧ Peeled n es os tk

set_option maxRecDepth 20000 in
set_option maxHeartbeats 4000000 in
theorem peel_any (n gb : Nat) (eo : Option Addr) (cap : Nat) (es : List (Int × Int)) (w : World) (hn : n ≤ 1000000) (hes : es.length ≤ 1000000) (hr : Rng n es) (hg : Gr w w.heap.size gb n eo cap es) :
    Calls Ydrm.prog 36 #[.pointer (some ⟨gb, 0, none⟩)] w (PeelPost n es w) := by
  have HR : Hid (Rng n es) := hr
  clear hr
  have k0 := hg.c0
  have k1 := hg.c1
  go_enter Ydrm.func36, Ydrm.ntmps36
  go_wp2_with (at_make; refine wpl_makeI rfl _ _ rfl n _ _ (by rfl) (by rfl) rfl rfl (by omega) ?_; intro w1 ho1 hb1 hz1; have k0 := (hg.below hb1).c0; have k1 := (hg.below hb1).c1)
  go_loopw [23] (fun i wr => ∃ (k : Nat) (ds : List Int), k ≤ es.length ∧ i = .int .i64 k ∧ Hid (ds.length = n ∧ ∀ v : Nat, v < n → nth ds v = live es (List.replicate n false) v k) ∧ OwnI wr w.heap.size n ds ∧ Below w.heap.size w wr) (fun i _ => es.length - (intOf i).toNat)
  case atStart => exact ⟨0, _, by omega, rfl, ⟨by simp, fun v hv => by rw [nth_replicate hv]; simp [live]⟩, ho1, hb1⟩
  case round =>
    clear ho1 hb1 hz1 w1 k0 k1
    obtain ⟨k, ds, hk, rfl, HD, ho, hb⟩ := hrel
    by_cases hlt : k < es.length
    · obtain ⟨b, off, hbB, rfl, hc⟩ := Sl.pairsAt (hg.below hb).sl (by omega)
      obtain ⟨c1, c2⟩ := hc k hlt
      clear hc
      obtain ⟨t1, t2⟩ := (HR.out k hlt).2
      obtain ⟨m, hm⟩ := Int.eq_ofNat_of_zero_le t1
      rw [hm] at c2 t1 t2
      have HM : Hid (nthT es k = m) := hm
      clear hm
      have d1 := ho.cell m (by rw [HD.out.1]; omega)
      have f1 := ho.frozen m
      have hval := HD.out.2 m (by omega)
      have hll := live_le es (List.replicate n false) m k
      have hlt0 := ho.lt
      go_wp2_with fail
      go_roundw
      case rel =>
        refine ⟨k + 1, _, by omega, by go_num, ⟨?_, ?_⟩, (ho.set m _).alloc _, (hb.setCell (Nat.le_refl _) _).alloc (by simpa [World.setCell] using hb.size) _⟩
        · rw [List.length_set]; exact HD.out.1
        · intro v hv
          rw [nth_set (by rw [HD.out.1]; omega), live_succ]
          by_cases e : m = v
          · subst e
            rw [if_pos rfl, if_pos ⟨HM.out, by rw [nthB_replicate]; have := (HR.out k hlt).1; omega⟩]
            omega
          · rw [if_neg e, if_neg (by rintro ⟨h1, _⟩; rw [HM.out] at h1; omega)]
            exact HD.out.2 v hv
      case measure => simp [intOf]; omega
    · obtain rfl : k = es.length := by omega
      have hlt0 := ho.lt
      have hg1 := hg.below hb
      have hglt := hg.lt
      have k0 := hg1.c0
      have k1 := hg1.c1
      rename World => W1
      go_wp2_with (first
        | (at_make; refine wpl_makeI0 rfl (.const (.int .i64 0)) (.tmp 38) rfl n _ (by rfl) (by rfl) rfl (by omega) ?_; intro w2 ho2 hb2 hz2; have k0' := (hg1.below (hb2.mono hb.size)).c0)
        | (at_make; refine wpl_makeB rfl (.tmp 43) (.tmp 43) rfl n _ _ (by rfl) (by rfl) rfl rfl (by omega) ?_; intro w3 ho3 hb3 hz3))
      have hbw3 : Below w.heap.size w w3 := (hb.trans (hb2.mono hb.size)).trans (hb3.mono (by omega))
      have hd3 := (ho.below hb2 hlt0).below hb3 (by omega)
      have ho23 := ho2.below hb3 hz2
      have hat := peelAt_start HR.out HD.out.1 HD.out.2
      have HAT : Hid _ := hat
      clear hat ho ho2 hg1 k0 k1 k0' HD
      obtain ⟨g1, HG1⟩ : ∃ g1, Hid (g1 = W1.heap.size) := ⟨_, rfl⟩
      obtain ⟨g2, HG2⟩ : ∃ g2, Hid (g2 = w2.heap.size) := ⟨_, rfl⟩
      rw [← show g1 = W1.heap.size from HG1] at hz2 hlt0 ho23 ⊢
      rw [← show g2 = w2.heap.size from HG2] at hz2 hz3 ho3 ⊢
      clear hb2 hb3 HG1 HG2 hb W1 w2
      go_loopw [7, 9] (fun v7 v9 wr => ∃ (s : Nat) (os : List Int) (tk : List Bool) (ds : List Int), s ≤ n ∧ v9 = .int .i64 s ∧ v7 = .slice (some ⟨g1, 0, none⟩) s n ∧ Hid (PeelAt n es os tk ds s) ∧ OwnI wr w.heap.size n ds ∧ OwnI wr g1 n os ∧ OwnB wr g2 n tk ∧ Below w.heap.size w wr) (fun _ v9 _ => n - (intOf v9).toNat)
      case atStart => exact ⟨0, [], _, ds, by omega, rfl, rfl, HAT, hd3, ho23, ho3, hbw3⟩
      case round =>
        clear hd3 ho23 ho3 hbw3 hz3 HAT ds w3
        obtain ⟨s, os, tk, ds, hs, rfl, rfl, HA, hd, ho, ht, hb⟩ := hrel
        have hg1 := hg.below hb
        have k0 := hg1.c0
        have k1 := hg1.c1
        have hgl := hg.lt
        have l1 := hd.lt
        have l2 := ho.lt
        have l3 := ht.lt
        by_cases hsn : s < n
        · go_wp2_with fail
          go_loop [10] (fun v => ∃ j : Nat, j ≤ n ∧ v = .int .i64 j ∧ Hid (∀ u : Nat, u < j → ¬ Free es os os.length u)) (fun v => n - (intOf v).toNat)
          case atStart => exact ⟨0, by omega, rfl, fun u hu => by omega⟩
          case round =>
            obtain ⟨j, hj, rfl, HJ⟩ := hrel
            by_cases hjn : j < n
            · have c1 := ht.cell j (by rw [HA.out.tkl]; exact hjn)
              have c2 := hd.cell j (by rw [HA.out.dsl]; exact hjn)
              have hfi := HA.out.free_iff HR.out hjn
              have HF : Hid _ := hfi
              clear hfi
              rcases Bool.eq_false_or_eq_true (nthB tk j) with htk | htk
              · rw [htk] at c1
                have HN : Hid (¬ Free es os os.length j) := fun h => by have := (HF.out.1 h).1; rw [htk] at this; cases this
                clear htk HF
                go_wp2_with fail
                go_round
                case rel =>
                  refine ⟨j + 1, by omega, by go_num, fun u hu => ?_⟩
                  rcases Nat.lt_or_ge u j with h | h
                  · exact HJ.out u h
                  · obtain rfl : u = j := by omega
                    exact HN.out
                case measure => simp [intOf]; omega
              · rw [htk] at c1
                have HTK : Hid (nthB tk j = false) := htk
                clear htk
                by_cases hd0 : nth ds j = 0
                · have HFR : Hid (Free es os os.length j) := HF.out.2 ⟨HTK.out, hd0⟩
                  rw [hd0] at c2
                  clear hd0 HF
                  have hjn2 : ((j : Int) == (n : Int)) = false := by rw [beq_eq_false_iff_ne]; omega
                  have f1 := ht.frozen j
                  have hoA := ho.other (a := ⟨g2, j, none⟩) (by simp; omega) (.bool true)
                  have htA := ht.set j true
                  have hdA := hd.other (a := ⟨g2, j, none⟩) (by simp; omega) (.bool true)
                  have hbA := hb.setCell (p := ⟨g2, j, none⟩) (by simp; omega) (.bool true)
                  go_wp2_with (at_builtin; (refine wpl_appI rfl (.tmp 83) (.tmp 85) rfl g1 n s os j (by rfl) HA.out.osl.symm (hoA.alloc _) wr.heap.size 1 (by rfl) (cell_new1 (size_setCell _ _ _).symm) (by rw [HA.out.osl]; omega) ?_); intro w4 ho4 hg4; have hb4 := below_grown (hbA.alloc hbA.size _) hg4 (by omega) (by simp; omega); have k1' := (hg.below hb4).c1)
                  have ht4 := (htA.alloc (.cells #[.int .i64 j] 3)).grown hg4 (by simp; omega)
                  have hd4 := (hdA.alloc (.cells #[.int .i64 j] 3)).grown hg4 (by simp; omega)
                  have HDB : Hid (∀ u : Nat, u < n → 0 ≤ nth ds u ∧ nth ds u ≤ 1000000) := fun u hu => by
                    rw [HA.out.deg u hu]; have := live_le es tk u es.length; omega
                  clear hoA htA hdA hbA hg4 c1 c2 f1
                  go_loopw [92] (fun i w5 => ∃ (k : Nat) (dt : List Int), k ≤ es.length ∧ i = .int .i64 k ∧ Hid (dt.length = n ∧ ∀ u : Nat, u < n → nth dt u = nth ds u - outs es j u k) ∧ OwnI w5 w.heap.size n dt ∧ OwnI w5 g1 n (os ++ [(j : Int)]) ∧ OwnB w5 g2 n (tk.set j true) ∧ Below w.heap.size w w5) (fun i _ => es.length - (intOf i).toNat)
                  case atStart => exact ⟨0, ds, by omega, rfl, ⟨HA.out.dsl, fun u hu => by simp [outs]⟩, hd4, ho4, ht4, hb4⟩
                  case round =>
                    clear hd4 ho4 ht4 hb4 k1' w4
                    rename World => w5
                    obtain ⟨k, dt, hk, rfl, HT, hd5, ho5, ht5, hb5⟩ := hrel
                    by_cases hke : k < es.length
                    · obtain ⟨b, off, hbB, rfl, hc⟩ := Sl.pairsAt (hg.below hb5).sl (by omega)
                      obtain ⟨c1, c2⟩ := hc k hke
                      clear hc
                      obtain ⟨t1, t2⟩ := (HR.out k hke).2
                      obtain ⟨m, hm⟩ := Int.eq_ofNat_of_zero_le t1
                      rw [hm] at c2 t1 t2
                      have HM : Hid (nthT es k = m) := hm
                      clear hm
                      have d1 := hd5.cell m (by rw [HT.out.1]; omega)
                      have f1 := hd5.frozen m
                      have l5 := hd5.lt
                      have hbd1 : -1000000 ≤ nth dt m := by rw [HT.out.2 m (by omega)]; have := HDB.out m (by omega); have := outs_le es j m k; omega
                      have hbd2 : nth dt m ≤ 1000000 := by rw [HT.out.2 m (by omega)]; have := HDB.out m (by omega); omega
                      by_cases hfj : nthF es k = j
                      · have hfb : (nthF es k == (j : Int)) = true := by simp [hfj]
                        have HFJ : Hid (nthF es k = j) := hfj
                        clear hfj
                        go_wp2_with fail
                        go_roundw
                        case rel =>
                          refine ⟨k + 1, _, by omega, by go_num, ⟨?_, ?_⟩, (hd5.set m _).alloc _, (ho5.other (a := ⟨w.heap.size, m, none⟩) (by simp; omega) _).alloc _, (ht5.other (a := ⟨w.heap.size, m, none⟩) (by simp; omega) _).alloc _, (hb5.setCell (Nat.le_refl _) _).alloc (by simpa [World.setCell] using hb5.size) _⟩
                          · rw [List.length_set]; exact HT.out.1
                          · intro u hu
                            rw [nth_set (by rw [HT.out.1]; omega), outs_succ]
                            by_cases e : m = u
                            · subst e
                              rw [if_pos rfl, if_pos ⟨HFJ.out, HM.out⟩, HT.out.2 m (by omega)]
                              omega
                            · rw [if_neg e, if_neg (by rintro ⟨_, h1⟩; rw [HM.out] at h1; omega)]
                              exact HT.out.2 u hu
                        case measure => simp [intOf]; omega
                      · have hfb : (nthF es k == (j : Int)) = false := by simp [hfj]
                        have HFJ : Hid (¬ nthF es k = j) := hfj
                        clear hfj
                        go_wp2_with fail
                        go_roundw
                        case rel =>
                          refine ⟨k + 1, dt, by omega, by go_num, ⟨HT.out.1, ?_⟩, hd5.alloc _, ho5.alloc _, ht5.alloc _, hb5.alloc hb5.size _⟩
                          intro u hu
                          rw [outs_succ, if_neg (by rintro ⟨h1, _⟩; exact HFJ.out h1)]
                          exact HT.out.2 u hu
                        case measure => simp [intOf]; omega
                    · obtain rfl : k = es.length := by omega
                      go_wp2_with fail
                      go_roundw
                      case rel => exact ⟨s + 1, _, _, dt, by omega, by go_num, rfl, HA.out.step HR.out hjn HFR.out HJ.out HT.out.1 HT.out.2, hd5, ho5, ht5, hb5⟩
                      case measure => simp [intOf]; omega
                · have hd0' : (nth ds j != 0) = true := by simp [hd0]
                  have HN : Hid (¬ Free es os os.length j) := fun h => hd0 (HF.out.1 h).2
                  clear hd0 HF
                  go_wp2_with fail
                  go_round
                  case rel =>
                    refine ⟨j + 1, by omega, by go_num, fun u hu => ?_⟩
                    rcases Nat.lt_or_ge u j with h | h
                    · exact HJ.out u h
                    · obtain rfl : u = j := by omega
                      exact HN.out
                  case measure => simp [intOf]; omega
            · obtain rfl : j = n := by omega
              have hjn2 : ((j : Int) == (j : Int)) = true := by simp
              go_wp2_with fail
              go_ret2
              refine ⟨hb, g1, g2, os, tk, ?_, ho, ht, by omega, by omega, by omega, HA.out.done hs HJ.out⟩
              rw [HA.out.osl]; rfl
        · obtain rfl : s = n := by omega
          go_wp2_with fail
          go_ret2
          refine ⟨hb, g1, g2, os, tk, ?_, ho, ht, by omega, by omega, by omega, HA.out.done hs HA.out.full⟩
          rw [HA.out.osl]; rfl
end Go.Proofs.Ymbrdr
