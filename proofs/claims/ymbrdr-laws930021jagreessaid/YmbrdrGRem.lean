/- HasEdge, RemoveEdge. -/
import Derived.Test.YmbrdrGAdd
namespace Go.Proofs.Ymbrdr
open Go.ChangeShapes Go.WideShapes Go.ChangeAt Go.RowKit
set_option linter.unusedVariables false
set_option linter.unusedSimpArgs false
attribute [local go_sem ↓] Go.wp_at_zero Go.wp_at_succ

def HasPost (es : List (Int × Int)) (u v : Int) (w : World) (r : Ending) (w' : World) : Prop := Below w.heap.size w w' ∧ r = .returned (.bool (decide ((u, v) ∈ es)))

set_option maxRecDepth 20000 in
set_option maxHeartbeats 4000000 in
theorem hasEdge_any (gb : Nat) (n : Int) (eo : Option Addr) (cap : Nat) (es : List (Int × Int)) (u v : Int) (w : World) (hes : es.length ≤ 100000000) (hs : Srt es) (hg : Gr w w.heap.size gb n eo cap es) :
    Calls Ydrm.prog 37 #[.pointer (some ⟨gb, 0, none⟩), .int .i64 u, .int .i64 v] w (HasPost es u v w) := by
  have k1 := hg.c1
  have hgl := hg.lt
  have HS : Hid (Srt es) := hs
  clear hs
  go_enter Ydrm.func37, Ydrm.ntmps37
  go_wp2_with fail
  refine (find_any es u v cap eo _ (by omega) hg.sl).mono ?_
  rintro e w2 ⟨hb2, lo, ok, rfl, hf⟩
  have h3 := (findAt_srt HS.out hf).2.2
  clear hf
  have HM : Hid (ok = decide ((u, v) ∈ es)) := by show _ = _; rw [Bool.eq_iff_iff, decide_eq_true_iff, h3]
  clear h3
  go_wp2_with fail
  go_ret
  exact ⟨hb2, by rw [← HM.out]; simp⟩

/-- the edges behind RemoveEdge -/
def RemPost (gb : Nat) (n : Int) (eo : Option Addr) (cap : Nat) (es : List (Int × Int)) (u v : Int) (w : World) (r : Ending) (w' : World) : Prop :=
  But gb w w' ∧ ∃ eo' cap', r = .returned (.bool (decide ((u, v) ∈ es))) ∧ GrW w' gb n eo' cap' (delE es (u, v)) ∧ NewOr w w' eo cap eo' cap'

set_option maxRecDepth 20000 in
set_option maxHeartbeats 4000000 in
theorem removeEdge_any (gb : Nat) (n : Int) (eo : Option Addr) (cap : Nat) (es : List (Int × Int)) (u v : Int) (w : World) (hes : es.length ≤ 100000000) (hs : Srt es) (hg : GrW w gb n eo cap es) :
    Calls Ydrm.prog 34 #[.pointer (some ⟨gb, 0, none⟩), .int .i64 u, .int .i64 v] w (RemPost gb n eo cap es u v w) := by
  have k0 := hg.gr.c0
  have k1 := hg.gr.c1
  have hgl := hg.gr.lt
  have HS : Hid (Srt es) := hs
  clear hs
  go_enter Ydrm.func34, Ydrm.ntmps34
  go_wp2_with fail
  refine (find_any es u v cap eo _ (by omega) hg.gr.sl).mono ?_
  rintro e w2 ⟨hb2, lo, ok, rfl, hf⟩
  have hle := hf.le
  have hokl : ok = true → lo < es.length := fun h => (hf.ok_iff.1 h).1
  have HF : Hid (FindAt es (u, v) lo ok) := hf
  clear hf
  have hG2 := hg.below hb2
  have r1 := hG2.gr.c1
  have hz2 := hb2.size
  cases ok
  · clear hokl
    go_wp2_with fail
    go_ret
    have hni : ¬ (u, v) ∈ es := fun hm => by have := (findAt_srt HS.out HF.out).2.2.2 hm; cases this
    exact ⟨but_below gb hb2, eo, cap, by rw [decide_eq_false hni]; simp, by rw [delE_not hni]; exact hG2, .inl ⟨rfl, rfl⟩⟩
  · have hlt := hokl rfl
    clear hokl
    have hcap := hg.gr.sl.le
    have hcapb : (lo : Int) ≤ cap := by omega
    have hcapc : (lo : Int) + 1 ≤ cap := by omega
    have hcapd : (lo : Int) + 1 ≤ es.length := by omega
    have hgl2 : gb < w2.heap.size := by omega
    go_wp2_with (first
        | (at_make; refine wpl_makeE0 rfl _ _ rfl (es.length - 1) _ (by rfl) (by rfl) (by omega) (by omega) ?_; intro w3 ho3 hb4 hz3
           have hG3 := hG2.below hb4
           have k13 := hG3.gr.c1)
        | (at_builtin; (refine wpl_app 30 45 _ 2 16 Ydrm.underlying30 infoEdge rfl (.tmp 30) (.tmp 36) rfl w2.heap.size 0 (es.length - 1) [] (by rfl) ho3 _ lo cap (cellsE (es.take lo)) (by rfl) (by rw [length_cellsE, List.length_take, Nat.min_eq_left hle]) (upto_edges hG3.gr.sl hle) (one_cellsP _ _) (by omega) ?_); intro w4 ho4 hg4
           have A4 := (BelowA.grown ⟨hb4, by omega⟩ hg4 (Nat.le_refl _) hz3 : BelowA w2.heap.size w2 w4)
           have ho4' : OwnE w4 w2.heap.size (es.length - 1) (es.take lo) := ownE_of ho4 (by rw [List.length_take, Nat.min_eq_left hle, Nat.zero_add]) rfl
           have ho4'' : Own w4 45 2 w2.heap.size lo (es.length - 1) (cellsE (es.take lo)) := by have := ho4; rw [Nat.zero_add] at this; exact this
           have hG4 := hG2.below A4.1
           have k14 := hG4.gr.c1
           have hz4 := ho4'.lt)
        | (at_builtin; go_must (refine wpl_app 30 45 _ 2 16 Ydrm.underlying30 infoEdge rfl (.tmp 38) (.tmp 45) rfl w2.heap.size lo (es.length - 1) (cellsE (es.take lo)) (by rfl) ho4'' _ (es.length - (lo + 1)) (cap - (lo + 1)) (cellsE (es.drop (lo + 1))) (by rfl) (by rw [length_cellsE, List.length_drop]) (from_edges hG4.gr.sl (by omega) (by simp)) (one_cellsP _ _) (by omega) ?_); intro w6 ho6 hg6
           have A6 := (BelowA.grown A4 hg6 (Nat.le_refl _) (by omega) : BelowA w2.heap.size w2 w6)
           have hG6 := hG2.below A6.1
           have k16 := hG6.gr.c1
           have f16 := hG6.fr 1
           have ho6' : OwnE w6 w2.heap.size (es.length - 1) (es.take lo ++ es.drop (lo + 1)) := ownE_of ho6 (by simp [Nat.min_eq_left hle]) (cellsE_append _ _).symm))
    all_goals
      go_ret
      have hcut := cut_srt HS.out HF.out
      have hmem : (u, v) ∈ es := (findAt_srt HS.out HF.out).2.2.1 rfl
      have hgne : w2.heap.size ≠ gb := by omega
      have hfin := hG6.set ho6' hgne
      have hlen : (es.take lo ++ es.drop (lo + 1)).length = lo + (es.length - (lo + 1)) := by simp [Nat.min_eq_left hle]
      rw [hlen] at hfin
      rw [hcut] at hfin
      refine ⟨((but_below gb hb2).trans (but_below gb A6.1)).trans (but_setCell gb _ 1 _), some ⟨w2.heap.size, 0, none⟩, es.length - 1, ?_, hfin, .inr ⟨_, rfl, by omega, by rw [size_setCell]; exact ho6'.lt⟩⟩
      rw [decide_eq_true hmem]; simp
end Go.Proofs.Ymbrdr
