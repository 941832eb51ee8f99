/- AddEdge. -/
import Derived.Test.YmbrdrBel
namespace Go.Proofs.Ymbrdr
open Go.ChangeShapes Go.WideShapes Go.ChangeAt Go.RowKit
set_option linter.unusedVariables false
set_option linter.unusedSimpArgs false
attribute [local go_sem ↓] Go.wp_at_zero Go.wp_at_succ

def inB (n : Int) (u v : Int) : Bool := decide (0 ≤ u ∧ u < n ∧ 0 ≤ v ∧ v < n)
theorem inB_true {n u v : Int} : inB n u v = true ↔ 0 ≤ u ∧ u < n ∧ 0 ≤ v ∧ v < n := by unfold inB; rw [decide_eq_true_iff]
theorem inB_false {n u v : Int} : inB n u v = false ↔ ¬ (0 ≤ u ∧ u < n ∧ 0 ≤ v ∧ v < n) := by unfold inB; rw [decide_eq_false_iff_not]
/-- the edges behind AddEdge -/
def addTo (n : Int) (es : List (Int × Int)) (u v : Int) : List (Int × Int) := if inB n u v = true then insE es (u, v) else es
def addCode (n : Int) (es : List (Int × Int)) (u v : Int) : Int := if inB n u v = true then (if (u, v) ∈ es then 1 else 0) else 2

/-- the edge list is the old one, or a new row -/
def NewOr (w w' : World) (eo : Option Addr) (cap : Nat) (eo' : Option Addr) (cap' : Nat) : Prop := (eo' = eo ∧ cap' = cap) ∨ ∃ g, eo' = some ⟨g, 0, none⟩ ∧ w.heap.size ≤ g ∧ g < w'.heap.size
theorem NewOr.ap {w w' : World} {eo eo' : Option Addr} {cap cap' hb : Nat} (h : NewOr w w' eo cap eo' cap') (ha : ∀ a, eo = some a → a.block ≠ hb) (hl : hb < w.heap.size) : ∀ a, eo' = some a → a.block ≠ hb := by
  rcases h with ⟨rfl, _⟩ | ⟨g, rfl, hg, _⟩
  · exact ha
  · intro a ha; cases ha; dsimp only; omega
theorem NewOr.lt {w w' : World} {eo eo' : Option Addr} {cap cap' : Nat} (h : NewOr w w' eo cap eo' cap') (hz : w.heap.size ≤ w'.heap.size) (ha : ∀ a, eo = some a → a.block < w.heap.size) : ∀ a, eo' = some a → a.block < w'.heap.size := by
  rcases h with ⟨rfl, _⟩ | ⟨g, rfl, hg, hg2⟩
  · exact fun a h => Nat.lt_of_lt_of_le (ha a h) hz
  · intro a ha; cases ha; exact hg2

theorem ownE_of {w : World} {g k cap : Nat} {xs : List Value} {es : List (Int × Int)} (h : Own w 45 2 g k cap xs) (hk : k = es.length) (hx : xs = cellsE es) : OwnE w g cap es := by subst hk; subst hx; exact h

def AddPost (gb : Nat) (n : Int) (eo : Option Addr) (cap : Nat) (es : List (Int × Int)) (u v : Int) (w : World) (r : Ending) (w' : World) : Prop :=
  But gb w w' ∧ ∃ eo' cap', r = .returned (.int .i64 (addCode n es u v)) ∧ GrW w' gb n eo' cap' (addTo n es u v) ∧ NewOr w w' eo cap eo' cap'

theorem upto_edges {w : World} {B : Nat} {ao : Option Addr} {cap : Nat} {es : List (Int × Int)} (h : Sl w B ao es.length cap 2 (cellsE es)) {l : Nat} (hl : l ≤ es.length) :
    (ao = none → l = 0 ∧ cap = 0) ∧ ∀ ad, ao = some ad → ∀ j u, (cellsE (es.take l))[j]? = some u → w.cell? (ad.add j) = some u := by
  have := h.upto l hl
  rw [show cellsE es = cellsP .i64 es from rfl, cellsP_take] at this
  exact this
theorem from_edges {w : World} {B : Nat} {ao : Option Addr} {cap : Nat} {es : List (Int × Int)} (h : Sl w B ao es.length cap 2 (cellsE es)) {l : Nat} (hl : l ≤ es.length) {A : Option Addr} (hA : A = if cap = l then ao else ao.map (·.add (l * 2))) :
    (A = none → es.length - l = 0 ∧ cap - l = 0) ∧ ∀ ad, A = some ad → ∀ j u, (cellsE (es.drop l))[j]? = some u → w.cell? (ad.add j) = some u := by
  have := h.from_ l hl hA
  rw [show cellsE es = cellsP .i64 es from rfl, cellsP_drop] at this
  exact this

set_option maxRecDepth 20000 in
set_option maxHeartbeats 4000000 in
theorem addEdge_any (gb : Nat) (n : Int) (eo : Option Addr) (cap : Nat) (es : List (Int × Int)) (u v : Int) (w : World) (hes : es.length ≤ 100000000) (hs : Srt es) (hg : GrW w gb n eo cap es) :
    Calls Ydrm.prog 35 #[.pointer (some ⟨gb, 0, none⟩), .int .i64 u, .int .i64 v] w (AddPost gb n eo cap es u v w) := by
  have k0 := hg.gr.c0
  have k1 := hg.gr.c1
  have hgl := hg.gr.lt
  have HS : Hid (Srt es) := hs
  clear hs
  by_cases hin : inB n u v = true
  · obtain ⟨u1, u2, v1, v2⟩ := inB_true.1 hin
    have i1 : decide (u < 0) = false := by simp; omega
    have i2 : decide (u ≥ n) = false := by simp; omega
    have i3 : decide (v < 0) = false := by simp; omega
    have i4 : decide (v ≥ n) = false := by simp; omega
    have HIN : Hid (inB n u v = true) := hin
    clear hin
    go_enter Ydrm.func35, Ydrm.ntmps35
    have hG1 : GrW (w.alloc (.cells #[.int .i64 u, .int .i64 v] 45)) gb n eo cap es := hg.alloc _
    have hn1 : gb < w.heap.size := hgl
    go_upto_region 4 with fail
    go_region_held3 (fun w' => w'.cell? ⟨gb, 1, none⟩ = some (.slice eo es.length cap) ∧ w'.cell? ⟨w.heap.size, 0, none⟩ = some (.int .i64 u) ∧ w'.cell? ⟨w.heap.size, 1, none⟩ = some (.int .i64 v))
        (first | go_keep | (go_split_ands; all_goals assumption))
        ((go_at_call 39; refine (find_any es u v cap eo _ (by omega) hG1.drew.gr.sl).mono ?_; rintro e w' ⟨hb2, lo, ok, rfl, hf⟩
          have hG2 := hG1.drew.below hb2
          have r1 := hG2.gr.c1
          have hzz : w.heap.size < (w.alloc (.cells #[.int .i64 u, .int .i64 v] 45)).drew.heap.size := by show _ < (w.alloc _).heap.size; rw [size_alloc]; omega
          have r2 : w'.cell? ⟨w.heap.size, 0, none⟩ = some (.int .i64 u) := (hb2.cell hzz).trans (cell_new2 (w := w) rfl).1
          have r3 : w'.cell? ⟨w.heap.size, 1, none⟩ = some (.int .i64 v) := (hb2.cell hzz).trans (cell_new2 (w := w) rfl).2))
    rename_i hHeld
    clear hHeld
    have HF : Hid (FindAt es (u, v) lo ok) := hf
    have hle := hf.le
    clear hf
    have hb3 : Below w.heap.size w w' := (((Below.refl _ _).alloc (Nat.le_refl _) _).drew).trans (hb2.mono (Nat.le_of_lt hzz))
    have hzw : w.heap.size < w'.heap.size := Nat.lt_of_lt_of_le hzz hb2.size
    clear hb2 hzz
    cases ok
    · have hcap := hg.gr.sl.le
      have hcapb : (lo : Int) ≤ cap := by omega
      have hgl2 : gb < w'.heap.size := by omega
      go_wp2_with (first
        | (at_make; refine wpl_makeE0 rfl _ _ rfl (es.length + 1) _ (by rfl) (by rfl) (by omega) (by omega) ?_; intro w3 ho3 hb4 hz3
           have hG3 := hG2.below hb4
           have k13 := hG3.gr.c1
           have s2 := (hb4.cell (p := ⟨w.heap.size, 0, none⟩) hzw).trans r2
           have s3 := (hb4.cell (p := ⟨w.heap.size, 1, none⟩) hzw).trans r3)
        | (at_builtin; (refine wpl_app 30 45 _ 2 16 Ydrm.underlying30 infoEdge rfl (.tmp 53) (.tmp 59) rfl w'.heap.size 0 (es.length + 1) [] (by rfl) ho3 _ lo cap (cellsE (es.take lo)) (by rfl) (by rw [length_cellsE, List.length_take, Nat.min_eq_left hle]) (upto_edges hG3.gr.sl hle) (one_cellsP _ _) (by omega) ?_); intro w4 ho4 hg4
           have A4 := (BelowA.grown ⟨hb4, by omega⟩ hg4 (Nat.le_refl _) hz3 : BelowA w'.heap.size w' w4)
           have ho4' : OwnE w4 w'.heap.size (es.length + 1) (es.take lo) := ownE_of ho4 (by rw [List.length_take, Nat.min_eq_left hle, Nat.zero_add]) rfl
           have t2 := (A4.1.cell (p := ⟨w.heap.size, 0, none⟩) hzw).trans r2
           have t3 := (A4.1.cell (p := ⟨w.heap.size, 1, none⟩) hzw).trans r3
           have hz4 := ho4'.lt)
        | (at_builtin; (refine wpl_appE rfl (.tmp 61) (.tmp 63) rfl w'.heap.size (es.length + 1) lo (es.take lo) (u, v) (by rfl) (by rw [List.length_take, Nat.min_eq_left hle]) (ho4'.alloc _) w4.heap.size 1 (by rfl) (cell_new2 rfl) (by rw [List.length_take, Nat.min_eq_left hle]; omega) ?_); intro w5 ho5 hg5
           have A5 := (BelowA.grown (A4.alloc _) hg5 (Nat.le_refl _) (by rw [size_alloc]; omega) : BelowA w'.heap.size w' w5)
           have hG5 := hG2.below A5.1
           have k15 := hG5.gr.c1
           have ho5' : Own w5 45 2 w'.heap.size (lo + 1) (es.length + 1) (cellsE (es.take lo ++ [(u, v)])) := by
             have := ho5
             unfold OwnE at this
             rwa [List.length_append, List.length_take, Nat.min_eq_left hle] at this)
        | (at_builtin; go_must (refine wpl_app 30 45 _ 2 16 Ydrm.underlying30 infoEdge rfl (.tmp 65) (.tmp 71) rfl w'.heap.size (lo + 1) (es.length + 1) (cellsE (es.take lo ++ [(u, v)])) (by rfl) ho5' _ (es.length - lo) (cap - lo) (cellsE (es.drop lo)) (by rfl) (by rw [length_cellsE, List.length_drop]) (from_edges hG5.gr.sl hle (by simp)) (one_cellsP _ _) (by omega) ?_); intro w6 ho6 hg6
           have A6 := (BelowA.grown A5 hg6 (Nat.le_refl _) (by have := ho5.lt; omega) : BelowA w'.heap.size w' w6)
           have hG6 := hG2.below A6.1
           have k16 := hG6.gr.c1
           have f16 := hG6.fr 1
           have ho6' : OwnE w6 w'.heap.size (es.length + 1) (es.take lo ++ [(u, v)] ++ es.drop lo) := ownE_of ho6 (by simp [Nat.min_eq_left hle]; omega) (cellsE_append _ _).symm))
      all_goals
        go_ret
        have hput := put_srt HS.out HF.out
        have hni : ¬ (u, v) ∈ es := fun hm => by have := (findAt_srt HS.out HF.out).2.2.2 hm; cases this
        have hgne : w'.heap.size ≠ gb := by omega
        have hfin := hG6.set ho6' hgne
        have hlen : (es.take lo ++ [(u, v)] ++ es.drop lo).length = lo + 1 + (es.length - lo) := by simp [Nat.min_eq_left hle]; omega
        rw [hlen] at hfin
        rw [hput] at hfin
        refine ⟨((but_below gb hb3).trans (but_below gb A6.1)).trans (but_setCell gb _ 1 _), some ⟨w'.heap.size, 0, none⟩, es.length + 1, ?_, ?_, .inr ⟨_, rfl, by omega, by rw [size_setCell]; exact ho6'.lt⟩⟩
        · unfold addCode; rw [if_pos HIN.out, if_neg hni]; simp
        · unfold addTo; rw [if_pos HIN.out]; exact hfin
    · go_wp2_with fail
      go_ret
      have hm := (findAt_srt HS.out HF.out).2.2.1 rfl
      refine ⟨but_below gb hb3, eo, cap, ?_, ?_, .inl ⟨rfl, rfl⟩⟩
      · unfold addCode; rw [if_pos HIN.out, if_pos hm]; simp
      · unfold addTo; rw [if_pos HIN.out, insE_mem HS.out hm]; exact hG2
  · have hout : addTo n es u v = es ∧ addCode n es u v = 2 := ⟨if_neg hin, if_neg hin⟩
    have hpost : AddPost gb n eo cap es u v w (.returned (.int .i64 2)) w := ⟨But.refl _ _, eo, cap, by rw [hout.2], by rw [hout.1]; exact hg, .inl ⟨rfl, rfl⟩⟩
    have hn := inB_false.1 (Bool.eq_false_iff.2 hin)
    clear hin hout
    have HP : Hid _ := hpost
    clear hpost
    go_enter Ydrm.func35, Ydrm.ntmps35
    by_cases h1 : u < 0
    · have i1 : decide (u < 0) = true := by simp; omega
      clear hn
      go_wp2_with fail
      go_ret
      exact HP.out
    · have i1 : decide (u < 0) = false := by simp; omega
      by_cases h2 : u ≥ n
      · have i2 : decide (u ≥ n) = true := by simp; omega
        clear hn h1
        go_wp2_with fail
        go_ret
        exact HP.out
      · have i2 : decide (u ≥ n) = false := by simp; omega
        by_cases h3 : v < 0
        · have i3 : decide (v < 0) = true := by simp; omega
          clear hn h1 h2
          go_wp2_with fail
          go_ret
          exact HP.out
        · have i3 : decide (v < 0) = false := by simp; omega
          have i4 : decide (v ≥ n) = true := by simp; omega
          clear hn h1 h2 h3
          go_wp2_with fail
          go_ret
          exact HP.out
end Go.Proofs.Ymbrdr
