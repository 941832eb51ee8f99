/- FromEdges. -/
import Derived.Test.YmbrdrGAdd
namespace Go.Proofs.Ymbrdr
open Go.ChangeShapes Go.WideShapes Go.ChangeAt Go.RowKit
set_option linter.unusedVariables false
set_option linter.unusedSimpArgs false

/-- all endpoints in range -/
def AllIn (n : Int) (es : List (Int × Int)) : Prop := ∀ i, i < es.length → inB n (nthF es i) (nthT es i) = true
def FromOk (n : Int) (es : List (Int × Int)) : Prop := 0 ≤ n ∧ n ≤ 4096 ∧ AllIn n es
theorem insAll_take {es : List (Int × Int)} {k : Nat} (h : k < es.length) : insAll (es.take (k + 1)) = insE (insAll (es.take k)) (nthF es k, nthT es k) := by
  rw [List.take_succ_eq_append_getElem h, insAll_snoc, ← nthE_eq h]; rfl

def FromPost (n : Int) (es : List (Int × Int)) (w : World) (r : Ending) (w' : World) : Prop := Below w.heap.size w w' ∧
  ((FromOk n es ∧ ∃ eo cap, r = .returned (.tuple #[.agg #[.int .i64 n, .slice eo (insAll es).length cap], .bool true]) ∧ Sl w' w'.heap.size eo (insAll es).length cap 2 (cellsE (insAll es)) ∧ ∀ a, eo = some a → a.block < w'.heap.size)
  ∨ (¬ FromOk n es ∧ r = .returned (.tuple #[.agg #[.int .i64 0, .slice none 0 0], .bool false])))

set_option maxRecDepth 20000 in
set_option maxHeartbeats 4000000 in
theorem fromEdges_any (n : Int) (es : List (Int × Int)) (ec : Nat) (eo : Option Addr) (w : World) (hes : es.length ≤ 1000000) (hs : Sl w w.heap.size eo es.length ec 2 (cellsE es)) :
    Calls Ydrm.prog 17 #[.int .i64 n, .slice eo es.length ec] w (FromPost n es w) := by
  by_cases hn : 0 ≤ n ∧ n ≤ 4096
  · obtain ⟨hn1, hn2⟩ := hn
    have i1 : decide (n < 0) = false := by simp; omega
    have i2 : decide (n > 4096) = false := by simp; omega
    go_enter Ydrm.func17, Ydrm.ntmps17
    go_wp2_with fail
    have hbW : Below w.heap.size w ((w.alloc (.cells #[.int .i64 0, .slice none 0 0] 33)).alloc (.cells #[.int .i64 n, .slice none 0 0] 33)) := ((BelowA.refl w).alloc _ |>.alloc _).1
    have hGW : GrW ((w.alloc (.cells #[.int .i64 0, .slice none 0 0] 33)).alloc (.cells #[.int .i64 n, .slice none 0 0] 33)) (w.heap.size + 1) n none 0 [] := by
      have := grw_new (w := w.alloc (.cells #[.int .i64 0, .slice none 0 0] 33)) (n := n) (eo := none) (ec := 0) (t := 33) (es := []) (Sl.empty _ _ _ _ _ (fun _ => rfl)) (fun a ha => by cases ha)
      rw [size_alloc] at this
      exact this
    have q0 : Hid (((w.alloc (.cells #[.int .i64 0, .slice none 0 0] 33)).alloc (.cells #[.int .i64 n, .slice none 0 0] 33)).cell? ⟨w.heap.size, 0, none⟩ = some (.int .i64 0)) := (World.cell?_alloc_lt _ _ _ (by rw [size_alloc]; dsimp only; omega)).trans (cell_new2 rfl).1
    have q1 : Hid (((w.alloc (.cells #[.int .i64 0, .slice none 0 0] 33)).alloc (.cells #[.int .i64 n, .slice none 0 0] 33)).cell? ⟨w.heap.size, 1, none⟩ = some (.slice none 0 0)) := (World.cell?_alloc_lt _ _ _ (by rw [size_alloc]; dsimp only; omega)).trans (cell_new2 rfl).2
    have qf : Hid (∀ j, ((w.alloc (.cells #[.int .i64 0, .slice none 0 0] 33)).alloc (.cells #[.int .i64 n, .slice none 0 0] 33)).frozen? ⟨w.heap.size, j, none⟩ = false) := fun j => (World.frozen?_alloc_past _ _ _ (by rw [size_alloc]; omega)).trans (World.frozen?_alloc_at _ _ _ _ rfl)
    have hzW : ((w.alloc (.cells #[.int .i64 0, .slice none 0 0] 33)).alloc (.cells #[.int .i64 n, .slice none 0 0] 33)).heap.size = w.heap.size + 1 + 1 := by rw [size_alloc, size_alloc]
    generalize (w.alloc (.cells #[.int .i64 0, .slice none 0 0] 33)).alloc (.cells #[.int .i64 n, .slice none 0 0] 33) = W0 at *
    go_loopw [20] (fun i wr => ∃ (k : Nat) (fs : List (Int × Int)) (fo : Option Addr) (fc : Nat), k ≤ es.length ∧ i = .int .i64 k ∧ fs.length ≤ k ∧ Hid (fs = insAll (es.take k)) ∧ Hid (Srt fs) ∧ Hid (∀ j, j < k → inB n (nthF es j) (nthT es j) = true) ∧ GrW wr (w.heap.size + 1) n fo fc fs ∧ But (w.heap.size + 1) W0 wr ∧ (∀ a, fo = some a → a.block < wr.heap.size) ∧ (∀ a, fo = some a → a.block ≠ w.heap.size)) (fun i _ => es.length - (intOf i).toNat)
    case atStart => exact ⟨0, [], none, 0, by omega, rfl, by simp, by show _ = _; simp [insAll], by show Srt _; simp [Srt], fun j hj => (by omega), hGW, But.refl _ _, fun a ha => (by cases ha), fun a ha => (by cases ha)⟩
    case round =>
      obtain ⟨k, fs, fo, fc, hk, rfl, hfl, HF, HS, HI, hg, hb, ha1, ha2⟩ := hrel
      have hzr := hb.size
      rw [hzW] at hzr
      have hbb : Below w.heap.size w wr := hbW.trans (hb.below (by omega) (by omega))
      have p0 := (hb.cell (a := ⟨w.heap.size, 0, none⟩) (by rw [hzW]; dsimp only; omega) (by dsimp only; omega)).trans q0.out
      have p1 := (hb.cell (a := ⟨w.heap.size, 1, none⟩) (by rw [hzW]; dsimp only; omega) (by dsimp only; omega)).trans q1.out
      have pf0 := (hb.frozen (a := ⟨w.heap.size, 0, none⟩) (by rw [hzW]; dsimp only; omega) (by dsimp only; omega)).trans (qf.out 0)
      have pf1 := (hb.frozen (a := ⟨w.heap.size, 1, none⟩) (by rw [hzW]; dsimp only; omega) (by dsimp only; omega)).trans (qf.out 1)
      by_cases hlt : k < es.length
      · obtain ⟨b, off, hbB, rfl, hc⟩ := Sl.pairsAt (hs.below hbb) (by omega)
        obtain ⟨c1, c2⟩ := hc k hlt
        clear hc
        have hn1 : w.heap.size < wr.heap.size := by omega
        go_wp2_with fail
        refine (addEdge_any (w.heap.size + 1) n fo fc fs (nthF es k) (nthT es k) _ (by omega) HS.out (hg.alloc _)).mono ?_
        rintro e w2 ⟨hb2, fo', fc', rfl, hg2, hno⟩
        have hbT : But (w.heap.size + 1) wr w2 := (but_below _ ((Below.refl _ _).alloc (Nat.le_refl _) _)).trans hb2
        by_cases hin : inB n (nthF es k) (nthT es k) = true
        · have hcode : (addCode n fs (nthF es k) (nthT es k) == 2) = false := by
            unfold addCode; rw [if_pos hin]; split <;> rfl
          have hto : addTo n fs (nthF es k) (nthT es k) = insE fs (nthF es k, nthT es k) := if_pos hin
          rw [hto] at hg2
          have HIN : Hid _ := hin
          clear hin hto
          have hz2 := hb2.size
          rw [size_alloc] at hz2
          have hll := length_insE_le fs (nthF es k, nthT es k)
          go_wp2_with fail
          go_roundw
          case rel => exact ⟨k + 1, _, fo', fc', by omega, by simp, by omega, by show _ = _; rw [insAll_take hlt, ← HF.out], srt_insE HS.out, fun j hj => (by rcases Nat.lt_or_ge j k with h | h; exact HI.out j h; obtain rfl : j = k := (by omega); exact HIN.out), hg2, hb.trans hbT, hno.lt hb2.size (fun a h => by rw [size_alloc]; have := ha1 a h; omega), hno.ap ha2 (by rw [size_alloc]; omega)⟩
          case measure => simp [intOf]; omega
        · have hcode : addCode n fs (nthF es k) (nthT es k) = 2 := if_neg hin
          rw [hcode]
          have HNO : Hid (¬ FromOk n es) := fun h => hin (h.2.2 k hlt)
          clear hin hcode
          have r0 := (hbT.cell (a := ⟨w.heap.size, 0, none⟩) hn1 (by dsimp only; omega)).trans p0
          have r1 := (hbT.cell (a := ⟨w.heap.size, 1, none⟩) hn1 (by dsimp only; omega)).trans p1
          have rf0 := (hbT.frozen (a := ⟨w.heap.size, 0, none⟩) hn1 (by dsimp only; omega)).trans pf0
          have rf1 := (hbT.frozen (a := ⟨w.heap.size, 1, none⟩) hn1 (by dsimp only; omega)).trans pf1
          go_wp2_with fail
          refine bodyPost_ret (v := .tuple #[.agg #[.int .i64 0, .slice none 0 0], .bool false]) (by simp [results, Ydrm.results17, go_sem, r0, r1]) rfl ⟨?_, .inr ⟨HNO.out, rfl⟩⟩
          have := hbb.trans (hbT.below (by omega) (by omega))
          exact (this.trans ((but_setCell w.heap.size w2 0 _).below (Nat.le_refl _) this.size)).trans ((but_setCell w.heap.size _ 1 _).below (Nat.le_refl _) (by rw [size_setCell]; exact this.size))
      · obtain rfl : k = es.length := by omega
        have k0 := hg.gr.c0
        have k1 := hg.gr.c1
        have hfe := HF.out
        rw [List.take_length] at hfe
        have HFE : Hid _ := hfe
        clear hfe
        go_wp2_with fail
        refine bodyPost_ret (v := .tuple #[.agg #[.int .i64 n, .slice fo fs.length fc], .bool true]) (by simp [results, Ydrm.results17, go_sem, p0, p1]) rfl ⟨?_, .inl ⟨⟨hn1, hn2, HI.out⟩, fo, fc, by rw [HFE.out], ?_, ?_⟩⟩
        · exact (hbb.trans ((but_setCell w.heap.size wr 0 _).below (Nat.le_refl _) hbb.size)).trans ((but_setCell w.heap.size _ 1 _).below (Nat.le_refl _) (by rw [size_setCell]; exact hbb.size))
        · rw [← HFE.out, size_setCell, size_setCell]
          exact (hg.gr.sl.but (but_setCell w.heap.size wr 0 _) (Nat.le_refl _) ha2).but (but_setCell w.heap.size _ 1 _) (by rw [size_setCell]; exact Nat.le_refl _) ha2
        · rw [size_setCell, size_setCell]; exact ha1
  · have HN : Hid (¬ FromOk n es) := fun h => hn ⟨h.1, h.2.1⟩
    go_enter Ydrm.func17, Ydrm.ntmps17
    by_cases h1 : n < 0
    · have i1 : decide (n < 0) = true := by simp; omega
      clear hn
      go_wp2_with fail
      refine bodyPost_ret (v := .tuple #[.agg #[.int .i64 0, .slice none 0 0], .bool false]) (by simp [results, Ydrm.results17, go_sem]) rfl ⟨?_, .inr ⟨HN.out, rfl⟩⟩
      exact ((BelowA.refl w).alloc _).1
    · have i1 : decide (n < 0) = false := by simp; omega
      have i2 : decide (n > 4096) = true := by simp; omega
      clear hn h1
      go_wp2_with fail
      refine bodyPost_ret (v := .tuple #[.agg #[.int .i64 0, .slice none 0 0], .bool false]) (by simp [results, Ydrm.results17, go_sem]) rfl ⟨?_, .inr ⟨HN.out, rfl⟩⟩
      exact ((BelowA.refl w).alloc _).1
end Go.Proofs.Ymbrdr
