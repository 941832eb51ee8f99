/- Transpose. -/
import Derived.Test.YmbrdrGFrom
import Derived.Test.YmbrdrPeelPlain
namespace Go.Proofs.Ymbrdr
open Go.ChangeShapes Go.WideShapes Go.ChangeAt Go.RowKit
set_option linter.unusedVariables false
set_option linter.unusedSimpArgs false

def swE (es : List (Int × Int)) : List (Int × Int) := es.map (fun e => (e.2, e.1))
theorem length_swE (es : List (Int × Int)) : (swE es).length = es.length := by simp [swE]
theorem nth_swE {es : List (Int × Int)} {k : Nat} (h : k < es.length) : nthF (swE es) k = nthT es k ∧ nthT (swE es) k = nthF es k := by
  have h' : k < (swE es).length := by rw [length_swE]; exact h
  rw [nthF_eq h', nthT_eq h', nthF_eq h, nthT_eq h]; simp [swE]
theorem mem_swE {es : List (Int × Int)} {x y : Int} : (x, y) ∈ swE es ↔ (y, x) ∈ es := by
  unfold swE
  rw [List.mem_map]
  constructor
  · rintro ⟨⟨a, b⟩, h, e⟩
    simp only [Prod.mk.injEq] at e
    rw [← e.1, ← e.2]; exact h
  · intro h; exact ⟨(y, x), h, rfl⟩
/-- the edges turned around, in order -/
def trE (es : List (Int × Int)) : List (Int × Int) := insAll (swE es)
theorem mem_trE {es : List (Int × Int)} {x y : Int} : (x, y) ∈ trE es ↔ (y, x) ∈ es := by unfold trE; rw [mem_insAll, mem_swE]
theorem srt_trE (es : List (Int × Int)) : Srt (trE es) := srt_insAll _
theorem length_trE (es : List (Int × Int)) : (trE es).length ≤ es.length := by have := length_insAll (swE es); rw [length_swE] at this; exact this

def TransPost (n : Nat) (es : List (Int × Int)) (w : World) (r : Ending) (w' : World) : Prop := Below w.heap.size w w' ∧
  ∃ eo cap, r = .returned (.agg #[.int .i64 n, .slice eo (trE es).length cap]) ∧ Sl w' w'.heap.size eo (trE es).length cap 2 (cellsE (trE es)) ∧ ∀ a, eo = some a → a.block < w'.heap.size

set_option maxRecDepth 20000 in
set_option maxHeartbeats 4000000 in
theorem transpose_any (n gb : Nat) (es : List (Int × Int)) (ec : Nat) (eo : Option Addr) (w : World) (hes : es.length ≤ 1000000) (hr : Rng n es) (hg0 : Gr w w.heap.size gb n eo ec es) :
    Calls Ydrm.prog 25 #[.pointer (some ⟨gb, 0, none⟩)] w (TransPost n es w) := by
  have HR : Hid (Rng n es) := hr
  clear hr
  have hgb := hg0.lt
  have g0 := hg0.c0
  have g1 := hg0.c1
  have hs := hg0.sl
  go_enter Ydrm.func25, Ydrm.ntmps25
  go_wp2_with fail
  have hbW : Below w.heap.size w ((w.alloc (.cells #[.int .i64 0, .slice none 0 0] 33)).alloc (.cells #[.int .i64 n, .slice none 0 0] 33)) := ((BelowA.refl w).alloc _ |>.alloc _).1
  have hGW : GrW ((w.alloc (.cells #[.int .i64 0, .slice none 0 0] 33)).alloc (.cells #[.int .i64 n, .slice none 0 0] 33)) (w.heap.size + 1) n none 0 [] := by
    have := grw_new (w := w.alloc (.cells #[.int .i64 0, .slice none 0 0] 33)) (n := (n : Int)) (eo := none) (ec := 0) (t := 33) (es := []) (Sl.empty _ _ _ _ _ (fun _ => rfl)) (fun a ha => by cases ha)
    rw [size_alloc] at this
    exact this
  have q0 : Hid (((w.alloc (.cells #[.int .i64 0, .slice none 0 0] 33)).alloc (.cells #[.int .i64 n, .slice none 0 0] 33)).cell? ⟨w.heap.size, 0, none⟩ = some (.int .i64 0)) := (World.cell?_alloc_lt _ _ _ (by rw [size_alloc]; dsimp only; omega)).trans (cell_new2 rfl).1
  have q1 : Hid (((w.alloc (.cells #[.int .i64 0, .slice none 0 0] 33)).alloc (.cells #[.int .i64 n, .slice none 0 0] 33)).cell? ⟨w.heap.size, 1, none⟩ = some (.slice none 0 0)) := (World.cell?_alloc_lt _ _ _ (by rw [size_alloc]; dsimp only; omega)).trans (cell_new2 rfl).2
  have qf : Hid (∀ j, ((w.alloc (.cells #[.int .i64 0, .slice none 0 0] 33)).alloc (.cells #[.int .i64 n, .slice none 0 0] 33)).frozen? ⟨w.heap.size, j, none⟩ = false) := fun j => (World.frozen?_alloc_past _ _ _ (by rw [size_alloc]; omega)).trans (World.frozen?_alloc_at _ _ _ _ rfl)
  have hzW : ((w.alloc (.cells #[.int .i64 0, .slice none 0 0] 33)).alloc (.cells #[.int .i64 n, .slice none 0 0] 33)).heap.size = w.heap.size + 1 + 1 := by rw [size_alloc, size_alloc]
  generalize (w.alloc (.cells #[.int .i64 0, .slice none 0 0] 33)).alloc (.cells #[.int .i64 n, .slice none 0 0] 33) = W0 at *
  go_loopw [16] (fun i wr => ∃ (k : Nat) (fs : List (Int × Int)) (fo : Option Addr) (fc : Nat), k ≤ es.length ∧ i = .int .i64 k ∧ fs.length ≤ k ∧ Hid (fs = insAll ((swE es).take k)) ∧ Hid (Srt fs) ∧ GrW wr (w.heap.size + 1) n fo fc fs ∧ But (w.heap.size + 1) W0 wr ∧ (∀ a, fo = some a → a.block < wr.heap.size) ∧ (∀ a, fo = some a → a.block ≠ w.heap.size)) (fun i _ => es.length - (intOf i).toNat)
  case atStart => exact ⟨0, [], none, 0, by omega, rfl, by simp, by show _ = _; simp [insAll], by show Srt _; simp [Srt], hGW, But.refl _ _, fun a ha => (by cases ha), fun a ha => (by cases ha)⟩
  case round =>
    obtain ⟨k, fs, fo, fc, hk, rfl, hfl, HF, HS, hg, hb, ha1, ha2⟩ := hrel
    have hzr := hb.size
    rw [hzW] at hzr
    have hbb : Below w.heap.size w wr := hbW.trans (hb.below (by omega) (by omega))
    have p0 := (hb.cell (a := ⟨w.heap.size, 0, none⟩) (by rw [hzW]; dsimp only; omega) (by dsimp only; omega)).trans q0.out
    have p1 := (hb.cell (a := ⟨w.heap.size, 1, none⟩) (by rw [hzW]; dsimp only; omega) (by dsimp only; omega)).trans q1.out
    have pf0 := (hb.frozen (a := ⟨w.heap.size, 0, none⟩) (by rw [hzW]; dsimp only; omega) (by dsimp only; omega)).trans (qf.out 0)
    have pf1 := (hb.frozen (a := ⟨w.heap.size, 1, none⟩) (by rw [hzW]; dsimp only; omega) (by dsimp only; omega)).trans (qf.out 1)
    by_cases hlt : k < es.length
    · obtain ⟨b, off, hbB, rfl, hc⟩ := Sl.pairsAt (hs.below hbb) (by omega)
      obtain ⟨c1, c2⟩ := hc k hlt
      clear hc
      have hn1 : w.heap.size < wr.heap.size := by omega
      obtain ⟨⟨a1, a2⟩, b1, b2⟩ := HR.out k hlt
      have hin : inB n (nthT es k) (nthF es k) = true := inB_true.2 ⟨b1, b2, a1, a2⟩
      go_wp2_with fail
      refine (addEdge_any (w.heap.size + 1) n fo fc fs (nthT es k) (nthF es k) _ (by omega) HS.out (hg.alloc _)).mono ?_
      rintro e w2 ⟨hb2, fo', fc', rfl, hg2, hno⟩
      have hbT : But (w.heap.size + 1) wr w2 := (but_below _ ((Below.refl _ _).alloc (Nat.le_refl _) _)).trans hb2
      have hto : addTo n fs (nthT es k) (nthF es k) = insE fs (nthT es k, nthF es k) := if_pos hin
      rw [hto] at hg2
      clear hin hto
      have hz2 := hb2.size
      rw [size_alloc] at hz2
      have hll := length_insE_le fs (nthT es k, nthF es k)
      have hsw := nth_swE hlt
      have HSW : Hid _ := hsw
      clear hsw
      go_wp2_with fail
      go_roundw
      case rel => exact ⟨k + 1, _, fo', fc', by omega, by simp, by omega, by show _ = _; rw [insAll_take (by rw [length_swE]; exact hlt), ← HF.out, HSW.out.1, HSW.out.2], srt_insE HS.out, hg2, hb.trans hbT, hno.lt hb2.size (fun a h => by rw [size_alloc]; have := ha1 a h; omega), hno.ap ha2 (by rw [size_alloc]; omega)⟩
      case measure => simp [intOf]; omega
    · obtain rfl : k = es.length := by omega
      have k0 := hg.gr.c0
      have k1 := hg.gr.c1
      have hfe : fs = trE es := by have := HF.out; rw [List.take_of_length_le (by rw [length_swE]; exact Nat.le_refl _)] at this; exact this
      have HFE : Hid _ := hfe
      clear hfe
      go_wp2_with fail
      refine bodyPost_ret (v := .agg #[.int .i64 n, .slice fo fs.length fc]) (by simp [results, Ydrm.results25, go_sem, p0, p1]) rfl ⟨?_, fo, fc, by rw [HFE.out], ?_, ?_⟩
      · exact (hbb.trans ((but_setCell w.heap.size wr 0 _).below (Nat.le_refl _) hbb.size)).trans ((but_setCell w.heap.size _ 1 _).below (Nat.le_refl _) (by rw [size_setCell]; exact hbb.size))
      · rw [← HFE.out, size_setCell, size_setCell]
        exact (hg.gr.sl.but (but_setCell w.heap.size wr 0 _) (Nat.le_refl _) ha2).but (but_setCell w.heap.size _ 1 _) (by rw [size_setCell]; exact Nat.le_refl _) ha2
      · rw [size_setCell, size_setCell]; exact ha1
end Go.Proofs.Ymbrdr
