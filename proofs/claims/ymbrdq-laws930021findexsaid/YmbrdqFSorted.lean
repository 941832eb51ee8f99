/- zzs930021finsert, zzs930021fsorted. -/
import Derived.Test.YmbrdqFParts
import Derived.Test.YmbrdqSrt
namespace Go.Proofs.Ymbrdq
open Go.ChangeShapes Go.WideShapes Go.ChangeAt Go.RowKit
set_option linter.unusedVariables false
set_option linter.unusedSimpArgs false

theorem take_succ_E {es : List (Int × Int)} {k : Nat} (h : k < es.length) : es.take (k + 1) = es.take k ++ [nthE es k] := by
  rw [nthE_eq h, List.take_succ_eq_append_getElem h]
theorem drop_E {es : List (Int × Int)} {k : Nat} (h : k < es.length) : es.drop k = nthE es k :: es.drop (k + 1) := by
  rw [nthE_eq h, List.drop_eq_getElem_cons h]

theorem ins_less {es : List (Int × Int)} {e : Int × Int} {k : Nat} (hk : k ≤ es.length) (h : ∀ j, j < k → ltE (nthE es j) e) : insE es e = es.take k ++ insE (es.drop k) e := by
  induction k with
  | zero => simp
  | succ k ih =>
    rw [ih (by omega) (fun j hj => h j (by omega)), take_succ_E (by omega), drop_E (show k < es.length by omega), List.append_assoc]
    congr 1
    show (if ltB (nthE es k) e = true then _ else _) = _
    rw [if_pos (ltB_true.2 (h k (by omega)))]
    rfl

/-- behind k elements of finsert's loop -/
def InsTo (es : List (Int × Int)) (e : Int × Int) (k : Nat) (p : Bool) (os : List (Int × Int)) : Prop :=
  (p = false → os = es.take k ∧ ∀ j, j < k → ltE (nthE es j) e) ∧ (p = true → os ++ es.drop k = insE es e)

theorem InsTo.less {es : List (Int × Int)} {e : Int × Int} {k : Nat} {os : List (Int × Int)} (h : InsTo es e k false os) (hk : k < es.length) (hl : ltE (nthE es k) e) : InsTo es e (k + 1) false (os ++ [nthE es k]) := by
  obtain ⟨h1, h2⟩ := h.1 rfl
  refine ⟨fun _ => ⟨by rw [take_succ_E hk, h1], fun j hj => ?_⟩, fun h => by cases h⟩
  rcases Nat.lt_or_ge j k with h' | h'
  · exact h2 j h'
  · obtain rfl : j = k := by omega
    exact hl
theorem InsTo.eq {es : List (Int × Int)} {e : Int × Int} {k : Nat} {os : List (Int × Int)} (h : InsTo es e k false os) (hk : k < es.length) (hl : nthE es k = e) : InsTo es e (k + 1) true (os ++ [e]) := by
  obtain ⟨h1, h2⟩ := h.1 rfl
  refine ⟨fun h => (by cases h), fun _ => ?_⟩
  rw [ins_less (Nat.le_of_lt hk) h2, h1, drop_E hk, List.append_assoc, hl]
  congr 1
  show _ = if ltB e e = true then _ else _
  rw [if_neg (fun h => ltE_irrefl e (ltB_true.1 h)), if_pos rfl]
  rfl
theorem InsTo.more {es : List (Int × Int)} {e : Int × Int} {k : Nat} {os : List (Int × Int)} (h : InsTo es e k false os) (hk : k < es.length) (hl : ¬ ltE (nthE es k) e) (hne : nthE es k ≠ e) : InsTo es e (k + 1) true ((os ++ [e]) ++ [nthE es k]) := by
  obtain ⟨h1, h2⟩ := h.1 rfl
  refine ⟨fun h => (by cases h), fun _ => ?_⟩
  rw [ins_less (Nat.le_of_lt hk) h2, h1, drop_E hk, List.append_assoc, List.append_assoc]
  congr 1
  show _ = if ltB (nthE es k) e = true then _ else _
  rw [if_neg (fun h => hl (ltB_true.1 h)), if_neg hne]
  rfl
theorem InsTo.go {es : List (Int × Int)} {e : Int × Int} {k : Nat} {os : List (Int × Int)} (h : InsTo es e k true os) (hk : k < es.length) : InsTo es e (k + 1) true (os ++ [nthE es k]) := by
  refine ⟨fun h => (by cases h), fun _ => ?_⟩
  rw [← h.2 rfl, drop_E hk, List.append_assoc]
  rfl
theorem InsTo.last {es : List (Int × Int)} {e : Int × Int} {os : List (Int × Int)} (h : InsTo es e es.length false os) : os ++ [e] = insE es e := by
  obtain ⟨h1, h2⟩ := h.1 rfl
  rw [ins_less (Nat.le_refl _) h2, h1]
  simp [insE]
theorem InsTo.done {es : List (Int × Int)} {e : Int × Int} {os : List (Int × Int)} (h : InsTo es e es.length true os) : os = insE es e := by
  have := h.2 rfl
  simpa using this

/-- a block of two ints -/
def Cell2 (w : World) (g : Nat) (x y : Int) : Prop := w.cell? ⟨g, 0, none⟩ = some (.int .i64 x) ∧ w.cell? ⟨g, 1, none⟩ = some (.int .i64 y)
theorem Cell2.alloc {w : World} {g : Nat} {x y : Int} (h : Cell2 w g x y) (hlt : g < w.heap.size) (o : Obj) : Cell2 (w.alloc o) g x y := ⟨(World.cell?_alloc_past o g 0 hlt).trans h.1, (World.cell?_alloc_past o g 1 hlt).trans h.2⟩
theorem Cell2.grown {w w' : World} {g r : Nat} {x y : Int} (h : Cell2 w g x y) (hg : w.grownBy w' (some r)) (hlt : g < w.heap.size) (hne : g ≠ r) : Cell2 w' g x y :=
  ⟨(hg.cell_far _ hlt (fun e => hne (Option.some.inj e))).trans h.1, (hg.cell_far _ hlt (fun e => hne (Option.some.inj e))).trans h.2⟩
theorem Cell2.below {w w' : World} {B g : Nat} {x y : Int} (h : Cell2 w g x y) (hb : Below B w w') (hlt : g < B) : Cell2 w' g x y := ⟨(hb.cell hlt).trans h.1, (hb.cell hlt).trans h.2⟩
/-- Below, with room to allocate -/
def BelowA (B : Nat) (w0 w : World) : Prop := Below B w0 w ∧ B ≤ w.heap.size
theorem BelowA.alloc {B : Nat} {w0 w : World} (h : BelowA B w0 w) (o : Obj) : BelowA B w0 (w.alloc o) := ⟨h.1.alloc h.2 o, by have := h.2; rw [size_alloc]; omega⟩
theorem BelowA.grown {B : Nat} {w0 w w' : World} {g : Nat} (h : BelowA B w0 w) (hg : w.grownBy w' (some g)) (hB : B ≤ g) (hlt : g < w.heap.size) : BelowA B w0 w' :=
  have hb := below_grown h.1 hg hB hlt
  ⟨hb, by have := hg.size; have := h.2; omega⟩

theorem grown4 {wr w5 : World} {o1 o2 o3 o4 : Obj} {r : Nat} (hg : ((((wr.alloc o1).alloc o2).alloc o3).alloc o4).grownBy w5 (some r)) {a : Addr} (hne : a.block ≠ r) (hlt : a.block < wr.heap.size + 1) : w5.cell? a = (wr.alloc o1).cell? a := by
  rw [hg.cell_far a (by simp only [size_alloc]; omega) (fun e => hne (Option.some.inj e)), World.cell?_alloc_lt _ _ _ (by simp only [size_alloc]; omega), World.cell?_alloc_lt _ _ _ (by simp only [size_alloc]; omega), World.cell?_alloc_lt _ _ _ (by simp only [size_alloc]; omega)]

def FInsPost (es : List (Int × Int)) (e : Int × Int) (w : World) (r : Ending) (w' : World) : Prop := Below w.heap.size w w' ∧
  ∃ g, r = .returned (.slice (some ⟨g, 0, none⟩) (insE es e).length (es.length + 1)) ∧ w.heap.size ≤ g ∧ OwnE w' g (es.length + 1) (insE es e)

set_option maxRecDepth 20000 in
set_option maxHeartbeats 4000000 in
theorem finsert_any (es : List (Int × Int)) (e1 e2 : Int) (ec : Nat) (eo : Option Addr) (w : World) (hes : es.length ≤ 100000000) (hs : Sl w w.heap.size eo es.length ec 2 (cellsE es)) :
    Calls Ydqm.prog 32 #[.slice eo es.length ec, .agg #[.int .i64 e1, .int .i64 e2]] w (FInsPost es (e1, e2) w) := by
  have hbe : Below w.heap.size w (w.alloc (.cells #[.int .i64 e1, .int .i64 e2] 23)) := (Below.refl _ _).alloc (Nat.le_refl _) _
  go_enter Ydqm.func32, Ydqm.ntmps32
  go_wp2_with (at_make; refine wpl_makeE0 rfl _ _ rfl (es.length + 1) _ (by rfl) (by rfl) (by omega) (by omega) ?_; intro w1 ho1 hb1 hz1)
  rw [size_alloc] at ho1 hb1 hz1
  have E1 : Hid (w1.cell? ⟨w.heap.size, 0, none⟩ = some (.int .i64 e1)) := (hb1.cell (by simp)).trans (cell_new2 rfl).1
  have E2 : Hid (w1.cell? ⟨w.heap.size, 1, none⟩ = some (.int .i64 e2)) := (hb1.cell (by simp)).trans (cell_new2 rfl).2
  have hbw1 := hbe.trans (hb1.mono (by omega))
  clear hb1 hbe
  go_loopw [5, 6, 15] (fun v p i wr => ∃ (k : Nat) (os : List (Int × Int)) (b : Bool), k ≤ es.length ∧ i = .int .i64 k ∧ p = .bool b ∧ v = .slice (some ⟨w.heap.size + 1, 0, none⟩) os.length (es.length + 1) ∧ os.length ≤ k + 1 ∧ (b = false → os.length ≤ k) ∧ Hid (InsTo es (e1, e2) k b os) ∧ OwnE wr (w.heap.size + 1) (es.length + 1) os ∧ Below (w.heap.size + 1) w1 wr) (fun _ _ i _ => es.length - (intOf i).toNat)
  case atStart => exact ⟨0, [], false, by omega, rfl, rfl, rfl, by simp, by simp, ⟨fun _ => ⟨by simp, fun j hj => by omega⟩, fun h => by cases h⟩, ho1, Below.refl _ _⟩
  case round =>
    obtain ⟨k, os, p, hk, rfl, rfl, rfl, hol, hol2, HI, ho, hb⟩ := hrel
    have d1 := (hb.cell (p := ⟨w.heap.size, 0, none⟩) (by simp)).trans E1.out
    have d2 := (hb.cell (p := ⟨w.heap.size, 1, none⟩) (by simp)).trans E2.out
    have hlo := ho.lt
    have hlo' : w.heap.size < wr.heap.size := by omega
    have hlo2 : w.heap.size < wr.heap.size + 1 := by omega
    have hlo3 : w.heap.size < wr.heap.size + 1 + 1 := by omega
    have hlo4 : w.heap.size < wr.heap.size + 1 + 1 + 1 := by omega
    by_cases hlt : k < es.length
    · obtain ⟨b, off, hbB, rfl, hc⟩ := Sl.pairsAt (hs.below (hbw1.trans (hb.mono (by omega)))) (by omega)
      obtain ⟨c1, c2⟩ := hc k hlt
      clear hc
      cases p
      · have hol3 := hol2 rfl
        clear hol2 hol
        by_cases hle : ltE (nthE es k) (e1, e2)
        · have hlb : lessB (nthF es k, nthT es k) (e1, e2) = true := lessB_true.2 hle
          have HLE : Hid _ := hle
          clear hle
          go_wp2_with (first
            | (go_at_call 18; refine (fless_any _ _ _ _ _).mono ?_; rintro e w' ⟨rfl, rfl⟩)
            | (at_builtin; go_must (refine wpl_appE rfl (.tmp 34) (.tmp 36) rfl (w.heap.size + 1) (es.length + 1) os.length os (nthF es k, nthT es k) (by rfl) rfl ((((ho.alloc _).alloc _).alloc _).alloc _) (wr.heap.size + 1 + 1 + 1) 1 (by rfl) (cell_new2 (by simp)) (by omega) ?_); intro w5 ho5 hg5))
          go_roundw
          case rel => exact ⟨k + 1, _, false, by omega, by simp, rfl, by simp, by simp; omega, by simp; omega, HI.out.less hlt HLE.out, ho5, (BelowA.grown ((((BelowA.alloc ⟨hb, by omega⟩ _).alloc _).alloc _).alloc _) hg5 (Nat.le_refl _) (by simp only [size_alloc]; omega)).1⟩
          case measure => simp [intOf]; omega
        · have hlb : lessB (nthF es k, nthT es k) (e1, e2) = false := lessB_false.2 hle
          have HLE : Hid _ := hle
          clear hle
          by_cases hx : nthF es k = e1 ∧ nthT es k = e2
          · obtain ⟨hx1, hx2⟩ := hx
            have hxe : nthE es k = (e1, e2) := by unfold nthE; rw [hx1, hx2]
            have HXE : Hid _ := hxe
            have hxb1 : (nthF es k == e1) = true := by simp [hx1]
            have hxb2 : (nthT es k == e2) = true := by simp [hx2]
            clear hx1 hx2 hxe
            go_wp2_with (first
              | (go_at_call 18; refine (fless_any _ _ _ _ _).mono ?_; rintro e w' ⟨rfl, rfl⟩)
              | (at_builtin; go_must (refine wpl_appE rfl (.tmp 27) (.tmp 29) rfl (w.heap.size + 1) (es.length + 1) os.length os (e1, e2) (by rfl) rfl ((((ho.alloc _).alloc _).alloc _).alloc _) (wr.heap.size + 1 + 1 + 1) 1 (by rfl) (cell_new2 (by simp)) (by omega) ?_); intro w5 ho5 hg5
                 have q11 := (grown4 hg5 (a := ⟨wr.heap.size, 0, none⟩) (by dsimp only; omega) (by dsimp only; omega)).trans (cell_new2 rfl).1
                 have q12 := (grown4 hg5 (a := ⟨wr.heap.size, 1, none⟩) (by dsimp only; omega) (by dsimp only; omega)).trans (cell_new2 rfl).2
                 have q21 := ((grown4 hg5 (a := ⟨w.heap.size, 0, none⟩) (by dsimp only; omega) (by dsimp only; omega)).trans (World.cell?_alloc_lt _ _ _ (by dsimp only; omega))).trans d1
                 have q22 := ((grown4 hg5 (a := ⟨w.heap.size, 1, none⟩) (by dsimp only; omega) (by dsimp only; omega)).trans (World.cell?_alloc_lt _ _ _ (by dsimp only; omega))).trans d2))
            go_roundw
            case rel => exact ⟨k + 1, _, true, by omega, by simp, rfl, by simp, by simp; omega, by simp, HI.out.eq hlt HXE.out, ho5, (BelowA.grown ((((BelowA.alloc ⟨hb, by omega⟩ _).alloc _).alloc _).alloc _) hg5 (Nat.le_refl _) (by simp only [size_alloc]; omega)).1⟩
            case measure => simp [intOf]; omega
          · have hxe : ¬ nthE es k = (e1, e2) := fun h => hx ⟨congrArg Prod.fst h, congrArg Prod.snd h⟩
            have HXE : Hid _ := hxe
            have hxb : ((nthF es k == e1) = false) ∨ ((nthF es k == e1) = true ∧ (nthT es k == e2) = false) := by
              by_cases h1 : nthF es k = e1
              · exact .inr ⟨by simp [h1], by simp; exact fun h => hx ⟨h1, h⟩⟩
              · exact .inl (by simp [h1])
            clear hx hxe
            rcases hxb with hxb1 | ⟨hxb1, hxb2⟩
            · go_wp2_with (first
                | (go_at_call 18; refine (fless_any _ _ _ _ _).mono ?_; rintro e w' ⟨rfl, rfl⟩)
                | (at_builtin; refine wpl_appE rfl (.tmp 27) (.tmp 29) rfl (w.heap.size + 1) (es.length + 1) os.length os (e1, e2) (by rfl) rfl ((((ho.alloc _).alloc _).alloc _).alloc _) (wr.heap.size + 1 + 1 + 1) 1 (by rfl) (cell_new2 (by simp)) (by omega) ?_; intro w5 ho5 hg5
                   have q11 := (grown4 hg5 (a := ⟨wr.heap.size, 0, none⟩) (by dsimp only; omega) (by dsimp only; omega)).trans (cell_new2 rfl).1
                   have q12 := (grown4 hg5 (a := ⟨wr.heap.size, 1, none⟩) (by dsimp only; omega) (by dsimp only; omega)).trans (cell_new2 rfl).2
                   have q21 := ((grown4 hg5 (a := ⟨w.heap.size, 0, none⟩) (by dsimp only; omega) (by dsimp only; omega)).trans (World.cell?_alloc_lt _ _ _ (by dsimp only; omega))).trans d1
                   have q22 := ((grown4 hg5 (a := ⟨w.heap.size, 1, none⟩) (by dsimp only; omega) (by dsimp only; omega)).trans (World.cell?_alloc_lt _ _ _ (by dsimp only; omega))).trans d2
                   have hz5 : w.heap.size + 1 < w5.heap.size := ho5.lt)
                | (at_builtin; go_must (refine wpl_appE rfl (.tmp 34) (.tmp 36) rfl (w.heap.size + 1) (es.length + 1) (os.length + 1) (os ++ [(e1, e2)]) (nthF es k, nthT es k) (by rfl) (by simp) (ho5.alloc _) w5.heap.size 1 (by rfl) (cell_new2 rfl) (by simp; omega) ?_); intro w6 ho6 hg6))
              go_roundw
              case rel => exact ⟨k + 1, _, true, by omega, by simp, rfl, by simp, by simp; omega, by simp, HI.out.more hlt HLE.out HXE.out, ho6, ((BelowA.grown ((((BelowA.alloc ⟨hb, by omega⟩ _).alloc _).alloc _).alloc _) hg5 (Nat.le_refl _) (by simp only [size_alloc]; omega)).alloc _ |>.grown hg6 (Nat.le_refl _) (by simp only [size_alloc]; omega)).1⟩
              case measure => simp [intOf]; omega
            · go_wp2_with (first
                | (go_at_call 18; refine (fless_any _ _ _ _ _).mono ?_; rintro e w' ⟨rfl, rfl⟩)
                | (at_builtin; refine wpl_appE rfl (.tmp 27) (.tmp 29) rfl (w.heap.size + 1) (es.length + 1) os.length os (e1, e2) (by rfl) rfl ((((ho.alloc _).alloc _).alloc _).alloc _) (wr.heap.size + 1 + 1 + 1) 1 (by rfl) (cell_new2 (by simp)) (by omega) ?_; intro w5 ho5 hg5
                   have q11 := (grown4 hg5 (a := ⟨wr.heap.size, 0, none⟩) (by dsimp only; omega) (by dsimp only; omega)).trans (cell_new2 rfl).1
                   have q12 := (grown4 hg5 (a := ⟨wr.heap.size, 1, none⟩) (by dsimp only; omega) (by dsimp only; omega)).trans (cell_new2 rfl).2
                   have q21 := ((grown4 hg5 (a := ⟨w.heap.size, 0, none⟩) (by dsimp only; omega) (by dsimp only; omega)).trans (World.cell?_alloc_lt _ _ _ (by dsimp only; omega))).trans d1
                   have q22 := ((grown4 hg5 (a := ⟨w.heap.size, 1, none⟩) (by dsimp only; omega) (by dsimp only; omega)).trans (World.cell?_alloc_lt _ _ _ (by dsimp only; omega))).trans d2
                   have hz5 : w.heap.size + 1 < w5.heap.size := ho5.lt)
                | (at_builtin; go_must (refine wpl_appE rfl (.tmp 34) (.tmp 36) rfl (w.heap.size + 1) (es.length + 1) (os.length + 1) (os ++ [(e1, e2)]) (nthF es k, nthT es k) (by rfl) (by simp) (ho5.alloc _) w5.heap.size 1 (by rfl) (cell_new2 rfl) (by simp; omega) ?_); intro w6 ho6 hg6))
              go_roundw
              case rel => exact ⟨k + 1, _, true, by omega, by simp, rfl, by simp, by simp; omega, by simp, HI.out.more hlt HLE.out HXE.out, ho6, ((BelowA.grown ((((BelowA.alloc ⟨hb, by omega⟩ _).alloc _).alloc _).alloc _) hg5 (Nat.le_refl _) (by simp only [size_alloc]; omega)).alloc _ |>.grown hg6 (Nat.le_refl _) (by simp only [size_alloc]; omega)).1⟩
              case measure => simp [intOf]; omega
      · go_wp2_with (at_builtin; go_must (refine wpl_appE rfl (.tmp 34) (.tmp 36) rfl (w.heap.size + 1) (es.length + 1) os.length os (nthF es k, nthT es k) (by rfl) rfl (((ho.alloc _).alloc _)) (wr.heap.size + 1) 1 (by rfl) (cell_new2 (by simp)) (by omega) ?_); intro w5 ho5 hg5)
        go_roundw
        case rel => exact ⟨k + 1, _, true, by omega, by simp, rfl, by simp, by simp; omega, by simp, HI.out.go hlt, ho5, (BelowA.grown (((BelowA.alloc ⟨hb, by omega⟩ _).alloc _)) hg5 (Nat.le_refl _) (by simp only [size_alloc]; omega)).1⟩
        case measure => simp [intOf]; omega
    · obtain rfl : k = es.length := by omega
      have hbf := hbw1.trans (hb.mono (by omega))
      cases p
      · have hol3 := hol2 rfl
        go_wp2_with (at_builtin; go_must (refine wpl_appE rfl (.tmp 41) (.tmp 43) rfl (w.heap.size + 1) (es.length + 1) os.length os (e1, e2) (by rfl) rfl (ho.alloc _) wr.heap.size 1 (by rfl) (cell_new2 rfl) (by omega) ?_); intro w5 ho5 hg5)
        go_ret
        have hl := congrArg List.length HI.out.last
        refine ⟨(BelowA.grown (BelowA.alloc ⟨hbf, by omega⟩ _) hg5 (by omega) (by simp only [size_alloc]; omega)).1, w.heap.size + 1, ?_, by omega, ?_⟩
        · rw [← HI.out.last]; simp
        · rw [← HI.out.last]; exact ho5
      · go_wp2_with fail
        go_ret
        refine ⟨hbf, w.heap.size + 1, ?_, by omega, ?_⟩
        · rw [← HI.out.done]; simp
        · rw [← HI.out.done]; exact ho
end Go.Proofs.Ymbrdq
