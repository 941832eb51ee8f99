/- zzs930021fsorted answers insAll. -/
import Derived.Test.YmbrdqFSorted
namespace Go.Proofs.Ymbrdq
open Go.ChangeShapes Go.WideShapes Go.ChangeAt Go.RowKit
set_option linter.unusedVariables false
set_option linter.unusedSimpArgs false

def FSortPost (es : List (Int × Int)) (w : World) (r : Ending) (w' : World) : Prop := Below w.heap.size w w' ∧
  ∃ eo ec, r = .returned (.slice eo (insAll es).length ec) ∧ Sl w' w'.heap.size eo (insAll es).length ec 2 (cellsE (insAll es))

theorem insAll_take {es : List (Int × Int)} {k : Nat} (h : k < es.length) : insAll (es.take (k + 1)) = insE (insAll (es.take k)) (nthF es k, nthT es k) := by
  rw [take_succ_E h, insAll_snoc]; rfl

set_option maxRecDepth 20000 in
set_option maxHeartbeats 4000000 in
theorem fsorted_any (es : List (Int × Int)) (ec : Nat) (eo : Option Addr) (w : World) (hes : es.length ≤ 1000000) (hs : Sl w w.heap.size eo es.length ec 2 (cellsE es)) :
    Calls Ydqm.prog 17 #[.slice eo es.length ec] w (FSortPost es w) := by
  go_enter Ydqm.func17, Ydqm.ntmps17
  go_wp2_with fail
  go_loopw [3, 8] (fun v i wr => ∃ (k : Nat) (fs : List (Int × Int)) (fo : Option Addr) (fc : Nat), k ≤ es.length ∧ i = .int .i64 k ∧ v = .slice fo fs.length fc ∧ fs.length ≤ k ∧ Hid (fs = insAll (es.take k)) ∧ Sl wr wr.heap.size fo fs.length fc 2 (cellsE fs) ∧ Below w.heap.size w wr) (fun _ i _ => es.length - (intOf i).toNat)
  case atStart => exact ⟨0, [], none, 0, by omega, rfl, rfl, by simp, by show _ = _; simp [insAll], Sl.empty _ _ _ _ _ (fun _ => rfl), Below.refl _ _⟩
  case round =>
    obtain ⟨k, fs, fo, fc, hk, rfl, rfl, hfl, HF, hsf, hb⟩ := hrel
    by_cases hlt : k < es.length
    · obtain ⟨b, off, hbB, rfl, hc⟩ := Sl.pairsAt (hs.below hb) (by omega)
      obtain ⟨c1, c2⟩ := hc k hlt
      clear hc
      have hz := hb.size
      go_wp2_with fail
      refine (finsert_any fs (nthF es k) (nthT es k) fc fo _ (by omega) ((hsf.below ((Below.refl _ _).alloc (Nat.le_refl _) _)).mono (by simp))).mono ?_
      rintro e w2 ⟨hb2, g, rfl, hg, ho⟩
      rw [size_alloc] at hb2 hg
      have hll := length_insE_le fs (nthF es k, nthT es k)
      go_wp2_with fail
      go_roundw
      case rel => exact ⟨k + 1, insE fs (nthF es k, nthT es k), some ⟨g, 0, none⟩, fs.length + 1, by omega, by simp, rfl, by omega, by show _ = _; rw [insAll_take hlt, ← HF.out], ho.sl rfl ho.lt, (hb.alloc hz _).trans (hb2.mono (by omega))⟩
      case measure => simp [intOf]; omega
    · obtain rfl : k = es.length := by omega
      have h := HF.out
      rw [List.take_length] at h
      go_wp2_with fail
      go_ret
      subst h
      exact ⟨hb, fo, fc, by simp, hsf⟩
end Go.Proofs.Ymbrdq
