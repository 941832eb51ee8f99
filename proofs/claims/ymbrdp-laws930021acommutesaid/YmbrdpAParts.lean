/- zzs930021acodes, zzs930021aedges, zzs930021ais. -/
import Derived.Test.YmbrdpADec
import Derived.Test.YmbrdpBel
namespace Go.Proofs.Ymbrdp
open Go.ChangeShapes Go.WideShapes Go.ChangeAt Go.RowKit
set_option linter.unusedVariables false
set_option linter.unusedSimpArgs false
attribute [local go_sem ↓] Go.wp_at_zero Go.wp_at_succ

def ACodesPost (m : Int) (gs : List Int) (w : World) (r : Ending) (w' : World) : Prop := Below w.heap.size w w' ∧
  ∃ g cs, r = .returned (.slice (some ⟨g, 0, none⟩) cs.length gs.length) ∧ OwnI w' g gs.length cs ∧ CodesOk m cs ∧ w.heap.size ≤ g

/-- the codes so far lie below nx -/
def CodesTo (m : Int) (cs : List Int) (nx : Int) : Prop := CodesOk m cs ∧ ∀ c ∈ cs, c < nx
theorem CodesTo.snoc {m : Int} {cs : List Int} {nx c : Int} (h : CodesTo m cs nx) (h1 : nx ≤ c) (h0 : 0 ≤ c) (h2 : c < m * m) : CodesTo m (cs ++ [c]) (c + 1) := by
  refine ⟨⟨fun x hx => ?_, List.pairwise_append.2 ⟨h.1.inc, by simp, fun a ha b hb => ?_⟩⟩, fun x hx => ?_⟩
  · rw [List.mem_append, List.mem_singleton] at hx
    rcases hx with hx | rfl
    · exact h.1.rng x hx
    · exact ⟨h0, h2⟩
  · rw [List.mem_singleton] at hb; subst hb
    have := h.2 a ha; omega
  · rw [List.mem_append, List.mem_singleton] at hx
    rcases hx with hx | rfl
    · have := h.2 x hx; omega
    · omega

set_option maxRecDepth 20000 in
set_option maxHeartbeats 4000000 in
theorem acodes_any (m : Int) (gs : List Int) (gc : Nat) (go : Option Addr) (w : World) (hm : 0 ≤ m ∧ m ≤ 4096) (hgs : gs.length ≤ 1000000) (hr : ∀ k, k < gs.length → 0 ≤ nth gs k ∧ nth gs k ≤ 4294967295) (hs : Sl w w.heap.size go gs.length gc 1 (cellsK .u32 gs)) :
    Calls Ydpm.prog 15 #[.int .i64 m, .slice go gs.length gc] w (ACodesPost m gs w) := by
  have HR : Hid _ := hr
  clear hr
  obtain ⟨M, HM⟩ : ∃ M : Int, Hid (M = m * m) := ⟨_, rfl⟩
  have hMM : m * m = M := HM.out.symm
  have hM1 : 0 ≤ M := by rw [HM.out]; exact Int.mul_nonneg hm.1 hm.1
  have hM2 : M ≤ 16777216 := by rw [HM.out]; exact Int.mul_le_mul hm.2 hm.2 hm.1 (by omega)
  have hMw : IntKind.i64.wrap (m * m) = M := by rw [hMM, IntKind.wrap_i64]; omega
  go_enter Ydpm.func15, Ydpm.ntmps15
  go_wp2_with (at_make; refine wpl_makeI0 rfl _ _ rfl gs.length _ (by rfl) (by rfl) rfl (by omega) ?_; intro w1 ho1 hb1 hz1)
  go_loopw [5, 6, 15] (fun t n i wr => ∃ (k : Nat) (cs : List Int) (nx : Int), k ≤ gs.length ∧ i = .int .i64 k ∧ n = .int .i64 nx ∧ t = .slice (some ⟨w.heap.size, 0, none⟩) cs.length gs.length ∧ cs.length ≤ k ∧ 0 ≤ nx ∧ nx ≤ M ∧ Hid (CodesTo m cs nx) ∧ OwnI wr w.heap.size gs.length cs ∧ BelowA w.heap.size w wr) (fun _ _ i _ => gs.length - (intOf i).toNat)
  case atStart => exact ⟨0, [], 0, by omega, rfl, rfl, rfl, by simp, by omega, by omega, ⟨⟨by simp, by simp⟩, by simp⟩, ho1, hb1, by omega⟩
  case round =>
    obtain ⟨k, cs, nx, hk, rfl, rfl, rfl, hcl, hn1, hn2, HC, ho, hb⟩ := hrel
    have hz := ho.lt
    by_cases hlt : k < gs.length
    · obtain ⟨b, off, hbB, rfl, hc⟩ := Sl.intsAt (hs.below hb.1) (by omega)
      have c1 := hc k hlt
      clear hc
      obtain ⟨q1, q2⟩ := HR.out k hlt
      by_cases hge : nx + nth gs k ≥ M
      · have i1 : decide (nx + nth gs k ≥ M) = true := by simp; omega
        clear hge
        go_wp2_with fail
        go_roundw
        case rel => exact ⟨k + 1, cs, nx, by omega, by simp, rfl, rfl, by omega, hn1, hn2, HC.out, ho, hb⟩
        case measure => simp [intOf]; omega
      · have i1 : decide (nx + nth gs k ≥ M) = false := by simp; omega
        have hge2 : nx + nth gs k < M := by omega
        clear hge
        go_wp2_with (at_builtin; go_must (refine wpl_appI rfl (.tmp 28) (.tmp 30) rfl w.heap.size gs.length cs.length cs (nx + nth gs k) (by rfl) rfl (ho.alloc _) wr.heap.size 1 (by rfl) (cell_new1 rfl) (by omega) ?_); intro w2 ho2 hg2)
        go_roundw
        case rel => exact ⟨k + 1, _, nx + nth gs k + 1, by omega, by simp, rfl, by simp, by simp; omega, by omega, by omega, HC.out.snoc (by omega) (by omega) (by rw [hMM]; exact hge2), ho2, (hb.alloc _).grown hg2 (Nat.le_refl _) (by rw [size_alloc]; omega)⟩
        case measure => simp [intOf]; omega
    · go_wp2_with fail
      go_ret
      exact ⟨hb.1, w.heap.size, cs, by simp, ho, HC.out.1, Nat.le_refl _⟩

def AEdgesPost (m : Int) (cs : List Int) (w : World) (r : Ending) (w' : World) : Prop := Below w.heap.size w w' ∧
  ∃ g, r = .returned (.slice (some ⟨g, 0, none⟩) cs.length (cs.length + 2)) ∧ OwnE w' g (cs.length + 2) (decE m cs) ∧ w.heap.size ≤ g

theorem decE_take {m : Int} {cs : List Int} {k : Nat} (h : k < cs.length) : decE m (cs.take (k + 1)) = decE m (cs.take k) ++ [dec m (nth cs k)] := by
  rw [List.take_succ_eq_append_getElem h, decE_snoc, nth_eq h]
/-- what the walk wants to know of one code -/
theorem code_facts {m c : Int} (hm : 0 < m ∧ m ≤ 4096) (hc : 0 ≤ c ∧ c < m * m) : ∃ q r : Int, dec m c = (q, r) ∧ c.tdiv m = q ∧ c.tmod m = r ∧ IntKind.i64.wrap q = q ∧ IntKind.i64.wrap r = r ∧ ¬ m = 0 := by
  have h1 : c < 16777216 := by have : m * m ≤ 4096 * 4096 := Int.mul_le_mul hm.2 hm.2 (by omega) (by omega); omega
  have a1 := Int.emod_nonneg c (show m ≠ 0 by omega)
  have a2 := Int.emod_lt_of_pos c hm.1
  have b1 := Int.ediv_nonneg hc.1 (show 0 ≤ m by omega)
  have b2 := Int.ediv_le_self m hc.1
  exact ⟨c / m, c % m, rfl, Int.tdiv_eq_ediv_of_nonneg hc.1, Int.tmod_eq_emod_of_nonneg hc.1, by rw [IntKind.wrap_i64]; omega, by rw [IntKind.wrap_i64]; omega, by omega⟩

set_option maxRecDepth 20000 in
set_option maxHeartbeats 4000000 in
theorem aedges_any (m : Int) (cs : List Int) (cc : Nat) (co : Option Addr) (w : World) (hm : 0 ≤ m ∧ m ≤ 4096) (hcs : cs.length ≤ 1000000) (hok : CodesOk m cs) (hs : Sl w w.heap.size co cs.length cc 1 (cellsI cs)) :
    Calls Ydpm.prog 16 #[.int .i64 m, .slice co cs.length cc] w (AEdgesPost m cs w) := by
  have HOK : Hid _ := hok
  clear hok
  go_enter Ydpm.func16, Ydpm.ntmps16
  go_wp2_with (at_make; refine wpl_makeE0 rfl _ _ rfl (cs.length + 2) _ (by rfl) (by rfl) (by omega) (by omega) ?_; intro w1 ho1 hb1 hz1)
  go_loopw [5, 14] (fun t i wr => ∃ (k : Nat) (os : List (Int × Int)), k ≤ cs.length ∧ i = .int .i64 k ∧ t = .slice (some ⟨w.heap.size, 0, none⟩) os.length (cs.length + 2) ∧ os.length ≤ k ∧ Hid (os = decE m (cs.take k)) ∧ OwnE wr w.heap.size (cs.length + 2) os ∧ BelowA w.heap.size w wr) (fun _ i _ => cs.length - (intOf i).toNat)
  case atStart => exact ⟨0, [], by omega, rfl, rfl, by simp, by show _ = _; simp [decE], ho1, hb1, by omega⟩
  case round =>
    obtain ⟨k, os, hk, rfl, rfl, hol, HO, ho, hb⟩ := hrel
    have hz := ho.lt
    by_cases hlt : k < cs.length
    · obtain ⟨b, off, hbB, rfl, hc⟩ := Sl.intsAt (hs.below hb.1) (by omega)
      have c1 := hc k hlt
      clear hc
      obtain ⟨q, r, e0, t1, t2, v1, v2, m0⟩ := code_facts (m := m) (c := nth cs k) ⟨HOK.out.pos hm.1 (by omega), hm.2⟩ (HOK.out.rng _ (by rw [nth_eq hlt]; exact List.getElem_mem hlt))
      have E0 : Hid _ := e0
      clear e0
      go_upto_region 5 with fail
      go_region_held3 (fun w' => w.heap.size ≤ w.heap.size)
        (first | go_keep | exact Nat.le_refl _)
        ((refine step_appE rfl _ _ (by rfl) w.heap.size (cs.length + 2) os.length os (q, r) (by rfl) rfl (by first | exact (ho.alloc _).drewN 1 | exact ho.alloc _) wr.heap.size 1 (by rfl) (by exact cell_new2 rfl) (by omega) ?_; intro w2 ho2 hg2))
      rename_i hHeld
      clear hHeld t1 t2 v1 v2 m0
      go_wp2_with fail
      go_roundw
      case rel => exact ⟨k + 1, _, by omega, by simp, by simp, by simp; omega, by show _ = _; rw [decE_take hlt, HO.out, E0.out], ho2, ((hb.alloc _).drew).grown hg2 (Nat.le_refl _) (by show _ < (wr.alloc _).heap.size; rw [size_alloc]; omega)⟩
      case measure => simp [intOf]; omega
    · have hfin : os = decE m cs := by have := HO.out; rw [List.take_of_length_le (by omega)] at this; exact this
      have HF : Hid _ := hfin
      clear hfin
      go_wp2_with fail
      go_ret
      refine ⟨hb.1, w.heap.size, ?_, by rw [← HF.out]; exact ho, Nat.le_refl _⟩
      have := congrArg List.length HF.out
      rw [length_decE] at this
      rw [← this]; simp

def AIsPost (m : Int) (es : List (Int × Int)) (cs : List Int) (w : World) (r : Ending) (w' : World) : Prop := Below w.heap.size w w' ∧ r = .returned (.bool (decide (es = decE m cs)))

set_option maxRecDepth 20000 in
set_option maxHeartbeats 4000000 in
theorem ais_any (m : Int) (es : List (Int × Int)) (cs : List Int) (ec cc : Nat) (eo co : Option Addr) (w : World) (hm : 0 ≤ m ∧ m ≤ 4096) (hes : es.length ≤ 100000000) (hcs : cs.length ≤ 1000000) (hok : CodesOk m cs) (hse : Sl w w.heap.size eo es.length ec 2 (cellsE es)) (hs : Sl w w.heap.size co cs.length cc 1 (cellsI cs)) :
    Calls Ydpm.prog 18 #[.slice eo es.length ec, .int .i64 m, .slice co cs.length cc] w (AIsPost m es cs w) := by
  have HOK : Hid _ := hok
  clear hok
  by_cases hl : es.length = cs.length
  · have i0 : ((es.length : Int) != (cs.length : Int)) = false := by simp [hl]
    have HL : Hid (es.length = cs.length) := hl
    clear hl
    go_enter Ydpm.func18, Ydpm.ntmps18
    go_wp2_with fail
    go_loopw [16] (fun i wr => ∃ (k : Nat), k ≤ cs.length ∧ i = .int .i64 k ∧ Hid (∀ j, j < k → nthE es j = dec m (nth cs j)) ∧ BelowA w.heap.size w wr) (fun i _ => cs.length - (intOf i).toNat)
    case atStart => exact ⟨0, by omega, rfl, fun j hj => (by omega), BelowA.refl w⟩
    case round =>
      obtain ⟨k, hk, rfl, HE, hb⟩ := hrel
      by_cases hlt : k < cs.length
      · have hlt2 : k < es.length := by have := HL.out; omega
        obtain ⟨b, off, hbB, rfl, hc⟩ := Sl.intsAt (hs.below hb.1) (by omega)
        have c1 := hc k hlt
        clear hc
        obtain ⟨b', off', hbB', rfl, hc'⟩ := Sl.pairsAt (hse.below hb.1) (by omega)
        obtain ⟨c3, c4⟩ := hc' k hlt2
        clear hc'
        obtain ⟨q, r, e0, t1, t2, v1, v2, m0⟩ := code_facts (m := m) (c := nth cs k) ⟨HOK.out.pos hm.1 (by omega), hm.2⟩ (HOK.out.rng _ (by rw [nth_eq hlt]; exact List.getElem_mem hlt))
        have E0 : Hid _ := e0
        clear e0
        have i1 : (0 : Int) ≤ (k : Int) := by omega
        have i2 : (k : Int) < (es.length : Int) := by omega
        by_cases hx : nthF es k = q ∧ nthT es k = r
        · have j1 : (nthF es k != q) = false := by simp [hx.1]
          have j2 : (nthT es k != r) = false := by simp [hx.2]
          have HX : Hid (nthE es k = dec m (nth cs k)) := by show _ = _; unfold nthE; rw [E0.out, hx.1, hx.2]
          clear hx
          go_wp2_with fail
          go_quiet (fail)
          go_wp2_with fail
          go_roundw
          case rel => exact ⟨k + 1, by omega, by simp, fun j hj => (by rcases Nat.lt_or_ge j k with h | h; exact HE.out j h; obtain rfl : j = k := (by omega); exact HX.out), hb.drewN _⟩
          case measure => simp [intOf]; omega
        · have HX : Hid (¬ es = decE m cs) := fun h => by
            have h2 := nth_decE (m := m) hlt
            rw [← h, E0.out] at h2
            exact hx ⟨congrArg Prod.fst h2, congrArg Prod.snd h2⟩
          have hd : ((nthF es k != q) = true) ∨ ((nthF es k != q) = false ∧ (nthT es k != r) = true) := by
            by_cases h1 : nthF es k = q
            · exact .inr ⟨by simp [h1], by simp; exact fun h => hx ⟨h1, h⟩⟩
            · exact .inl (by simp [h1])
          clear hx
          rcases hd with j1 | ⟨j1, j2⟩
          all_goals
            go_wp2_with fail
            go_quiet (fail)
            go_wp2_with fail
            go_ret
            exact ⟨below_drewN hb.1 _, by rw [decide_eq_false HX.out]; simp⟩
      · have hfin : es = decE m cs := by
          apply List.ext_getElem (by rw [length_decE]; exact HL.out)
          intro i h1 h2
          have := HE.out i (by have := HL.out; omega)
          rw [← nth_decE (by have := HL.out; omega), nthE_eq h1, nthE_eq h2] at this
          exact this
        have HF : Hid _ := hfin
        clear hfin
        go_wp2_with fail
        go_ret
        exact ⟨hb.1, by rw [decide_eq_true HF.out]; simp⟩
  · have i0 : ((es.length : Int) != (cs.length : Int)) = true := by simp; omega
    have HX : Hid (¬ es = decE m cs) := fun h => hl (by rw [h, length_decE])
    clear hl
    go_enter Ydpm.func18, Ydpm.ntmps18
    go_wp2_with fail
    go_ret
    exact ⟨Below.refl _ _, by rw [decide_eq_false HX.out]; simp⟩
end Go.Proofs.Ymbrdp
