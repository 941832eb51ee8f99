/- zzs930021hgraph builds a graph. -/
import Derived.Test.YmbrdqStep
import Derived.Test.YmbrdqPeelPlain
import Derived.WalkSpells
import Derived.WalkSmall
import Derived.Deep.DeepCutAuto
namespace Go.Proofs.Ymbrdq
open Go.ChangeShapes Go.WideShapes Go.ChangeAt Go.RowKit
set_option linter.unusedVariables false
set_option linter.unusedSimpArgs false
attribute [local go_sem ↓] Go.wp_at_zero Go.wp_at_succ

/-- the raw pairs reduced modulo n -/
def redP (n : Int) (rs : List (Int × Int)) : List (Int × Int) := rs.map fun r => (r.1 % n, r.2 % n)
theorem length_redP (n : Int) (rs : List (Int × Int)) : (redP n rs).length = rs.length := by simp [redP]
theorem redP_succ (n : Int) (rs : List (Int × Int)) (k : Nat) (h : k < rs.length) : redP n (rs.take (k + 1)) = redP n (rs.take k) ++ [(nthF rs k % n, nthT rs k % n)] := by
  rw [List.take_succ_eq_append_getElem h, nthF_eq h, nthT_eq h]; simp only [redP, List.map_append, List.map_cons, List.map_nil]
theorem redP_rng (n : Nat) (rs : List (Int × Int)) (hn : 0 < n) : Rng n (redP n rs) := by
  intro k hk
  rw [nthF_eq hk, nthT_eq hk]
  simp only [redP, List.getElem_map]
  refine ⟨⟨Int.emod_nonneg _ (by omega), ?_⟩, ⟨Int.emod_nonneg _ (by omega), ?_⟩⟩
  · exact Int.emod_lt_of_pos _ (by omega)
  · exact Int.emod_lt_of_pos _ (by omega)

def HGraphPost (N : Nat) (rs : List (Int × Int)) (w : World) (e : Ending) (w' : World) : Prop := Below w.heap.size w w' ∧
  ((N = 0 ∧ e = .returned (.agg #[.int .i64 0, .slice none 0 0])) ∨
   (0 < N ∧ ∃ g, e = .returned (.agg #[.int .i64 N, .slice (some ⟨g, 0, none⟩) rs.length rs.length]) ∧ w.heap.size ≤ g ∧ OwnE w' g rs.length (redP N rs)))

set_option maxRecDepth 20000 in
set_option maxHeartbeats 4000000 in
theorem hgraph_any (m : Int) (rs : List (Int × Int)) (cap : Nat) (ao : Option Addr) (w : World) (hm : 0 ≤ m ∧ m ≤ 65535) (hl : rs.length ≤ 1000000) (hr : ∀ k, k < rs.length → (0 ≤ nthF rs k ∧ nthF rs k ≤ 65535) ∧ (0 ≤ nthT rs k ∧ nthT rs k ≤ 65535))
    (hs : Sl w w.heap.size ao rs.length cap 2 (cellsP .u16 rs)) :
    Calls Ydqm.prog 28 #[.int .u16 m, .slice ao rs.length cap] w (HGraphPost (m % 1025).toNat rs w) := by
  have HR : Hid _ := hr
  clear hr
  obtain ⟨N, hN⟩ := Int.eq_ofNat_of_zero_le (show 0 ≤ m % 1025 by omega)
  have hN2 : N ≤ 1024 := by omega
  have e0 : (m % 1025).toNat = N := by omega
  rw [e0]
  clear e0
  by_cases h0 : N = 0
  · have hz : ((N : Int) == 0) = true := by simp [h0]
    have H0 : Hid (N = 0) := h0
    clear h0
    go_enter Ydqm.func28, Ydqm.ntmps28
    go_wp2_with fail
    refine bodyPost_ret (v := .agg #[.int .i64 N, .slice none 0 0]) (by simp [results, Ydqm.results28, go_sem]) rfl ⟨((Below.refl _ _).alloc (Nat.le_refl _) _).alloc (by simp) _, .inl ⟨H0.out, ?_⟩⟩
    rw [H0.out]; rfl
  · have hz : ((N : Int) == 0) = false := by rw [beq_eq_false_iff_ne]; omega
    have hpos : 0 < N := by omega
    clear h0
    go_enter Ydqm.func28, Ydqm.ntmps28
    go_wp2_with (at_make; refine wpl_makeE0 rfl _ _ rfl rs.length _ (by rfl) (by rfl) rfl (by omega) ?_; intro w1 ho1 hb1 hz1)
    have s0 : ((w.alloc (Obj.cells #[Value.int IntKind.i64 0, Value.slice none 0 0] 45)).alloc (Obj.cells #[Value.int IntKind.i64 ↑N, Value.slice none 0 0] 45)).heap.size = w.heap.size + 2 := by simp
    have e10 : w1.cell? ⟨w.heap.size + 1, 0, none⟩ = some (.int .i64 N) := (hb1.cell (by rw [s0]; dsimp only; omega)).trans (by simp)
    have e11 : w1.cell? ⟨w.heap.size + 1, 1, none⟩ = some (.slice none 0 0) := (hb1.cell (by rw [s0]; dsimp only; omega)).trans (by simp)
    have e00 : w1.cell? ⟨w.heap.size, 0, none⟩ = some (.int .i64 0) := (hb1.cell (by rw [s0]; dsimp only; omega)).trans (by simp)
    have e01 : w1.cell? ⟨w.heap.size, 1, none⟩ = some (.slice none 0 0) := (hb1.cell (by rw [s0]; dsimp only; omega)).trans (by simp)
    have q0 : ∀ i, w1.frozen? ⟨w.heap.size, i, none⟩ = false := fun i => (hb1.frozen (by rw [s0]; dsimp only; omega)).trans (by simp)
    have q1 : ∀ i, w1.frozen? ⟨w.heap.size + 1, i, none⟩ = false := fun i => (hb1.frozen (by rw [s0]; dsimp only; omega)).trans (by simp)
    have hbw : Below w.heap.size w w1 := (((Below.refl _ _).alloc (Nat.le_refl _) _).alloc (by simp) _).trans (hb1.mono (by simp; omega))
    rw [s0] at ho1 hz1
    have E10 : Hid _ := e10
    have E11 : Hid _ := e11
    have E00 : Hid _ := e00
    have E01 : Hid _ := e01
    have Q0 : Hid _ := q0
    have Q1 : Hid _ := q1
    clear hb1 s0 e10 e11 e00 e01 q0 q1
    go_loopw [6, 22] (fun v i wr => ∃ k : Nat, k ≤ rs.length ∧ i = .int .i64 k ∧ v = .slice (some ⟨w.heap.size + 1 + 1, 0, none⟩) k rs.length ∧ OwnE wr (w.heap.size + 2) rs.length (redP N (rs.take k)) ∧ Below (w.heap.size + 2) w1 wr) (fun _ i _ => rs.length - (intOf i).toNat)
    case atStart => exact ⟨0, by omega, rfl, rfl, by simpa [redP] using ho1, Below.refl _ _⟩
    case round =>
      obtain ⟨k, hk, rfl, rfl, ho, hb⟩ := hrel
      have hlo := ho.lt
      by_cases hlt : k < rs.length
      · obtain ⟨b, off, hbB, rfl, hc⟩ := Sl.pairsAt (hs.below (hbw.trans (hb.mono (by omega)))) (by omega)
        obtain ⟨c1, c2⟩ := hc k hlt
        clear hc
        obtain ⟨⟨a1, a2⟩, b1, b2⟩ := HR.out k hlt
        have d1 : wr.cell? ⟨w.heap.size + 1, 0, none⟩ = some (.int .i64 N) := (hb.cell (by simp)).trans E10.out
        have n0 : ¬ N = 0 := by omega
        obtain ⟨t1, v1, x1⟩ := rem_facts (nthF rs k) N a1 (by omega) hpos (by omega)
        obtain ⟨t2, v2, x2⟩ := rem_facts (nthT rs k) N b1 (by omega) hpos (by omega)
        go_upto_region 8 with fail
        go_region_held3 (fun w' => w'.cell? ⟨wr.heap.size, 0, none⟩ = some (.int .u16 (nthF rs k)) ∧ w'.cell? ⟨wr.heap.size, 1, none⟩ = some (.int .u16 (nthT rs k)) ∧ w'.cell? ⟨w.heap.size + 1, 0, none⟩ = some (.int .i64 N))
          (first
            | go_keep
            | (go_split_ands
               refine ⟨?_, ?_, ?_⟩
               · (rw [hg2.cell_far _ (by simp; omega) (by simp; omega)]; assumption)
               · (rw [hg2.cell_far _ (by simp; omega) (by simp; omega)]; assumption)
               · (rw [hg2.cell_far _ (by simp; omega) (by simp)]; assumption)))
          ((refine step_appE rfl _ _ (by rfl) (w.heap.size + 1 + 1) rs.length k (redP N (rs.take k)) (nthF rs k % N, nthT rs k % N) (by rfl) (by rw [length_redP, List.length_take]; omega) (((ho.alloc _).alloc _).drewN 1) (wr.heap.size + 1) 1 (by rfl) (by exact cell_new2 (size_alloc _ _).symm) (by rw [length_redP, List.length_take]; omega) ?_; intro w2 ho2 hg2))
        clear t1 v1 x1 t2 v2 x2
        go_wp2_with fail
        go_roundw
        case rel =>
          refine ⟨k + 1, by omega, by go_num, rfl, by rw [redP_succ N rs k hlt]; exact ho2, ?_⟩
          exact below_grown (((hb.alloc (by omega) _).alloc (by simp; omega) _).drew) hg2 (Nat.le_refl _) (by simp; omega)
        case measure => simp [intOf]; omega
      · obtain rfl : k = rs.length := by omega
        rw [List.take_length] at ho
        have d0 : wr.cell? ⟨w.heap.size + 1, 0, none⟩ = some (.int .i64 N) := (hb.cell (by simp)).trans E10.out
        have d1 : wr.cell? ⟨w.heap.size + 1, 1, none⟩ = some (.slice none 0 0) := (hb.cell (by simp)).trans E11.out
        have d2 : wr.cell? ⟨w.heap.size, 0, none⟩ = some (.int .i64 0) := (hb.cell (by simp)).trans E00.out
        have d3 : wr.cell? ⟨w.heap.size, 1, none⟩ = some (.slice none 0 0) := (hb.cell (by simp)).trans E01.out
        have d4 : ∀ i, wr.frozen? ⟨w.heap.size, i, none⟩ = false := fun i => (hb.frozen (by simp)).trans (Q0.out i)
        have d5 : ∀ i, wr.frozen? ⟨w.heap.size + 1, i, none⟩ = false := fun i => (hb.frozen (by simp)).trans (Q1.out i)
        go_wp2_with fail
        refine bodyPost_ret (v := .agg #[.int .i64 N, .slice (some ⟨w.heap.size + 1 + 1, 0, none⟩) rs.length rs.length]) (by simp [results, Ydqm.results28, go_sem, d0, d1, d2, d3]) rfl ⟨?_, .inr ⟨hpos, _, rfl, by omega, ?_⟩⟩
        · exact (((hbw.trans (hb.mono (by omega))).setCell (by simp) _).setCell (by simp) _).setCell (by simp) _
        · exact ((ho.other (a := ⟨w.heap.size + 1, 1, none⟩) (by simp) _).other (a := ⟨w.heap.size, 0, none⟩) (by simp) _).other (a := ⟨w.heap.size, 1, none⟩) (by simp) _

/-- the edges of the graph that zzs930021hgraph builds -/
def gEdges (N : Nat) (rs : List (Int × Int)) : List (Int × Int) := if N = 0 then [] else redP N rs
theorem gEdges_rng (N : Nat) (rs : List (Int × Int)) : Rng N (gEdges N rs) := by
  unfold gEdges
  split
  · intro k hk; simp at hk
  · exact redP_rng N rs (by omega)
theorem gEdges_le (N : Nat) (rs : List (Int × Int)) : (gEdges N rs).length ≤ rs.length := by
  unfold gEdges
  split
  · simp
  · rw [length_redP]; exact Nat.le_refl _

theorem hgraph_gr (m : Int) (rs : List (Int × Int)) (cap : Nat) (ao : Option Addr) (w : World) (hm : 0 ≤ m ∧ m ≤ 65535) (hl : rs.length ≤ 1000000) (hr : ∀ k, k < rs.length → (0 ≤ nthF rs k ∧ nthF rs k ≤ 65535) ∧ (0 ≤ nthT rs k ∧ nthT rs k ≤ 65535))
    (hs : Sl w w.heap.size ao rs.length cap 2 (cellsP .u16 rs)) (N : Nat) (hN : (m % 1025).toNat = N) :
    Calls Ydqm.prog 28 #[.int .u16 m, .slice ao rs.length cap] w fun e w' => ∃ eo ec, e = .returned (.agg #[.int .i64 N, .slice eo (gEdges N rs).length ec]) ∧ Sl w' w'.heap.size eo (gEdges N rs).length ec 2 (cellsE (gEdges N rs)) ∧ Below w.heap.size w w' := by
  refine (hgraph_any m rs cap ao w hm hl hr hs).mono ?_
  rw [hN]
  rintro e w' ⟨hb, ⟨h0, rfl⟩ | ⟨h0, g, rfl, hg, ho⟩⟩
  · subst h0
    refine ⟨none, 0, by simp [gEdges], ?_, hb⟩
    exact Sl.empty _ _ _ _ _ (fun _ => rfl)
  · refine ⟨some ⟨g, 0, none⟩, rs.length, ?_, ?_, hb⟩
    · simp [gEdges, show ¬ N = 0 by omega, length_redP]
    · rw [show gEdges N rs = redP N rs by simp [gEdges, show ¬ N = 0 by omega]]
      exact ho.sl rfl ho.lt
end Go.Proofs.Ymbrdq
