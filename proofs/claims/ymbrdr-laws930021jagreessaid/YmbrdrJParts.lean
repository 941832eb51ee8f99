/- zzs930021jedges, jhas, jback, jfirst, jalive, jsame. -/
import Derived.Test.YmbrdrJCyc
import Derived.Test.YmbrdrGFrom
import Derived.Deep.RegionHeld3
import Derived.BigQuiet
namespace Go.Proofs.Ymbrdr
open Go.ChangeShapes Go.WideShapes Go.ChangeAt Go.RowKit
set_option linter.unusedVariables false
set_option linter.unusedSimpArgs false
attribute [local go_sem ↓] Go.wp_at_zero Go.wp_at_succ

def JEdgesPost (n len : Nat) (w : World) (r : Ending) (w' : World) : Prop := Below w.heap.size w w' ∧
  ∃ es, r = .returned (.slice (some ⟨w.heap.size, 0, none⟩) (es : List (Int × Int)).length len) ∧ OwnE w' w.heap.size len es ∧ AllIn n es ∧ es.length ≤ len

set_option maxRecDepth 20000 in
set_option maxHeartbeats 4000000 in
theorem jedges_any (n : Nat) (rs : List (Int × Int)) (rc : Nat) (ro : Option Addr) (w : World) (hn : n ≤ 1000) (hrs : rs.length ≤ 100000) (hr : ∀ k, k < rs.length → (0 ≤ nthF rs k ∧ nthF rs k ≤ 255) ∧ (0 ≤ nthT rs k ∧ nthT rs k ≤ 255)) (hs : Sl w w.heap.size ro rs.length rc 2 (cellsP .u8 rs)) :
    Calls Ydrm.prog 16 #[.int .i64 n, .slice ro rs.length rc] w (JEdgesPost n rs.length w) := by
  have HR : Hid _ := hr
  clear hr
  by_cases h0 : n = 0
  · have i0 : decide ((n : Int) ≤ 0) = true := by simp; omega
    go_enter Ydrm.func16, Ydrm.ntmps16
    go_wp2_with (at_make; refine wpl_makeE0 rfl _ _ rfl rs.length _ (by rfl) (by rfl) rfl (by omega) ?_; intro w1 ho1 hb2 hz1)
    go_ret
    exact ⟨hb2, [], by simp, ho1, fun i hi => absurd hi (by simp), by simp⟩
  have i0 : decide ((n : Int) ≤ 0) = false := by simp; omega
  have hn0 : 0 < n := by omega
  go_enter Ydrm.func16, Ydrm.ntmps16
  go_wp2_with (at_make; refine wpl_makeE0 rfl _ _ rfl rs.length _ (by rfl) (by rfl) rfl (by omega) ?_; intro w1 ho1 hb2 hz1)
  have hbA : BelowA w.heap.size w w1 := ⟨hb2, by omega⟩
  clear hb2
  go_loopw [5, 16] (fun t i wr => ∃ (k : Nat) (es : List (Int × Int)), k ≤ rs.length ∧ i = .int .i64 k ∧ t = .slice (some ⟨w.heap.size, 0, none⟩) es.length rs.length ∧ es.length ≤ k ∧ Hid (AllIn n es) ∧ OwnE wr w.heap.size rs.length es ∧ BelowA w.heap.size w wr) (fun _ i _ => rs.length - (intOf i).toNat)
  case atStart => exact ⟨0, [], by omega, rfl, rfl, by simp, fun i hi => absurd hi (by simp), ho1, hbA⟩
  case round =>
    obtain ⟨k, es, hk, rfl, rfl, hel, HE, ho, hb⟩ := hrel
    have hz := ho.lt
    by_cases hlt : k < rs.length
    · obtain ⟨b, off, hbB, rfl, hc⟩ := Sl.pairsAt (hs.below hb.1) (by omega)
      obtain ⟨c1, c2⟩ := hc k hlt
      clear hc
      obtain ⟨⟨q1, q2⟩, q3, q4⟩ := HR.out k hlt
      have n0 : ¬ n = 0 := by omega
      obtain ⟨t1, v1, x1⟩ := rem_facts (nthF rs k) n q1 (by omega) hn0 (by omega)
      obtain ⟨t2, v2, x2⟩ := rem_facts (nthT rs k) n q3 (by omega) hn0 (by omega)
      have hxin : inB n (nthF rs k % n) (nthT rs k % n) = true := inB_true.2 ⟨Int.emod_nonneg _ (by omega), Int.emod_lt_of_pos _ (by omega), Int.emod_nonneg _ (by omega), Int.emod_lt_of_pos _ (by omega)⟩
      have HXIN : Hid _ := hxin
      clear hxin
      go_upto_region 7 with fail
      go_region_held3 (fun w' => w'.cell? ⟨wr.heap.size, 0, none⟩ = some (.int .u8 (nthF rs k)) ∧ w'.cell? ⟨wr.heap.size, 1, none⟩ = some (.int .u8 (nthT rs k)))
        (first
          | go_keep
          | (go_split_ands
             refine ⟨?_, ?_⟩
             · (rw [hg2.cell_far _ (by simp; omega) (by simp; omega)]; assumption)
             · (rw [hg2.cell_far _ (by simp; omega) (by simp; omega)]; assumption)))
        ((refine step_appE rfl _ _ (by rfl) w.heap.size rs.length es.length es (nthF rs k % n, nthT rs k % n) (by rfl) rfl (((ho.alloc _).alloc _).drewN 1) (wr.heap.size + 1) 1 (by rfl) (by exact cell_new2 (size_alloc _ _).symm) (by omega) ?_; intro w2 ho2 hg2))
      rename_i hHeld
      clear hHeld t1 v1 x1 t2 v2 x2 q1 q2 q3 q4
      go_wp2_with fail
      go_roundw
      case rel => exact ⟨k + 1, _, by omega, by simp, by simp, by simp; omega, AllE.snoc (p := fun f t => inB n f t = true) HE.out HXIN.out, ho2, (((hb.alloc _).alloc _).drew).grown hg2 (Nat.le_refl _) (by show w.heap.size < ((wr.alloc _).alloc _).heap.size; rw [size_alloc, size_alloc]; omega)⟩
      case measure => simp [intOf]; omega
    · go_wp2_with fail
      go_ret
      exact ⟨hb.1, es, by simp, ho, HE.out, by omega⟩

def JHasPost (es : List (Int × Int)) (x y : Int) (w : World) (r : Ending) (w' : World) : Prop := Below w.heap.size w w' ∧ r = .returned (.bool (decide ((x, y) ∈ es)))

set_option maxRecDepth 20000 in
set_option maxHeartbeats 4000000 in
theorem jhas_any (es : List (Int × Int)) (x y : Int) (ec : Nat) (eo : Option Addr) (w : World) (hes : es.length ≤ 100000000) (hs : Sl w w.heap.size eo es.length ec 2 (cellsE es)) :
    Calls Ydrm.prog 21 #[.slice eo es.length ec, .int .i64 x, .int .i64 y] w (JHasPost es x y w) := by
  go_enter Ydrm.func21, Ydrm.ntmps21
  go_wp2_with fail
  go_loopw [11] (fun i wr => ∃ (k : Nat), k ≤ es.length ∧ i = .int .i64 k ∧ Hid (∀ j, j < k → nthE es j ≠ (x, y)) ∧ BelowA w.heap.size w wr) (fun i _ => es.length - (intOf i).toNat)
  case atStart => exact ⟨0, by omega, rfl, fun j hj => (by omega), BelowA.refl w⟩
  case round =>
    obtain ⟨k, hk, rfl, HN, hb⟩ := hrel
    by_cases hlt : k < es.length
    · obtain ⟨b, off, hbB, rfl, hc⟩ := Sl.pairsAt (hs.below hb.1) (by omega)
      obtain ⟨c1, c2⟩ := hc k hlt
      clear hc
      by_cases hx : nthF es k = x
      · have hxb : (nthF es k == x) = true := by simp [hx]
        have HX : Hid (nthF es k = x) := hx
        clear hx
        by_cases hy : nthT es k = y
        · have hyb : (nthT es k == y) = true := by simp [hy]
          have HY : Hid (nthT es k = y) := hy
          clear hy
          go_wp2_with fail
          go_ret
          have hm : (x, y) ∈ es := mem_nthE.2 ⟨k, hlt, by unfold nthE; rw [HX.out, HY.out]⟩
          exact ⟨(hb.alloc _).1, by rw [decide_eq_true hm]; simp⟩
        · have hyb : (nthT es k == y) = false := by simp [hy]
          have HY : Hid (¬ nthT es k = y) := hy
          clear hy
          go_wp2_with fail
          go_roundw
          case rel => exact ⟨k + 1, by omega, by simp, fun j hj => (by rcases Nat.lt_or_ge j k with h | h; exact HN.out j h; obtain rfl : j = k := (by omega); exact fun h => HY.out (congrArg Prod.snd h)), hb.alloc _⟩
          case measure => simp [intOf]; omega
      · have hxb : (nthF es k == x) = false := by simp [hx]
        have HX : Hid (¬ nthF es k = x) := hx
        clear hx
        go_wp2_with fail
        go_roundw
        case rel => exact ⟨k + 1, by omega, by simp, fun j hj => (by rcases Nat.lt_or_ge j k with h | h; exact HN.out j h; obtain rfl : j = k := (by omega); exact fun h => HX.out (congrArg Prod.fst h)), hb.alloc _⟩
        case measure => simp [intOf]; omega
    · go_wp2_with fail
      go_ret
      have hm : ¬ (x, y) ∈ es := fun h => by
        obtain ⟨j, hj, e⟩ := mem_nthE.1 h
        exact HN.out j (by omega) e
      exact ⟨hb.1, by rw [decide_eq_false hm]; simp⟩

/-- the marks that a list of bools holds -/
def mark (bs : List Bool) (x : Int) : Bool := nthB bs x.toNat
def JBackPost (es : List (Int × Int)) (bs : List Bool) (v : Int) (w : World) (r : Ending) (w' : World) : Prop := Below w.heap.size w w' ∧ r = .returned (.int .i64 (bk es (mark bs) v))

set_option maxRecDepth 20000 in
set_option maxHeartbeats 4000000 in
theorem jback_any (es : List (Int × Int)) (bs : List Bool) (v : Int) (ec bc : Nat) (eo bo : Option Addr) (w : World) (hes : es.length ≤ 100000000) (hbs : bs.length ≤ 1000000) (hr : Rng bs.length es) (hs : Sl w w.heap.size eo es.length ec 2 (cellsE es)) (hsb : Sl w w.heap.size bo bs.length bc 1 (cellsB bs)) :
    Calls Ydrm.prog 22 #[.slice eo es.length ec, .slice bo bs.length bc, .int .i64 v] w (JBackPost es bs v w) := by
  have HR : Hid (Rng bs.length es) := hr
  clear hr
  go_enter Ydrm.func22, Ydrm.ntmps22
  go_wp2_with fail
  go_loopw [11] (fun i wr => ∃ (k : Nat), k ≤ es.length ∧ i = .int .i64 k ∧ Hid (bkTo es (mark bs) v k = none) ∧ BelowA w.heap.size w wr) (fun i _ => es.length - (intOf i).toNat)
  case atStart => exact ⟨0, by omega, rfl, rfl, BelowA.refl w⟩
  case round =>
    obtain ⟨k, hk, rfl, HN, hb⟩ := hrel
    by_cases hlt : k < es.length
    · obtain ⟨b, off, hbB, rfl, hc⟩ := Sl.pairsAt (hs.below hb.1) (by omega)
      obtain ⟨c1, c2⟩ := hc k hlt
      clear hc
      obtain ⟨⟨s1, s2⟩, _⟩ := HR.out k hlt
      obtain ⟨x1, hx⟩ := Int.eq_ofNat_of_zero_le s1
      rw [hx] at c1 s1 s2
      have HX1 : Hid _ := hx
      clear hx
      have hxn1 : x1 < bs.length := by omega
      obtain ⟨bb, boff, hbB2, rfl, hc⟩ := Sl.boolsAt (hsb.below hb.1) (by omega)
      have d1 := hc x1 hxn1
      clear hc
      have hbw : b < wr.heap.size := by have := hb.2; omega
      have hbbw : bb < wr.heap.size := by have := hb.2; omega
      have hbbw1 : bb < wr.heap.size + 1 := by omega
      by_cases hy : nthT es k = v
      · have hyb : (nthT es k == v) = true := by simp [hy]
        have HY : Hid (nthT es k = v) := hy
        clear hy
        cases hB1 : nthB bs x1
        · rw [hB1] at d1
          have HBN : Hid (bkTo es (mark bs) v (k + 1) = none) := bkTo_no HN.out (by rintro ⟨_, h⟩; rw [HX1.out] at h; unfold mark at h; rw [show ((x1 : Int)).toNat = x1 by omega, hB1] at h; cases h)
          clear hB1
          go_wp2_with fail
          go_roundw
          case rel => exact ⟨k + 1, by omega, by simp, HBN, hb.alloc _⟩
          case measure => simp [intOf]; omega
        · rw [hB1] at d1
          have HBN : Hid (bk es (mark bs) v = (x1 : Int)) := by
            show _ = _
            rw [bk_found HN.out hlt HY.out (by rw [HX1.out]; unfold mark; rw [show ((x1 : Int)).toNat = x1 by omega, hB1]), HX1.out]
          clear hB1
          go_wp2_with fail
          go_ret
          exact ⟨(hb.alloc _).1, by rw [HBN.out]; simp⟩
      · have hyb : (nthT es k == v) = false := by simp [hy]
        have HBN : Hid (bkTo es (mark bs) v (k + 1) = none) := bkTo_no HN.out (by rintro ⟨h, _⟩; exact hy h)
        clear hy
        go_wp2_with fail
        go_roundw
        case rel => exact ⟨k + 1, by omega, by simp, HBN, hb.alloc _⟩
        case measure => simp [intOf]; omega
    · have HBN : Hid (bk es (mark bs) v = v) := bk_none (by have := HN.out; rw [show k = es.length by omega] at this; exact this)
      go_wp2_with fail
      go_ret
      exact ⟨hb.1, by rw [HBN.out]; simp⟩
theorem jback_len (n : Nat) (es : List (Int × Int)) (bs : List Bool) (v : Int) (ec bc : Nat) (eo bo : Option Addr) (w : World) (hl : n = bs.length) (hes : es.length ≤ 100000000) (hbs : n ≤ 1000000) (hr : Rng n es) (hs : Sl w w.heap.size eo es.length ec 2 (cellsE es)) (hsb : Sl w w.heap.size bo n bc 1 (cellsB bs)) :
    Calls Ydrm.prog 22 #[.slice eo es.length ec, .slice bo n bc, .int .i64 v] w (JBackPost es bs v w) := by subst hl; exact jback_any es bs v ec bc eo bo w hes hbs hr hs hsb

def JFirstPost (bs : List Bool) (w : World) (r : Ending) (w' : World) : Prop := Below w.heap.size w w' ∧ ∃ v : Nat, r = .returned (.int .i64 v) ∧ v ≤ bs.length ∧ (∀ u, u < v → nthB bs u = false) ∧ (v < bs.length → nthB bs v = true)

set_option maxRecDepth 20000 in
set_option maxHeartbeats 4000000 in
theorem jfirst_any (bs : List Bool) (bc : Nat) (bo : Option Addr) (w : World) (hbs : bs.length ≤ 1000000) (hsb : Sl w w.heap.size bo bs.length bc 1 (cellsB bs)) :
    Calls Ydrm.prog 19 #[.slice bo bs.length bc] w (JFirstPost bs w) := by
  go_enter Ydrm.func19, Ydrm.ntmps19
  go_wp2_with fail
  go_loopw [7] (fun i wr => ∃ (k : Nat), k ≤ bs.length ∧ i = .int .i64 k ∧ Hid (∀ u, u < k → nthB bs u = false) ∧ BelowA w.heap.size w wr) (fun i _ => bs.length - (intOf i).toNat)
  case atStart => exact ⟨0, by omega, rfl, fun u hu => by omega, BelowA.refl w⟩
  case round =>
    obtain ⟨k, hk, rfl, HN, hb⟩ := hrel
    by_cases hlt : k < bs.length
    · obtain ⟨bb, boff, hbB2, rfl, hc⟩ := Sl.boolsAt (hsb.below hb.1) (by omega)
      have d1 := hc k hlt
      clear hc
      cases hB : nthB bs k
      · rw [hB] at d1
        have HB : Hid _ := hB
        clear hB
        go_wp2_with fail
        go_roundw
        case rel => exact ⟨k + 1, by omega, by simp, fun u hu => (by rcases Nat.lt_or_ge u k with h | h; exact HN.out u h; obtain rfl : u = k := (by omega); exact HB.out), hb⟩
        case measure => simp [intOf]; omega
      · rw [hB] at d1
        have HB : Hid _ := hB
        clear hB
        go_wp2_with fail
        go_ret
        exact ⟨hb.1, k, by simp, by omega, HN.out, fun _ => HB.out⟩
    · obtain rfl : k = bs.length := by omega
      go_wp2_with fail
      go_ret
      exact ⟨hb.1, bs.length, by simp, by omega, HN.out, fun h => absurd h (by omega)⟩
theorem jfirst_len (n : Nat) (bs : List Bool) (bc : Nat) (bo : Option Addr) (w : World) (hl : n = bs.length) (hbs : n ≤ 1000000) (hsb : Sl w w.heap.size bo n bc 1 (cellsB bs)) :
    Calls Ydrm.prog 19 #[.slice bo n bc] w (JFirstPost bs w) := by subst hl; exact jfirst_any bs bc bo w hbs hsb

set_option maxRecDepth 20000 in
set_option maxHeartbeats 4000000 in
theorem jsame_eq (xs : List Int) (ac bc : Nat) (ao bo : Option Addr) (w : World) (hx : xs.length ≤ 1000000) (ha : Sl w w.heap.size ao xs.length ac 1 (cellsI xs)) (hb : Sl w w.heap.size bo xs.length bc 1 (cellsI xs)) :
    Calls Ydrm.prog 26 #[.slice ao xs.length ac, .slice bo xs.length bc] w fun e w' => e = .returned (.bool true) ∧ Below w.heap.size w w' := by
  have i0 : ((xs.length : Int) != (xs.length : Int)) = false := by simp
  go_enter Ydrm.func26, Ydrm.ntmps26
  go_wp2_with fail
  go_loopw [13] (fun i wr => ∃ (k : Nat), k ≤ xs.length ∧ i = .int .i64 k ∧ BelowA w.heap.size w wr) (fun i _ => xs.length - (intOf i).toNat)
  case atStart => exact ⟨0, by omega, rfl, BelowA.refl w⟩
  case round =>
    obtain ⟨k, hk, rfl, hbw⟩ := hrel
    by_cases hlt : k < xs.length
    · obtain ⟨b1, o1, hB1, rfl, hc1⟩ := Sl.intsAt (ha.below hbw.1) (by omega)
      obtain ⟨b2, o2, hB2, rfl, hc2⟩ := Sl.intsAt (hb.below hbw.1) (by omega)
      have c1 := hc1 k hlt
      have c2 := hc2 k hlt
      clear hc1 hc2
      have i1 : (nth xs k != nth xs k) = false := by simp
      go_upto_region 6 with fail
      go_quiet (fail)
      go_wp2_with fail
      go_roundw
      case rel => exact ⟨k + 1, by omega, by simp, hbw.drewN _⟩
      case measure => simp [intOf]; omega
    · go_wp2_with fail
      go_ret
      exact ⟨by simp, hbw.1⟩

def JAlivePost (n : Nat) (es : List (Int × Int)) (w : World) (r : Ending) (w' : World) : Prop := Below w.heap.size w w' ∧
  ∃ g bs, r = .returned (.slice (some ⟨g, 0, none⟩) n n) ∧ OwnB w' g n bs ∧ bs.length = n ∧ (∀ v : Nat, v < n → (nthB bs v = true ↔ Alive es n v)) ∧ w.heap.size ≤ g

set_option maxRecDepth 20000 in
set_option maxHeartbeats 4000000 in
theorem jalive_any (n : Nat) (es : List (Int × Int)) (ec : Nat) (eo : Option Addr) (w : World) (hn : n ≤ 1000000) (hes : es.length ≤ 1000000) (hr : Rng n es) (hse : Sl w w.heap.size eo es.length ec 2 (cellsE es)) :
    Calls Ydrm.prog 20 #[.int .i64 n, .slice eo es.length ec] w (JAlivePost n es w) := by
  have HR : Hid (Rng n es) := hr
  clear hr
  go_enter Ydrm.func20, Ydrm.ntmps20
  go_wp2_with (at_make; refine wpl_makeB rfl _ _ rfl n _ _ (by rfl) (by rfl) rfl rfl (by omega) ?_; intro w1 ho1 hb1 hz1)
  have hbA : BelowA w.heap.size w w1 := ⟨hb1, by omega⟩
  clear hb1 hz1
  go_loopw [6] (fun i wr => ∃ (k : Nat) (bs : List Bool), k ≤ n ∧ i = .int .i64 k ∧ Hid (bs.length = n) ∧ Hid (∀ v : Nat, v < k → nthB bs v = true) ∧ OwnB wr w.heap.size n bs ∧ BelowA w.heap.size w wr) (fun i _ => n - (intOf i).toNat)
  case atStart => exact ⟨0, _, by omega, rfl, by show _ = _; simp, fun v hv => by omega, ho1, hbA⟩
  case round =>
    obtain ⟨k, bs, hk, rfl, HL, HM, ho, hb⟩ := hrel
    have hz := ho.lt
    by_cases hlt : k < n
    · have d1 := ho.cell k (by rw [HL.out]; exact hlt)
      have f1 := ho.frozen k
      go_wp2_with fail
      go_roundw
      case rel =>
        refine ⟨k + 1, bs.set k true, by omega, by simp, by show _ = _; rw [List.length_set]; exact HL.out, fun v hv => ?_, ho.set k _, hb.setC (a := ⟨w.heap.size, k, none⟩) (Nat.le_refl _) _⟩
        rw [nthB_set (by rw [HL.out]; exact hlt)]
        split
        · rfl
        · exact HM.out v (by omega)
      case measure => simp [intOf]; omega
    · have HA : Hid (∀ v : Nat, v < n → (nthB bs v = true ↔ Alive es 0 v)) := fun v hv => ⟨fun _ => trivial, fun _ => HM.out v (by omega)⟩
      have i1 : decide ((k : Int) < (n : Int)) = false := by simp; omega
      clear ho1 hbA HM
      go_wp2_with fail
      clear i1
      go_loopw [5, 7] (fun v5 v7 wr => ∃ (r g : Nat) (bs : List Bool), r ≤ n ∧ v7 = .int .i64 r ∧ v5 = .slice (some ⟨g, 0, none⟩) n n ∧ Hid (bs.length = n) ∧ Hid (∀ v : Nat, v < n → (nthB bs v = true ↔ Alive es r v)) ∧ OwnB wr g n bs ∧ w.heap.size ≤ g ∧ BelowA w.heap.size w wr) (fun _ v7 _ => n - (intOf v7).toNat)
      case atStart => exact ⟨0, w.heap.size, bs, by omega, rfl, rfl, HL, HA, ho, Nat.le_refl _, hb⟩
      case round =>
        clear HL HA ho hb hz
        obtain ⟨r, g, bs, hrn, rfl, rfl, HL, HA, ho, hg, hb⟩ := hrel
        have hz := ho.lt
        by_cases hlt2 : r < n
        · go_wp2_with (at_make; refine wpl_makeB rfl _ _ rfl n _ _ (by rfl) (by rfl) rfl rfl (by omega) ?_; intro w2 ho2 hb2 hz2)
          have hb2' := hb.next hb2
          have hoA := ho.below hb2 hz
          have hg8w := hb.2
          obtain ⟨g8, hg8⟩ : ∃ g8, wr.heap.size = g8 := ⟨_, rfl⟩
          rw [hg8] at ho2 hz2 hz hg8w ⊢
          clear hb2 ho hb hg8
          go_loopw [30] (fun v wr => ∃ (k : Nat) (nx : List Bool), k ≤ es.length ∧ v = .int .i64 k ∧ Hid (nx.length = n) ∧ Hid (∀ v : Nat, v < n → (nthB nx v = true ↔ ∃ j, j < k ∧ nthT es j = v ∧ Alive es r (nthF es j))) ∧ OwnB wr g8 n nx ∧ OwnB wr g n bs ∧ BelowA w.heap.size w wr) (fun v _ => es.length - (intOf v).toNat)
          case atStart => exact ⟨0, _, by omega, rfl, by show _ = _; simp, fun v hv => by rw [nthB_replicate hv]; exact ⟨fun h => (by cases h), fun ⟨j, hj, _⟩ => by omega⟩, ho2, hoA, hb2'⟩
          case round =>
            clear ho2 hoA hb2' hz2
            obtain ⟨k, nx, hk, rfl, HNL, HN, ho8, ho, hb⟩ := hrel
            have hz8 := ho8.lt
            have hzg := ho.lt
            by_cases hlt3 : k < es.length
            · obtain ⟨eb, off, heB, rfl, hc⟩ := Sl.pairsAt (hse.below hb.1) (by omega)
              obtain ⟨c1, c2⟩ := hc k hlt3
              clear hc
              obtain ⟨⟨s1, s2⟩, t1, t2⟩ := HR.out k hlt3
              obtain ⟨x, hx⟩ := Int.eq_ofNat_of_zero_le s1
              obtain ⟨y, hy⟩ := Int.eq_ofNat_of_zero_le t1
              rw [hx] at c1 s1 s2
              rw [hy] at c2 t1 t2
              have HX : Hid _ := hx
              have HY : Hid _ := hy
              clear hx hy
              have hxn : x < n := by omega
              have hyn : y < n := by omega
              have d1 := ho.cell x (by rw [HL.out]; exact hxn)
              have d8 := ho8.cell y (by rw [HNL.out]; exact hyn)
              have f8 := ho8.frozen y
              have heb : eb < wr.heap.size := by have := hb.2; omega
              have hz81 : g8 < wr.heap.size + 1 := by omega
              have hzg1 : g < wr.heap.size + 1 := by omega
              have HAX := HA.out x hxn
              have HHAX : Hid _ := HAX
              clear HAX
              cases hB : nthB bs x
              · rw [hB] at d1
                have HB : Hid (¬ Alive es r x) := fun h => by rw [HHAX.out.2 h] at hB; cases hB
                clear hB
                go_wp2_with fail
                go_roundw
                case rel =>
                  refine ⟨k + 1, nx, by omega, by simp, HNL, fun v hv => ?_, ho8.alloc _, ho.alloc _, hb.alloc _⟩
                  rw [HN.out v hv]
                  constructor
                  · rintro ⟨j, hj, e1, e2⟩; exact ⟨j, by omega, e1, e2⟩
                  · rintro ⟨j, hj, e1, e2⟩
                    rcases Nat.lt_or_ge j k with h | h
                    · exact ⟨j, h, e1, e2⟩
                    · obtain rfl : j = k := by omega
                      rw [HX.out] at e2
                      exact absurd e2 HB.out
                case measure => simp [intOf]; omega
              · rw [hB] at d1
                have HB : Hid (Alive es r x) := HHAX.out.1 hB
                clear hB
                go_wp2_with fail
                go_roundw
                case rel =>
                  refine ⟨k + 1, nx.set y true, by omega, by simp, by show _ = _; rw [List.length_set]; exact HNL.out, fun v hv => ?_, (ho8.set y true).alloc _, (ho.other (a := ⟨g8, y, none⟩) (by dsimp only; omega) _).alloc _, (hb.setC (a := ⟨g8, y, none⟩) (by dsimp only; omega) _).alloc _⟩
                  rw [nthB_set (by rw [HNL.out]; exact hyn)]
                  split
                  · rename_i e
                    subst e
                    exact ⟨fun _ => ⟨k, by omega, HY.out, by rw [HX.out]; exact HB.out⟩, fun _ => rfl⟩
                  · rename_i e
                    rw [HN.out v hv]
                    constructor
                    · rintro ⟨j, hj, e1, e2⟩; exact ⟨j, by omega, e1, e2⟩
                    · rintro ⟨j, hj, e1, e2⟩
                      rcases Nat.lt_or_ge j k with h | h
                      · exact ⟨j, h, e1, e2⟩
                      · obtain rfl : j = k := by omega
                        rw [HY.out] at e1
                        omega
                case measure => simp [intOf]; omega
            · obtain rfl : k = es.length := by omega
              go_wp2_with fail
              go_roundw
              case rel => exact ⟨r + 1, g8, nx, by omega, by simp, rfl, HNL, fun v hv => HN.out v hv, ho8, by omega, hb⟩
              case measure => simp [intOf]; omega
        · obtain rfl : r = n := by omega
          go_wp2_with fail
          go_ret
          exact ⟨hb.1, g, bs, by simp, ho, HL.out, HA.out, hg⟩
end Go.Proofs.Ymbrdr
