/- WaterAt, both; PumpBest of the program. -/
import Derived.Test.YtahbfifnpceoeaaDoorCave11
namespace Go.Proofs.YtahbfifnpceoeaaDoor
open Go.RowKit

theorem waF_step (D : CaveD) (L : Int) (i : Nat) : waF D L (i + 1) = waF D L i + D.g i * max (L - D.f i) 0 := rfl
theorem waF_bd {D : CaveD} (hok : CaveOk D) {L : Int} (h0 : 0 ≤ L) (h40 : L ≤ 40) (i : Nat) (hi : i ≤ D.n) : 0 ≤ waF D L i ∧ waF D L i ≤ 360 * (i : Int) := by
  have := wlF_bd hok h0 h40 (fun _ => 0) 0 i hi
  omega
def WaOk (D : CaveD) (L : Int) : Prop := CaveOk D ∧ 0 ≤ L ∧ L ≤ 40

set_option maxRecDepth 20000 in
set_option maxHeartbeats 1600000 in
theorem WaterAt_spec (F G S : Option Addr) (D : CaveD) (c d e : Nat) (L : Int) (w : World) (hx : CaveAt w F G S D) (hs : CaveSmall D) (hok : CaveOk D) (h0 : 0 ≤ L) (h40 : L ≤ 40) :
    Calls Tryd.prog 33 #[.agg #[.slice F D.n c, .slice G D.q d, .slice S D.m e], .int .i64 L] w (RetV (.int .i64 (waF D L D.n)) w) := by
  have hn6 := hok.1.2
  have hqn := hok.2.1
  have HX := hid hx
  have HOK := hid hok
  have HV := hid (fun w' hx' => RetB.yes (CaveValid_spec F G S D c d e w' hx' hs) hok)
  have hg := fun k hk => waF_bd hok h0 h40 k hk
  have HG := hid hg
  clear hx hok hg
  have HQ := hid hqn
  clear hqn
  have hB := hid (Blk.new w 26 #[.slice F D.n c, .slice G D.q d, .slice S D.m e])
  have hw1 := hid (below_alloc1 w (.cells #[.slice F D.n c, .slice G D.q d, .slice S D.m e] 26))
  go_enter Tryd.func33, Tryd.ntmps33
  go_wp2_with fail
  refine (HV.out _ (HX.out.below hw1.out)).mono ?_
  rintro ex w1 ⟨rfl, hb1⟩
  have hB1 := hid (hB.out.below hb1)
  have HW1 := hid (Below.then_ hw1.out hb1)
  clear hb1 HV
  go_wp2_with (go_at_call 61; (with_reducible refine (l1In_y L _ _ _ h0 h40).mono ?_); rintro e w' ⟨rfl, rfl⟩)
  go_loopw [5, 6] (fun v i wr => ∃ k : Nat, k ≤ D.n ∧ i = .int .i64 k ∧ v = .int .i64 (waF D L k) ∧ Hid (Below w1.heap.size w1 wr)) (fun _ i _ => D.n - (intOf i).toNat)
  case atStart => exact ⟨0, by omega, rfl, rfl, Below.refl _ _⟩
  case round =>
    obtain ⟨k, hk, rfl, rfl, HB⟩ := hrel
    have hBr := hB1.out.below HB.out
    have HBW := hid (Below.then_ HW1.out HB.out)
    have y0 := hBr.cell (i := 0) rfl
    have y1 := hBr.cell (i := 1) rfl
    by_cases hlt : k < D.n
    · have hltz : (k : Int) < (D.n : Int) := by omega
      have hkq : k < D.q := by have := HQ.out; omega
      have hltq : (k : Int) < (D.q : Int) := by omega
      have hXr := HX.out.below HBW.out
      obtain ⟨bg, og, hG, hcg⟩ := hXr.are (by omega)
      obtain ⟨bf, off, hF, hcf⟩ := hXr.flo (by omega)
      have s3 : wr.cell? ⟨bg, og + k, none⟩ = some (.int .i64 (D.g k)) := hcg k hkq
      have s4 : wr.cell? ⟨bf, off + k, none⟩ = some (.int .i64 (D.f k)) := hcf k hlt
      have hb1 := HG.out k (by omega)
      have hch := HOK.out.2.2.2.1 k hlt
      obtain ⟨⟨f1, f2⟩, g1, g2⟩ := hch
      have HB2 := hid HB.out.drew
      clear hcg hcf
      subst hG hF
      by_cases hc : L - D.f k < 0
      · have hc' : ¬ 0 < L - D.f k := by omega
        have HM := hid (mul_small g1 g2 (x := 0) (by omega) (by omega))
        have HS : Hid (waF D L (k + 1) = waF D L k + D.g k * 0) := by rw [waF_step, show max (L - D.f k) 0 = 0 by omega]; exact rfl
        have hm1 := HM.out.1
        have hm2 := HM.out.2
        have e1 : wrap64 (L - D.f k) = L - D.f k := by unfold wrap64; omega
        have e2 : wrap64 (D.g k * 0) = D.g k * 0 := by unfold wrap64; omega
        have e3 : wrap64 (waF D L k + D.g k * 0) = waF D L k + D.g k * 0 := by unfold wrap64; omega
        go_wp2
        go_region; go_wp2
        go_roundw
        case rel => exact ⟨k + 1, by omega, by go_num, by first | (rw [HS.out]; done) | (rw [HS.out]; simp), HB2⟩
        case measure => simp [intOf] <;> omega
      · have hc' : 0 ≤ L - D.f k := by omega
        have HM := hid (mul_small g1 g2 (x := L - D.f k) (by omega) (by omega))
        have HS : Hid (waF D L (k + 1) = waF D L k + D.g k * (L - D.f k)) := by rw [waF_step, show max (L - D.f k) 0 = L - D.f k by omega]; exact rfl
        by_cases hz : 0 < L - D.f k
        ·
          have hm1 := HM.out.1
          have hm2 := HM.out.2
          have e1 : wrap64 (L - D.f k) = L - D.f k := by unfold wrap64; omega
          have e2 : wrap64 (D.g k * (L - D.f k)) = D.g k * (L - D.f k) := by unfold wrap64; omega
          have e3 : wrap64 (waF D L k + D.g k * (L - D.f k)) = waF D L k + D.g k * (L - D.f k) := by unfold wrap64; omega
          go_wp2
          go_region; go_wp2
          go_roundw
          case rel => exact ⟨k + 1, by omega, by go_num, by first | (rw [HS.out]; done) | (rw [HS.out]; simp), HB2⟩
          case measure => simp [intOf] <;> omega
        ·
          have hm1 := HM.out.1
          have hm2 := HM.out.2
          have e1 : wrap64 (L - D.f k) = L - D.f k := by unfold wrap64; omega
          have e2 : wrap64 (D.g k * (L - D.f k)) = D.g k * (L - D.f k) := by unfold wrap64; omega
          have e3 : wrap64 (waF D L k + D.g k * (L - D.f k)) = waF D L k + D.g k * (L - D.f k) := by unfold wrap64; omega
          go_wp2
          go_region; go_wp2
          go_roundw
          case rel => exact ⟨k + 1, by omega, by go_num, by first | (rw [HS.out]; done) | (rw [HS.out]; simp), HB2⟩
          case measure => simp [intOf] <;> omega
    · have : k = D.n := by omega
      subst this
      go_wp2
      go_ret
      exact ⟨rfl, HBW.out⟩

theorem WaterAt_spec0 (F G S : Option Addr) (D : CaveD) (c d e : Nat) (L : Int) (w : World) (hx : CaveAt w F G S D) (hs : CaveSmall D) (hno : ¬ WaOk D L) :
    Calls Tryd.prog 33 #[.agg #[.slice F D.n c, .slice G D.q d, .slice S D.m e], .int .i64 L] w (RetV (.int .i64 (-1)) w) := by
  have HX := hid hx
  have hw1 := hid (below_alloc1 w (.cells #[.slice F D.n c, .slice G D.q d, .slice S D.m e] 26))
  by_cases hok : CaveOk D
  · have HV := hid (fun w' hx' => RetB.yes (CaveValid_spec F G S D c d e w' hx' hs) hok)
    have HL : Hid (¬ (0 ≤ L ∧ L ≤ 40)) := hid (fun h => hno ⟨hok, h⟩)
    clear hok hno hx
    go_enter Tryd.func33, Tryd.ntmps33
    go_wp2_with fail
    refine (HV.out _ (HX.out.below hw1.out)).mono ?_
    rintro ex w1 ⟨rfl, hb1⟩
    have HW1 := hid (Below.then_ hw1.out hb1)
    go_wp2_with (go_at_call 61; (with_reducible refine (l1In_n L _ _ _ HL.out).mono ?_); rintro e w' ⟨rfl, rfl⟩)
    go_ret
    exact ⟨rfl, HW1.out⟩
  · have HV := hid (fun w' hx' => RetB.no (CaveValid_spec F G S D c d e w' hx' hs) hok)
    clear hok hno hx
    go_enter Tryd.func33, Tryd.ntmps33
    go_wp2_with fail
    refine (HV.out _ (HX.out.below hw1.out)).mono ?_
    rintro ex w1 ⟨rfl, hb1⟩
    have HW1 := hid (Below.then_ hw1.out hb1)
    go_wp2
    go_ret
    exact ⟨rfl, HW1.out⟩

set_option maxRecDepth 20000 in
set_option maxHeartbeats 1600000 in
theorem WaterAt_impl (F G S : Option Addr) (D : CaveD) (c d e : Nat) (L : Int) (w : World) (hx : CaveAt w F G S D) (hs : CaveSmall D) (hok : CaveOk D) (h0 : 0 ≤ L) (h40 : L ≤ 40) :
    Calls Tryd.prog 32 #[.agg #[.slice F D.n c, .slice G D.q d, .slice S D.m e], .int .i64 L] w (RetV (.int .i64 (waF D L D.n)) w) := by
  have hn1 := hok.1.1
  have hn6 := hok.1.2
  have hqn := hok.2.1
  have HX := hid hx
  have HOK := hid hok
  have HV := hid (fun w' hx' => RetB.yes (CaveValid_impl F G S D c d e w' hx' hs) hok)
  have hg := fun k hk => waF_bd hok h0 h40 k hk
  have HG := hid hg
  clear hx hok hg
  have HQ := hid hqn
  clear hqn
  have hB := hid (Blk.new w 26 #[.slice F D.n c, .slice G D.q d, .slice S D.m e])
  have hw1 := hid (below_alloc1 w (.cells #[.slice F D.n c, .slice G D.q d, .slice S D.m e] 26))
  go_enter Tryd.func32, Tryd.ntmps32
  go_wp2_with fail
  refine (HV.out _ (HX.out.below hw1.out)).mono ?_
  rintro ex w1 ⟨rfl, hb1⟩
  have hB1 := hid (hB.out.below hb1)
  have y0 := hB1.out.cell (i := 0) rfl
  have HW1 := hid (Below.then_ hw1.out hb1)
  clear hb1 HV
  go_wp2
  go_loopw [5, 22] (fun v i wr => ∃ k : Nat, k ≤ D.n ∧ i = .int .i64 k ∧ v = .int .i64 (waF D L k) ∧ Hid (Below w1.heap.size w1 wr)) (fun _ i _ => D.n - (intOf i).toNat)
  case atStart => exact ⟨0, by omega, rfl, rfl, Below.refl _ _⟩
  case round =>
    clear y0
    obtain ⟨k, hk, rfl, rfl, HB⟩ := hrel
    have hBr := hB1.out.below HB.out
    have HBW := hid (Below.then_ HW1.out HB.out)
    have y0 := hBr.cell (i := 0) rfl
    have y1 := hBr.cell (i := 1) rfl
    by_cases hlt : k < D.n
    · have hltz : (k : Int) < (D.n : Int) := by omega
      have hkq : k < D.q := by have := HQ.out; omega
      have hltq : (k : Int) < (D.q : Int) := by omega
      have hXr := HX.out.below HBW.out
      obtain ⟨bg, og, hG, hcg⟩ := hXr.are (by omega)
      obtain ⟨bf, off, hF, hcf⟩ := hXr.flo (by omega)
      have s3 : wr.cell? ⟨bg, og + k, none⟩ = some (.int .i64 (D.g k)) := hcg k hkq
      have s4 : wr.cell? ⟨bf, off + k, none⟩ = some (.int .i64 (D.f k)) := hcf k hlt
      have hb1 := HG.out k (by omega)
      have hch := HOK.out.2.2.2.1 k hlt
      obtain ⟨⟨f1, f2⟩, g1, g2⟩ := hch
      have HB2 := hid HB.out
      clear hcg hcf
      subst hG hF
      by_cases hc : L - D.f k < 0
      · have hc' : ¬ 0 < L - D.f k := by omega
        have HM := hid (mul_small g1 g2 (x := 0) (by omega) (by omega))
        have HS : Hid (waF D L (k + 1) = waF D L k + D.g k * 0) := by rw [waF_step, show max (L - D.f k) 0 = 0 by omega]; exact rfl
        have hm1 := HM.out.1
        have hm2 := HM.out.2
        have e1 : wrap64 (L - D.f k) = L - D.f k := by unfold wrap64; omega
        have e2 : wrap64 (D.g k * 0) = D.g k * 0 := by unfold wrap64; omega
        have e3 : wrap64 (waF D L k + D.g k * 0) = waF D L k + D.g k * 0 := by unfold wrap64; omega
        go_wp2
        skip
        go_roundw
        case rel => exact ⟨k + 1, by omega, by go_num, by first | (rw [HS.out]; done) | (rw [HS.out]; simp), HB2⟩
        case measure => simp [intOf] <;> omega
      · have hc' : 0 ≤ L - D.f k := by omega
        have HM := hid (mul_small g1 g2 (x := L - D.f k) (by omega) (by omega))
        have HS : Hid (waF D L (k + 1) = waF D L k + D.g k * (L - D.f k)) := by rw [waF_step, show max (L - D.f k) 0 = L - D.f k by omega]; exact rfl
        by_cases hz : 0 < L - D.f k
        ·
          have hm1 := HM.out.1
          have hm2 := HM.out.2
          have e1 : wrap64 (L - D.f k) = L - D.f k := by unfold wrap64; omega
          have e2 : wrap64 (D.g k * (L - D.f k)) = D.g k * (L - D.f k) := by unfold wrap64; omega
          have e3 : wrap64 (waF D L k + D.g k * (L - D.f k)) = waF D L k + D.g k * (L - D.f k) := by unfold wrap64; omega
          go_wp2
          skip
          go_roundw
          case rel => exact ⟨k + 1, by omega, by go_num, by first | (rw [HS.out]; done) | (rw [HS.out]; simp), HB2⟩
          case measure => simp [intOf] <;> omega
        ·
          have hm1 := HM.out.1
          have hm2 := HM.out.2
          have e1 : wrap64 (L - D.f k) = L - D.f k := by unfold wrap64; omega
          have e2 : wrap64 (D.g k * (L - D.f k)) = D.g k * (L - D.f k) := by unfold wrap64; omega
          have e3 : wrap64 (waF D L k + D.g k * (L - D.f k)) = waF D L k + D.g k * (L - D.f k) := by unfold wrap64; omega
          go_wp2
          skip
          go_roundw
          case rel => exact ⟨k + 1, by omega, by go_num, by first | (rw [HS.out]; done) | (rw [HS.out]; simp), HB2⟩
          case measure => simp [intOf] <;> omega
    · have : k = D.n := by omega
      subst this
      go_wp2
      go_ret
      exact ⟨rfl, HBW.out⟩

theorem WaterAt_impl0 (F G S : Option Addr) (D : CaveD) (c d e : Nat) (L : Int) (w : World) (hx : CaveAt w F G S D) (hs : CaveSmall D) (hno : ¬ WaOk D L) :
    Calls Tryd.prog 32 #[.agg #[.slice F D.n c, .slice G D.q d, .slice S D.m e], .int .i64 L] w (RetV (.int .i64 (-1)) w) := by
  have HX := hid hx
  have hw1 := hid (below_alloc1 w (.cells #[.slice F D.n c, .slice G D.q d, .slice S D.m e] 26))
  by_cases hok : CaveOk D
  · have HV := hid (fun w' hx' => RetB.yes (CaveValid_impl F G S D c d e w' hx' hs) hok)
    have HL : Hid (¬ (0 ≤ L ∧ L ≤ 40)) := hid (fun h => hno ⟨hok, h⟩)
    clear hok hno hx
    go_enter Tryd.func32, Tryd.ntmps32
    go_wp2_with fail
    refine (HV.out _ (HX.out.below hw1.out)).mono ?_
    rintro ex w1 ⟨rfl, hb1⟩
    have HW1 := hid (Below.then_ hw1.out hb1)
    by_cases h0 : L < 0
    · go_wp2
      go_ret
      exact ⟨rfl, HW1.out⟩
    · have h40 : 40 < L := by have := HL.out; omega
      go_wp2
      go_ret
      exact ⟨rfl, HW1.out⟩
  · have HV := hid (fun w' hx' => RetB.no (CaveValid_impl F G S D c d e w' hx' hs) hok)
    clear hok hno hx
    go_enter Tryd.func32, Tryd.ntmps32
    go_wp2_with fail
    refine (HV.out _ (HX.out.below hw1.out)).mono ?_
    rintro ex w1 ⟨rfl, hb1⟩
    have HW1 := hid (Below.then_ hw1.out hb1)
    go_wp2
    go_ret
    exact ⟨rfl, HW1.out⟩

/-! ### PumpBest of the program -/
abbrev WL (D : CaveD) (L x : Int) : Int := wlF D L (fun _ => x) 1 D.n
theorem pbF_take {D : CaveD} {L : Int} {k : Nat} (h : pbF D L k < 0 ∨ WL D L k < WL D L (pbF D L k)) : pbF D L (k + 1) = (k : Int) := by rw [pbF]; exact if_pos h
theorem pbF_leave {D : CaveD} {L : Int} {k : Nat} (h1 : ¬ pbF D L k < 0) (h2 : ¬ WL D L k < WL D L (pbF D L k)) : pbF D L (k + 1) = pbF D L k := by rw [pbF]; exact if_neg (fun h => h.elim h1 h2)
theorem pbF_rng (D : CaveD) (L : Int) (k : Nat) : -1 ≤ pbF D L k ∧ pbF D L k < k ∧ (0 < k → 0 ≤ pbF D L k) := by
  by_cases h : k = 0
  · subst h; simp [pbF]
  · have := pbF_spec D L k (by omega)
    omega
theorem Ints.one (w : World) (x : Int) : Ints (w.alloc (.cells #[.int .i64 x] 3)) (some ⟨w.heap.size, 0, none⟩) 1 (fun _ => x) := fun _ =>
  ⟨w.heap.size, 0, rfl, fun j hj => by
    obtain rfl : j = 0 := by omega
    exact (Blk.new w 3 #[.int .i64 x]).cell rfl⟩

set_option maxRecDepth 20000 in
set_option maxHeartbeats 1600000 in
theorem PumpBest_impl (F G S : Option Addr) (D : CaveD) (c d e : Nat) (L : Int) (w : World) (hx : CaveAt w F G S D) (hs : CaveSmall D) (hok : CaveOk D) (h0 : 0 ≤ L) (h40 : L ≤ 40) :
    Calls Tryd.prog 45 #[.agg #[.slice F D.n c, .slice G D.q d, .slice S D.m e], .int .i64 L] w (RetV (.int .i64 (pbF D L D.n)) w) := by
  have hn1 := hok.1.1
  have hn6 := hok.1.2
  have HX := hid hx
  have HV := hid (fun w' hx' => RetB.yes (CaveValid_impl F G S D c d e w' hx' hs) hok)
  have HP := hid (fun A (x : Int) w' hx' hi' h => WaterLeft_impl F G S D c d e L A 1 1 (fun _ => x) w' hx' hs hok h0 h40 hi' (by omega) (fun _ _ => h))
  have hw1 := hid (below_alloc1 w (.cells #[.slice F D.n c, .slice G D.q d, .slice S D.m e] 26))
  have hB := hid (Blk.new w 26 #[.slice F D.n c, .slice G D.q d, .slice S D.m e])
  clear hx hok
  go_enter Tryd.func45, Tryd.ntmps45
  go_wp2_with fail
  refine (HV.out _ (HX.out.below hw1.out)).mono ?_
  rintro ex w1 ⟨rfl, hb1⟩
  have hB1 := hid (hB.out.below hb1)
  have y0 := hB1.out.cell (i := 0) rfl
  have HW1 := hid (Below.then_ hw1.out hb1)
  clear hb1 HV
  go_wp2
  go_loopw [5, 6, 23] (fun b l i wr => ∃ (k : Nat) (lv : Int), k ≤ D.n ∧ i = .int .i64 k ∧ b = .int .i64 (pbF D L k) ∧ l = .int .i64 lv ∧ (0 ≤ pbF D L k → lv = WL D L (pbF D L k)) ∧ Hid (Below w1.heap.size w1 wr)) (fun _ _ i _ => D.n - (intOf i).toNat)
  case atStart => exact ⟨0, 0, by omega, rfl, rfl, rfl, fun h => absurd h (by simp [pbF]), Below.refl _ _⟩
  case round =>
    clear y0
    obtain ⟨k, lv, hk, rfl, rfl, rfl, hlv, HB⟩ := hrel
    have HLV := hid hlv
    clear hlv
    have HBW := hid (Below.then_ HW1.out HB.out)
    by_cases hlt : k < D.n
    · have hltz : (k : Int) < (D.n : Int) := by omega
      have hBr := hB1.out.below HB.out
      have y0 := hBr.cell (i := 0) rfl
      have y1 := hBr.cell (i := 1) rfl
      have y2 := hBr.cell (i := 2) rfl
      go_wp2_with fail
      refine (HP.out _ k _ ((HX.out.below HBW.out).alloc _) (Ints.one _ _) ⟨by omega, hltz⟩).mono ?_
      rintro ex w2 ⟨rfl, hb2⟩
      have HB2 := hid (Below.then_ (HB.out.alloc HB.out.size _) hb2)
      clear hb2 y0 y1 y2 hBr HB
      have hr := pbF_rng D L k
      by_cases hb : pbF D L k < 0
      · have HS := hid (pbF_take (D := D) (L := L) (k := k) (.inl hb))
        go_wp2
        go_roundw
        case rel => exact ⟨k + 1, _, by omega, by go_num, by rw [HS.out], rfl, fun _ => by rw [HS.out], HB2⟩
        case measure => simp [intOf] <;> omega
      · have hle := HLV.out (by omega)
        by_cases hc : wlF D L (fun _ => (k : Int)) 1 D.n < lv
        · have HS := hid (pbF_take (D := D) (L := L) (k := k) (.inr (by rw [← hle]; exact hc)))
          clear hle
          go_wp2
          go_roundw
          case rel => exact ⟨k + 1, _, by omega, by go_num, by rw [HS.out], rfl, fun _ => by rw [HS.out], HB2⟩
          case measure => simp [intOf] <;> omega
        · have HS := hid (pbF_leave (D := D) (L := L) (k := k) hb (by rw [← hle]; exact hc))
          have HL := hid hle
          clear hle
          go_wp2
          go_roundw
          case rel => exact ⟨k + 1, _, by omega, by go_num, by rw [HS.out], rfl, fun _ => by rw [HS.out]; exact HL.out, HB2⟩
          case measure => simp [intOf] <;> omega
    · have : k = D.n := by omega
      subst this
      go_wp2
      go_ret
      exact ⟨rfl, HBW.out⟩

theorem PumpBest_impl0 (F G S : Option Addr) (D : CaveD) (c d e : Nat) (L : Int) (w : World) (hx : CaveAt w F G S D) (hs : CaveSmall D) (hno : ¬ WaOk D L) :
    Calls Tryd.prog 45 #[.agg #[.slice F D.n c, .slice G D.q d, .slice S D.m e], .int .i64 L] w (RetV (.int .i64 (-1)) w) := by
  have HX := hid hx
  have hw1 := hid (below_alloc1 w (.cells #[.slice F D.n c, .slice G D.q d, .slice S D.m e] 26))
  by_cases hok : CaveOk D
  · have HV := hid (fun w' hx' => RetB.yes (CaveValid_impl F G S D c d e w' hx' hs) hok)
    have HL : Hid (¬ (0 ≤ L ∧ L ≤ 40)) := hid (fun h => hno ⟨hok, h⟩)
    clear hok hno hx
    go_enter Tryd.func45, Tryd.ntmps45
    go_wp2_with fail
    refine (HV.out _ (HX.out.below hw1.out)).mono ?_
    rintro ex w1 ⟨rfl, hb1⟩
    have HW1 := hid (Below.then_ hw1.out hb1)
    by_cases h0 : L < 0
    · go_wp2
      go_ret
      exact ⟨rfl, HW1.out⟩
    · have h40 : 40 < L := by have := HL.out; omega
      go_wp2
      go_ret
      exact ⟨rfl, HW1.out⟩
  · have HV := hid (fun w' hx' => RetB.no (CaveValid_impl F G S D c d e w' hx' hs) hok)
    clear hok hno hx
    go_enter Tryd.func45, Tryd.ntmps45
    go_wp2_with fail
    refine (HV.out _ (HX.out.below hw1.out)).mono ?_
    rintro ex w1 ⟨rfl, hb1⟩
    have HW1 := hid (Below.then_ hw1.out hb1)
    go_wp2
    go_ret
    exact ⟨rfl, HW1.out⟩
end Go.Proofs.YtahbfifnpceoeaaDoor
