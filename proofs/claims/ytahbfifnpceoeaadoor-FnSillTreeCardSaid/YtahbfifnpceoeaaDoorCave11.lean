/- WaterLeft, both. Lists are at most 2^20 long. -/
import Derived.Test.YtahbfifnpceoeaaDoorCave10
namespace Go.Proofs.YtahbfifnpceoeaaDoor
open Go.RowKit

def WlOk (D : CaveD) (L : Int) (n : Nat) (y : Nat → Int) : Prop := CaveOk D ∧ (0 ≤ L ∧ L ≤ 40) ∧ PumpsOk D n y
/-- A round of the sum. -/
theorem wlF_step (D : CaveD) (L : Int) (y : Nat → Int) (k i : Nat) : wlF D L y k (i + 1) = wlF D L y k i + D.g i * (llF D L y k i - D.f i) := rfl

set_option maxRecDepth 20000 in
set_option maxHeartbeats 1600000 in
theorem WaterLeft_impl (F G S : Option Addr) (D : CaveD) (c d e : Nat) (L : Int) (A : Option Addr) (n cu : Nat) (y : Nat → Int) (w : World) (hx : CaveAt w F G S D) (hs : CaveSmall D) (hok : CaveOk D) (h0 : 0 ≤ L) (h40 : L ≤ 40)
    (hi : Ints w A n y) (hn : n ≤ 1048576) (hy : PumpsOk D n y) :
    Calls Tryd.prog 43 #[.agg #[.slice F D.n c, .slice G D.q d, .slice S D.m e], .int .i64 L, .slice A n cu] w (RetV (.int .i64 (wlF D L y n D.n)) w) := by
  have hn6 := hok.1.2
  have hqn := hok.2.1
  have HX := hid hx
  have HI := hid hi
  have HY := hid hy
  have HOK := hid hok
  have HV := hid (fun w' hx' => RetB.yes (CaveValid_impl F G S D c d e w' hx' hs) hok)
  have HP := hid (fun (m : Nat) w' hx' hi' hm => LevelLeft_impl F G S D c d e L A n cu y m w' hx' hs hok h0 h40 hi' hn hy hm)
  have hg := fun k hk => wlF_bd hok h0 h40 y n k hk
  have HG := hid hg
  have hl := fun k => llF_bd (D := D) h0 y n k
  have HL := hid hl
  clear hx hok hi hg hy hl
  have HQ := hid hqn
  clear hqn
  have hB := hid (Blk.new w 26 #[.slice F D.n c, .slice G D.q d, .slice S D.m e])
  have hw1 := hid (below_alloc1 w (.cells #[.slice F D.n c, .slice G D.q d, .slice S D.m e] 26))
  go_enter Tryd.func43, Tryd.ntmps43
  go_wp2_with fail
  refine (HV.out _ (HX.out.below hw1.out)).mono ?_
  rintro ex w1 ⟨rfl, hb1⟩
  have hB1 := hid (hB.out.below hb1)
  have y0 := hB1.out.cell (i := 0) rfl
  have HW1 := hid (Below.then_ hw1.out hb1)
  clear hb1 HV
  go_wp2_with (go_at_call 63; (with_reducible refine (RetBS.yes (areIndices_any A n cu y (D.n : Int) _ (HI.out.below HW1.out) hn) HY.out).mono ?_); rintro e w' ⟨rfl, rfl⟩)
  go_loopw [7, 32] (fun v i wr => ∃ k : Nat, k ≤ D.n ∧ i = .int .i64 k ∧ v = .int .i64 (wlF D L y n k) ∧ Hid (Below w1.heap.size w1 wr)) (fun _ i _ => D.n - (intOf i).toNat)
  case atStart => exact ⟨0, by omega, rfl, rfl, Below.refl _ _⟩
  case round =>
    clear y0
    obtain ⟨k, hk, rfl, rfl, HB⟩ := hrel
    have hBr := hB1.out.below HB.out
    have HBW := hid (Below.then_ HW1.out HB.out)
    by_cases hlt : k < D.n
    · have hltz : (k : Int) < (D.n : Int) := by omega
      have hkq : k < D.q := by have := HQ.out; omega
      have hltq : (k : Int) < (D.q : Int) := by omega
      have hXr := HX.out.below HBW.out
      have hIr := HI.out.below HBW.out
      obtain ⟨bg, og, hG, hcg⟩ := hXr.are (by omega)
      obtain ⟨bf, off, hF, hcf⟩ := hXr.flo (by omega)
      have c1 : wr.cell? ⟨bf, off + k, none⟩ = some (.int .i64 (D.f k)) := hcf k hlt
      have s0 := sub_cell (hBr.cell (i := 0) rfl)
      have s1 := sub_cell (hBr.cell (i := 1) rfl)
      have s2 := sub_cell (hBr.cell (i := 2) rfl)
      have s3 : ∀ s : Sub wr, s.val.cell? ⟨bg, og + k, none⟩ = some (.int .i64 (D.g k)) := sub_cell (hcg k hkq)
      have hb1 := HG.out k (by omega)
      have hb2 := HL.out k
      have hch := HOK.out.2.2.2.1 k hlt
      obtain ⟨⟨f1, f2⟩, g1, g2⟩ := hch
      have HM := hid (mul_small g1 g2 (x := llF D L y n k - D.f k) (by omega) (by omega))
      have HS : Hid (wlF D L y n (k + 1) = wlF D L y n k + D.g k * (llF D L y n k - D.f k)) := wlF_step D L y n k
      clear hcg hcf
      subst hG hF
      have hm1 := HM.out.1
      have hm2 := HM.out.2
      have e1 : wrap64 (llF D L y n k - D.f k) = llF D L y n k - D.f k := by unfold wrap64; omega
      have e2 : wrap64 (D.g k * (llF D L y n k - D.f k)) = D.g k * (llF D L y n k - D.f k) := by unfold wrap64; omega
      have e3 : wrap64 (wlF D L y n k + D.g k * (llF D L y n k - D.f k)) = wlF D L y n k + D.g k * (llF D L y n k - D.f k) := by unfold wrap64; omega
      go_wp2
      refine wp_region_sub (by kernel_rfl) (by kernel_rfl) ?_
      repeat (go_big_quiet_step ((go_at_call 39; exact RetV.sub (HP.out k _ (hXr.below (Sub.h _)) (hIr.below (Sub.h _)) hlt))))
      refine wpQuiet_nil ?_
      intro _ hw'
      obtain ⟨s, hw''⟩ := hw'
      subst hw''
      have HB2 := hid (Below.then_ HB.out s.h)
      go_wp2
      go_roundw
      case rel => exact ⟨k + 1, by omega, by go_num, by rw [HS.out], HB2⟩
      case measure => simp [intOf] <;> omega
    · have : k = D.n := by omega
      subst this
      go_wp2
      go_ret
      exact ⟨rfl, HBW.out⟩

theorem WaterLeft_impl0 (F G S : Option Addr) (D : CaveD) (c d e : Nat) (L : Int) (A : Option Addr) (n cu : Nat) (y : Nat → Int) (w : World) (hx : CaveAt w F G S D) (hs : CaveSmall D)
    (hi : Ints w A n y) (hn : n ≤ 1048576) (hno : ¬ WlOk D L n y) :
    Calls Tryd.prog 43 #[.agg #[.slice F D.n c, .slice G D.q d, .slice S D.m e], .int .i64 L, .slice A n cu] w (RetV (.int .i64 (-1)) w) := by
  have HX := hid hx
  have HI := hid hi
  have HNO := hid hno
  have hB := hid (Blk.new w 26 #[.slice F D.n c, .slice G D.q d, .slice S D.m e])
  have hw1 := hid (below_alloc1 w (.cells #[.slice F D.n c, .slice G D.q d, .slice S D.m e] 26))
  clear hx hi hno
  by_cases hok : CaveOk D
  · have HV := hid (fun w' hx' => RetB.yes (CaveValid_impl F G S D c d e w' hx' hs) hok)
    have HOK := hid hok
    clear hok
    go_enter Tryd.func43, Tryd.ntmps43
    go_wp2_with fail
    refine (HV.out _ (HX.out.below hw1.out)).mono ?_
    rintro ex w1 ⟨rfl, hb1⟩
    have hB1 := hid (hB.out.below hb1)
    have y0 := hB1.out.cell (i := 0) rfl
    have HW1 := hid (Below.then_ hw1.out hb1)
    clear hb1 HV
    by_cases h0 : L < 0
    · go_wp2
      go_ret
      exact ⟨rfl, HW1.out⟩
    · by_cases h40 : 40 < L
      · go_wp2
        go_ret
        exact ⟨rfl, HW1.out⟩
      · have hy : ¬ PumpsOk D n y := fun hy => HNO.out ⟨HOK.out, ⟨by omega, by omega⟩, hy⟩
        have HY := hid hy
        clear hy
        go_wp2_with (go_at_call 63; (with_reducible refine (RetBS.no (areIndices_any A n cu y (D.n : Int) _ (HI.out.below HW1.out) hn) HY.out).mono ?_); rintro e w' ⟨rfl, rfl⟩)
        go_ret
        exact ⟨rfl, HW1.out⟩
  · have HV := hid (fun w' hx' => RetB.no (CaveValid_impl F G S D c d e w' hx' hs) hok)
    clear hok
    go_enter Tryd.func43, Tryd.ntmps43
    go_wp2_with fail
    refine (HV.out _ (HX.out.below hw1.out)).mono ?_
    rintro ex w1 ⟨rfl, hb1⟩
    go_wp2
    go_ret
    exact ⟨rfl, Below.then_ hw1.out hb1⟩

set_option maxRecDepth 20000 in
set_option maxHeartbeats 1600000 in
theorem WaterLeft_spec (F G S : Option Addr) (D : CaveD) (c d e : Nat) (L : Int) (A : Option Addr) (n cu : Nat) (y : Nat → Int) (w : World) (hx : CaveAt w F G S D) (hs : CaveSmall D) (hok : CaveOk D) (h0 : 0 ≤ L) (h40 : L ≤ 40)
    (hi : Ints w A n y) (hn : n ≤ 1048576) (hy : PumpsOk D n y) :
    Calls Tryd.prog 44 #[.agg #[.slice F D.n c, .slice G D.q d, .slice S D.m e], .int .i64 L, .slice A n cu] w (RetV (.int .i64 (wlF D L y n D.n)) w) := by
  have hn1 := hok.1.1
  have hn6 := hok.1.2
  have hqn := hok.2.1
  have HX := hid hx
  have HI := hid hi
  have HOK := hid hok
  have HP := hid (fun (m : Nat) w' hx' hi' hm => LevelLeft_spec F G S D c d e L A n cu y m w' hx' hs hok h0 h40 hi' hn hy hm)
  have hg := fun k hk => wlF_bd hok h0 h40 y n k hk
  have HG := hid hg
  have hl := fun k => llF_bd (D := D) h0 y n k
  have HL := hid hl
  have hz0 := (hok.2.2.2.1 0 (by omega)).1.1
  have hll0 := (hl 0).1
  clear hx hok hi hg hy hl
  have HQ := hid hqn
  clear hqn
  have hB := hid (Blk.new w 26 #[.slice F D.n c, .slice G D.q d, .slice S D.m e])
  have hw1 := hid (below_alloc1 w (.cells #[.slice F D.n c, .slice G D.q d, .slice S D.m e] 26))
  have hneg : ¬ llF D L y n 0 < 0 := by omega
  go_enter Tryd.func44, Tryd.ntmps44
  go_wp2_with fail
  refine (HP.out 0 _ (HX.out.below hw1.out) (HI.out.below hw1.out) (by omega)).mono ?_
  rintro ex w1 ⟨rfl, hb1⟩
  have hB1 := hid (hB.out.below hb1)
  have HW1 := hid (Below.then_ hw1.out hb1)
  clear hb1
  go_wp2
  go_loopw [7, 8] (fun v i wr => ∃ k : Nat, k ≤ D.n ∧ i = .int .i64 k ∧ v = .int .i64 (wlF D L y n k) ∧ Hid (Below w1.heap.size w1 wr)) (fun _ i _ => D.n - (intOf i).toNat)
  case atStart => exact ⟨0, by omega, rfl, rfl, Below.refl _ _⟩
  case round =>
    obtain ⟨k, hk, rfl, rfl, HB⟩ := hrel
    have hBr := hB1.out.below HB.out
    have HBW := hid (Below.then_ HW1.out HB.out)
    have y0 := hBr.cell (i := 0) rfl
    by_cases hlt : k < D.n
    · have hltz : (k : Int) < (D.n : Int) := by omega
      have hkq : k < D.q := by have := HQ.out; omega
      have hltq : (k : Int) < (D.q : Int) := by omega
      have hXr := HX.out.below HBW.out
      have hIr := HI.out.below HBW.out
      obtain ⟨bg, og, hG, hcg⟩ := hXr.are (by omega)
      obtain ⟨bf, off, hF, hcf⟩ := hXr.flo (by omega)
      have s0 := sub_cell (hBr.cell (i := 0) rfl)
      have s1 := sub_cell (hBr.cell (i := 1) rfl)
      have s2 := sub_cell (hBr.cell (i := 2) rfl)
      have s3 : ∀ s : Sub wr, s.val.cell? ⟨bg, og + k, none⟩ = some (.int .i64 (D.g k)) := sub_cell (hcg k hkq)
      have s4 : ∀ s : Sub wr, s.val.cell? ⟨bf, off + k, none⟩ = some (.int .i64 (D.f k)) := sub_cell (hcf k hlt)
      have hb1 := HG.out k (by omega)
      have hb2 := HL.out k
      have hch := HOK.out.2.2.2.1 k hlt
      obtain ⟨⟨f1, f2⟩, g1, g2⟩ := hch
      have HM := hid (mul_small g1 g2 (x := llF D L y n k - D.f k) (by omega) (by omega))
      have HS : Hid (wlF D L y n (k + 1) = wlF D L y n k + D.g k * (llF D L y n k - D.f k)) := wlF_step D L y n k
      clear hcg hcf
      subst hG hF
      have hm1 := HM.out.1
      have hm2 := HM.out.2
      have e1 : wrap64 (llF D L y n k - D.f k) = llF D L y n k - D.f k := by unfold wrap64; omega
      have e2 : wrap64 (D.g k * (llF D L y n k - D.f k)) = D.g k * (llF D L y n k - D.f k) := by unfold wrap64; omega
      have e3 : wrap64 (wlF D L y n k + D.g k * (llF D L y n k - D.f k)) = wlF D L y n k + D.g k * (llF D L y n k - D.f k) := by unfold wrap64; omega
      go_wp2
      refine wp_region_sub (by kernel_rfl) (by kernel_rfl) ?_
      repeat (go_big_quiet_step ((go_at_call 40; exact RetV.sub (HP.out k _ (hXr.below (Sub.h _)) (hIr.below (Sub.h _)) hlt))))
      refine wpQuiet_nil ?_
      intro _ hw'
      obtain ⟨s, hw''⟩ := hw'
      subst hw''
      have HB2 := hid (Below.then_ HB.out s.h)
      go_wp2
      go_roundw
      case rel => exact ⟨k + 1, by omega, by go_num, by rw [HS.out], HB2⟩
      case measure => simp [intOf] <;> omega
    · have : k = D.n := by omega
      subst this
      go_wp2
      go_ret
      exact ⟨rfl, HBW.out⟩

theorem WaterLeft_spec0 (F G S : Option Addr) (D : CaveD) (c d e : Nat) (L : Int) (A : Option Addr) (n cu : Nat) (y : Nat → Int) (w : World) (hx : CaveAt w F G S D) (hs : CaveSmall D)
    (hi : Ints w A n y) (hn : n ≤ 1048576) (hno : ¬ WlOk D L n y) :
    Calls Tryd.prog 44 #[.agg #[.slice F D.n c, .slice G D.q d, .slice S D.m e], .int .i64 L, .slice A n cu] w (RetV (.int .i64 (-1)) w) := by
  have hw1 := hid (below_alloc1 w (.cells #[.slice F D.n c, .slice G D.q d, .slice S D.m e] 26))
  have HP := hid (fun w' hx' hi' => LevelLeft_spec0 F G S D c d e L A n cu y 0 w' hx' hs hi' hn (fun h => hno ⟨h.1, h.2.1, h.2.2.1⟩))
  have HX := hid hx
  have HI := hid hi
  clear hno hx hi
  go_enter Tryd.func44, Tryd.ntmps44
  go_wp2_with fail
  refine (HP.out _ (HX.out.below hw1.out) (HI.out.below hw1.out)).mono ?_
  rintro ex w1 ⟨rfl, hb1⟩
  go_wp2
  go_ret
  exact ⟨rfl, Below.then_ hw1.out hb1⟩

theorem WaterLeft_same (D : CaveD) (hs : CaveSmall D) (L : Int) (n : Nat) (y : Nat → Int) (hn : n ≤ 1048576) : ∃ r : Int,
    (∀ (F G S : Option Addr) (c d e : Nat) (A : Option Addr) (cu : Nat) (w : World), CaveAt w F G S D → Ints w A n y → Calls Tryd.prog 44 #[.agg #[.slice F D.n c, .slice G D.q d, .slice S D.m e], .int .i64 L, .slice A n cu] w (RetV (.int .i64 r) w)) ∧
    (∀ (F G S : Option Addr) (c d e : Nat) (A : Option Addr) (cu : Nat) (w : World), CaveAt w F G S D → Ints w A n y → Calls Tryd.prog 43 #[.agg #[.slice F D.n c, .slice G D.q d, .slice S D.m e], .int .i64 L, .slice A n cu] w (RetV (.int .i64 r) w)) := by
  by_cases h : WlOk D L n y
  · obtain ⟨hok, ⟨h0, h40⟩, hy⟩ := h
    exact ⟨_, fun F G S c d e A cu w hx hi => WaterLeft_spec F G S D c d e L A n cu y w hx hs hok h0 h40 hi hn hy, fun F G S c d e A cu w hx hi => WaterLeft_impl F G S D c d e L A n cu y w hx hs hok h0 h40 hi hn hy⟩
  · exact ⟨_, fun F G S c d e A cu w hx hi => WaterLeft_spec0 F G S D c d e L A n cu y w hx hs hi hn h, fun F G S c d e A cu w hx hi => WaterLeft_impl0 F G S D c d e L A n cu y w hx hs hi hn h⟩
end Go.Proofs.YtahbfifnpceoeaaDoor
