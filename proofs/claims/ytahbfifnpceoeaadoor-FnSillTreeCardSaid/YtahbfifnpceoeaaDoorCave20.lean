/- TreeLevel for all arguments. -/
import Derived.Test.YtahbfifnpceoeaaDoorCave19
namespace Go.Proofs.YtahbfifnpceoeaaDoor
open Go.RowKit

set_option maxRecDepth 20000 in
theorem TreeLevel_impl0 (F G S : Option Addr) (D : CaveD) (c d e : Nat) (a b : Int) (w : World) (hx : CaveAt w F G S D) (hs : CaveSmall D) (hno : ¬ JlOk D a b) :
    Calls Tryd.prog 26 #[.agg #[.slice F D.n c, .slice G D.q d, .slice S D.m e], .int .i64 a, .int .i64 b] w (RetV (.int .i64 (-1)) w) := by
  have HX := hid hx
  have hB := hid (Blk.new w 26 #[.slice F D.n c, .slice G D.q d, .slice S D.m e])
  have hw1 := hid (below_alloc1 w (.cells #[.slice F D.n c, .slice G D.q d, .slice S D.m e] 26))
  by_cases hok : CaveOk D
  · have hn1 := hok.1.1
    have hn6 := hok.1.2
    have HV := hid (fun w' hx' => RetB.yes (CaveValid_impl F G S D c d e w' hx' hs) hok)
    have HNO : Hid (¬ ((0 ≤ a ∧ a < D.n) ∧ (0 ≤ b ∧ b < D.n))) := hid (fun h => hno ⟨hok, h⟩)
    clear hok hno hx
    go_enter Tryd.func26, Tryd.ntmps26
    go_wp2_with fail
    refine (HV.out _ (HX.out.below hw1.out)).mono ?_
    rintro ex w1 ⟨rfl, hb1⟩
    have hB1 := hid (hB.out.below hb1)
    have y0 := hB1.out.cell (i := 0) rfl
    have HW1 := hid (Below.then_ hw1.out hb1)
    clear hb1 HV
    by_cases ha : 0 ≤ a ∧ a < D.n
    · have HA := hid ha
      have HB := hid (fun hb => HNO.out ⟨ha, hb⟩)
      clear ha
      go_wp2_with (first | (go_at_call 67; (with_reducible refine (isIndex_y a _ _ HA.out.1 HA.out.2).mono ?_); rintro e w' ⟨rfl, rfl⟩) | (go_at_call 67; (with_reducible refine (isIndex_n b _ _ HB.out).mono ?_); rintro e w' ⟨rfl, rfl⟩))
      go_ret
      exact ⟨rfl, HW1.out⟩
    · have HA := hid ha
      clear ha
      go_wp2_with (go_at_call 67; (with_reducible refine (isIndex_n a _ _ HA.out).mono ?_); rintro e w' ⟨rfl, rfl⟩)
      go_ret
      exact ⟨rfl, HW1.out⟩
  · have HV := hid (fun w' hx' => RetB.no (CaveValid_impl F G S D c d e w' hx' hs) hok)
    clear hok hno hx
    go_enter Tryd.func26, Tryd.ntmps26
    go_wp2_with fail
    refine (HV.out _ (HX.out.below hw1.out)).mono ?_
    rintro ex w1 ⟨rfl, hb1⟩
    have HW1 := hid (Below.then_ hw1.out hb1)
    go_wp2
    go_ret
    exact ⟨rfl, HW1.out⟩

set_option maxRecDepth 20000 in
theorem TreeLevel_spec0 (F G S : Option Addr) (D : CaveD) (c d e : Nat) (a b : Int) (w : World) (hx : CaveAt w F G S D) (hs : CaveSmall D) (hno : ¬ JlOk D a b) :
    Calls Tryd.prog 27 #[.agg #[.slice F D.n c, .slice G D.q d, .slice S D.m e], .int .i64 a, .int .i64 b] w (RetV (.int .i64 (-1)) w) := by
  have HX := hid hx
  have hB := hid (Blk.new w 26 #[.slice F D.n c, .slice G D.q d, .slice S D.m e])
  have hw1 := hid (below_alloc1 w (.cells #[.slice F D.n c, .slice G D.q d, .slice S D.m e] 26))
  by_cases hok : CaveOk D
  · have hn1 := hok.1.1
    have hn6 := hok.1.2
    have HV := hid (fun w' hx' => RetB.yes (CaveValid_spec F G S D c d e w' hx' hs) hok)
    have HNO : Hid (¬ ((0 ≤ a ∧ a < D.n) ∧ (0 ≤ b ∧ b < D.n))) := hid (fun h => hno ⟨hok, h⟩)
    clear hok hno hx
    go_enter Tryd.func27, Tryd.ntmps27
    go_wp2_with fail
    refine (HV.out _ (HX.out.below hw1.out)).mono ?_
    rintro ex w1 ⟨rfl, hb1⟩
    have hB1 := hid (hB.out.below hb1)
    have y0 := hB1.out.cell (i := 0) rfl
    have y1 := hB1.out.cell (i := 1) rfl
    have y2 := hB1.out.cell (i := 2) rfl
    have HW1 := hid (Below.then_ hw1.out hb1)
    clear hb1 HV
    by_cases ha : 0 ≤ a ∧ a ≤ (D.n : Int) - 1
    · have HA := hid ha
      have HB : Hid (¬ (0 ≤ b ∧ b ≤ (D.n : Int) - 1)) := hid (fun hb => HNO.out ⟨⟨ha.1, by omega⟩, ⟨hb.1, by omega⟩⟩)
      clear ha
      go_wp2_with (first | (go_at_call 61; (with_reducible refine (l1In_y a _ _ _ HA.out.1 HA.out.2).mono ?_); rintro e w' ⟨rfl, rfl⟩) | (go_at_call 61; (with_reducible refine (l1In_n b _ _ _ HB.out).mono ?_); rintro e w' ⟨rfl, rfl⟩))
      go_ret
      exact ⟨rfl, HW1.out⟩
    · have HA := hid ha
      clear ha
      go_wp2_with (go_at_call 61; (with_reducible refine (l1In_n a _ _ _ HA.out).mono ?_); rintro e w' ⟨rfl, rfl⟩)
      go_ret
      exact ⟨rfl, HW1.out⟩
  · have HV := hid (fun w' hx' => RetB.no (CaveValid_spec F G S D c d e w' hx' hs) hok)
    clear hok hno hx
    go_enter Tryd.func27, Tryd.ntmps27
    go_wp2_with fail
    refine (HV.out _ (HX.out.below hw1.out)).mono ?_
    rintro ex w1 ⟨rfl, hb1⟩
    have HW1 := hid (Below.then_ hw1.out hb1)
    go_wp2
    go_ret
    exact ⟨rfl, HW1.out⟩

theorem TreeLevel_same (D : CaveD) (hs : CaveSmall D) (a b : Int) : ∃ r : Int,
    (∀ (F G S : Option Addr) (c d e : Nat) (w : World), CaveAt w F G S D → Calls Tryd.prog 27 #[.agg #[.slice F D.n c, .slice G D.q d, .slice S D.m e], .int .i64 a, .int .i64 b] w (RetV (.int .i64 r) w)) ∧
    (∀ (F G S : Option Addr) (c d e : Nat) (w : World), CaveAt w F G S D → Calls Tryd.prog 26 #[.agg #[.slice F D.n c, .slice G D.q d, .slice S D.m e], .int .i64 a, .int .i64 b] w (RetV (.int .i64 r) w)) := by
  by_cases h : JlOk D a b
  · obtain ⟨hok, ⟨ha, ha2⟩, ⟨hb, hb2⟩⟩ := h
    obtain ⟨x, rfl⟩ := Int.eq_ofNat_of_zero_le ha
    obtain ⟨y, rfl⟩ := Int.eq_ofNat_of_zero_le hb
    exact ⟨_, fun F G S c d e w hx => TreeLevel_spec F G S D c d e x y w hx hs hok (by omega) (by omega), fun F G S c d e w hx => TreeLevel_impl F G S D c d e x y w hx hs hok (by omega) (by omega)⟩
  · exact ⟨_, fun F G S c d e w hx => TreeLevel_spec0 F G S D c d e a b w hx hs h, fun F G S c d e w hx => TreeLevel_impl0 F G S D c d e a b w hx hs h⟩
end Go.Proofs.YtahbfifnpceoeaaDoor
