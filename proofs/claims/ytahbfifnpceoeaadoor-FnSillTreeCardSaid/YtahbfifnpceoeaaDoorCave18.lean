/- TreeLevel of the reference. -/
import Derived.Test.YtahbfifnpceoeaaDoorCave17
import Derived.Test.YtahbfifnpceoeaaDoorOrd
import Derived.Deep.RegionHeld3
namespace Go.Proofs.YtahbfifnpceoeaaDoor
open Go.RowKit

set_option maxRecDepth 20000 in
set_option maxHeartbeats 3200000 in
theorem TreeLevel_spec (F G S : Option Addr) (D : CaveD) (c d e : Nat) (a b : Nat) (w : World) (hx : CaveAt w F G S D) (hs : CaveSmall D) (hok : CaveOk D) (ha : a < D.n) (hb : b < D.n) :
    Calls Tryd.prog 27 #[.agg #[.slice F D.n c, .slice G D.q d, .slice S D.m e], .int .i64 a, .int .i64 b] w (RetV (.int .i64 (jlF D a b)) w) := by
  have hn1 := hok.1.1
  have hn6 := hok.1.2
  have HX := hid hx
  have HV := hid (fun w' hx' => RetB.yes (CaveValid_spec F G S D c d e w' hx' hs) hok)
  have HT := hid (fun w' hx' => SillTree_spec F G S D c d e w' hx' hs hok)
  have HP := hid (fun U cu w' hx' hU => l4High_any F G S D c d e U cu b hok (D.n + 1) [] (by simp) .nil (fun v hv => by cases hv) a (-1) (fun _ => False) w' ha (Off.root a) (fun v hv => by cases hv) hx' hU)
  have HQ := hid (fun r hr => tree_lev (D := D) hok ha hb (r := r) hr)
  have haz : (a : Int) ≤ (D.n : Int) - 1 := by omega
  have hbz : (b : Int) ≤ (D.n : Int) - 1 := by omega
  clear hx hok
  have hB := hid (Blk.new w 26 #[.slice F D.n c, .slice G D.q d, .slice S D.m e])
  have hw1 := hid (below_alloc1 w (.cells #[.slice F D.n c, .slice G D.q d, .slice S D.m e] 26))
  go_enter Tryd.func27, Tryd.ntmps27
  go_wp2_with fail
  refine (HV.out _ (HX.out.below hw1.out)).mono ?_
  rintro ex w1 ⟨rfl, hb1⟩
  have hB1 := hid (hB.out.below hb1)
  have y0 := hB1.out.cell (i := 0) rfl
  have y1 := hB1.out.cell (i := 1) rfl
  have y2 := hB1.out.cell (i := 2) rfl
  have HW1 := hid (Below.then_ hw1.out hb1)
  clear hb1 HV
  go_wp2_with (first | (go_at_call 61; (with_reducible refine (l1In_y (a : Int) _ _ _ (by omega) haz).mono ?_); rintro e w' ⟨rfl, rfl⟩) | (go_at_call 61; (with_reducible refine (l1In_y (b : Int) _ _ _ (by omega) hbz).mono ?_); rintro e w' ⟨rfl, rfl⟩))
  go_region_held3 (fun v => v.cell? ⟨w.heap.size, 0, none⟩ = some (.slice F D.n c) ∧ v.cell? ⟨w.heap.size, 1, none⟩ = some (.slice G D.q d) ∧ v.cell? ⟨w.heap.size, 2, none⟩ = some (.slice S D.m e)) (go_keep)
    (first
    | (go_at_call 17; refine (HT.out _ ((HX.out.below HW1.out).below (Below.refl _ _).drew)).mono ?_; rintro ex7 w7 ⟨U, cu, rfl, hi7, hb7⟩; have HI7 := hid hi7; have HB7 := hid hb7; have c0 := cell_below HB7.out y0; have c1 := cell_below HB7.out y1; have c2 := cell_below HB7.out y2; clear hi7 hb7)
    | (go_at_call 68; refine (HP.out U cu _ (((HX.out.below HW1.out).below (Below.refl _ _).drew).below HB7.out) HI7.out).mono ?_; rintro ex9 w9 ⟨r, rfl, hl9, hb9⟩; have HL9 := hid hl9; have HB9 := hid hb9; have c0 := cell_below HB9.out c0; have c1 := cell_below HB9.out c1; have c2 := cell_below HB9.out c2; clear hl9 hb9))
  have HE : Hid (r = jlF D a b) := hid (HQ.out r (by
    have := HL9.out
    simpa using this))
  have HB10 := hid (HW1.out.drew.trans ((Below.then_ HB7.out HB9.out).mono HW1.out.size))
  go_wp2
  go_ret
  exact ⟨by rw [← HE.out]; rfl, HB10.out⟩
end Go.Proofs.YtahbfifnpceoeaaDoor
