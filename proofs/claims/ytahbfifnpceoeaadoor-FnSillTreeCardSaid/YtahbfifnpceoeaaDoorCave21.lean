/- SillsHigh, both. Lists are at most 2^20 long. For the door. -/
import Derived.Test.YtahbfifnpceoeaaDoorCave14
namespace Go.Proofs.YtahbfifnpceoeaaDoor
open Go.RowKit

def ShOk (D : CaveD) (n : Nat) (y : Nat → Int) : Prop := CaveOk D ∧ SomeOk D n y
theorem shF_step {D : CaveD} {y : Nat → Int} {k i : Nat} (h : y k = (i : Int)) : shF D y (k + 1) = shF D y k + D.h i := by rw [shF, h, Int.toNat_natCast]

set_option maxRecDepth 20000 in
set_option maxHeartbeats 1600000 in
theorem SillsHigh_impl (F G S : Option Addr) (D : CaveD) (c d e : Nat) (A : Option Addr) (n cu : Nat) (y : Nat → Int) (w : World) (hx : CaveAt w F G S D) (hs : CaveSmall D) (hi : Ints w A n y) (hn : n ≤ 1048576) (hok : ShOk D n y) :
    Calls Tryd.prog 24 #[.agg #[.slice F D.n c, .slice G D.q d, .slice S D.m e], .slice A n cu] w (RetV (.int .i64 (shF D y n)) w) := by
  have hm9 := hok.1.2.2.1
  have HX := hid hx
  have HI := hid hi
  have HY := hid hok.2
  have HOK := hid hok.1
  have HBD := hid (fun k hk => shF_bd hok.1 (y := y) (n := n) hok.2 k hk)
  have HV := hid (fun w' hx' => RetB.yes (CaveValid_impl F G S D c d e w' hx' hs) hok.1)
  have hB := hid (Blk.new w 26 #[.slice F D.n c, .slice G D.q d, .slice S D.m e])
  have hw1 := hid (below_alloc1 w (.cells #[.slice F D.n c, .slice G D.q d, .slice S D.m e] 26))
  clear hx hi hok
  go_enter Tryd.func24, Tryd.ntmps24
  go_wp2_with fail
  refine (HV.out _ (HX.out.below hw1.out)).mono ?_
  rintro ex w1 ⟨rfl, hb1⟩
  have hB1 := hid (hB.out.below hb1)
  have y2 := hB1.out.cell (i := 2) rfl
  have HW1 := hid (Below.then_ hw1.out hb1)
  clear hb1 HV
  go_wp2_with (go_at_call 63; (with_reducible refine (RetBS.yes (areIndices_any A n cu y (D.m : Int) _ (HI.out.below HW1.out) hn) HY.out).mono ?_); rintro e w' ⟨rfl, rfl⟩)
  clear y2
  go_loopw [5, 21] (fun v i wr => ∃ k : Nat, k ≤ n ∧ i = .int .i64 k ∧ v = .int .i64 (shF D y k) ∧ Hid (Below w1.heap.size w1 wr)) (fun _ i _ => n - (intOf i).toNat)
  case atStart => exact ⟨0, by omega, rfl, rfl, Below.refl _ _⟩
  case round =>
    obtain ⟨k, hk, rfl, rfl, HB⟩ := hrel
    have HBW := hid (Below.then_ HW1.out HB.out)
    by_cases hlt : k < n
    · have hltz : (k : Int) < (n : Int) := by omega
      have hyk := HY.out k hlt
      obtain ⟨i, hi⟩ := Int.eq_ofNat_of_zero_le hyk.1
      have him : i < D.m := by omega
      have himz : (i : Int) < (D.m : Int) := by omega
      obtain ⟨bu, ou, rfl, hcu⟩ := (HI.out.below HBW.out) (by omega)
      have c1 : wr.cell? ⟨bu, ou + k, none⟩ = some (.int .i64 i) := by rw [← hi]; exact hcu k hlt
      have HS := hid (shF_step (D := D) hi)
      obtain ⟨bs, os, hS, a1, a2, a3⟩ := (HX.out.below HBW.out).sil.at_ him
      have hbs := hid (hB1.out.below HB.out)
      have y2 := hbs.out.cell (i := 2) rfl
      rw [hS] at y2
      have hbd := HBD.out k (by omega)
      have hhk := sill_h HOK.out him
      have e3 : wrap64 (shF D y k + D.h i) = shF D y k + D.h i := by unfold wrap64; omega
      clear hcu hi hyk hS a1 a2
      go_wp2
      go_roundw
      case rel => exact ⟨k + 1, by omega, by go_num, by rw [HS.out], HB⟩
      case measure => simp [intOf] <;> omega
    · have : k = n := by omega
      subst this
      go_wp2
      go_ret
      exact ⟨rfl, HBW.out⟩

set_option maxRecDepth 20000 in
set_option maxHeartbeats 1600000 in
theorem SillsHigh_spec (F G S : Option Addr) (D : CaveD) (c d e : Nat) (A : Option Addr) (n cu : Nat) (y : Nat → Int) (w : World) (hx : CaveAt w F G S D) (hs : CaveSmall D) (hi : Ints w A n y) (hn : n ≤ 1048576) (hok : CaveOk D) :
    Calls Tryd.prog 35 #[.agg #[.slice F D.n c, .slice G D.q d, .slice S D.m e], .slice A n cu] w fun ex w' => ∃ r : Int, ex = .returned (.int .i64 r) ∧ (SomeOk D n y → r = shF D y n) ∧ (¬ SomeOk D n y → r = -1) ∧ Below w.heap.size w w' := by
  have hm9 := hok.2.2.1
  have HX := hid hx
  have HI := hid hi
  have HOK := hid hok
  have HV := hid (fun w' hx' => RetB.yes (CaveValid_spec F G S D c d e w' hx' hs) hok)
  have hB := hid (Blk.new w 26 #[.slice F D.n c, .slice G D.q d, .slice S D.m e])
  have hw1 := hid (below_alloc1 w (.cells #[.slice F D.n c, .slice G D.q d, .slice S D.m e] 26))
  clear hx hi hok
  go_enter Tryd.func35, Tryd.ntmps35
  go_wp2_with fail
  refine (HV.out _ (HX.out.below hw1.out)).mono ?_
  rintro ex w1 ⟨rfl, hb1⟩
  have hB1 := hid (hB.out.below hb1)
  have HW1 := hid (Below.then_ hw1.out hb1)
  clear hb1 HV
  go_wp2
  go_loopw [5, 6] (fun v i wr => ∃ k : Nat, k ≤ n ∧ i = .int .i64 k ∧ v = .int .i64 (shF D y k) ∧ Hid (SomeOk D k y) ∧ Hid (Below w1.heap.size w1 wr)) (fun _ i _ => n - (intOf i).toNat)
  case atStart => exact ⟨0, by omega, rfl, rfl, hid (fun j hj => absurd hj (by omega)), Below.refl _ _⟩
  case round =>
    obtain ⟨k, hk, rfl, rfl, HK, HB⟩ := hrel
    have HBW := hid (Below.then_ HW1.out HB.out)
    have hbs := hid (hB1.out.below HB.out)
    by_cases hlt : k < n
    · have hltz : (k : Int) < (n : Int) := by omega
      obtain ⟨bu, ou, rfl, hcu⟩ := (HI.out.below HBW.out) (by omega)
      have c1 := hcu k hlt
      have s2 := sub_cell (hbs.out.cell (i := 2) rfl)
      clear hcu
      by_cases hyk : 0 ≤ y k ∧ y k ≤ (D.m : Int) - 1
      · obtain ⟨i, hi⟩ := Int.eq_ofNat_of_zero_le hyk.1
        have him : i < D.m := by omega
        have himz : (i : Int) < (D.m : Int) := by omega
        have him1 : (i : Int) ≤ (D.m : Int) - 1 := by omega
        have HS := hid (shF_step (D := D) hi)
        have HK2 : Hid (SomeOk D (k + 1) y) := fun j hj => by
          by_cases e : j = k
          · subst e; omega
          · exact HK.out j (by omega)
        dsimp only at c1
        rw [hi] at c1
        have hbd := shF_bd HOK.out (y := y) (n := k) HK.out k (Nat.le_refl _)
        have hhk := sill_h HOK.out him
        have e3 : wrap64 (shF D y k + D.h i) = shF D y k + D.h i := by unfold wrap64; omega
        have s0 := sub_cell c1
        clear hyk hi
        go_wp2
        refine wp_region_sub (by kernel_rfl) (by kernel_rfl) ?_
        repeat (go_big_quiet_step ((go_at_call 61; exact RetS.sub (l1In_y (i : Int) _ _ _ (by omega) him1))))
        refine wpQuiet_nil ?_
        intro _ hw'
        obtain ⟨s, hw''⟩ := hw'
        subst hw''
        have hsv := s.h
        generalize s.val = v at hsv ⊢
        have HB2 := hid (Below.then_ HB.out hsv)
        have HBW2 := hid (Below.then_ HBW.out hsv)
        have c2 := cell_below hsv c1
        have hbs2 := hid (hbs.out.below hsv)
        obtain ⟨bs, os, hS, a1, a2, a3⟩ := (HX.out.below HBW2.out).sil.at_ him
        have y2 := hbs2.out.cell (i := 2) rfl
        rw [hS] at y2
        clear s0 s2 c1 hsv hS a1 a2 HB HBW hbs
        go_wp2
        go_quiet (fail)
        go_wp2
        go_roundw
        case rel => exact ⟨k + 1, by omega, by go_num, by rw [HS.out], HK2, hid (below_drewN HB2.out _)⟩
        case measure => simp [intOf] <;> omega
      · have HYK := hid hyk
        have s0 := sub_cell c1
        clear hyk
        go_wp2
        refine wp_region_sub (by kernel_rfl) (by kernel_rfl) ?_
        repeat (go_big_quiet_step ((go_at_call 61; exact RetS.sub (l1In_n (y k) _ _ _ HYK.out))))
        refine wpQuiet_nil ?_
        intro _ hw'
        obtain ⟨s, hw''⟩ := hw'
        subst hw''
        have hsv := hid s.h
        clear s0 s2 c1
        go_wp2
        go_ret
        exact ⟨-1, rfl, fun h => absurd (h k hlt) (fun h2 => HYK.out ⟨h2.1, by omega⟩), fun _ => rfl, Below.then_ HBW.out hsv.out⟩
    · have : k = n := by omega
      subst this
      go_wp2
      go_ret
      exact ⟨_, rfl, fun _ => rfl, fun h => absurd HK.out h, HBW.out⟩
end Go.Proofs.YtahbfifnpceoeaaDoor
