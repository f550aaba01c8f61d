/- RescueStates of the program and of the reference, whatever the arguments: both return RescueTime's number. Lists are at most 2^20 long. -/
import Derived.Test.YtlhcjbgcgbeocaaDoorResc7
import Derived.Test.YtlhcjbgcgbeocaaDoorAir
namespace Go.Proofs.YtlhcjbgcgbeocaaDoor
open Go.RowKit

set_option maxRecDepth 20000 in
theorem RescueStates_implV (P Q : Option Addr) (D : SrchD) (c d : Nat) (br f t : Int) (w : World) (hx : SrchAt w P Q D) (hs : SrchSmall D) :
    Calls Tryd.prog 44 #[.agg #[.int .i64 D.s, .slice P D.m c, .slice Q D.k d], .int .i64 br, .int .i64 f, .int .i64 t] w (RetV (.int .i64 (rtF D br f t)) w) := by
  by_cases hok : RtOk D br f t
  · have hok' := hok
    obtain ⟨h1, ⟨h2, h3⟩, ⟨h4, h5⟩, h6, h7⟩ := hok
    have hsk := h1.2.2.1
    obtain ⟨b, rfl⟩ := Int.eq_ofNat_of_zero_le (show 0 ≤ br by omega)
    obtain ⟨x, rfl⟩ := Int.eq_ofNat_of_zero_le h4
    obtain ⟨y, rfl⟩ := Int.eq_ofNat_of_zero_le h6
    refine RetI.val (States_main P Q D c d b x y w hx hs h1 (by omega) (by omega) (by omega) (by omega)) fun r h => ?_
    exact RT.uniq (.inl ⟨hok', by rw [Int.toNat_natCast, Int.toNat_natCast]; exact sdist_ri h1 (fun _ _ _ h => h) (fun _ _ _ h => edge_of_min h) (by omega) (by omega) h⟩) (rtF_spec D b x y)
  · rw [rtF_bad hok]
    have HN := hid hok
    clear hok
    have hw1 := below_alloc1 w (.cells #[.int .i64 D.s, .slice P D.m c, .slice Q D.k d] 26)
    have hB := Blk.new w 26 #[.int .i64 D.s, .slice P D.m c, .slice Q D.k d]
    by_cases hok : SrchOk D ∧ 1 ≤ br ∧ br ≤ 60
    · have HOK := hid hok
      clear hok
      go_enter Tryd.func44, Tryd.ntmps44
      go_wp2_with fail
      refine (RetB.yes (rescueFits_any P Q D c d br _ (hx.below hw1) hs) HOK.out).mono ?_
      rintro e w1 ⟨rfl, hb1⟩
      have hB1 := hB.below hb1
      have y0 := hB1.cell (i := 0) rfl
      have HW2 := hid (Below.then_ hw1 hb1)
      clear hB hB1 hw1 hb1 hx
      by_cases hf : 0 ≤ f ∧ f < D.s
      · obtain ⟨hf1, hf2⟩ := hf
        have HT : Hid (¬ (0 ≤ t ∧ t < D.s)) := fun h => HN.out ⟨HOK.out.1, HOK.out.2, ⟨hf1, hf2⟩, h⟩
        go_wp2_with (first | (go_at_call 48; (with_reducible refine (isIndex_n t _ _ HT.out).mono ?_); rintro e w' ⟨rfl, rfl⟩) | (go_at_call 48; (with_reducible refine (isIndex_y f _ _ hf1 hf2).mono ?_); rintro e w' ⟨rfl, rfl⟩))
        go_ret
        exact ⟨rfl, HW2.out⟩
      · have HF := hid hf
        clear hf
        go_wp2_with (go_at_call 48; refine (isIndex_n f _ _ HF.out).mono ?_; rintro e w' ⟨rfl, rfl⟩)
        go_ret
        exact ⟨rfl, HW2.out⟩
    · have HOK := hid hok
      clear hok
      go_enter Tryd.func44, Tryd.ntmps44
      go_wp2_with fail
      refine (RetB.no (rescueFits_any P Q D c d br _ (hx.below hw1) hs) HOK.out).mono ?_
      rintro e w1 ⟨rfl, hb1⟩
      go_wp2
      go_ret
      exact ⟨rfl, Below.then_ hw1 hb1⟩

set_option maxRecDepth 20000 in
theorem RescueStates_specV (P Q : Option Addr) (D : SrchD) (c d : Nat) (br f t : Int) (w : World) (hx : SrchAt w P Q D) (hs : SrchSmall D) :
    Calls Tryd.prog 45 #[.agg #[.int .i64 D.s, .slice P D.m c, .slice Q D.k d], .int .i64 br, .int .i64 f, .int .i64 t] w (RetV (.int .i64 (rtF D br f t)) w) := by
  by_cases hok : RtOk D br f t
  · have hok' := hok
    obtain ⟨h1, ⟨h2, h3⟩, ⟨h4, h5⟩, h6, h7⟩ := hok
    have hsk := h1.2.2.1
    obtain ⟨b, rfl⟩ := Int.eq_ofNat_of_zero_le (show 0 ≤ br by omega)
    obtain ⟨x, rfl⟩ := Int.eq_ofNat_of_zero_le h4
    obtain ⟨y, rfl⟩ := Int.eq_ofNat_of_zero_le h6
    refine RetI.val (States_specM P Q D c d b x y w hx hs h1 (by omega) (by omega) (by omega) (by omega)) fun r h => ?_
    exact RT.uniq (.inl ⟨hok', by rw [Int.toNat_natCast, Int.toNat_natCast]; exact sdist_ri h1 (fun _ _ _ h => edge_of_min h) (fun _ _ _ h => h) (by omega) (by omega) h⟩) (rtF_spec D b x y)
  · rw [rtF_bad hok]
    have HN := hid hok
    clear hok
    have hw1 := below_alloc1 w (.cells #[.int .i64 D.s, .slice P D.m c, .slice Q D.k d] 26)
    have hB := Blk.new w 26 #[.int .i64 D.s, .slice P D.m c, .slice Q D.k d]
    have hR := RescueTime_specV P Q D c d br f f _ (hx.below hw1) hs
    by_cases h0 : RtOk D br f f
    · rw [rtF_same h0] at hR
      have HT : Hid (¬ (0 ≤ t ∧ t ≤ D.s - 1)) := fun h => HN.out ⟨h0.1, h0.2.1, h0.2.2.1, h.1, by omega⟩
      have hs1 := h0.1.1.1
      have hs2 := h0.1.1.2
      have HR := hid hR
      clear hR h0
      go_enter Tryd.func45, Tryd.ntmps45
      go_wp2_with fail
      refine HR.out.mono ?_
      rintro e w1 ⟨rfl, hb1⟩
      have hB1 := hB.below hb1
      have y0 := hB1.cell (i := 0) rfl
      have HW2 := hid (Below.then_ hw1 hb1)
      clear hB hB1 hw1 hb1 hx
      go_wp2_with (go_at_call 49; (with_reducible refine (l1In_n t _ _ _ HT.out).mono ?_); rintro e w' ⟨rfl, rfl⟩)
      go_ret
      exact ⟨rfl, HW2.out⟩
    · rw [rtF_bad h0] at hR
      have HR := hid hR
      clear hR h0
      go_enter Tryd.func45, Tryd.ntmps45
      go_wp2_with fail
      refine HR.out.mono ?_
      rintro e w1 ⟨rfl, hb1⟩
      go_wp2
      go_ret
      exact ⟨rfl, Below.then_ hw1 hb1⟩
end Go.Proofs.YtlhcjbgcgbeocaaDoor
