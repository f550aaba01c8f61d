/- The program's RescueTime, whatever the arguments. Lists are at most 2^20 long. -/
import Derived.Test.YtlhcjbgcgbeocaaDoorResc4
namespace Go.Proofs.YtlhcjbgcgbeocaaDoor
open Go.RowKit

theorem RescueTime_impl (P Q : Option Addr) (D : SrchD) (c d : Nat) (br f t : Int) (w : World) (hx : SrchAt w P Q D) (hs : SrchSmall D) :
    Calls Tryd.prog 28 #[.agg #[.int .i64 D.s, .slice P D.m c, .slice Q D.k d], .int .i64 br, .int .i64 f, .int .i64 t] w (RetI (RT D br f t) w) := by
  by_cases hok : RtOk D br f t
  · obtain ⟨h1, ⟨h2, h3⟩, ⟨h4, h5⟩, h6, h7⟩ := hok
    have hsk := h1.2.2.1
    obtain ⟨x, rfl⟩ := Int.eq_ofNat_of_zero_le h4
    obtain ⟨y, rfl⟩ := Int.eq_ofNat_of_zero_le h6
    refine (Rescue_main P Q D c d br x y w hx hs h1 h2 h3 (by omega) (by omega)).mono fun e w' ⟨r, he, hr, hb⟩ => ⟨r, he, .inl ⟨⟨h1, ⟨h2, h3⟩, ⟨h4, h5⟩, h6, h7⟩, ?_⟩, hb⟩
    rwa [Int.toNat_natCast, Int.toNat_natCast]
  · have HN := hid hok
    clear hok
    have hw1 := below_alloc1 w (.cells #[.int .i64 D.s, .slice P D.m c, .slice Q D.k d] 26)
    have hB := Blk.new w 26 #[.int .i64 D.s, .slice P D.m c, .slice Q D.k d]
    by_cases hok : SrchOk D ∧ 1 ≤ br ∧ br ≤ 60
    · have HOK := hid hok
      clear hok
      go_enter Tryd.func28, Tryd.ntmps28
      go_wp2_with fail
      refine (RetB.yes (rescueFits_any P Q D c d br _ (hx.below hw1) hs) HOK.out).mono ?_
      rintro e w1 ⟨rfl, hb1⟩
      have hB1 := hB.below hb1
      have y0 := hB1.cell (i := 0) rfl
      have HW2 := hid (Below.then_ hw1 hb1)
      clear hB hB1 hw1 hb1 hx
      by_cases hf : 0 ≤ f ∧ f < D.s
      · obtain ⟨hf1, hf2⟩ := hf
        have HT : Hid (¬ (0 ≤ t ∧ t < D.s)) := fun h => HN.out ⟨HOK.out.1, HOK.out.2, ⟨hf1, hf2⟩, h⟩
        go_wp2_with (first | (go_at_call 48; (with_reducible refine (isIndex_n t _ _ HT.out).mono ?_); rintro e w' ⟨rfl, rfl⟩) | (go_at_call 48; (with_reducible refine (isIndex_y f _ _ hf1 hf2).mono ?_); rintro e w' ⟨rfl, rfl⟩))
        go_ret
        exact ⟨_, rfl, .inr ⟨HN.out, rfl⟩, HW2.out⟩
      · have HF := hid hf
        clear hf
        go_wp2_with (go_at_call 48; refine (isIndex_n f _ _ HF.out).mono ?_; rintro e w' ⟨rfl, rfl⟩)
        go_ret
        exact ⟨_, rfl, .inr ⟨HN.out, rfl⟩, HW2.out⟩
    · have HOK := hid hok
      clear hok
      go_enter Tryd.func28, Tryd.ntmps28
      go_wp2_with fail
      refine (RetB.no (rescueFits_any P Q D c d br _ (hx.below hw1) hs) HOK.out).mono ?_
      rintro e w1 ⟨rfl, hb1⟩
      go_wp2
      go_ret
      exact ⟨_, rfl, .inr ⟨HN.out, rfl⟩, Below.then_ hw1 hb1⟩
end Go.Proofs.YtlhcjbgcgbeocaaDoor
