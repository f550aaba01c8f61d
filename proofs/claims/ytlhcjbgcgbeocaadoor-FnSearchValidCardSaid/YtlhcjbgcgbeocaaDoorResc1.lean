/- The reference's RescueTime; the program's rescueFits and earliest. Lists are at most 2^20 long. -/
import Derived.Test.YtlhcjbgcgbeocaaDoorHops
namespace Go.Proofs.YtlhcjbgcgbeocaaDoor
open Go.RowKit

set_option maxHeartbeats 1600000 in
theorem RescueTime_spec (P Q : Option Addr) (D : SrchD) (c d : Nat) (br f t : Int) (w : World) (hx : SrchAt w P Q D) (hs : SrchSmall D) :
    Calls Tryd.prog 29 #[.agg #[.int .i64 D.s, .slice P D.m c, .slice Q D.k d], .int .i64 br, .int .i64 f, .int .i64 t] w (RetI (RT D br f t) w) := by
  have hw1 := below_alloc1 w (.cells #[.int .i64 D.s, .slice P D.m c, .slice Q D.k d] 26)
  have hB := Blk.new w 26 #[.int .i64 D.s, .slice P D.m c, .slice Q D.k d]
  by_cases hok : SrchOk D
  · have HOK := hid hok
    have hws := wrap_s hok.1.1 hok.1.2
    clear hok
    go_enter Tryd.func29, Tryd.ntmps29
    go_wp2_with fail
    refine (RetB.yes (SearchValid_spec P Q D c d _ (hx.below hw1) hs) HOK.out).mono ?_
    rintro e w1 ⟨rfl, hb1⟩
    have hB1 := hB.below hb1
    have y0 := hB1.cell (i := 0) rfl
    have y1 := hB1.cell (i := 1) rfl
    have y2 := hB1.cell (i := 2) rfl
    have hw2 := Below.then_ hw1 hb1
    have HX := hid (hx.below hw2)
    have HW2 := hid hw2
    clear hB hB1 hw1 hb1 hw2 hx
    by_cases hb : 1 ≤ br ∧ br ≤ 60
    · obtain ⟨hb1, hb2⟩ := hb
      by_cases hf : 0 ≤ f ∧ f ≤ D.s - 1
      · obtain ⟨hf1, hf2⟩ := hf
        by_cases ht : 0 ≤ t ∧ t ≤ D.s - 1
        · obtain ⟨ht1, ht2⟩ := ht
          obtain ⟨x, rfl⟩ := Int.eq_ofNat_of_zero_le hf1
          obtain ⟨y, rfl⟩ := Int.eq_ofNat_of_zero_le ht1
          have hsk := HOK.out.2.2.1
          have lx : x < D.k := by omega
          have ly : y < D.k := by omega
          have HR : Hid (RtOk D br x y) := ⟨HOK.out, ⟨hb1, hb2⟩, ⟨hf1, by omega⟩, ⟨ht1, by omega⟩⟩
          clear hsk
          go_wp2_with (first | (go_at_call 49; (with_reducible refine (l1In_y br 1 60 _ hb1 hb2).mono ?_); rintro e w' ⟨rfl, rfl⟩) | (go_at_call 49; (with_reducible refine (l1In_y (x : Int) 0 _ _ hf1 hf2).mono ?_); rintro e w' ⟨rfl, rfl⟩) | (go_at_call 49; (with_reducible refine (l1In_y (y : Int) 0 _ _ ht1 ht2).mono ?_); rintro e w' ⟨rfl, rfl⟩))
          refine (l5Hops_any P Q D c d br y _ HX.out HOK.out hb2 ly).mono ?_
          rintro e w2 ⟨g, cap, cc, left, rfl, hR, hcap, hD, hg, hb2⟩
          have s2 := hR.cell hcap lx
          have HD := hid hD
          have lxz : (x : Int) < (D.k : Int) := by omega
          clear hR hD
          go_wp2
          go_ret
          exact ⟨_, rfl, .inl ⟨HR.out, by rw [Int.toNat_natCast, Int.toNat_natCast]; exact rb_ri (HD.out x lx)⟩, Below.then_ HW2.out hb2⟩
        · have HT := hid ht
          clear ht
          go_wp2_with (first | (go_at_call 49; (with_reducible refine (l1In_y br 1 60 _ hb1 hb2).mono ?_); rintro e w' ⟨rfl, rfl⟩) | (go_at_call 49; (with_reducible refine (l1In_n t 0 _ _ HT.out).mono ?_); rintro e w' ⟨rfl, rfl⟩) | (go_at_call 49; (with_reducible refine (l1In_y f 0 _ _ hf1 hf2).mono ?_); rintro e w' ⟨rfl, rfl⟩))
          go_ret
          exact ⟨_, rfl, .inr ⟨fun h => HT.out (by have := h.2.2.2; omega), rfl⟩, HW2.out⟩
      · have HF := hid hf
        clear hf
        go_wp2_with (first | (go_at_call 49; (with_reducible refine (l1In_y br 1 60 _ hb1 hb2).mono ?_); rintro e w' ⟨rfl, rfl⟩) | (go_at_call 49; (with_reducible refine (l1In_n f 0 _ _ HF.out).mono ?_); rintro e w' ⟨rfl, rfl⟩))
        go_ret
        exact ⟨_, rfl, .inr ⟨fun h => HF.out (by have := h.2.2.1; omega), rfl⟩, HW2.out⟩
    · have HBN := hid hb
      clear hb
      go_wp2_with (go_at_call 49; refine (l1In_n br 1 60 _ HBN.out).mono ?_; rintro e w' ⟨rfl, rfl⟩)
      go_ret
      exact ⟨_, rfl, .inr ⟨fun h => HBN.out h.2.1, rfl⟩, HW2.out⟩
  · have HOK := hid hok
    clear hok
    go_enter Tryd.func29, Tryd.ntmps29
    go_wp2_with fail
    refine (RetB.no (SearchValid_spec P Q D c d _ (hx.below hw1) hs) HOK.out).mono ?_
    rintro e w1 ⟨rfl, hb1⟩
    go_wp2
    go_ret
    exact ⟨_, rfl, .inr ⟨fun h => HOK.out h.1, rfl⟩, Below.then_ hw1 hb1⟩

theorem rescueFits_any (P Q : Option Addr) (D : SrchD) (c d : Nat) (br : Int) (w : World) (hx : SrchAt w P Q D) (hs : SrchSmall D) :
    Calls Tryd.prog 57 #[.agg #[.int .i64 D.s, .slice P D.m c, .slice Q D.k d], .int .i64 br] w (RetB (SrchOk D ∧ 1 ≤ br ∧ br ≤ 60) w) := by
  have hw1 := below_alloc1 w (.cells #[.int .i64 D.s, .slice P D.m c, .slice Q D.k d] 26)
  by_cases hok : SrchOk D
  · have HOK := hid hok
    clear hok
    go_enter Tryd.func57, Tryd.ntmps57
    go_wp2_with fail
    refine (RetB.yes (SearchValid_impl P Q D c d _ (hx.below hw1) hs) HOK.out).mono ?_
    rintro e w1 ⟨rfl, hb1⟩
    by_cases h1 : 1 ≤ br
    · by_cases h2 : br ≤ 60
      · go_wp2
        go_ret
        exact .mk_t ⟨HOK.out, h1, h2⟩ (Below.then_ hw1 hb1) rfl
      · have H2 := hid h2
        go_wp2
        go_ret
        exact .mk_f (fun h => by have := H2.out; omega) (Below.then_ hw1 hb1) (ret_dec_f (Int.not_le.2 H2.out))
    · go_wp2
      go_ret
      exact .mk_f (fun h => by omega) (Below.then_ hw1 hb1) rfl
  · have HOK := hid hok
    clear hok
    go_enter Tryd.func57, Tryd.ntmps57
    go_wp2_with fail
    refine (RetB.no (SearchValid_impl P Q D c d _ (hx.below hw1) hs) HOK.out).mono ?_
    rintro e w1 ⟨rfl, hb1⟩
    go_wp2
    go_ret
    exact .mk_f (fun h => HOK.out h.1) (Below.then_ hw1 hb1) rfl
end Go.Proofs.YtlhcjbgcgbeocaaDoor
