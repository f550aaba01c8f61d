/- The two WalkTime: both return the least number of minutes. Lists are at most 2^20 long. -/
import Derived.Test.YtlhcjbgcgbeocaaDoorFar
namespace Go.Proofs.YtlhcjbgcgbeocaaDoor
open Go.RowKit

/-- What WalkTime returns. -/
def WT (D : SrchD) (f t r : Int) : Prop := (SrchOk D ∧ (0 ≤ f ∧ f < D.s) ∧ (0 ≤ t ∧ t < D.s) ∧ Dist D f.toNat t.toNat r) ∨ (¬ (SrchOk D ∧ (0 ≤ f ∧ f < D.s) ∧ (0 ≤ t ∧ t < D.s)) ∧ r = -1)
theorem WT.uniq {D : SrchD} {f t r q : Int} (h : WT D f t r) (k : WT D f t q) : r = q := by
  rcases h with ⟨h1, h2, h3, h4⟩ | ⟨h1, h2⟩ <;> rcases k with ⟨k1, k2, k3, k4⟩ | ⟨k1, k2⟩
  · exact h4.uniq k4
  · exact absurd ⟨h1, h2, h3⟩ k1
  · exact absurd ⟨k1, k2, k3⟩ h1
  · omega
theorem WT.lo {D : SrchD} {f t r : Int} (h : WT D f t r) : -1 ≤ r := by
  rcases h with ⟨_, _, _, h⟩ | ⟨_, h⟩
  · exact h.lo
  · omega
/-- It returns a number of which F holds. -/
def RetI (F : Int → Prop) (w : World) (e : Ending) (w' : World) : Prop := ∃ r, e = .returned (.int .i64 r) ∧ F r ∧ Below w.heap.size w w'

set_option maxHeartbeats 1600000 in
theorem WalkTime_impl (P Q : Option Addr) (D : SrchD) (c d : Nat) (f t : Int) (w : World) (hx : SrchAt w P Q D) (hs : SrchSmall D) :
    Calls Tryd.prog 18 #[.agg #[.int .i64 D.s, .slice P D.m c, .slice Q D.k d], .int .i64 f, .int .i64 t] w (RetI (WT D f t) w) := by
  have hw1 := below_alloc1 w (.cells #[.int .i64 D.s, .slice P D.m c, .slice Q D.k d] 26)
  have hB := Blk.new w 26 #[.int .i64 D.s, .slice P D.m c, .slice Q D.k d]
  by_cases hok : SrchOk D
  · have HOK := hid hok
    clear hok
    go_enter Tryd.func18, Tryd.ntmps18
    go_wp2_with fail
    refine (RetB.yes (SearchValid_impl P Q D c d _ (hx.below hw1) hs) HOK.out).mono ?_
    rintro e w1 ⟨rfl, hb1⟩
    have hB1 := hB.below hb1
    have y0 := hB1.cell (i := 0) rfl
    have y1 := hB1.cell (i := 1) rfl
    have y2 := hB1.cell (i := 2) rfl
    have hw2 := Below.then_ hw1 hb1
    have HX := hid (hx.below hw2)
    have HW2 := hid hw2
    clear hB hB1 hw1 hb1 hw2 hx
    by_cases hf : 0 ≤ f ∧ f < D.s
    · obtain ⟨hf1, hf2⟩ := hf
      by_cases ht : 0 ≤ t ∧ t < D.s
      · obtain ⟨ht1, ht2⟩ := ht
        obtain ⟨x, rfl⟩ := Int.eq_ofNat_of_zero_le hf1
        obtain ⟨y, rfl⟩ := Int.eq_ofNat_of_zero_le ht1
        have hsk := HOK.out.2.2.1
        have lx : x < D.k := by omega
        have ly : y < D.k := by omega
        clear hsk
        go_wp2_with (first | (go_at_call 48; (with_reducible refine (isIndex_y (x : Int) _ _ hf1 hf2).mono ?_); rintro e w' ⟨rfl, rfl⟩) | (go_at_call 48; (with_reducible refine (isIndex_y (y : Int) _ _ ht1 ht2).mono ?_); rintro e w' ⟨rfl, rfl⟩))
        refine (walkTimes_any P Q D c d _ HX.out HOK.out).mono ?_
        rintro e w2 ⟨g, r, T, rfl, hT, hD, hg, hb2⟩
        have s1 := hT.row lx lx
        have s2 := hT.cell lx ly
        have HD := hid hD
        have lxz : (x : Int) < (D.k : Int) := by omega
        have lyz : (y : Int) < (D.k : Int) := by omega
        clear hT hD
        go_wp2
        go_ret
        exact ⟨_, rfl, .inl ⟨HOK.out, ⟨hf1, hf2⟩, ⟨ht1, ht2⟩, HD.out x y lx ly⟩, Below.then_ HW2.out hb2⟩
      · have HT := hid ht
        clear ht
        go_wp2_with (first | (go_at_call 48; (with_reducible refine (isIndex_n t _ _ HT.out).mono ?_); rintro e w' ⟨rfl, rfl⟩) | (go_at_call 48; (with_reducible refine (isIndex_y f _ _ hf1 hf2).mono ?_); rintro e w' ⟨rfl, rfl⟩))
        go_ret
        exact ⟨_, rfl, .inr ⟨fun h => HT.out h.2.2, rfl⟩, HW2.out⟩
    · have HF := hid hf
      clear hf
      go_wp2_with (go_at_call 48; refine (isIndex_n f _ _ HF.out).mono ?_; rintro e w' ⟨rfl, rfl⟩)
      go_ret
      exact ⟨_, rfl, .inr ⟨fun h => HF.out h.2.1, rfl⟩, HW2.out⟩
  · have HOK := hid hok
    clear hok
    go_enter Tryd.func18, Tryd.ntmps18
    go_wp2_with fail
    refine (RetB.no (SearchValid_impl P Q D c d _ (hx.below hw1) hs) HOK.out).mono ?_
    rintro e w1 ⟨rfl, hb1⟩
    go_wp2
    go_ret
    exact ⟨_, rfl, .inr ⟨fun h => HOK.out h.1, rfl⟩, Below.then_ hw1 hb1⟩

set_option maxHeartbeats 1600000 in
theorem WalkTime_spec (P Q : Option Addr) (D : SrchD) (c d : Nat) (f t : Int) (w : World) (hx : SrchAt w P Q D) (hs : SrchSmall D) :
    Calls Tryd.prog 19 #[.agg #[.int .i64 D.s, .slice P D.m c, .slice Q D.k d], .int .i64 f, .int .i64 t] w (RetI (WT D f t) w) := by
  have hw1 := below_alloc1 w (.cells #[.int .i64 D.s, .slice P D.m c, .slice Q D.k d] 26)
  have hB := Blk.new w 26 #[.int .i64 D.s, .slice P D.m c, .slice Q D.k d]
  by_cases hok : SrchOk D
  · have HOK := hid hok
    have hs1 := hok.1.1
    have hs7 := hok.1.2
    have hws := wrap_s hs1 hs7
    clear hok
    go_enter Tryd.func19, Tryd.ntmps19
    go_wp2_with fail
    refine (RetB.yes (SearchValid_spec P Q D c d _ (hx.below hw1) hs) HOK.out).mono ?_
    rintro e w1 ⟨rfl, hb1⟩
    have hB1 := hB.below hb1
    have y0 := hB1.cell (i := 0) rfl
    have y1 := hB1.cell (i := 1) rfl
    have y2 := hB1.cell (i := 2) rfl
    have hw2 := Below.then_ hw1 hb1
    have HX := hid (hx.below hw2)
    have HW2 := hid hw2
    clear hB hB1 hw1 hb1 hw2 hx
    by_cases hf : 0 ≤ f ∧ f ≤ D.s - 1
    · obtain ⟨hf1, hf2⟩ := hf
      by_cases ht : 0 ≤ t ∧ t ≤ D.s - 1
      · obtain ⟨ht1, ht2⟩ := ht
        obtain ⟨x, rfl⟩ := Int.eq_ofNat_of_zero_le hf1
        obtain ⟨y, rfl⟩ := Int.eq_ofNat_of_zero_le ht1
        have hsk := HOK.out.2.2.1
        have lx : x < D.k := by omega
        have ly : y < D.k := by omega
        clear hsk
        go_wp2_with (first | (go_at_call 49; (with_reducible refine (l1In_y (x : Int) _ _ _ hf1 hf2).mono ?_); rintro e w' ⟨rfl, rfl⟩) | (go_at_call 49; (with_reducible refine (l1In_y (y : Int) _ _ _ ht1 ht2).mono ?_); rintro e w' ⟨rfl, rfl⟩))
        refine (l5Far_any P Q D c d x _ HX.out HOK.out lx).mono ?_
        rintro e w2 ⟨g, cap, cc, far, rfl, hR, hcap, hD, hg, hb2⟩
        have s2 := hR.cell hcap ly
        have HD := hid hD
        have lyz : (y : Int) < (D.k : Int) := by omega
        clear hR hD
        go_wp2
        go_ret
        exact ⟨_, rfl, .inl ⟨HOK.out, ⟨hf1, by omega⟩, ⟨ht1, by omega⟩, HD.out y ly⟩, Below.then_ HW2.out hb2⟩
      · have HT := hid ht
        clear ht
        go_wp2_with (first | (go_at_call 49; (with_reducible refine (l1In_n t _ _ _ HT.out).mono ?_); rintro e w' ⟨rfl, rfl⟩) | (go_at_call 49; (with_reducible refine (l1In_y f _ _ _ hf1 hf2).mono ?_); rintro e w' ⟨rfl, rfl⟩))
        go_ret
        exact ⟨_, rfl, .inr ⟨fun h => HT.out (by have := h.2.2; omega), rfl⟩, HW2.out⟩
    · have HF := hid hf
      clear hf
      go_wp2_with (go_at_call 49; refine (l1In_n f _ _ _ HF.out).mono ?_; rintro e w' ⟨rfl, rfl⟩)
      go_ret
      exact ⟨_, rfl, .inr ⟨fun h => HF.out (by have := h.2.1; omega), rfl⟩, HW2.out⟩
  · have HOK := hid hok
    clear hok
    go_enter Tryd.func19, Tryd.ntmps19
    go_wp2_with fail
    refine (RetB.no (SearchValid_spec P Q D c d _ (hx.below hw1) hs) HOK.out).mono ?_
    rintro e w1 ⟨rfl, hb1⟩
    go_wp2
    go_ret
    exact ⟨_, rfl, .inr ⟨fun h => HOK.out h.1, rfl⟩, Below.then_ hw1 hb1⟩
end Go.Proofs.YtlhcjbgcgbeocaaDoor
