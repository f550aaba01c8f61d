/- LevelLeft, where the arguments do not fit, and the reference's. Lists are at most 2^20 long. -/
import Derived.Test.YtahbfifnpceoeaaDoorCave9
namespace Go.Proofs.YtahbfifnpceoeaaDoor
open Go.RowKit

def LlOk (D : CaveD) (L : Int) (n : Nat) (y : Nat → Int) (ch : Int) : Prop := CaveOk D ∧ (0 ≤ L ∧ L ≤ 40) ∧ PumpsOk D n y ∧ 0 ≤ ch ∧ ch < D.n

set_option maxRecDepth 20000 in
theorem LevelLeft_impl0 (F G S : Option Addr) (D : CaveD) (c d e : Nat) (L : Int) (A : Option Addr) (n cu : Nat) (y : Nat → Int) (ch : Int) (w : World) (hx : CaveAt w F G S D) (hs : CaveSmall D)
    (hi : Ints w A n y) (hn : n ≤ 1048576) (hno : ¬ LlOk D L n y ch) :
    Calls Tryd.prog 39 #[.agg #[.slice F D.n c, .slice G D.q d, .slice S D.m e], .int .i64 L, .slice A n cu, .int .i64 ch] w (RetV (.int .i64 (-1)) w) := by
  have HX := hid hx
  have HI := hid hi
  have HNO := hid hno
  have hB := hid (Blk.new w 26 #[.slice F D.n c, .slice G D.q d, .slice S D.m e])
  have hw1 := hid (below_alloc1 w (.cells #[.slice F D.n c, .slice G D.q d, .slice S D.m e] 26))
  clear hx hi hno
  by_cases hok : CaveOk D
  · have HV := hid (fun w' hx' => RetB.yes (CaveValid_impl F G S D c d e w' hx' hs) hok)
    have HOK := hid hok
    clear hok
    go_enter Tryd.func39, Tryd.ntmps39
    go_wp2_with fail
    refine (HV.out _ (HX.out.below hw1.out)).mono ?_
    rintro ex w1 ⟨rfl, hb1⟩
    have hB1 := hid (hB.out.below hb1)
    have y0 := hB1.out.cell (i := 0) rfl
    have HW1 := hid (Below.then_ hw1.out hb1)
    clear hb1 HV
    by_cases h0 : L < 0
    · go_wp2
      go_ret
      exact ⟨rfl, HW1.out⟩
    · by_cases h40 : 40 < L
      · go_wp2
        go_ret
        exact ⟨rfl, HW1.out⟩
      · by_cases hy : PumpsOk D n y
        · have hc : ¬ (0 ≤ ch ∧ ch < D.n) := fun h => HNO.out ⟨HOK.out, ⟨by omega, by omega⟩, hy, h⟩
          have HC := hid hc
          have HY := hid hy
          clear hc hy
          go_wp2_with (first | (go_at_call 63; (with_reducible refine (RetBS.yes (areIndices_any A n cu y (D.n : Int) _ (HI.out.below HW1.out) hn) HY.out).mono ?_); rintro e w' ⟨rfl, rfl⟩) | (go_at_call 67; (with_reducible refine (isIndex_n ch _ _ HC.out).mono ?_); rintro e w' ⟨rfl, rfl⟩))
          go_ret
          exact ⟨rfl, HW1.out⟩
        · have HY := hid hy
          clear hy
          go_wp2_with (go_at_call 63; (with_reducible refine (RetBS.no (areIndices_any A n cu y (D.n : Int) _ (HI.out.below HW1.out) hn) HY.out).mono ?_); rintro e w' ⟨rfl, rfl⟩)
          go_ret
          exact ⟨rfl, HW1.out⟩
  · have HV := hid (fun w' hx' => RetB.no (CaveValid_impl F G S D c d e w' hx' hs) hok)
    clear hok
    go_enter Tryd.func39, Tryd.ntmps39
    go_wp2_with fail
    refine (HV.out _ (HX.out.below hw1.out)).mono ?_
    rintro ex w1 ⟨rfl, hb1⟩
    go_wp2
    go_ret
    exact ⟨rfl, Below.then_ hw1.out hb1⟩

theorem JoinLevel_impl0 (F G S : Option Addr) (D : CaveD) (c d e : Nat) (a b : Int) (w : World) (hx : CaveAt w F G S D) (hs : CaveSmall D) (hno : ¬ JlOk D a b) :
    Calls Tryd.prog 49 #[.agg #[.slice F D.n c, .slice G D.q d, .slice S D.m e], .int .i64 a, .int .i64 b] w (RetV (.int .i64 (-1)) w) := by
  have HX := hid hx
  have HNO := hid hno
  have hB := hid (Blk.new w 26 #[.slice F D.n c, .slice G D.q d, .slice S D.m e])
  have hw1 := hid (below_alloc1 w (.cells #[.slice F D.n c, .slice G D.q d, .slice S D.m e] 26))
  clear hx hno
  by_cases hok : CaveOk D
  · have HV := hid (fun w' hx' => RetB.yes (CaveValid_impl F G S D c d e w' hx' hs) hok)
    have HOK := hid hok
    clear hok
    go_enter Tryd.func49, Tryd.ntmps49
    go_wp2_with fail
    refine (HV.out _ (HX.out.below hw1.out)).mono ?_
    rintro ex w1 ⟨rfl, hb1⟩
    have hB1 := hid (hB.out.below hb1)
    have y0 := hB1.out.cell (i := 0) rfl
    have HW1 := hid (Below.then_ hw1.out hb1)
    clear hb1 HV
    by_cases ha : 0 ≤ a ∧ a < D.n
    · have hb : ¬ (0 ≤ b ∧ b < D.n) := fun h => HNO.out ⟨HOK.out, ha, h⟩
      have HA := hid ha
      have HBb := hid hb
      clear ha hb
      go_wp2_with (first | (go_at_call 67; (with_reducible refine (isIndex_n b _ _ HBb.out).mono ?_); rintro e w' ⟨rfl, rfl⟩) | (go_at_call 67; (with_reducible refine (isIndex_y a _ _ HA.out.1 HA.out.2).mono ?_); rintro e w' ⟨rfl, rfl⟩))
      go_ret
      exact ⟨rfl, HW1.out⟩
    · have HA := hid ha
      clear ha
      go_wp2_with (go_at_call 67; refine (isIndex_n a _ _ HA.out).mono ?_; rintro e w' ⟨rfl, rfl⟩)
      go_ret
      exact ⟨rfl, HW1.out⟩
  · have HV := hid (fun w' hx' => RetB.no (CaveValid_impl F G S D c d e w' hx' hs) hok)
    clear hok
    go_enter Tryd.func49, Tryd.ntmps49
    go_wp2_with fail
    refine (HV.out _ (HX.out.below hw1.out)).mono ?_
    rintro ex w1 ⟨rfl, hb1⟩
    go_wp2
    go_ret
    exact ⟨rfl, Below.then_ hw1.out hb1⟩

theorem JoinLevel_spec0 (F G S : Option Addr) (D : CaveD) (c d e : Nat) (a b : Int) (w : World) (hx : CaveAt w F G S D) (hs : CaveSmall D) (hno : ¬ JlOk D a b) :
    Calls Tryd.prog 50 #[.agg #[.slice F D.n c, .slice G D.q d, .slice S D.m e], .int .i64 a, .int .i64 b] w (RetV (.int .i64 (-1)) w) := by
  have HX := hid hx
  have HNO := hid hno
  have hB := hid (Blk.new w 26 #[.slice F D.n c, .slice G D.q d, .slice S D.m e])
  have hw1 := hid (below_alloc1 w (.cells #[.slice F D.n c, .slice G D.q d, .slice S D.m e] 26))
  clear hx hno
  by_cases hok : CaveOk D
  · have HV := hid (fun w' hx' => RetB.yes (CaveValid_spec F G S D c d e w' hx' hs) hok)
    have hn1 := hok.1.1
    have hn6 := hok.1.2
    have HOK := hid hok
    clear hok
    go_enter Tryd.func50, Tryd.ntmps50
    go_wp2_with fail
    refine (HV.out _ (HX.out.below hw1.out)).mono ?_
    rintro ex w1 ⟨rfl, hb1⟩
    have hB1 := hid (hB.out.below hb1)
    have y0 := hB1.out.cell (i := 0) rfl
    have HW1 := hid (Below.then_ hw1.out hb1)
    clear hb1 HV
    by_cases ha : 0 ≤ a ∧ a ≤ (D.n : Int) - 1
    · have hb : ¬ (0 ≤ b ∧ b ≤ (D.n : Int) - 1) := fun h => HNO.out ⟨HOK.out, ⟨ha.1, by omega⟩, ⟨h.1, by omega⟩⟩
      have HA := hid ha
      have HBb := hid hb
      clear ha hb
      go_wp2_with (first | (go_at_call 61; (with_reducible refine (l1In_n b _ _ _ HBb.out).mono ?_); rintro e w' ⟨rfl, rfl⟩) | (go_at_call 61; (with_reducible refine (l1In_y a _ _ _ HA.out.1 HA.out.2).mono ?_); rintro e w' ⟨rfl, rfl⟩))
      go_ret
      exact ⟨rfl, HW1.out⟩
    · have HA := hid ha
      clear ha
      go_wp2_with (go_at_call 61; refine (l1In_n a _ _ _ HA.out).mono ?_; rintro e w' ⟨rfl, rfl⟩)
      go_ret
      exact ⟨rfl, HW1.out⟩
  · have HV := hid (fun w' hx' => RetB.no (CaveValid_spec F G S D c d e w' hx' hs) hok)
    clear hok
    go_enter Tryd.func50, Tryd.ntmps50
    go_wp2_with fail
    refine (HV.out _ (HX.out.below hw1.out)).mono ?_
    rintro ex w1 ⟨rfl, hb1⟩
    go_wp2
    go_ret
    exact ⟨rfl, Below.then_ hw1.out hb1⟩

/-- Where the pumps may not fit. -/
def LlRet (D : CaveD) (L : Int) (n : Nat) (y : Nat → Int) (ch : Nat) (r : Int) : Prop := (PumpsOk D n y ∧ r = llF D L y n ch) ∨ (¬ PumpsOk D n y ∧ r = -1)
set_option maxRecDepth 20000 in
set_option maxHeartbeats 1600000 in
theorem LevelLeft_specG (F G S : Option Addr) (D : CaveD) (c d e : Nat) (L : Int) (A : Option Addr) (n cu : Nat) (y : Nat → Int) (ch : Nat) (w : World) (hx : CaveAt w F G S D) (hs : CaveSmall D) (hok : CaveOk D) (h0 : 0 ≤ L) (h40 : L ≤ 40)
    (hi : Ints w A n y) (hn : n ≤ 1048576) (hch : ch < D.n) :
    Calls Tryd.prog 40 #[.agg #[.slice F D.n c, .slice G D.q d, .slice S D.m e], .int .i64 L, .slice A n cu, .int .i64 ch] w (RetI (LlRet D L n y ch) w) := by
  have hn6 := hok.1.2
  have hf := (hok.2.2.2.1 ch hch).1
  have hcz : (ch : Int) ≤ (D.n : Int) - 1 := by omega
  have hcz2 : (ch : Int) < (D.n : Int) := by omega
  have HX := hid hx
  have HI := hid hi
  have HV := hid (fun w' hx' => RetB.yes (CaveValid_spec F G S D c d e w' hx' hs) hok)
  have HP := hid (fun (m : Nat) w' hx' hm => JoinLevel_spec F G S D c d e ch m w' hx' hs hok hch hm)
  have hg := fun k => llG_bd (D := D) h0 ch y k
  have HG := hid hg
  clear hx hok hi hg
  have hB := hid (Blk.new w 26 #[.slice F D.n c, .slice G D.q d, .slice S D.m e])
  have hw1 := hid (below_alloc1 w (.cells #[.slice F D.n c, .slice G D.q d, .slice S D.m e] 26))
  go_enter Tryd.func40, Tryd.ntmps40
  go_wp2_with fail
  refine (HV.out _ (HX.out.below hw1.out)).mono ?_
  rintro ex w1 ⟨rfl, hb1⟩
  have hB1 := hid (hB.out.below hb1)
  have y0 := hB1.out.cell (i := 0) rfl
  have HW1 := hid (Below.then_ hw1.out hb1)
  clear hb1 HV
  go_wp2_with (first | (go_at_call 61; (with_reducible refine (l1In_y (ch : Int) _ _ _ (by omega) hcz).mono ?_); rintro e w' ⟨rfl, rfl⟩) | (go_at_call 61; (with_reducible refine (l1In_y L _ _ _ h0 h40).mono ?_); rintro e w' ⟨rfl, rfl⟩))
  go_loopw [9, 10] (fun v i wr => ∃ k : Nat, k ≤ n ∧ i = .int .i64 k ∧ v = .int .i64 (llG D L ch y k) ∧ Hid (PumpsOk D k y) ∧ Hid (Below w1.heap.size w1 wr)) (fun _ i _ => n - (intOf i).toNat)
  case atStart => exact ⟨0, by omega, rfl, rfl, fun j hj => absurd hj (by omega), Below.refl _ _⟩
  case round =>
    clear y0
    obtain ⟨k, hk, rfl, rfl, HK, HB⟩ := hrel
    have hBr := hB1.out.below HB.out
    have y0 := hBr.cell (i := 0) rfl
    have y1 := hBr.cell (i := 1) rfl
    have y2 := hBr.cell (i := 2) rfl
    have hbd := HG.out k
    have HBW := hid (Below.then_ HW1.out HB.out)
    by_cases hlt : k < n
    · have hltz : (k : Int) < (n : Int) := by omega
      obtain ⟨g, o, rfl, hc⟩ := HI.out.below HBW.out (by omega)
      have c2 : wr.cell? ⟨g, o + k, none⟩ = some (.int .i64 (y k)) := hc k hlt
      have s0 := sub_cell y0
      have s3 := sub_cell c2
      clear hc
      by_cases hyk : 0 ≤ y k ∧ y k ≤ (D.n : Int) - 1
      · obtain ⟨hyk1, hyk2⟩ := hyk
        obtain ⟨m, hm⟩ := Int.eq_ofNat_of_zero_le hyk1
        have hmn : m < D.n := by omega
        have HS := hid (llG_step (D := D) (L := L) (ch := ch) hm)
        have HM := hid hm
        have hmz1 : (m : Int) ≤ (D.n : Int) - 1 := by omega
        have HK2 : Hid (PumpsOk D (k + 1) y) := fun j hj => by
          by_cases e : j = k
          · subst e; omega
          · exact HK.out j (by omega)
        rw [hm] at s3 c2
        clear hm hyk1 hyk2 HK y1 y2 y0
        go_wp2
        refine wp_region_sub (by kernel_rfl) (by kernel_rfl) ?_
        repeat (go_big_quiet_step ((go_at_call 61; exact RetS.sub (l1In_y (m : Int) _ _ _ (by omega) hmz1))))
        refine wpQuiet_nil ?_
        intro _ hw'
        obtain ⟨s, hw''⟩ := hw'
        subst hw''
        have hsv := s.h
        generalize s.val = v at hsv ⊢
        have HBV := hid (Below.then_ HB.out hsv)
        have hBv := hB1.out.below HBV.out
        have c3 := cell_below hsv c2
        clear s0 s3 hsv HB c2 hBr
        have s0 := sub_cell (hBv.cell (i := 0) rfl)
        have s1 := sub_cell (hBv.cell (i := 1) rfl)
        have s2 := sub_cell (hBv.cell (i := 2) rfl)
        have s3 := sub_cell c3
        have hXv := HX.out.below (Below.then_ HW1.out HBV.out)
        have hj := jlF_bd (D := D) ch m
        go_wp2
        refine wp_region_sub (by kernel_rfl) (by kernel_rfl) ?_
        repeat (go_big_quiet_step ((go_at_call 50; exact RetV.sub (HP.out m _ (hXv.below (Sub.h _)) hmn))))
        refine wpQuiet_nil ?_
        intro _ hw'
        obtain ⟨s, hw''⟩ := hw'
        subst hw''
        have HB2 := hid (Below.then_ HBV.out s.h)
        clear s0 s1 s2 s3 hXv HBV hBv c3
        obtain ⟨r2, hr2⟩ : ∃ r2, llG D L ch y (k + 1) = r2 := ⟨_, rfl⟩
        have HR2 := hid hr2
        rw [hr2] at HS
        clear hr2
        obtain ⟨r, hr⟩ : ∃ r, llG D L ch y k = r := ⟨_, rfl⟩
        rw [hr] at HS hbd ⊢
        clear hr
        obtain ⟨q, hq⟩ : ∃ q, jlF D ch m = q := ⟨_, rfl⟩
        rw [hq] at HS hj ⊢
        clear hq
        by_cases hq0 : 0 ≤ q
        · by_cases hqr : q < r
          · have HE : Hid (r2 = q) := by show _ = _; rw [HS.out, if_pos hq0]; omega
            go_wp2
            go_roundw
            case rel => exact ⟨k + 1, by omega, by go_num, by rw [HR2.out, HE.out], HK2, HB2⟩
            case measure => simp [intOf] <;> omega
          · have HE : Hid (r2 = r) := by show _ = _; rw [HS.out, if_pos hq0]; omega
            go_wp2
            go_roundw
            case rel => exact ⟨k + 1, by omega, by go_num, by rw [HR2.out, HE.out], HK2, HB2⟩
            case measure => simp [intOf] <;> omega
        · have HE : Hid (r2 = r) := by show _ = _; rw [HS.out, if_neg hq0]
          go_wp2
          go_roundw
          case rel => exact ⟨k + 1, by omega, by go_num, by rw [HR2.out, HE.out], HK2, HB2⟩
          case measure => simp [intOf] <;> omega
      · have HYK := hid hyk
        clear hyk
        go_wp2
        refine wp_region_sub (by kernel_rfl) (by kernel_rfl) ?_
        repeat (go_big_quiet_step ((go_at_call 61; exact RetS.sub (l1In_n (y k) _ _ _ HYK.out))))
        refine wpQuiet_nil ?_
        intro _ hw'
        obtain ⟨s, hw''⟩ := hw'
        subst hw''
        go_wp2
        go_ret
        exact ⟨-1, rfl, .inr ⟨fun h => HYK.out (by have := h k hlt; omega), rfl⟩, Below.then_ HBW.out s.h⟩
    · have : k = n := by omega
      subst this
      have HE : Hid (llF D L y k ch = max (llG D L ch y k) (D.f ch)) := rfl
      obtain ⟨bf, off, hF, hcf⟩ := (HX.out.below HBW.out).flo (by omega)
      have c1 : wr.cell? ⟨bf, off + ch, none⟩ = some (.int .i64 (D.f ch)) := hcf ch hch
      rw [hF] at y0
      clear hF hcf
      generalize llG D L ch y k = r at hbd HE
      by_cases hr : r < D.f ch
      · go_wp2
        go_ret
        exact ⟨_, rfl, .inl ⟨HK.out, by rw [HE.out]; omega⟩, HBW.out⟩
      · go_wp2
        go_ret
        exact ⟨_, rfl, .inl ⟨HK.out, by rw [HE.out]; omega⟩, HBW.out⟩

theorem LevelLeft_spec (F G S : Option Addr) (D : CaveD) (c d e : Nat) (L : Int) (A : Option Addr) (n cu : Nat) (y : Nat → Int) (ch : Nat) (w : World) (hx : CaveAt w F G S D) (hs : CaveSmall D) (hok : CaveOk D) (h0 : 0 ≤ L) (h40 : L ≤ 40)
    (hi : Ints w A n y) (hn : n ≤ 1048576) (hy : PumpsOk D n y) (hch : ch < D.n) :
    Calls Tryd.prog 40 #[.agg #[.slice F D.n c, .slice G D.q d, .slice S D.m e], .int .i64 L, .slice A n cu, .int .i64 ch] w (RetV (.int .i64 (llF D L y n ch)) w) :=
  (LevelLeft_specG F G S D c d e L A n cu y ch w hx hs hok h0 h40 hi hn hch).mono fun _ _ ⟨_, he, hr, hb⟩ => by
    rcases hr with ⟨_, rfl⟩ | ⟨h, _⟩
    · exact ⟨he, hb⟩
    · exact absurd hy h

set_option maxRecDepth 20000 in
theorem LevelLeft_spec0 (F G S : Option Addr) (D : CaveD) (c d e : Nat) (L : Int) (A : Option Addr) (n cu : Nat) (y : Nat → Int) (ch : Int) (w : World) (hx : CaveAt w F G S D) (hs : CaveSmall D)
    (hi : Ints w A n y) (hn : n ≤ 1048576) (hno : ¬ LlOk D L n y ch) :
    Calls Tryd.prog 40 #[.agg #[.slice F D.n c, .slice G D.q d, .slice S D.m e], .int .i64 L, .slice A n cu, .int .i64 ch] w (RetV (.int .i64 (-1)) w) := by
  by_cases hok : CaveOk D
  · by_cases hL : 0 ≤ L ∧ L ≤ 40
    · by_cases hc : 0 ≤ ch ∧ ch ≤ (D.n : Int) - 1
      · obtain ⟨x, rfl⟩ := Int.eq_ofNat_of_zero_le hc.1
        refine (LevelLeft_specG F G S D c d e L A n cu y x w hx hs hok hL.1 hL.2 hi hn (by omega)).mono fun _ _ ⟨_, he, hr, hb⟩ => ?_
        rcases hr with ⟨h, _⟩ | ⟨_, rfl⟩
        · exact absurd ⟨hok, hL, h, hc.1, by omega⟩ hno
        · exact ⟨he, hb⟩
      · have hn6 := hok.1.2
        have hn1 := hok.1.1
        have HX := hid hx
        have HL := hid hL
        have HC := hid hc
        have hB := hid (Blk.new w 26 #[.slice F D.n c, .slice G D.q d, .slice S D.m e])
        have hw1 := hid (below_alloc1 w (.cells #[.slice F D.n c, .slice G D.q d, .slice S D.m e] 26))
        have HV := hid (fun w' hx' => RetB.yes (CaveValid_spec F G S D c d e w' hx' hs) hok)
        clear hok hL hc hno hx
        go_enter Tryd.func40, Tryd.ntmps40
        go_wp2_with fail
        refine (HV.out _ (HX.out.below hw1.out)).mono ?_
        rintro ex w1 ⟨rfl, hb1⟩
        have hB1 := hid (hB.out.below hb1)
        have y0 := hB1.out.cell (i := 0) rfl
        have HW1 := hid (Below.then_ hw1.out hb1)
        clear hb1 HV
        go_wp2_with (first | (go_at_call 61; (with_reducible refine (l1In_n ch _ _ _ HC.out).mono ?_); rintro e w' ⟨rfl, rfl⟩) | (go_at_call 61; (with_reducible refine (l1In_y L _ _ _ HL.out.1 HL.out.2).mono ?_); rintro e w' ⟨rfl, rfl⟩))
        go_ret
        exact ⟨rfl, HW1.out⟩
    · have HX := hid hx
      have HL := hid hL
      have hw1 := hid (below_alloc1 w (.cells #[.slice F D.n c, .slice G D.q d, .slice S D.m e] 26))
      have HV := hid (fun w' hx' => RetB.yes (CaveValid_spec F G S D c d e w' hx' hs) hok)
      clear hok hL hno hx
      go_enter Tryd.func40, Tryd.ntmps40
      go_wp2_with fail
      refine (HV.out _ (HX.out.below hw1.out)).mono ?_
      rintro ex w1 ⟨rfl, hb1⟩
      have HW1 := hid (Below.then_ hw1.out hb1)
      go_wp2_with (go_at_call 61; (with_reducible refine (l1In_n L _ _ _ HL.out).mono ?_); rintro e w' ⟨rfl, rfl⟩)
      go_ret
      exact ⟨rfl, HW1.out⟩
  · have HX := hid hx
    have hw1 := hid (below_alloc1 w (.cells #[.slice F D.n c, .slice G D.q d, .slice S D.m e] 26))
    have HV := hid (fun w' hx' => RetB.no (CaveValid_spec F G S D c d e w' hx' hs) hok)
    clear hok hno hx
    go_enter Tryd.func40, Tryd.ntmps40
    go_wp2_with fail
    refine (HV.out _ (HX.out.below hw1.out)).mono ?_
    rintro ex w1 ⟨rfl, hb1⟩
    go_wp2
    go_ret
    exact ⟨rfl, Below.then_ hw1.out hb1⟩

/-- LevelLeft, as the law asks it. -/
theorem LevelLeft_same (D : CaveD) (hs : CaveSmall D) (L ch : Int) (n : Nat) (y : Nat → Int) (hn : n ≤ 1048576) : ∃ r : Int,
    (∀ (F G S : Option Addr) (c d e : Nat) (A : Option Addr) (cu : Nat) (w : World), CaveAt w F G S D → Ints w A n y → Calls Tryd.prog 40 #[.agg #[.slice F D.n c, .slice G D.q d, .slice S D.m e], .int .i64 L, .slice A n cu, .int .i64 ch] w (RetV (.int .i64 r) w)) ∧
    (∀ (F G S : Option Addr) (c d e : Nat) (A : Option Addr) (cu : Nat) (w : World), CaveAt w F G S D → Ints w A n y → Calls Tryd.prog 39 #[.agg #[.slice F D.n c, .slice G D.q d, .slice S D.m e], .int .i64 L, .slice A n cu, .int .i64 ch] w (RetV (.int .i64 r) w)) := by
  by_cases h : LlOk D L n y ch
  · obtain ⟨hok, ⟨h0, h40⟩, hy, hc0, hcn⟩ := h
    obtain ⟨x, rfl⟩ := Int.eq_ofNat_of_zero_le hc0
    exact ⟨_, fun F G S c d e A cu w hx hi => LevelLeft_spec F G S D c d e L A n cu y x w hx hs hok h0 h40 hi hn hy (by omega), fun F G S c d e A cu w hx hi => LevelLeft_impl F G S D c d e L A n cu y x w hx hs hok h0 h40 hi hn hy (by omega)⟩
  · exact ⟨_, fun F G S c d e A cu w hx hi => LevelLeft_spec0 F G S D c d e L A n cu y ch w hx hs hi hn h, fun F G S c d e A cu w hx hi => LevelLeft_impl0 F G S D c d e L A n cu y ch w hx hs hi hn h⟩
end Go.Proofs.YtahbfifnpceoeaaDoor
