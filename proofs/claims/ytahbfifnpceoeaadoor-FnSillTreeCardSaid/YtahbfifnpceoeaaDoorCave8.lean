/- The program's PoolsAt, and JoinLevel, both. Lists are at most 2^20 long. -/
import Derived.Test.YtahbfifnpceoeaaDoorCave7
namespace Go.Proofs.YtahbfifnpceoeaaDoor
open Go.RowKit

set_option maxRecDepth 20000 in
set_option maxHeartbeats 1600000 in
theorem PoolsAt_impl (F G S : Option Addr) (D : CaveD) (c d e : Nat) (L : Int) (w : World) (hx : CaveAt w F G S D) (hs : CaveSmall D) (hok : CaveOk D) :
    Calls Tryd.prog 28 #[.agg #[.slice F D.n c, .slice G D.q d, .slice S D.m e], .int .i64 L] w (RetP D.n (poolF D L) w) := by
  have hn6 := hok.1.2
  have hm9 := hok.2.2.1
  have HOK := hid hok
  have HX := hid hx
  have HV := hid (fun w' hx' => RetB.yes (CaveValid_impl F G S D c d e w' hx' hs) hok)
  clear hx hok
  have hB := hid (Blk.new w 26 #[.slice F D.n c, .slice G D.q d, .slice S D.m e])
  have hw1 := hid (below_alloc1 w (.cells #[.slice F D.n c, .slice G D.q d, .slice S D.m e] 26))
  go_enter Tryd.func28, Tryd.ntmps28
  go_wp2_with fail
  refine (HV.out _ (HX.out.below hw1.out)).mono ?_
  rintro ex w1 ⟨rfl, hb1⟩
  have hB1 := hid (hB.out.below hb1)
  have y0 := hB1.out.cell (i := 0) rfl
  have HW1 := hid (Below.then_ hw1.out hb1)
  clear hb1 HV
  go_wp2_with fail
  refine (ownParts_any D.n w1 (by omega)).mono ?_
  rintro ex w2 ⟨rfl, hR, hb2⟩
  have hB2 := hid (hB1.out.below hb2)
  clear y0
  have y2 := hB2.out.cell (i := 2) rfl
  have HR0 : Hid (Row w2 w1.heap.size D.n D.n (zN (partL D.A D.B (useL D.h L 0)))) := hid hR
  have HB0 := hid (Below.then_ HW1.out hb2)
  have hg0 : w.heap.size ≤ w1.heap.size := HW1.out.size
  clear hR hb2
  go_wp2
  go_loopw [18] (fun i wr => ∃ k : Nat, k ≤ D.m ∧ i = .int .i64 k ∧ Hid (Row wr w1.heap.size D.n D.n (zN (partL D.A D.B (useL D.h L k)))) ∧ Hid (Below w.heap.size w wr)) (fun i _ => D.m - (intOf i).toNat)
  case atStart => exact ⟨0, by omega, rfl, HR0, HB0⟩
  case round =>
    clear HR0 HB0 y2
    obtain ⟨k, hk, rfl, HR, HB⟩ := hrel
    by_cases hlt : k < D.m
    · have hltz : (k : Int) < (D.m : Int) := by omega
      obtain ⟨bs, os, rfl, a1, a2, a3⟩ := (HX.out.below HB.out).sil.at_ hlt
      obtain ⟨⟨q1, q2⟩, ⟨q3, q4⟩, _⟩ := HOK.out.2.2.2.2 k hlt
      obtain ⟨x, hxx⟩ := Int.eq_ofNat_of_zero_le q1
      obtain ⟨z, hzz⟩ := Int.eq_ofNat_of_zero_le q3
      have HXA : Hid (D.A k = x) := by show (D.a k).toNat = x; omega
      have HZB : Hid (D.B k = z) := by show (D.b k).toNat = z; omega
      have hxn : x < D.n := by omega
      have hzn : z < D.n := by omega
      rw [hxx] at a1
      rw [hzz] at a2
      clear hxx hzz q1 q2 q3 q4
      have HB1 := hid (below_alloc HB.out (.cells #[.int .i64 x, .int .i64 z, .int .i64 (D.h k)] 34))
      have HR1 := hid (HR.out.alloc (.cells #[.int .i64 x, .int .i64 z, .int .i64 (D.h k)] 34))
      by_cases hh : D.h k ≤ L
      · have HU : Hid (partL D.A D.B (useL D.h L (k + 1)) = relab (partL D.A D.B (useL D.h L k)) x z) := by
          have : useL D.h L (k + 1) = useL D.h L k ++ [k] := if_pos hh
          show _ = _
          rw [this, partL_snoc, HXA.out, HZB.out]
        clear HR HB
        generalize partL D.A D.B (useL D.h L k) = p at HR1 HU
        go_wp2_with fail
        refine (joinParts_any w1.heap.size D.n D.n p x z _ HR1.out (by omega) hxn hzn).mono ?_
        rintro ex w3 ⟨rfl, hR3, hk3⟩
        have HR3 : Hid (Row w3 w1.heap.size D.n D.n (zN (partL D.A D.B (useL D.h L (k + 1))))) := by rw [HU.out]; exact hR3
        have HB3 := hid (HB1.out.trans (hk3.below hg0 HB1.out.size))
        clear hR3 hk3
        go_wp2
        go_roundw
        case rel => exact ⟨k + 1, by omega, by go_num, HR3, HB3⟩
        case measure => simp [intOf] <;> omega
      · have HU : Hid (useL D.h L (k + 1) = useL D.h L k) := if_neg hh
        go_wp2
        go_roundw
        case rel => exact ⟨k + 1, by omega, by go_num, by rw [HU.out]; exact HR1, HB1⟩
        case measure => simp [intOf] <;> omega
    · have : k = D.m := by omega
      subst this
      go_wp2
      go_ret
      exact ⟨_, _, rfl, HR.out.ints (Nat.le_refl _), HB.out⟩

/-- For caves that are not valid. -/
theorem PoolsAt_impl0 (F G S : Option Addr) (D : CaveD) (c d e : Nat) (L : Int) (w : World) (hx : CaveAt w F G S D) (hs : CaveSmall D) (hok : ¬ CaveOk D) :
    Calls Tryd.prog 28 #[.agg #[.slice F D.n c, .slice G D.q d, .slice S D.m e], .int .i64 L] w (RetP 0 (fun v => v) w) := by
  have HV := hid (fun w' hx' => RetB.no (CaveValid_impl F G S D c d e w' hx' hs) hok)
  have HX := hid hx
  clear hx hok
  have hB := hid (Blk.new w 26 #[.slice F D.n c, .slice G D.q d, .slice S D.m e])
  have hw1 := hid (below_alloc1 w (.cells #[.slice F D.n c, .slice G D.q d, .slice S D.m e] 26))
  go_enter Tryd.func28, Tryd.ntmps28
  go_wp2_with fail
  refine (HV.out _ (HX.out.below hw1.out)).mono ?_
  rintro ex w1 ⟨rfl, hb1⟩
  go_wp2
  go_ret
  exact ⟨none, 0, rfl, fun h => absurd h (by omega), Below.then_ hw1.out hb1⟩
theorem PoolsAt_spec0 (F G S : Option Addr) (D : CaveD) (c d e : Nat) (L : Int) (w : World) (hx : CaveAt w F G S D) (hs : CaveSmall D) (hok : ¬ CaveOk D) :
    Calls Tryd.prog 37 #[.agg #[.slice F D.n c, .slice G D.q d, .slice S D.m e], .int .i64 L] w (RetP 0 (fun v => v) w) := by
  have HV := hid (fun w' hx' => RetB.no (CaveValid_spec F G S D c d e w' hx' hs) hok)
  have HX := hid hx
  clear hx hok
  have hB := hid ((Blk.new w 26 #[.slice F D.n c, .slice G D.q d, .slice S D.m e]).alloc (.cells #[] 3))
  have hw1 := hid (below_alloc (below_alloc1 w (.cells #[.slice F D.n c, .slice G D.q d, .slice S D.m e] 26)) (.cells #[] 3))
  have y0 := hB.out.cell (i := 0) rfl
  have y1 := hB.out.cell (i := 1) rfl
  have y2 := hB.out.cell (i := 2) rfl
  go_enter Tryd.func37, Tryd.ntmps37
  go_wp2_with fail
  refine (HV.out _ (HX.out.below hw1.out)).mono ?_
  rintro ex w1 ⟨rfl, hb1⟩
  go_wp2
  go_ret
  exact ⟨_, _, rfl, fun h => absurd h (by omega), Below.then_ hw1.out hb1⟩

/-! ### JoinLevel -/
def JlOk (D : CaveD) (a b : Int) : Prop := CaveOk D ∧ (0 ≤ a ∧ a < D.n) ∧ (0 ≤ b ∧ b < D.n)
theorem jl_found {D : CaveD} {x y k : Nat} (hk : k < 41) (h : poolF D k x = poolF D k y) (hl : ∀ L : Nat, L < k → poolF D L x ≠ poolF D L y) : jlF D x y = k :=
  jl_at (by simpa using h) (fun L hL => by simpa using hl L hL) 41 hk
theorem jl_nofound {D : CaveD} {x y : Nat} (hl : ∀ L : Nat, L < 41 → poolF D L x ≠ poolF D L y) : jlF D x y = -1 :=
  jl_none 41 (fun L hL => by simpa using hl L hL)

set_option maxRecDepth 20000 in
set_option maxHeartbeats 1600000 in
theorem JoinLevel_impl (F G S : Option Addr) (D : CaveD) (c d e : Nat) (a b : Nat) (w : World) (hx : CaveAt w F G S D) (hs : CaveSmall D) (hok : CaveOk D) (ha : a < D.n) (hb : b < D.n) :
    Calls Tryd.prog 49 #[.agg #[.slice F D.n c, .slice G D.q d, .slice S D.m e], .int .i64 a, .int .i64 b] w (RetV (.int .i64 (jlF D a b)) w) := by
  have hn6 := hok.1.2
  have HX := hid hx
  have HV := hid (fun w' hx' => RetB.yes (CaveValid_impl F G S D c d e w' hx' hs) hok)
  have HP := hid (fun (L : Int) w' hx' => PoolsAt_impl F G S D c d e L w' hx' hs hok)
  have HJJ : Hid (jlF D a a = 0) := jlF_self a
  have haz : (a : Int) < (D.n : Int) := by omega
  have hbz : (b : Int) < (D.n : Int) := by omega
  clear hx hok
  have hB := hid (Blk.new w 26 #[.slice F D.n c, .slice G D.q d, .slice S D.m e])
  have hw1 := hid (below_alloc1 w (.cells #[.slice F D.n c, .slice G D.q d, .slice S D.m e] 26))
  go_enter Tryd.func49, Tryd.ntmps49
  go_wp2_with fail
  refine (HV.out _ (HX.out.below hw1.out)).mono ?_
  rintro ex w1 ⟨rfl, hb1⟩
  have hB1 := hid (hB.out.below hb1)
  have y0 := hB1.out.cell (i := 0) rfl
  have HW1 := hid (Below.then_ hw1.out hb1)
  clear hb1 HV
  by_cases hab : a = b
  · have habz : ((a : Int) == (b : Int)) = true := by simp [hab]
    have HE : Hid (jlF D a b = 0) := by rw [← hab]; exact HJJ
    clear hab
    go_wp2_with (first | (go_at_call 67; (with_reducible refine (isIndex_y (a : Int) _ _ (by omega) haz).mono ?_); rintro e w' ⟨rfl, rfl⟩) | (go_at_call 67; (with_reducible refine (isIndex_y (b : Int) _ _ (by omega) hbz).mono ?_); rintro e w' ⟨rfl, rfl⟩))
    go_ret
    exact ⟨by rw [HE.out]; rfl, HW1.out⟩
  · have habz : ((a : Int) == (b : Int)) = false := by simp; omega
    clear hab
    go_wp2_with (first | (go_at_call 67; (with_reducible refine (isIndex_y (a : Int) _ _ (by omega) haz).mono ?_); rintro e w' ⟨rfl, rfl⟩) | (go_at_call 67; (with_reducible refine (isIndex_y (b : Int) _ _ (by omega) hbz).mono ?_); rintro e w' ⟨rfl, rfl⟩))
    go_loopw [31] (fun i wr => ∃ k : Nat, k ≤ 41 ∧ i = .int .i64 k ∧ Hid (∀ L : Nat, L < k → poolF D L a ≠ poolF D L b) ∧ Hid (Below w1.heap.size w1 wr)) (fun i _ => 41 - (intOf i).toNat)
    case atStart => exact ⟨0, by omega, rfl, fun L hL => absurd hL (by omega), Below.refl _ _⟩
    case round =>
      clear y0
      obtain ⟨k, hk, rfl, HA, HB⟩ := hrel
      have hBr := hB1.out.below HB.out
      have y0 := hBr.cell (i := 0) rfl
      have y1 := hBr.cell (i := 1) rfl
      have y2 := hBr.cell (i := 2) rfl
      by_cases hlt : k < 41
      · have hltz : (k : Int) < 41 := by omega
        go_wp2_with fail
        refine (HP.out k wr (HX.out.below (Below.then_ HW1.out HB.out))).mono ?_
        rintro ex w2 ⟨A, c2, rfl, hA, hb2⟩
        have HB2 := hid (Below.then_ HB.out hb2)
        obtain ⟨g, o, rfl, hc⟩ := hA (by omega)
        have c1 : w2.cell? ⟨g, o + a, none⟩ = some (.int .i64 (poolF D k a)) := hc a ha
        have c3 : w2.cell? ⟨g, o + b, none⟩ = some (.int .i64 (poolF D k b)) := hc b hb
        have s1 := sub_cell c1
        have s2 := sub_cell c3
        clear hc hb2 y0 y1 y2 hBr HB c1 c3
        by_cases he : poolF D k a = poolF D k b
        · have hez : ((poolF D k a : Int) == (poolF D k b : Int)) = true := by simp [he]
          have HE : Hid (jlF D a b = k) := jl_found hlt he HA.out
          clear he
          go_wp2
          refine wp_region_sub (by kernel_rfl) (by kernel_rfl) ?_
          repeat (go_big_quiet_step ((fail)))
          refine wpQuiet_nil ?_
          intro _ hw'
          obtain ⟨s, hw''⟩ := hw'
          subst hw''
          go_wp2
          go_ret
          exact ⟨by rw [HE.out]; rfl, Below.then_ (Below.then_ HW1.out HB2.out) s.h⟩
        · have hez : ((poolF D k a : Int) == (poolF D k b : Int)) = false := by simp; omega
          have HA2 : Hid (∀ L : Nat, L < k + 1 → poolF D L a ≠ poolF D L b) := fun L hL => by
            by_cases e : L = k
            · subst e; exact he
            · exact HA.out L (by omega)
          clear he
          go_wp2
          refine wp_region_sub (by kernel_rfl) (by kernel_rfl) ?_
          repeat (go_big_quiet_step ((fail)))
          refine wpQuiet_nil ?_
          intro _ hw'
          obtain ⟨s, hw''⟩ := hw'
          subst hw''
          go_wp2
          go_roundw
          case rel => exact ⟨k + 1, by omega, by go_num, HA2, hid (Below.then_ HB2.out s.h)⟩
          case measure => simp [intOf] <;> omega
      · have : k = 41 := by omega
        subst this
        have HE : Hid (jlF D a b = -1) := jl_nofound HA.out
        go_wp2
        go_ret
        exact ⟨by rw [HE.out]; rfl, Below.then_ HW1.out HB.out⟩

set_option maxRecDepth 20000 in
set_option maxHeartbeats 1600000 in
theorem JoinLevel_spec (F G S : Option Addr) (D : CaveD) (c d e : Nat) (a b : Nat) (w : World) (hx : CaveAt w F G S D) (hs : CaveSmall D) (hok : CaveOk D) (ha : a < D.n) (hb : b < D.n) :
    Calls Tryd.prog 50 #[.agg #[.slice F D.n c, .slice G D.q d, .slice S D.m e], .int .i64 a, .int .i64 b] w (RetV (.int .i64 (jlF D a b)) w) := by
  have hn6 := hok.1.2
  have hn1 := hok.1.1
  have HX := hid hx
  have HV := hid (fun w' hx' => RetB.yes (CaveValid_spec F G S D c d e w' hx' hs) hok)
  have HP := hid (fun (L : Int) w' hx' => PoolsAt_spec F G S D c d e L w' hx' hs hok)
  have haz : (a : Int) ≤ (D.n : Int) - 1 := by omega
  have hbz : (b : Int) ≤ (D.n : Int) - 1 := by omega
  have haz2 : (a : Int) < (D.n : Int) := by omega
  have hbz2 : (b : Int) < (D.n : Int) := by omega
  clear hx hok
  have hB := hid (Blk.new w 26 #[.slice F D.n c, .slice G D.q d, .slice S D.m e])
  have hw1 := hid (below_alloc1 w (.cells #[.slice F D.n c, .slice G D.q d, .slice S D.m e] 26))
  go_enter Tryd.func50, Tryd.ntmps50
  go_wp2_with fail
  refine (HV.out _ (HX.out.below hw1.out)).mono ?_
  rintro ex w1 ⟨rfl, hb1⟩
  have hB1 := hid (hB.out.below hb1)
  have y0 := hB1.out.cell (i := 0) rfl
  have HW1 := hid (Below.then_ hw1.out hb1)
  clear hb1 HV
  go_wp2_with (first | (go_at_call 61; (with_reducible refine (l1In_y (a : Int) _ _ _ (by omega) haz).mono ?_); rintro e w' ⟨rfl, rfl⟩) | (go_at_call 61; (with_reducible refine (l1In_y (b : Int) _ _ _ (by omega) hbz).mono ?_); rintro e w' ⟨rfl, rfl⟩))
  go_loopw [7] (fun i wr => ∃ k : Nat, k ≤ 41 ∧ i = .int .i64 k ∧ Hid (∀ L : Nat, L < k → poolF D L a ≠ poolF D L b) ∧ Hid (Below w1.heap.size w1 wr)) (fun i _ => 41 - (intOf i).toNat)
  case atStart => exact ⟨0, by omega, rfl, fun L hL => absurd hL (by omega), Below.refl _ _⟩
  case round =>
    clear y0
    obtain ⟨k, hk, rfl, HA, HB⟩ := hrel
    have hBr := hB1.out.below HB.out
    have y0 := hBr.cell (i := 0) rfl
    have y1 := hBr.cell (i := 1) rfl
    have y2 := hBr.cell (i := 2) rfl
    by_cases hlt : k < 41
    · have hltz : (k : Int) ≤ 40 := by omega
      go_wp2_with fail
      refine (HP.out k wr (HX.out.below (Below.then_ HW1.out HB.out))).mono ?_
      rintro ex w2 ⟨A, c2, rfl, hA, hb2⟩
      have HB2 := hid (Below.then_ HB.out hb2)
      obtain ⟨g, o, rfl, hc⟩ := hA (by omega)
      have c1 : w2.cell? ⟨g, o + a, none⟩ = some (.int .i64 (poolF D k a)) := hc a ha
      have c3 : w2.cell? ⟨g, o + b, none⟩ = some (.int .i64 (poolF D k b)) := hc b hb
      have s1 := sub_cell c1
      have s2 := sub_cell c3
      clear hc hb2 y0 y1 y2 hBr HB c1 c3
      by_cases he : poolF D k a = poolF D k b
      · have hez : ((poolF D k a : Int) == (poolF D k b : Int)) = true := by simp [he]
        have HE : Hid (jlF D a b = k) := jl_found hlt he HA.out
        clear he
        go_wp2
        refine wp_region_sub (by kernel_rfl) (by kernel_rfl) ?_
        repeat (go_big_quiet_step ((fail)))
        refine wpQuiet_nil ?_
        intro _ hw'
        obtain ⟨s, hw''⟩ := hw'
        subst hw''
        go_wp2
        go_ret
        exact ⟨by rw [HE.out]; rfl, Below.then_ (Below.then_ HW1.out HB2.out) s.h⟩
      · have hez : ((poolF D k a : Int) == (poolF D k b : Int)) = false := by simp; omega
        have HA2 : Hid (∀ L : Nat, L < k + 1 → poolF D L a ≠ poolF D L b) := fun L hL => by
          by_cases e : L = k
          · subst e; exact he
          · exact HA.out L (by omega)
        clear he
        go_wp2
        refine wp_region_sub (by kernel_rfl) (by kernel_rfl) ?_
        repeat (go_big_quiet_step ((fail)))
        refine wpQuiet_nil ?_
        intro _ hw'
        obtain ⟨s, hw''⟩ := hw'
        subst hw''
        go_wp2
        go_roundw
        case rel => exact ⟨k + 1, by omega, by go_num, HA2, hid (Below.then_ HB2.out s.h)⟩
        case measure => simp [intOf] <;> omega
    · have : k = 41 := by omega
      subst this
      have HE : Hid (jlF D a b = -1) := jl_nofound HA.out
      go_wp2
      go_ret
      exact ⟨by rw [HE.out]; rfl, Below.then_ HW1.out HB.out⟩
end Go.Proofs.YtahbfifnpceoeaaDoor
