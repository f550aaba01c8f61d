/- SillsJoin, both. Lists are at most 2^20 long. -/
import Derived.Test.YtahbfifnpceoeaaDoorCave11
import Derived.StillTailTactics
namespace Go.Proofs.YtahbfifnpceoeaaDoor
open Go.RowKit

abbrev SomeOk (D : CaveD) (n : Nat) (y : Nat → Int) : Prop := ∀ j, j < n → 0 ≤ y j ∧ y j < (D.m : Int)
def SjOk (D : CaveD) (n : Nat) (y : Nat → Int) : Prop := CaveOk D ∧ SomeOk D n y ∧ ∀ v, v < D.n → partL D.A D.B (idxL y n) v = poolF D 40 v

/-- slices.Equal, at numbers. -/
theorem slEq_any (A B : Option Addr) (n c m d : Nat) (x y : Nat → Int) (w : World) (hx : Ints w A n x) (hy : Ints w B m y) (hn : n ≤ 1048576) :
    Calls Tryd.prog 64 #[.slice A n c, .slice B m d] w (RetB (n = m ∧ ∀ j, j < n → x j = y j) w) := by
  by_cases hnm : n = m
  · subst hnm
    refine RetB.iff (p := ∀ j, j < n → x j = y j) ?_ (by simp)
    go_enter Tryd.func64, Tryd.ntmps64
    go_wp2
    go_loopw [13] (fun i wr => ∃ k : Nat, k ≤ n ∧ i = .int .i64 k ∧ (∀ j, j < k → x j = y j) ∧ ∃ q, wr = w.drewN q) (fun i _ => n - (intOf i).toNat)
    case atStart => exact ⟨0, by omega, rfl, fun j hj => absurd hj (by omega), 0, rfl⟩
    case round =>
      obtain ⟨k, hk, rfl, hall, q, rfl⟩ := hrel
      have HA := hid hall
      clear hall
      by_cases hlt : k < n
      · obtain ⟨b, o, rfl, hc⟩ := hx (by omega)
        obtain ⟨b', o', rfl, hc'⟩ := hy (by omega)
        have c1 := hc k hlt
        have c2 := hc' k hlt
        have hltz : (k : Int) < (n : Int) := by omega
        clear hc hc' hx hy
        by_cases he : x k = y k
        · have he' : (x k == y k) = true := by simp [he]
          have he2 : (x k != y k) = false := by simp [he]
          have HE := hid he
          clear he
          go_wp2
          go_quiet (fail)
          go_wp2
          go_roundw
          case rel => exact ⟨k + 1, by omega, by go_num, fun j hj => by
            by_cases e : j = k
            · subst e; exact HE.out
            · exact HA.out j (by omega), _, rfl⟩
          case measure => simp [intOf]; omega
        · have he2 : (x k != y k) = true := by simp [he]
          go_wp2
          go_quiet (fail)
          go_wp2
          go_ret
          exact .mk_f (fun h => he (h k hlt)) (below_drewN (below_drewN (Below.refl _ _) _) _) rfl
      · have : k = n := by omega
        subst this
        go_wp2
        go_ret
        exact .mk_t HA.out (below_drewN (Below.refl _ _) _) rfl
  · have hne : ((n : Int) != (m : Int)) = true := int_bne hnm
    go_enter Tryd.func64, Tryd.ntmps64
    go_wp2
    go_ret
    exact .mk_f (fun h => hnm h.1) (Below.refl _ _) rfl

theorem SjOk.intro {D : CaveD} {n : Nat} {y : Nat → Int} (h1 : CaveOk D) (h2 : SomeOk D n y) : (D.n = D.n ∧ ∀ j, j < D.n → zN (partL D.A D.B (idxL y n)) j = zN (poolF D 40) j) ↔ SjOk D n y :=
  ⟨fun h => ⟨h1, h2, fun v hv => by have := h.2 v hv; unfold zN at this; omega⟩, fun h => ⟨rfl, fun j hj => by unfold zN; rw [h.2.2 j hj]⟩⟩
set_option maxRecDepth 20000 in
set_option maxHeartbeats 1600000 in
theorem SillsJoin_impl (F G S : Option Addr) (D : CaveD) (c d e : Nat) (A : Option Addr) (n cu : Nat) (y : Nat → Int) (w : World) (hx : CaveAt w F G S D) (hs : CaveSmall D) (hi : Ints w A n y) (hn : n ≤ 1048576) :
    Calls Tryd.prog 20 #[.agg #[.slice F D.n c, .slice G D.q d, .slice S D.m e], .slice A n cu] w (RetB (SjOk D n y) w) := by
  have HX := hid hx
  have HI := hid hi
  have hB := hid (Blk.new w 26 #[.slice F D.n c, .slice G D.q d, .slice S D.m e])
  have hw1 := hid (below_alloc1 w (.cells #[.slice F D.n c, .slice G D.q d, .slice S D.m e] 26))
  by_cases hok : CaveOk D
  · have hn6 := hok.1.2
    have hn1 := hok.1.1
    have hm9 := hok.2.2.1
    have HOK := hid hok
    have HV := hid (fun w' hx' => RetB.yes (CaveValid_impl F G S D c d e w' hx' hs) hok)
    have HP := hid (fun (L : Int) w' hx' => PoolsAt_impl F G S D c d e L w' hx' hs hok)
    clear hx hok hi
    by_cases hy : SomeOk D n y
    · have HY := hid hy
      clear hy
      go_enter Tryd.func20, Tryd.ntmps20
      go_wp2_with fail
      refine (HV.out _ (HX.out.below hw1.out)).mono ?_
      rintro ex w1 ⟨rfl, hb1⟩
      have hB1 := hid (hB.out.below hb1)
      have y0 := hB1.out.cell (i := 0) rfl
      have y2 := hB1.out.cell (i := 2) rfl
      have HW1 := hid (Below.then_ hw1.out hb1)
      clear hb1 HV
      go_wp2_with (go_at_call 63; (with_reducible refine (RetBS.yes (areIndices_any A n cu y (D.m : Int) _ (HI.out.below HW1.out) hn) HY.out).mono ?_); rintro e w' ⟨rfl, rfl⟩)
      refine (ownParts_any D.n w1 (by omega)).mono ?_
      rintro ex w2 ⟨rfl, hR, hb2⟩
      have hB2 := hid (hB1.out.below hb2)
      clear y0 y2
      have HR0 : Hid (Row w2 w1.heap.size D.n D.n (zN (partL D.A D.B (idxL y 0)))) := hid hR
      have HB0 := hid (Below.then_ HW1.out hb2)
      have hg0 : w.heap.size ≤ w1.heap.size := HW1.out.size
      clear hR hb2
      go_wp2
      go_loopw [25] (fun i wr => ∃ k : Nat, k ≤ n ∧ i = .int .i64 k ∧ Hid (Row wr w1.heap.size D.n D.n (zN (partL D.A D.B (idxL y k)))) ∧ Hid (Below w.heap.size w wr) ∧ Hid (Blk wr w.heap.size 26 #[.slice F D.n c, .slice G D.q d, .slice S D.m e])) (fun i _ => n - (intOf i).toNat)
      case atStart => exact ⟨0, by omega, rfl, HR0, HB0, hB2⟩
      case round =>
        clear HR0 HB0
        obtain ⟨k, hk, rfl, HR, HB, HX3⟩ := hrel
        by_cases hlt : k < n
        · have hltz : (k : Int) < (n : Int) := by omega
          have hyk := HY.out k hlt
          obtain ⟨i, hi⟩ := Int.eq_ofNat_of_zero_le hyk.1
          have him : i < D.m := by omega
          have HII : Hid ((y k).toNat = i) := by show _ = _; omega
          obtain ⟨bu, ou, rfl, hcu⟩ := (HI.out.below HB.out) (by omega)
          have c1 : wr.cell? ⟨bu, ou + k, none⟩ = some (.int .i64 i) := by rw [← hi]; exact hcu k hlt
          clear hcu hi hyk
          obtain ⟨bs, os, hS, a1, a2, a3⟩ := (HX.out.below HB.out).sil.at_ him
          obtain ⟨⟨q1, q2⟩, ⟨q3, q4⟩, _⟩ := HOK.out.2.2.2.2 i him
          obtain ⟨x, hxx⟩ := Int.eq_ofNat_of_zero_le q1
          obtain ⟨z, hzz⟩ := Int.eq_ofNat_of_zero_le q3
          have HXA : Hid (D.A i = x) := by show (D.a i).toNat = x; omega
          have HZB : Hid (D.B i = z) := by show (D.b i).toNat = z; omega
          have hxn : x < D.n := by omega
          have hzn : z < D.n := by omega
          have himz : (i : Int) < (D.m : Int) := by omega
          rw [hxx] at a1
          rw [hzz] at a2
          clear hxx hzz q1 q2 q3 q4 a3
          have y2 := HX3.out.cell (i := 2) rfl
          rw [hS] at y2
          clear hS
          have HP2 : Hid (partL D.A D.B (idxL y (k + 1)) = relab (partL D.A D.B (idxL y k)) x z) := by
            show _ = _
            rw [idxL_succ, partL_snoc, HII.out, HXA.out, HZB.out]
          generalize partL D.A D.B (idxL y k) = p at HR HP2
          go_wp2
          go_still_tail 13, (by kernel_rfl)
          change wpList _ _ _ _ _ wr.drew
          have HRd : Hid (Row wr.drew w1.heap.size D.n D.n (zN p)) := hid (HR.out.below (Below.refl _ _).drew)
          have HBd := hid HB.out.drew
          have HXd : Hid (Blk wr.drew w.heap.size 26 #[.slice F D.n c, .slice G D.q d, .slice S D.m e]) := hid (HX3.out.below (Below.refl _ _).drew)
          clear HR HB HX3 y2 a1 a2 c1
          generalize wr.drew = v2 at HRd HBd HXd ⊢
          go_wp2_with fail
          refine (joinParts_any w1.heap.size D.n D.n p x z _ HRd.out (by omega) hxn hzn).mono ?_
          rintro ex w3 ⟨rfl, hR3, hk3⟩
          have HR3 : Hid (Row w3 w1.heap.size D.n D.n (zN (partL D.A D.B (idxL y (k + 1))))) := by rw [HP2.out]; exact hR3
          have HB3 := hid (HBd.out.trans (hk3.below hg0 HBd.out.size))
          have HX4 : Hid (Blk w3 w.heap.size 26 #[.slice F D.n c, .slice G D.q d, .slice S D.m e]) := hid ((hk3.block w.heap.size HXd.out.lt (.inl (by have := hB1.out.lt; omega))).trans HXd.out)
          clear hR3 hk3
          go_wp2
          go_roundw
          case rel => exact ⟨k + 1, by omega, by go_num, HR3, HB3, HX4⟩
          case measure => simp [intOf] <;> omega
        · have : k = n := by omega
          subst this
          have y0 := HX3.out.cell (i := 0) rfl
          have y1 := HX3.out.cell (i := 1) rfl
          have y2 := HX3.out.cell (i := 2) rfl
          go_wp2_with fail
          refine (HP.out 40 _ (HX.out.below HB.out)).mono ?_
          rintro ex w4 ⟨A4, c4, rfl, hI4, hb4⟩
          have HR4 := hid (HR.out.ints (Nat.le_refl _) |>.below hb4)
          have HI4 := hid hI4
          have HB4 := hid (Below.then_ HB.out hb4)
          clear hI4 hb4 y0 y1 y2
          go_wp2_with fail
          refine (slEq_any _ _ _ _ _ _ _ _ _ HR4.out HI4.out (by omega)).mono ?_
          rintro ex w5 ⟨b, rfl, hb5, hb6⟩
          have HRES := hid (hb5.trans (SjOk.intro HOK.out HY.out))
          have HB5 := hid (Below.then_ HB4.out hb6)
          clear hb5 hb6
          go_wp2
          go_ret
          exact ⟨b, rfl, HRES.out, HB5.out⟩
    · have HY := hid hy
      clear hy
      go_enter Tryd.func20, Tryd.ntmps20
      go_wp2_with fail
      refine (HV.out _ (HX.out.below hw1.out)).mono ?_
      rintro ex w1 ⟨rfl, hb1⟩
      have hB1 := hid (hB.out.below hb1)
      have y0 := hB1.out.cell (i := 0) rfl
      have y2 := hB1.out.cell (i := 2) rfl
      have HW1 := hid (Below.then_ hw1.out hb1)
      clear hb1 HV
      go_wp2_with (go_at_call 63; (with_reducible refine (RetBS.no (areIndices_any A n cu y (D.m : Int) _ (HI.out.below HW1.out) hn) HY.out).mono ?_); rintro e w' ⟨rfl, rfl⟩)
      go_ret
      exact .mk_f (fun h => HY.out h.2.1) HW1.out rfl
  · have HV := hid (fun w' hx' => RetB.no (CaveValid_impl F G S D c d e w' hx' hs) hok)
    have HNO := hid hok
    clear hok hx hi
    go_enter Tryd.func20, Tryd.ntmps20
    go_wp2_with fail
    refine (HV.out _ (HX.out.below hw1.out)).mono ?_
    rintro ex w1 ⟨rfl, hb1⟩
    have HW1 := hid (Below.then_ hw1.out hb1)
    go_wp2
    go_ret
    exact .mk_f (fun h => HNO.out h.1) HW1.out rfl

set_option maxRecDepth 20000 in
set_option maxHeartbeats 1600000 in
theorem SillsJoin_spec (F G S : Option Addr) (D : CaveD) (c d e : Nat) (A : Option Addr) (n cu : Nat) (y : Nat → Int) (w : World) (hx : CaveAt w F G S D) (hs : CaveSmall D) (hi : Ints w A n y) (hn : n ≤ 1048576) :
    Calls Tryd.prog 23 #[.agg #[.slice F D.n c, .slice G D.q d, .slice S D.m e], .slice A n cu] w (RetB (SjOk D n y) w) := by
  have HX := hid hx
  have HI := hid hi
  have hB := hid (Blk.new w 26 #[.slice F D.n c, .slice G D.q d, .slice S D.m e])
  have hw1 := hid (below_alloc1 w (.cells #[.slice F D.n c, .slice G D.q d, .slice S D.m e] 26))
  by_cases hok : CaveOk D
  · have hn6 := hok.1.2
    have hn1 := hok.1.1
    have hm9 := hok.2.2.1
    have HOK := hid hok
    have HV := hid (fun w' hx' => RetB.yes (CaveValid_spec F G S D c d e w' hx' hs) hok)
    have HP := hid (fun (L : Int) w' hx' => PoolsAt_spec F G S D c d e L w' hx' hs hok)
    have HQ := hid (fun w' hx' hi' hy' => l4Parts_any F G S D c d e A n cu y w' hx' hok hi' hn hy')
    clear hx hok hi
    go_enter Tryd.func23, Tryd.ntmps23
    go_wp2_with fail
    refine (HV.out _ (HX.out.below hw1.out)).mono ?_
    rintro ex w1 ⟨rfl, hb1⟩
    have hB1 := hid (hB.out.below hb1)
    have HW1 := hid (Below.then_ hw1.out hb1)
    clear hb1 HV
    go_wp2
    go_loopw [5] (fun i wr => ∃ k : Nat, k ≤ n ∧ i = .int .i64 k ∧ Hid (SomeOk D k y) ∧ Hid (Below w.heap.size w wr) ∧ Hid (Blk wr w.heap.size 26 #[.slice F D.n c, .slice G D.q d, .slice S D.m e])) (fun i _ => n - (intOf i).toNat)
    case atStart => exact ⟨0, by omega, rfl, hid (fun j hj => absurd hj (by omega)), HW1, hB1⟩
    case round =>
      obtain ⟨k, hk, rfl, HK, HB, HX3⟩ := hrel
      by_cases hlt : k < n
      · have hltz : (k : Int) < (n : Int) := by omega
        obtain ⟨bu, ou, rfl, hcu⟩ := (HI.out.below HB.out) (by omega)
        have s0 : ∀ s : Sub wr, s.val.cell? ⟨bu, ou + k, none⟩ = some (.int .i64 (y k)) := sub_cell (hcu k hlt)
        have s2 := sub_cell (HX3.out.cell (i := 2) rfl)
        clear hcu
        by_cases hyk : 0 ≤ y k ∧ y k ≤ (D.m : Int) - 1
        · have HYK := hid hyk
          have HK2 : Hid (SomeOk D (k + 1) y) := fun j hj => by
            by_cases e : j = k
            · subst e; have := HYK.out; omega
            · exact HK.out j (by omega)
          clear hyk
          go_wp2
          refine wp_region_sub (by kernel_rfl) (by kernel_rfl) ?_
          repeat (go_big_quiet_step ((go_at_call 61; exact RetS.sub (l1In_y (y k) _ _ _ HYK.out.1 HYK.out.2))))
          refine wpQuiet_nil ?_
          intro _ hw'
          obtain ⟨s, hw''⟩ := hw'
          subst hw''
          have hsv := hid s.h
          clear s0 s2
          go_wp2
          go_roundw
          case rel => exact ⟨k + 1, by omega, by go_num, HK2, hid (Below.then_ HB.out hsv.out), hid (HX3.out.below hsv.out)⟩
          case measure => simp [intOf] <;> omega
        · have HYK := hid hyk
          clear hyk
          go_wp2
          refine wp_region_sub (by kernel_rfl) (by kernel_rfl) ?_
          repeat (go_big_quiet_step ((go_at_call 61; exact RetS.sub (l1In_n (y k) _ _ _ HYK.out))))
          refine wpQuiet_nil ?_
          intro _ hw'
          obtain ⟨s, hw''⟩ := hw'
          subst hw''
          have hsv := hid s.h
          clear s0 s2
          go_wp2
          go_ret
          exact .mk_f (fun h => HYK.out (by have := h.2.1 k hlt; omega)) (Below.then_ HB.out hsv.out) rfl
      · have : k = n := by omega
        subst this
        have y0 := HX3.out.cell (i := 0) rfl
        have y1 := HX3.out.cell (i := 1) rfl
        have y2 := HX3.out.cell (i := 2) rfl
        go_wp2_with fail
        refine (HQ.out _ (HX.out.below HB.out) (HI.out.below HB.out) HK.out).mono ?_
        rintro ex w3 ⟨A3, c3, rfl, hI3, hb3⟩
        have hB3 := hid (HX3.out.below hb3)
        have HB3 := hid (Below.then_ HB.out hb3)
        have HI3 := hid hI3
        clear y0 y1 y2 hb3 hI3
        have y0 := hB3.out.cell (i := 0) rfl
        have y1 := hB3.out.cell (i := 1) rfl
        have y2 := hB3.out.cell (i := 2) rfl
        go_wp2_with fail
        refine (HP.out 40 _ (HX.out.below HB3.out)).mono ?_
        rintro ex w4 ⟨A4, c4, rfl, hI4, hb4⟩
        have HI4 := hid hI4
        have HJ4 := hid (HI3.out.below hb4)
        have HB4 := hid (Below.then_ HB3.out hb4)
        clear hI4 hb4 y0 y1 y2 HI3
        have HEQ := hid (SjOk.intro HOK.out HK.out)
        go_wp2
        go_loopw [8] (fun i wr => ∃ j : Nat, j ≤ D.n ∧ i = .int .i64 j ∧ Hid (∀ v, v < j → zN (partL D.A D.B (idxL y k)) v = zN (poolF D 40) v) ∧ ∃ q, wr = w4.drewN q) (fun i _ => D.n - (intOf i).toNat)
        case atStart => exact ⟨0, by omega, rfl, hid (fun j hj => absurd hj (by omega)), 0, rfl⟩
        case round =>
          obtain ⟨j, hj, rfl, HA, q, rfl⟩ := hrel
          by_cases hlt2 : j < D.n
          · obtain ⟨b, o, rfl, hc⟩ := HJ4.out (by omega)
            obtain ⟨b', o', rfl, hc'⟩ := HI4.out (by omega)
            have c1 := hc j hlt2
            have c2 := hc' j hlt2
            have hltz : (j : Int) < (D.n : Int) := by omega
            clear hc hc'
            by_cases he : zN (partL D.A D.B (idxL y k)) j = zN (poolF D 40) j
            · have he' : (zN (partL D.A D.B (idxL y k)) j == zN (poolF D 40) j) = true := by simp [he]
              have he2 : (zN (partL D.A D.B (idxL y k)) j != zN (poolF D 40) j) = false := by simp [he]
              have HE := hid he
              clear he
              go_wp2
              go_quiet (fail)
              go_wp2
              go_roundw
              case rel => exact ⟨j + 1, by omega, by go_num, hid (fun v hv => by
                by_cases e : v = j
                · subst e; exact HE.out
                · exact HA.out v (by omega)), _, rfl⟩
              case measure => simp [intOf]; omega
            · have he2 : (zN (partL D.A D.B (idxL y k)) j != zN (poolF D 40) j) = true := by simp [he]
              go_wp2
              go_quiet (fail)
              go_wp2
              go_ret
              exact .mk_f (fun h => he ((HEQ.out.2 h).2 j hlt2)) (below_drewN (below_drewN HB4.out _) _) rfl
          · have : j = D.n := by omega
            subst this
            go_wp2
            go_ret
            exact .mk_t (HEQ.out.1 ⟨trivial, HA.out⟩) (below_drewN HB4.out _) rfl
  · have HV := hid (fun w' hx' => RetB.no (CaveValid_spec F G S D c d e w' hx' hs) hok)
    have HNO := hid hok
    clear hok hx hi
    go_enter Tryd.func23, Tryd.ntmps23
    go_wp2_with fail
    refine (HV.out _ (HX.out.below hw1.out)).mono ?_
    rintro ex w1 ⟨rfl, hb1⟩
    have HW1 := hid (Below.then_ hw1.out hb1)
    go_wp2
    go_ret
    exact .mk_f (fun h => HNO.out h.1) HW1.out rfl

theorem RetB.toV {P : Program} {f : FuncId} {args : Array Value} {w : World} {p : Prop} {b : Bool} (h : Calls P f args w (RetB p w)) (hb : b = true ↔ p) : Calls P f args w (RetV (.bool b) w) := by
  cases b with
  | true => exact RetB.yes h (hb.1 rfl)
  | false => exact RetB.no h (fun hp => by cases hb.2 hp)
theorem SillsJoin_same (D : CaveD) (hs : CaveSmall D) (n : Nat) (y : Nat → Int) (hn : n ≤ 1048576) : ∃ r : Bool,
    (∀ (F G S : Option Addr) (c d e : Nat) (A : Option Addr) (cu : Nat) (w : World), CaveAt w F G S D → Ints w A n y → Calls Tryd.prog 23 #[.agg #[.slice F D.n c, .slice G D.q d, .slice S D.m e], .slice A n cu] w (RetV (.bool r) w)) ∧
    (∀ (F G S : Option Addr) (c d e : Nat) (A : Option Addr) (cu : Nat) (w : World), CaveAt w F G S D → Ints w A n y → Calls Tryd.prog 20 #[.agg #[.slice F D.n c, .slice G D.q d, .slice S D.m e], .slice A n cu] w (RetV (.bool r) w)) := by
  obtain ⟨r, hr⟩ : ∃ r : Bool, r = true ↔ SjOk D n y := by
    by_cases h : SjOk D n y
    · exact ⟨true, by simp [h]⟩
    · exact ⟨false, by simp [h]⟩
  exact ⟨r, fun F G S c d e A cu w hx hi => RetB.toV (SillsJoin_spec F G S D c d e A n cu y w hx hs hi hn) hr, fun F G S c d e A cu w hx hi => RetB.toV (SillsJoin_impl F G S D c d e A n cu y w hx hs hi hn) hr⟩
end Go.Proofs.YtahbfifnpceoeaaDoor
