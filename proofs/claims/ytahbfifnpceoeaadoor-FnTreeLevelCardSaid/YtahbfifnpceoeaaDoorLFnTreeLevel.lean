/- FnTreeLevel: trees are deep enough. -/
import Derived.Test.YtahbfifnpceoeaaDoorLawV
namespace Go.Proofs.YtahbfifnpceoeaaDoor
open Go.ChangeShapes Go.WideShapes Go.ChangeAt Go.RowKit

set_option maxRecDepth 20000 in
set_option maxHeartbeats 4000000 in
theorem FnTreeLevel_walk (A : Option Addr) (n c0 : Nat) (y : Nat → Int) (w : World) (htab : Pow10 w) (hx : Bytes w A n y) (hn : n ≤ c0) (hy : ∀ j, 0 ≤ y j ∧ y j < 256) :
    Calls Tryd.prog 5 #[.slice A n c0] w (RetV (.bool true) w) := by
  by_cases hbig : (n : Int) > 1048576
  · go_enter Tryd.func5, Tryd.ntmps5
    go_wp2
    go_ret
    exact ⟨rfl, Below.refl _ _⟩
  · go_enter Tryd.func5, Tryd.ntmps5
    go_wp2_with fail
    refine (DrawTreeLevel_any A n c0 y w hx hy hn).mono ?_
    rintro ex w1 ⟨F, G, S, D, c, d, e, a, b, rfl, hD, ha, hb⟩
    have hs := hD.small
    have hsm := hD.sm
    have H1 := hid (LwC.start (c := c) (d := d) htab hD rfl)
    clear hx hD htab
    go_wp2_with fail
    generalize w1.alloc (.cells #[.slice F D.n c, .slice G D.q d, .slice S D.m e] 26) = w2 at H1 ⊢
    generalize w1.heap.size = X at H1 ⊢

    refine (TreeLevel_implV F G S D c d e a b _ H1.out.cave hs).mono ?_
    rintro ex w3 ⟨rfl, hb'⟩
    have H2 := hid (H1.out.then_ hb')
    clear hb' H1
    have y0 := H2.out.box.cell (i := 0) rfl
    have y1 := H2.out.box.cell (i := 1) rfl
    have y2 := H2.out.box.cell (i := 2) rfl
    go_wp2_with fail
    refine (TreeLevel_specV F G S D c d e a b _ H2.out.cave hs).mono ?_
    rintro ex w4 ⟨rfl, hb'⟩
    have H3 := hid (H2.out.then_ hb')
    clear hb' H2
    have y0 := H3.out.box.cell (i := 0) rfl
    have y1 := H3.out.box.cell (i := 1) rfl
    have y2 := H3.out.box.cell (i := 2) rfl
    have hr0 : (jlV D a b != jlV D a b) = false := by simp
    by_cases hok : JlOk D a b
    · have hok' := hok
      obtain ⟨hc, ⟨a0, a1⟩, b0, b1⟩ := hok'
      have hv := jlV_yes hok
      obtain ⟨a', rfl⟩ := Int.eq_ofNat_of_zero_le a0
      obtain ⟨b', rfl⟩ := Int.eq_ofNat_of_zero_le b0
      rw [Int.toNat_natCast, Int.toNat_natCast] at hv
      have han : a' < D.n := by omega
      have hbn : b' < D.n := by omega
      have hlev := jlF_lev hc han hbn
      have hbd := jlF_bd (D := D) a' b'
      have hn6 := hc.1.2
      obtain ⟨x, hx⟩ : ∃ x, jlV D a' b' = x := ⟨_, rfl⟩
      rw [← hv, hx] at hlev hbd
      rw [hx] at hr0 ⊢
      have HC := hid hc
      have HLEV := hid hlev
      clear hok hv hlev hx hc
      by_cases hneg : x < 0
      · have e1 : (x == -1) = true := by simp; omega
        go_wp2_with fail
        refine (alive_any _ H3.out.tab).mono ?_
        rintro ex w6 ⟨rfl, hb6⟩
        go_wp2
        go_ret
        exact ⟨rfl, (H3.out.then_ hb6).bel⟩
      · go_wp2_with fail
        refine (PoolsAt_impl F G S D c d e x _ H3.out.cave hs HC.out).mono ?_
        rintro ex w5 ⟨P1, c1, rfl, hp1, hb'⟩
        have H4 := hid (H3.out.then_ hb')
        have HP1 := hid hp1
        clear hb' H3 hp1 y0 y1 y2
        have y0 := H4.out.box.cell (i := 0) rfl
        have y1 := H4.out.box.cell (i := 1) rfl
        have y2 := H4.out.box.cell (i := 2) rfl
        go_wp2_with fail
        refine (PoolsAt_impl F G S D c d e (x - 1) _ H4.out.cave hs HC.out).mono ?_
        rintro ex w6 ⟨P2, c2, rfl, hp2, hb'⟩
        have H5 := hid (H4.out.then_ hb')
        obtain ⟨b1, o1, hA1, hc1⟩ := (HP1.out.below hb') (by omega)
        obtain ⟨b2, o2, hA2, hc2⟩ := hp2 (by omega)
        subst hA1
        subst hA2
        have p1 := hc1 a' han
        have p2 := hc1 b' hbn
        have q1 := hc2 a' han
        have q2 := hc2 b' hbn
        have hz1 : zN (poolF D x) a' = zN (poolF D x) b' := by
          have := (pool_iff HC.out x han hbn).2 ((HLEV.out.2 x (by omega)).2 ⟨by omega, by omega⟩)
          unfold zN; rw [this]
        have hz2 : 0 < x → zN (poolF D (x - 1)) a' ≠ zN (poolF D (x - 1)) b' := fun h0 he => by
          have h1 : poolF D (x - 1) a' = poolF D (x - 1) b' := by unfold zN at he; omega
          have := ((HLEV.out.2 (x - 1) (by omega)).1 ((pool_iff HC.out (x - 1) han hbn).1 h1)).2
          omega
        clear hb' H4 hp2 hc1 hc2 y0 y1 y2 HP1
        have y0 := H5.out.box.cell (i := 0) rfl
        dsimp only at p1 p2 q1 q2
        rw [hz1] at p1
        have HZ2 := hid hz2
        clear hz1 hz2
        generalize zN (poolF D x) b' = u at p1 p2
        generalize zN (poolF D (x - 1)) a' = v1 at q1 HZ2
        generalize zN (poolF D (x - 1)) b' = v2 at q2 HZ2
        have huu : (u == u) = true := by simp
        have hnn : ((D.n : Int) == (D.n : Int)) = true := by simp
        by_cases hx0 : x = 0
        · have e0 : (x == 0) = true := by simp [hx0]
          clear hx0
          go_wp2
          go_quiet (fail)
          go_wp2
          go_ret
          exact ⟨rfl, below_drewN H5.out.bel _⟩
        · have e0 : (x == 0) = false := by simp [hx0]
          have e1 : (v1 != v2) = true := by have := HZ2.out (by omega); simp [this]
          clear hx0
          go_wp2
          go_quiet (fail)
          go_wp2
          go_ret
          exact ⟨rfl, below_drewN H5.out.bel _⟩
    · have hr1 : jlV D a b = -1 := jlV_no hok
      go_wp2_with fail
      refine (alive_any _ H3.out.tab).mono ?_
      rintro ex w6 ⟨rfl, hb6⟩
      go_wp2
      go_ret
      exact ⟨rfl, (H3.out.then_ hb6).bel⟩

set_option maxRecDepth 100000 in
theorem FnTreeLevel_lifted (os : Os) (started : os.Started) (H : Type) (enc : TypeId × Value → H) :
    ReturnsInHanded {} Tryd.checked os 5 .any (fun w args => (Rows.fnTreeLevelSpec.pre enc Tryd.prog Tryd.f5 [] false w args ∧ laidMetH Tryd.prog Rows.fnTreeLevelRow.laid w) ∧ sizedMet enc Tryd.prog Tryd.f5 (OpenSpec.ofChange Rows.fnTreeLevelSpec) false w args)
      (Rows.fnTreeLevelSpec.post enc Tryd.prog Tryd.f5 false true false false) := by
  refine returnsInHanded_of_change_and (C := Tryd.checked) (X := fun w _ => laidMetH Tryd.prog Rows.fnTreeLevelRow.laid w) (fun _ _ _ hh h => h.of_heap hh) own started (by kernel_rfl) Tryd.func5
    (ChangeSpec.witness_shaped (enc := enc) (C := Tryd.checked) (os := os) (X := fun w _ => laidMetH Tryd.prog Rows.fnTreeLevelRow.laid w) false (World.doorLaid Tryd.prog 24 os) #[.slice none 0 0] 8 rfl (World.shaped_of_RefB (by kernel_rfl) (by kernel_rfl)) (by kernel_rfl) (by kernel_rfl) (by kernel_rfl)
      (laidMetH_of_parts3 (fuel := 8) (laidMet_of_run' 8 (by kernel_rfl) (by kernel_rfl)) (by kernel_rfl) (by kernel_rfl))) ?_
  intro W base args ds gs before hval0 hW _ _ hL _
  have hval : ∀ (j : Nat) t v, Tryd.f5.params[j]? = some t → args[j]? = some v → Value.okWide Tryd.prog W .any base t v := hval0
  have hW' := hW
  obtain ⟨p, q, hA0, hV, rfl, hfz, hnd⟩ := hW
  have hA : DataW.TrodAll enc Tryd.prog W 0 (fun _ => true) true Tryd.f5.params.toList args.toList ds p := hA0
  rw [Tryd.params5] at hA hval
  obtain ⟨v0, vs0, d0, ds0, p0, q0, hargs, rfl, rfl, h0, r0⟩ := trodAll_cons hA
  obtain ⟨rfl, rfl, rfl⟩ := trodAll_nil r0
  obtain rfl : args = #[v0] := by cases args; simp_all
  obtain ⟨rfl, rfl⟩ := trodVars_none hV
  have k0 := h0
  obtain ⟨m0, hm0⟩ := k0
  have lt0 : ∀ x ∈ p0, x.block < W.heap.size := DataW.trod_lt m0 _ _ _ hm0
  obtain ⟨a0, len0, cap0, rfl⟩ := okWide_slice Tryd.underlying22 (hval 0 22 v0 rfl rfl)
  obtain ⟨A0, n0, c0, y0, hv0, hp0, hn0, hl0⟩ := open_Bytes (v := .slice a0 len0 cap0) Tryd.underlying22 Tryd.underlying5 (by kernel_rfl) hm0
  simp only [Value.slice.injEq] at hv0
  obtain ⟨rfl, rfl, rfl⟩ := hv0
  clear hA0 hval0
  have htab := tab_of_laid hL
  refine (FnTreeLevel_walk _ _ _ y0 W htab hp0 hn0 hl0).mono fun e W' ⟨he, bel⟩ => ?_
  subst he
  exact ⟨_, rfl, _, _, _, [], _, [], hW', trodAll_mk1 (shut_bool Tryd.underlying4 _), (trodAll_cons_mk (Below.trod laidOut (by kernel_rfl) (of_decide_eq_true (by kernel_rfl)) h0 bel lt0) trodAll_mk0), rfl, bel.frame _, fun h => by cases h⟩

theorem FnTreeLevel_row : Rows.FnTreeLevelSaid :=
  OpenClaim.holds_of_wide 5 Tryd.f5 rfl rfl rfl rfl rfl rfl rfl ⟨rfl, rfl, rfl, rfl, rfl⟩ rfl rfl rfl rfl rfl (by kernel_rfl) Tryd.func5 (by kernel_rfl)
    (of_decide_eq_true (by kernel_rfl)) (by unfold Func.isWrapper; first | (rw [if_pos (by decide +kernel)]; kernel_rfl) | (rw [if_neg (by decide +kernel)]; exact ⟨rfl, rfl⟩))
    (fun os started H enc _ => FnTreeLevel_lifted os started H enc)
theorem FnTreeLevel_holds : Rows.FnTreeLevelCardSaid :=
  Claim7.holds_tied_plain_at .later [] [.data, .data, .data] true (true, "a5a7d22d484212bf2246ed34c495e7e4937a4be0a82855a3527b2b559f36e5e1") false
    FnTreeLevel_row (fun _ h => by cases h) (by kernel_rfl) (fun _ h => by cases h) fnTreeLevel_row_tie rfl ⟨rfl, rfl⟩ (by kernel_rfl) rfl
    (fun f fn hf hfn => by
      obtain rfl : f = 5 := Option.some.inj ((show Tryd.prog.funcNamed "loop.example/cavesurvey/laws.FnTreeLevel" = some 5 by kernel_rfl).symm.trans hf) |>.symm
      obtain rfl : fn = Tryd.f5 := (Option.some.inj (Tryd.func5.symm.trans hfn)).symm
      exact ⟨by kernel_rfl, fun j t ht => by
        rw [Tryd.params5] at ht
        have hm : t ∈ [22] := by simpa using Array.mem_of_getElem? ht
        have hall : ([22].all fun u => !Tryd.prog.wantsStandIn u) = true := by kernel_rfl
        exact (show Tryd.prog.wantsStandIn t = false by simpa using List.all_eq_true.1 hall t hm)⟩)
    (by kernel_rfl)
#print axioms FnTreeLevel_holds
end Go.Proofs.YtahbfifnpceoeaaDoor
