/- FnSillsHigh: the heights add up. -/
import Derived.Test.YtahbfifnpceoeaaDoorLawH
namespace Go.Proofs.YtahbfifnpceoeaaDoor
open Go.ChangeShapes Go.WideShapes Go.ChangeAt Go.RowKit

set_option maxRecDepth 20000 in
set_option maxHeartbeats 4000000 in
theorem FnSillsHigh_walk (A : Option Addr) (n c0 : Nat) (y : Nat → Int) (w : World) (htab : Pow10 w) (hx : Bytes w A n y) (hn : n ≤ c0) (hy : ∀ j, 0 ≤ y j ∧ y j < 256) :
    Calls Tryd.prog 8 #[.slice A n c0] w (RetV (.bool true) w) := by
  by_cases hbig : (n : Int) > 1048576
  · go_enter Tryd.func8, Tryd.ntmps8
    go_wp2
    go_ret
    exact ⟨rfl, Below.refl _ _⟩
  · go_enter Tryd.func8, Tryd.ntmps8
    go_wp2_with fail
    refine (DrawSillsHigh_any A n c0 y w hx hy hn).mono ?_
    rintro ex w1 ⟨F, G, S, D, c, d, e, A2, n2, c2, yy, rfl, hD, hlist, hn2, hyb⟩
    have hs := hD.small
    have hsm := hD.sm
    have H1 := hid (LwC.start (c := c) (d := d) htab hD rfl)
    clear hx hD htab
    have HI1 := hid ((hlist.at_).alloc (.cells #[.slice F D.n c, .slice G D.q d, .slice S D.m e] 26))
    clear hlist
    go_wp2_with fail
    generalize w1.alloc (.cells #[.slice F D.n c, .slice G D.q d, .slice S D.m e] 26) = w2 at H1 HI1 ⊢
    generalize w1.heap.size = X at H1 ⊢

    refine (SillsHigh_implV F G S D c d e A2 n2 c2 yy _ H1.out.cave hs HI1.out (by omega)).mono ?_
    rintro ex w3 ⟨rfl, hb'⟩
    have H2 := hid (H1.out.then_ hb')
    replace HI1 := hid (HI1.out.below hb')
    clear hb' H1
    have y0 := H2.out.box.cell (i := 0) rfl
    have y1 := H2.out.box.cell (i := 1) rfl
    have y2 := H2.out.box.cell (i := 2) rfl
    go_wp2_with fail
    refine (SillsHigh_specV F G S D c d e A2 n2 c2 yy _ H2.out.cave hs HI1.out (by omega)).mono ?_
    rintro ex w4 ⟨rfl, hb'⟩
    have H3 := hid (H2.out.then_ hb')
    replace HI1 := hid (HI1.out.below hb')
    clear hb' H2
    have y0 := H3.out.box.cell (i := 0) rfl
    have y1 := H3.out.box.cell (i := 1) rfl
    have y2 := H3.out.box.cell (i := 2) rfl
    have hr0 : (shV D n2 yy != shV D n2 yy) = false := by simp
    by_cases hok : ShOk D n2 yy
    · have hv := shV_yes hok
      have hbd := shF_bd hok.1 (y := yy) (n := n2) hok.2 n2 (Nat.le_refl _)
      have hx0 : 0 ≤ shV D n2 yy := by rw [hv]; omega
      by_cases h0 : n2 = 0
      · have hxz : shV D n2 yy = 0 := by rw [hv, h0]; rfl
        have e1 : ((n2 : Int) == 0) = true := by simp [h0]
        rw [hxz] at hr0 ⊢
        clear hv hbd hxz h0
        go_wp2
        go_quiet (fail)
        go_wp2
        go_ret
        exact ⟨rfl, Below.then_ H3.out.bel (below_drewN (Below.refl _ _) _)⟩
      · have e1 : ((n2 : Int) == 0) = false := by simp; omega
        have e2 : decide ((0 : Int) < (n2 : Int)) = true := decide_eq_true (by omega)
        have hpos : (0 : Int) < (n2 : Int) := by omega
        obtain ⟨n1, rfl⟩ : ∃ n1, n2 = n1 + 1 := ⟨n2 - 1, by omega⟩
        have g1 : ((n1 : Int) + 1 == 0) = false := by simp; omega
        have g2 : decide ((0 : Int) < (n1 : Int) + 1) = true := decide_eq_true (by omega)
        have g3 : (0 : Int) < (n1 : Int) + 1 := by omega
        have g4 : ((n1 : Int) + 1 - 1).toNat = n1 := by omega
        have h00 := hok.2 0 (by omega)
        obtain ⟨i, hi0⟩ := Int.eq_ofNat_of_zero_le h00.1
        have him : i < D.m := by omega
        have himz : (i : Int) < (D.m : Int) := by omega
        have hhi := sill_h hok.1 him
        have hsub : shV D n1 (fun j => yy (j + 1)) = shV D (n1 + 1) yy - D.h i := by
          rw [hv, shF_shift, hi0, shV_yes ⟨hok.1, fun j hj => hok.2 (j + 1) (by omega)⟩, Int.toNat_natCast]; omega
        have hIC := HI1.out (by omega)
        obtain ⟨bi, oi, rfl, hic⟩ := hIC
        have p0 : w4.cell? ⟨bi, oi, none⟩ = some (.int .i64 (i : Nat)) := by rw [← hi0]; exact hic 0 (by omega)
        have HSH : Hid (Ints w4 (some ⟨bi, oi + 1, none⟩) n1 (fun j => yy (j + 1))) := hid (fun _ => ⟨bi, oi + 1, rfl, fun j hj => by
          have := hic (j + 1) (by omega)
          rw [show oi + (j + 1) = oi + 1 + j by omega] at this
          exact this⟩)
        obtain ⟨bs, os, hS, _, _, a3⟩ := H3.out.cave.sil.at_ him
        subst hS
        have s0 := sub_cell y0
        have s1 := sub_cell y1
        have s2 := sub_cell y2
        have s3 := sub_cell p0
        have s4 := sub_cell a3
        have hb5 : shF D yy (n1 + 1) ≤ 1000000 := by have := hn2.1; have := hbd.2; omega
        rw [← hv] at hb5
        generalize shV D (n1 + 1) yy = x at *
        have hw : IntKind.i64.wrap (x - D.h i) = x - D.h i := IntWalk.i64_in _ (by omega)
        have heq : (x - D.h i == x - D.h i) = true := by simp
        have hnn : ¬ x < 0 := by omega
        have hcc := hn2.2
        clear hic hi0 h00 hbd hv hok
        by_cases hc1 : c2 = 1
        · subst hc1
          have hn10 : n1 = 0 := by omega
          subst hn10
          have W1 : Hid (∀ s : Sub w4, Calls Tryd.prog 24 #[.agg #[.slice F D.n c, .slice G D.q d, .slice (some ⟨bs, os, none⟩) D.m e], .slice (some ⟨bi, oi, none⟩) 0 0] s.val (RetV (.int .i64 (x - D.h i)) s.val)) := hid (fun s => by
            have := SillsHigh_implV F G _ D c d e (some ⟨bi, oi, none⟩) 0 0 (fun j => yy (j + 1)) s.val ((H3.out.then_ s.h).cave) hs (fun h => absurd h (by omega)) (by omega)
            rwa [hsub] at this)
          clear hsub
          go_wp2
          refine wp_region_sub (by kernel_rfl) (by kernel_rfl) ?_
          repeat (go_big_quiet_step ((go_at_call 24; (with_reducible exact RetV.sub (W1.out _)))))
          refine wpQuiet_nil ?_
          intro _ hw'
          obtain ⟨s, hw''⟩ := hw'
          subst hw''
          go_wp2
          go_ret
          exact ⟨rfl, Below.then_ H3.out.bel s.h⟩
        · have W1 : Hid (∀ s : Sub w4, Calls Tryd.prog 24 #[.agg #[.slice F D.n c, .slice G D.q d, .slice (some ⟨bs, os, none⟩) D.m e], .slice (some ⟨bi, oi + 1, none⟩) n1 (c2 - 1)] s.val (RetV (.int .i64 (x - D.h i)) s.val)) := hid (fun s => by
            have := SillsHigh_implV F G _ D c d e (some ⟨bi, oi + 1, none⟩) n1 (c2 - 1) (fun j => yy (j + 1)) s.val ((H3.out.then_ s.h).cave) hs (HSH.out.below s.h) (by omega)
            rwa [hsub] at this)
          clear hsub
          go_wp2
          refine wp_region_sub (by kernel_rfl) (by kernel_rfl) ?_
          repeat (go_big_quiet_step ((go_at_call 24; (with_reducible exact RetV.sub (W1.out _)))))
          refine wpQuiet_nil ?_
          intro _ hw'
          obtain ⟨s, hw''⟩ := hw'
          subst hw''
          go_wp2
          go_ret
          exact ⟨rfl, Below.then_ H3.out.bel s.h⟩
    · have hr1 : shV D n2 yy = -1 := shV_no hok
      go_wp2_with fail
      refine (alive_any _ H3.out.tab).mono ?_
      rintro ex w6 ⟨rfl, hb6⟩
      go_wp2
      go_ret
      exact ⟨rfl, (H3.out.then_ hb6).bel⟩

set_option maxRecDepth 100000 in
theorem FnSillsHigh_lifted (os : Os) (started : os.Started) (H : Type) (enc : TypeId × Value → H) :
    ReturnsInHanded {} Tryd.checked os 8 .any (fun w args => (Rows.fnSillsHighSpec.pre enc Tryd.prog Tryd.f8 [] false w args ∧ laidMetH Tryd.prog Rows.fnSillsHighRow.laid w) ∧ sizedMet enc Tryd.prog Tryd.f8 (OpenSpec.ofChange Rows.fnSillsHighSpec) false w args)
      (Rows.fnSillsHighSpec.post enc Tryd.prog Tryd.f8 false true false false) := by
  refine returnsInHanded_of_change_and (C := Tryd.checked) (X := fun w _ => laidMetH Tryd.prog Rows.fnSillsHighRow.laid w) (fun _ _ _ hh h => h.of_heap hh) own started (by kernel_rfl) Tryd.func8
    (ChangeSpec.witness_shaped (enc := enc) (C := Tryd.checked) (os := os) (X := fun w _ => laidMetH Tryd.prog Rows.fnSillsHighRow.laid w) false (World.doorLaid Tryd.prog 24 os) #[.slice none 0 0] 8 rfl (World.shaped_of_RefB (by kernel_rfl) (by kernel_rfl)) (by kernel_rfl) (by kernel_rfl) (by kernel_rfl)
      (laidMetH_of_parts3 (fuel := 8) (laidMet_of_run' 8 (by kernel_rfl) (by kernel_rfl)) (by kernel_rfl) (by kernel_rfl))) ?_
  intro W base args ds gs before hval0 hW _ _ hL _
  have hval : ∀ (j : Nat) t v, Tryd.f8.params[j]? = some t → args[j]? = some v → Value.okWide Tryd.prog W .any base t v := hval0
  have hW' := hW
  obtain ⟨p, q, hA0, hV, rfl, hfz, hnd⟩ := hW
  have hA : DataW.TrodAll enc Tryd.prog W 0 (fun _ => true) true Tryd.f8.params.toList args.toList ds p := hA0
  rw [Tryd.params8] at hA hval
  obtain ⟨v0, vs0, d0, ds0, p0, q0, hargs, rfl, rfl, h0, r0⟩ := trodAll_cons hA
  obtain ⟨rfl, rfl, rfl⟩ := trodAll_nil r0
  obtain rfl : args = #[v0] := by cases args; simp_all
  obtain ⟨rfl, rfl⟩ := trodVars_none hV
  have k0 := h0
  obtain ⟨m0, hm0⟩ := k0
  have lt0 : ∀ x ∈ p0, x.block < W.heap.size := DataW.trod_lt m0 _ _ _ hm0
  obtain ⟨a0, len0, cap0, rfl⟩ := okWide_slice Tryd.underlying22 (hval 0 22 v0 rfl rfl)
  obtain ⟨A0, n0, c0, y0, hv0, hp0, hn0, hl0⟩ := open_Bytes (v := .slice a0 len0 cap0) Tryd.underlying22 Tryd.underlying5 (by kernel_rfl) hm0
  simp only [Value.slice.injEq] at hv0
  obtain ⟨rfl, rfl, rfl⟩ := hv0
  clear hA0 hval0
  have htab := tab_of_laid hL
  refine (FnSillsHigh_walk _ _ _ y0 W htab hp0 hn0 hl0).mono fun e W' ⟨he, bel⟩ => ?_
  subst he
  exact ⟨_, rfl, _, _, _, [], _, [], hW', trodAll_mk1 (shut_bool Tryd.underlying4 _), (trodAll_cons_mk (Below.trod laidOut (by kernel_rfl) (of_decide_eq_true (by kernel_rfl)) h0 bel lt0) trodAll_mk0), rfl, bel.frame _, fun h => by cases h⟩

theorem FnSillsHigh_row : Rows.FnSillsHighSaid :=
  OpenClaim.holds_of_wide 8 Tryd.f8 rfl rfl rfl rfl rfl rfl rfl ⟨rfl, rfl, rfl, rfl, rfl⟩ rfl rfl rfl rfl rfl (by kernel_rfl) Tryd.func8 (by kernel_rfl)
    (of_decide_eq_true (by kernel_rfl)) (by unfold Func.isWrapper; first | (rw [if_pos (by decide +kernel)]; kernel_rfl) | (rw [if_neg (by decide +kernel)]; exact ⟨rfl, rfl⟩))
    (fun os started H enc _ => FnSillsHigh_lifted os started H enc)
theorem FnSillsHigh_holds : Rows.FnSillsHighCardSaid :=
  Claim7.holds_tied_plain_at .later [] [.data, .data, .data] true (true, "a5a7d22d484212bf2246ed34c495e7e4937a4be0a82855a3527b2b559f36e5e1") false
    FnSillsHigh_row (fun _ h => by cases h) (by kernel_rfl) (fun _ h => by cases h) fnSillsHigh_row_tie rfl ⟨rfl, rfl⟩ (by kernel_rfl) rfl
    (fun f fn hf hfn => by
      obtain rfl : f = 8 := Option.some.inj ((show Tryd.prog.funcNamed "loop.example/cavesurvey/laws.FnSillsHigh" = some 8 by kernel_rfl).symm.trans hf) |>.symm
      obtain rfl : fn = Tryd.f8 := (Option.some.inj (Tryd.func8.symm.trans hfn)).symm
      exact ⟨by kernel_rfl, fun j t ht => by
        rw [Tryd.params8] at ht
        have hm : t ∈ [22] := by simpa using Array.mem_of_getElem? ht
        have hall : ([22].all fun u => !Tryd.prog.wantsStandIn u) = true := by kernel_rfl
        exact (show Tryd.prog.wantsStandIn t = false by simpa using List.all_eq_true.1 hall t hm)⟩)
    (by kernel_rfl)
#print axioms FnSillsHigh_holds
end Go.Proofs.YtahbfifnpceoeaaDoor
