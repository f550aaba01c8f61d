/- FnWaterLeft: no single pump is better than the best one. -/
import Derived.Test.YtahbfifnpceoeaaDoorLawV
import Derived.Deep.RegionHeld3
namespace Go.Proofs.YtahbfifnpceoeaaDoor
open Go.ChangeShapes Go.WideShapes Go.ChangeAt Go.RowKit

set_option maxRecDepth 20000 in
set_option maxHeartbeats 4000000 in
theorem FnWaterLeft_walk (A : Option Addr) (n c0 : Nat) (y : Nat → Int) (w : World) (htab : Pow10 w) (hx : Bytes w A n y) (hn : n ≤ c0) (hy : ∀ j, 0 ≤ y j ∧ y j < 256) :
    Calls Tryd.prog 11 #[.slice A n c0] w (RetV (.bool true) w) := by
  by_cases hbig : (n : Int) > 1048576
  · go_enter Tryd.func11, Tryd.ntmps11
    go_wp2
    go_ret
    exact ⟨rfl, Below.refl _ _⟩
  · go_enter Tryd.func11, Tryd.ntmps11
    go_wp2_with fail
    refine (DrawWaterLeft_any A n c0 y w hx hy hn).mono ?_
    rintro ex w1 ⟨F, G, S, D, c, d, e, L, A2, n2, c2, yy, rfl, hD, hLb, hi, hn2, hyb⟩
    have hs := hD.small
    have hsm := hD.sm
    have H1 := hid (LwC.start (c := c) (d := d) htab hD rfl)
    clear hx hD htab
    have HI1 := hid (hi.alloc (.cells #[.slice F D.n c, .slice G D.q d, .slice S D.m e] 26))
    clear hi
    go_wp2_with fail
    generalize w1.alloc (.cells #[.slice F D.n c, .slice G D.q d, .slice S D.m e] 26) = w2 at H1 HI1 ⊢
    generalize w1.heap.size = X at H1 ⊢

    refine (WaterLeft_implV F G S D c d e L A2 n2 c2 yy _ H1.out.cave hs HI1.out (by omega)).mono ?_
    rintro ex w3 ⟨rfl, hb'⟩
    have H2 := hid (H1.out.then_ hb')
    replace HI1 := hid (HI1.out.below hb')
    clear hb' H1
    have y0 := H2.out.box.cell (i := 0) rfl
    have y1 := H2.out.box.cell (i := 1) rfl
    have y2 := H2.out.box.cell (i := 2) rfl
    go_wp2_with fail
    refine (WaterLeft_specV F G S D c d e L A2 n2 c2 yy _ H2.out.cave hs HI1.out (by omega)).mono ?_
    rintro ex w4 ⟨rfl, hb'⟩
    have H3 := hid (H2.out.then_ hb')
    replace HI1 := hid (HI1.out.below hb')
    clear hb' H2
    have y0 := H3.out.box.cell (i := 0) rfl
    have y1 := H3.out.box.cell (i := 1) rfl
    have y2 := H3.out.box.cell (i := 2) rfl
    have hr0 : (wlV D L n2 yy != wlV D L n2 yy) = false := by simp
    by_cases hok : WlOk D L n2 yy
    · have hv := wlV_yes hok
      obtain ⟨hc, ⟨hL0, hL40⟩, hpo⟩ := hok
      have hn1 := hc.1.1
      have hn6 := hc.1.2
      have hwa : WaOk D L := ⟨hc, hL0, hL40⟩
      have hbd := wlF_bd hc hL0 hL40 yy n2 D.n (Nat.le_refl _)
      obtain ⟨hs0, hs1, hs2, _⟩ := pbF_spec D L D.n (by omega)
      have hbd2 := wlF_bd hc hL0 hL40 (fun _ => pbF D L D.n) 1 D.n (Nat.le_refl _)
      have hb1 : wlV D L 1 (fun _ => pbV D L) = wlF D L (fun _ => pbF D L D.n) 1 D.n := by
        rw [pbV_yes hwa]; exact wlV_yes ⟨hc, ⟨hL0, hL40⟩, fun j hj => ⟨hs0, hs1⟩⟩
      have hone : n2 = 1 → wlF D L (fun _ => pbF D L D.n) 1 D.n ≤ wlF D L yy n2 D.n := fun h1 => by
        subst h1
        have h0 := hpo 0 (by omega)
        have h2 := hs2 (yy 0).toNat (by omega)
        rw [wlF_congr (y := yy) (z := fun _ => (((yy 0).toNat : Nat) : Int)) (k := 1) (fun j hj => by
          obtain rfl : j = 0 := by omega
          show yy 0 = _
          omega) D.n]
        exact h2
      have hnone : wlV D L 0 (fun _ => 0) = waV D L := by
        rw [wlV_yes ⟨hc, ⟨hL0, hL40⟩, fun j hj => absurd hj (by omega)⟩, waV_yes hwa]; exact wlF_none hc _ D.n (Nat.le_refl _)
      have hall : wlV D L D.n (fun j => (j : Int)) = 0 := by
        rw [wlV_yes ⟨hc, ⟨hL0, hL40⟩, fun j hj => ⟨by show (0 : Int) ≤ (j : Int); omega, by show (j : Int) < (D.n : Int); omega⟩⟩]
        exact wlF_all hc hL0 (fun i hi => ⟨i, hi, rfl⟩) D.n (Nat.le_refl _)
      have hle : wlV D L n2 yy ≤ waV D L := by rw [hv, waV_yes hwa]; exact hbd.2.1
      obtain ⟨x, hx⟩ : ∃ x, wlV D L n2 yy = x := ⟨_, rfl⟩
      rw [← hv, hx] at hone hbd
      rw [hx] at hr0 hle ⊢
      have HB1 := hid hb1
      have HONE := hid hone
      have HNONE := hid hnone
      have HALL := hid hall
      have HC := hid hc
      have hx0 := hbd.1
      have hl0 := hbd2.1
      clear hv hb1 hone hnone hall hc hbd hbd2 hx hs2 hpo hwa hs0 hs1
      have hnn : ¬ x < 0 := by omega
      have HO0 : Hid (OwnL (w4.alloc (.cells #[] 3)) w4.heap.size (.slice (some ⟨w4.heap.size, 0, none⟩) 0 0) []) := OwnL.lit0 w4 (Nat.le_refl _) #[] rfl
      have HB0 := hid (below_alloc1 w4 (.cells #[] 3))
      go_wp2
      clear y0 y1 y2
      go_loopw [7, 8] (fun v i wr => ∃ k : Nat, k ≤ D.n ∧ i = .int .i64 k ∧ Hid (Below w4.heap.size w4 wr) ∧ Hid (OwnL wr w4.heap.size v ((List.range k).map fun (j : Nat) => (j : Int)))) (fun _ i _ => D.n - (intOf i).toNat)
      case atStart => exact ⟨0, by omega, rfl, HB0, HO0⟩
      case round =>
        clear HB0 HO0
        obtain ⟨k, hk, rfl, HB, HO⟩ := hrel
        have HX := hid (H3.out.then_ HB.out)
        have y0 := HX.out.box.cell (i := 0) rfl
        have y1 := HX.out.box.cell (i := 1) rfl
        have y2 := HX.out.box.cell (i := 2) rfl
        obtain ⟨A1, c1, hv1, hi1⟩ := HO.out.ints
        subst hv1
        have HI5 := hid hi1
        clear hi1
        by_cases hlt : k < D.n
        · have hltz : (k : Int) < (D.n : Int) := by omega
          have hBw := HB.out.size
          go_wp2_with (at_builtin; refine app_int rfl _ _ rfl w4.heap.size _ _ rfl (HO.out.alloc _) wr.heap.size k rfl (by simp) (by simp; omega) (by simp; omega) ?_)
          intro v' w6 hown' hbel'
          have HB6 := hid (hbel' w4 (HB.out.alloc hBw (.cells #[.int .i64 k] 3)))
          have HO6 : Hid (OwnL w6 w4.heap.size v' ((List.range (k + 1)).map fun (j : Nat) => (j : Int))) := by
            rw [List.range_succ, List.map_append]
            exact hown'
          clear hown' hbel' HB HX HO y0 y1 y2 hBw HI5
          go_wp2
          go_roundw
          case rel => exact ⟨k + 1, by omega, by go_num, HB6, HO6⟩
          case measure => simp [intOf] <;> omega
        · have hke : k = D.n := by omega
          subst hke
          have e1 : ((List.range D.n).map fun (j : Nat) => (j : Int)).length = D.n := by simp
          have hi2 : Ints wr A1 D.n (fun j => (j : Int)) := by
            have h := HI5.out
            rw [e1] at h
            exact h.congr (fun j hj => by simp [List.getD, hj])
          have HI2 := hid hi2
          have HXd := hid (HX.out.then_ (Below.refl _ _).drew)
          rw [e1]
          clear hi2 HI5 HO e1
          go_wp2
          go_region_held3 (fun W => W.cell? ⟨X, 0, none⟩ = some (.slice F D.n c) ∧ W.cell? ⟨X, 1, none⟩ = some (.slice G D.q d) ∧ W.cell? ⟨X, 2, none⟩ = some (.slice S D.m e)) (go_keep) (first
              | (go_at_call 45; (with_reducible refine (PumpBest_implV F G S D c d e L _ HXd.out.cave hs).mono ?_); rintro ex w7 ⟨rfl, hb7⟩; have H7 := hid (HXd.out.then_ hb7); have hb7' := hid ((Below.refl wr.heap.size wr).drew.trans hb7); have c0 := H7.out.box.cell (i := 0) rfl; have c1' := H7.out.box.cell (i := 1) rfl; have c2' := H7.out.box.cell (i := 2) rfl; clear hb7)
              | (go_at_call 43; (with_reducible refine (WaterLeft_implV F G S D c d e L _ 1 1 (fun _ => pbV D L) _ (H7.out.cave.alloc _) hs (Ints.one _ _) (by omega)).mono ?_); rintro ex w8 ⟨rfl, hb8⟩; have H9 := hid ((H7.out.then_ (below_alloc1 _ _)).then_ hb8); have hb8' := hid (Below.then_ (Below.then_ hb7'.out (below_alloc1 _ _)) hb8); have c0 := H9.out.box.cell (i := 0) rfl; have c1' := H9.out.box.cell (i := 1) rfl; have c2' := H9.out.box.cell (i := 2) rfl; clear hb8))
          rw [HB1.out]
          generalize wlF D L (fun _ => pbF D L D.n) 1 D.n = l0 at hl0 HONE ⊢
          have s0 := sub_cell (H9.out.box.cell (i := 0) rfl)
          have s1 := sub_cell (H9.out.box.cell (i := 1) rfl)
          have s2 := sub_cell (H9.out.box.cell (i := 2) rfl)
          have W1 : Hid (∀ s : Sub w8, Calls Tryd.prog 43 #[.agg #[.slice F D.n c, .slice G D.q d, .slice S D.m e], .int .i64 L, .slice A1 D.n c1] s.val (RetV (.int .i64 0) s.val)) := hid (fun s => by
            have := WaterLeft_implV F G S D c d e L A1 D.n c1 (fun j => (j : Int)) s.val ((H9.out.then_ s.h).cave) hs ((HI2.out.below hb8'.out).below s.h) (by omega)
            rwa [HALL.out] at this)
          have W2 : Hid (∀ s : Sub w8, Calls Tryd.prog 43 #[.agg #[.slice F D.n c, .slice G D.q d, .slice S D.m e], .int .i64 L, .slice none 0 0] s.val (RetV (.int .i64 (waV D L)) s.val)) := hid (fun s => by
            have := WaterLeft_implV F G S D c d e L none 0 0 (fun _ => 0) s.val ((H9.out.then_ s.h).cave) hs (fun h => absurd h (by omega)) (by omega)
            rwa [HNONE.out] at this)
          have W3 : Hid (∀ s : Sub w8, Calls Tryd.prog 32 #[.agg #[.slice F D.n c, .slice G D.q d, .slice S D.m e], .int .i64 L] s.val (RetV (.int .i64 (waV D L)) s.val)) := hid (fun s => WaterAt_implV F G S D c d e L s.val ((H9.out.then_ s.h).cave) hs)
          have f1 : (waV D L == waV D L) = true := by simp
          have f2 : decide (x ≤ waV D L) = true := decide_eq_true hle
          generalize waV D L = z at f1 f2 W2 W3
          clear y0 y1 y2 hle
          by_cases hn1' : n2 = 1
          · have g1 : ((n2 : Int) != 1) = false := by simp [hn1']
            have g2 : decide (0 ≤ l0) = true := decide_eq_true hl0
            have g3 : decide (l0 ≤ x) = true := decide_eq_true (HONE.out hn1')
            clear hn1'
            go_wp2
            refine wp_region_sub (by kernel_rfl) (by kernel_rfl) ?_
            repeat (go_big_quiet_step ((first | (go_at_call 43; (with_reducible exact RetV.sub (W1.out _))) | (go_at_call 43; (with_reducible exact RetV.sub (W2.out _))) | (go_at_call 32; (with_reducible exact RetV.sub (W3.out _))))))
            refine wpQuiet_nil ?_
            intro _ hw'
            obtain ⟨s, hw''⟩ := hw'
            subst hw''
            go_wp2
            go_ret
            exact ⟨rfl, Below.then_ H9.out.bel s.h⟩
          · have g1 : ((n2 : Int) != 1) = true := by simp; omega
            clear hn1'
            go_wp2
            refine wp_region_sub (by kernel_rfl) (by kernel_rfl) ?_
            repeat (go_big_quiet_step ((first | (go_at_call 43; (with_reducible exact RetV.sub (W1.out _))) | (go_at_call 43; (with_reducible exact RetV.sub (W2.out _))) | (go_at_call 32; (with_reducible exact RetV.sub (W3.out _))))))
            refine wpQuiet_nil ?_
            intro _ hw'
            obtain ⟨s, hw''⟩ := hw'
            subst hw''
            go_wp2
            go_ret
            exact ⟨rfl, Below.then_ H9.out.bel s.h⟩
    · have hr1 : wlV D L n2 yy = -1 := wlV_no hok
      go_wp2_with fail
      refine (alive_any _ H3.out.tab).mono ?_
      rintro ex w6 ⟨rfl, hb6⟩
      go_wp2
      go_ret
      exact ⟨rfl, (H3.out.then_ hb6).bel⟩

set_option maxRecDepth 100000 in
theorem FnWaterLeft_lifted (os : Os) (started : os.Started) (H : Type) (enc : TypeId × Value → H) :
    ReturnsInHanded {} Tryd.checked os 11 .any (fun w args => (Rows.fnWaterLeftSpec.pre enc Tryd.prog Tryd.f11 [] false w args ∧ laidMetH Tryd.prog Rows.fnWaterLeftRow.laid w) ∧ sizedMet enc Tryd.prog Tryd.f11 (OpenSpec.ofChange Rows.fnWaterLeftSpec) false w args)
      (Rows.fnWaterLeftSpec.post enc Tryd.prog Tryd.f11 false true false false) := by
  refine returnsInHanded_of_change_and (C := Tryd.checked) (X := fun w _ => laidMetH Tryd.prog Rows.fnWaterLeftRow.laid w) (fun _ _ _ hh h => h.of_heap hh) own started (by kernel_rfl) Tryd.func11
    (ChangeSpec.witness_shaped (enc := enc) (C := Tryd.checked) (os := os) (X := fun w _ => laidMetH Tryd.prog Rows.fnWaterLeftRow.laid w) false (World.doorLaid Tryd.prog 24 os) #[.slice none 0 0] 8 rfl (World.shaped_of_RefB (by kernel_rfl) (by kernel_rfl)) (by kernel_rfl) (by kernel_rfl) (by kernel_rfl)
      (laidMetH_of_parts3 (fuel := 8) (laidMet_of_run' 8 (by kernel_rfl) (by kernel_rfl)) (by kernel_rfl) (by kernel_rfl))) ?_
  intro W base args ds gs before hval0 hW _ _ hL _
  have hval : ∀ (j : Nat) t v, Tryd.f11.params[j]? = some t → args[j]? = some v → Value.okWide Tryd.prog W .any base t v := hval0
  have hW' := hW
  obtain ⟨p, q, hA0, hV, rfl, hfz, hnd⟩ := hW
  have hA : DataW.TrodAll enc Tryd.prog W 0 (fun _ => true) true Tryd.f11.params.toList args.toList ds p := hA0
  rw [Tryd.params11] at hA hval
  obtain ⟨v0, vs0, d0, ds0, p0, q0, hargs, rfl, rfl, h0, r0⟩ := trodAll_cons hA
  obtain ⟨rfl, rfl, rfl⟩ := trodAll_nil r0
  obtain rfl : args = #[v0] := by cases args; simp_all
  obtain ⟨rfl, rfl⟩ := trodVars_none hV
  have k0 := h0
  obtain ⟨m0, hm0⟩ := k0
  have lt0 : ∀ x ∈ p0, x.block < W.heap.size := DataW.trod_lt m0 _ _ _ hm0
  obtain ⟨a0, len0, cap0, rfl⟩ := okWide_slice Tryd.underlying22 (hval 0 22 v0 rfl rfl)
  obtain ⟨A0, n0, c0, y0, hv0, hp0, hn0, hl0⟩ := open_Bytes (v := .slice a0 len0 cap0) Tryd.underlying22 Tryd.underlying5 (by kernel_rfl) hm0
  simp only [Value.slice.injEq] at hv0
  obtain ⟨rfl, rfl, rfl⟩ := hv0
  clear hA0 hval0
  have htab := tab_of_laid hL
  refine (FnWaterLeft_walk _ _ _ y0 W htab hp0 hn0 hl0).mono fun e W' ⟨he, bel⟩ => ?_
  subst he
  exact ⟨_, rfl, _, _, _, [], _, [], hW', trodAll_mk1 (shut_bool Tryd.underlying4 _), (trodAll_cons_mk (Below.trod laidOut (by kernel_rfl) (of_decide_eq_true (by kernel_rfl)) h0 bel lt0) trodAll_mk0), rfl, bel.frame _, fun h => by cases h⟩

theorem FnWaterLeft_row : Rows.FnWaterLeftSaid :=
  OpenClaim.holds_of_wide 11 Tryd.f11 rfl rfl rfl rfl rfl rfl rfl ⟨rfl, rfl, rfl, rfl, rfl⟩ rfl rfl rfl rfl rfl (by kernel_rfl) Tryd.func11 (by kernel_rfl)
    (of_decide_eq_true (by kernel_rfl)) (by unfold Func.isWrapper; first | (rw [if_pos (by decide +kernel)]; kernel_rfl) | (rw [if_neg (by decide +kernel)]; exact ⟨rfl, rfl⟩))
    (fun os started H enc _ => FnWaterLeft_lifted os started H enc)
theorem FnWaterLeft_holds : Rows.FnWaterLeftCardSaid :=
  Claim7.holds_tied_plain_at .later [] [.data, .data, .data] true (true, "a5a7d22d484212bf2246ed34c495e7e4937a4be0a82855a3527b2b559f36e5e1") false
    FnWaterLeft_row (fun _ h => by cases h) (by kernel_rfl) (fun _ h => by cases h) fnWaterLeft_row_tie rfl ⟨rfl, rfl⟩ (by kernel_rfl) rfl
    (fun f fn hf hfn => by
      obtain rfl : f = 11 := Option.some.inj ((show Tryd.prog.funcNamed "loop.example/cavesurvey/laws.FnWaterLeft" = some 11 by kernel_rfl).symm.trans hf) |>.symm
      obtain rfl : fn = Tryd.f11 := (Option.some.inj (Tryd.func11.symm.trans hfn)).symm
      exact ⟨by kernel_rfl, fun j t ht => by
        rw [Tryd.params11] at ht
        have hm : t ∈ [22] := by simpa using Array.mem_of_getElem? ht
        have hall : ([22].all fun u => !Tryd.prog.wantsStandIn u) = true := by kernel_rfl
        exact (show Tryd.prog.wantsStandIn t = false by simpa using List.all_eq_true.1 hall t hm)⟩)
    (by kernel_rfl)
#print axioms FnWaterLeft_holds
end Go.Proofs.YtahbfifnpceoeaaDoor
