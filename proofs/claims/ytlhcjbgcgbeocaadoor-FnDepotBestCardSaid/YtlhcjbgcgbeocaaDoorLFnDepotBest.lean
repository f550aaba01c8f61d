/- FnDepotBest: no other depot helps more. -/
import Derived.Test.YtlhcjbgcgbeocaaDoorStock
namespace Go.Proofs.YtlhcjbgcgbeocaaDoor
open Go.ChangeShapes Go.WideShapes Go.ChangeAt Go.RowKit

theorem depF_in (D : SrchD) (br f t : Int) : depF D br f t = (-1, -1) ∨ ∃ j, depF D br f t = (((j : Nat) : Int), rtF (dpt D j) br f t) ∧ j < D.k ∧ SrchOk D ∧ 0 ≤ rtF (dpt D j) br f t ∧
    ∀ i, i < D.k → D.dep i = false → 0 ≤ rtF (dpt D i) br f t → rtF (dpt D j) br f t ≤ rtF (dpt D i) br f t ∧ (i < j → rtF (dpt D j) br f t < rtF (dpt D i) br f t) := by
  unfold depF
  by_cases h : RtOk D br f f
  · rw [if_pos h]
    rcases depK_in D.dep (fun k => rtF (dpt D k) br f t) D.k with ⟨h1, _⟩ | ⟨j, h1, h2, _, h4, h5⟩
    · exact .inl h1
    · exact .inr ⟨j, h1, h2, h.1, h4, h5⟩
  · rw [if_neg h]
    exact .inl rfl

set_option maxRecDepth 20000 in
theorem FnDepotBest_walk (A : Option Addr) (n c0 : Nat) (y : Nat → Int) (w : World) (htab : Pow10 w) (hx : Bytes w A n y) (hn : n ≤ c0) (hy : ∀ j, 0 ≤ y j ∧ y j < 256) :
    Calls Tryd.prog 11 #[.slice A n c0] w (RetV (.bool true) w) := by
  by_cases hbig : (n : Int) > 1048576
  · go_enter Tryd.func11, Tryd.ntmps11
    go_wp2
    go_ret
    exact ⟨rfl, Below.refl _ _⟩
  · go_enter Tryd.func11, Tryd.ntmps11
    go_wp2_with fail
    refine (DrawDepotBest_any A n c0 y w hx hy hn).mono ?_
    rintro e w1 ⟨P, Q, D, c, d, br, f, t, rfl, hD, hbr, hf, ht⟩
    have hs := hD.small
    have hm := hD.sm
    have H1 := hid (LwI.start (d := d) htab hD rfl)
    clear hx hD htab
    go_wp2_with fail
    generalize w1.alloc (.cells #[.int .i64 D.s, .slice P D.m c, .slice Q D.k d] 26) = w2 at H1 ⊢
    generalize w1.heap.size = X at H1 ⊢
    refine (DepotBest_impl P Q D c d br f t _ H1.out.srch hs).mono ?_
    rintro e w3 ⟨rfl, hb3⟩
    have H3 := hid (H1.out.then_ hb3)
    clear hb3 H1
    have y0 := H3.out.box.cell (i := 0) rfl
    have y1 := H3.out.box.cell (i := 1) rfl
    have y2 := H3.out.box.cell (i := 2) rfl
    go_wp2_with fail
    refine (DepotBest_spec P Q D c d br f t _ H3.out.srch hs).mono ?_
    rintro e w4 ⟨rfl, hb4⟩
    have H4 := hid (H3.out.then_ hb4)
    clear hb4 H3 y0 y1 y2
    have hr0 : ((depF D br f t).1 != (depF D br f t).1) = false := by simp
    have hr1 : ((depF D br f t).2 != (depF D br f t).2) = false := by simp
    rcases depF_in D br f t with hne | ⟨j, hne, hj, hok, hj0, hall⟩
    · rw [hne] at hr0 hr1 ⊢
      go_wp2_with fail
      refine (alive_any _ H4.out.tab).mono ?_
      rintro e w5 ⟨rfl, hb5⟩
      go_wp2
      go_ret
      exact ⟨rfl, (H4.out.then_ hb5).bel⟩
    · rw [hne] at hr0 hr1 ⊢
      have HALL := hid hall
      have HDEP := hid (fun (h : 0 ≤ rtF D br f t) => rtF_depot (D := D) j h)
      have hk7 : D.k ≤ 1048576 := by omega
      have HSK := hid hok.2.2.1
      clear hne hall hok
      go_wp2
      go_loopw [11] (fun i wr => ∃ k : Nat, k ≤ D.k ∧ i = .int .i64 k ∧ Hid (LwI w X P Q D c d wr)) (fun i _ => D.k - (intOf i).toNat)
      case atStart => exact ⟨0, by omega, rfl, H4⟩
      case round =>
        clear H4
        obtain ⟨k, hk, rfl, HX⟩ := hrel
        have y0 := HX.out.box.cell (i := 0) rfl
        have y1 := HX.out.box.cell (i := 1) rfl
        have y2 := HX.out.box.cell (i := 2) rfl
        by_cases hlt : k < D.k
        · have hltz : (k : Int) < D.s := by have := HSK.out; omega
          have hltk : (k : Int) < (D.k : Int) := by omega
          go_wp2_with fail
          refine (stocked_any P Q D c d k _ HX.out.srch hk7 hlt).mono ?_
          rintro e w5 ⟨Q5, d5, rfl, hD5, hb5⟩
          have H5 := hid (HX.out.then_ hb5)
          clear hb5 y0 y1 y2
          go_wp2_with fail
          refine (RescueTime_implV P Q5 (dpt D k) c d5 br f t _ hD5 hs).mono ?_
          rintro e w6 ⟨rfl, hb6⟩
          have H6 := hid (H5.out.then_ hb6)
          clear hb6 H5 HX hD5
          obtain ⟨bq, oq, hQ, hqc⟩ := H6.out.srch.dep (by omega)
          have q1 : w6.cell? ⟨bq, oq + k, none⟩ = some (.bool (D.dep k)) := hqc k hlt
          subst hQ
          have y2 := H6.out.box.cell (i := 2) rfl
          clear hqc
          rcases Bool.eq_false_or_eq_true (D.dep k) with hd | hd
          · rw [hd] at q1
            go_wp2
            go_roundw
            case rel => exact ⟨k + 1, by omega, by go_num, H6⟩
            case measure => simp [intOf]; omega
          · rw [hd] at q1
            by_cases h0 : 0 ≤ rtF (dpt D k) br f t
            · obtain ⟨hq1, hq2⟩ := HALL.out k hlt hd h0
              have hq1' : ¬ rtF (dpt D k) br f t < rtF (dpt D j) br f t := by omega
              by_cases hkj : k < j
              · have hq3 := hq2 hkj
                have hkjz : (k : Int) < (j : Int) := by omega
                have hq4 : (rtF (dpt D k) br f t == rtF (dpt D j) br f t) = false := by simp; omega
                clear hq1 hq2 hq3
                go_wp2
                go_roundw
                case rel => exact ⟨k + 1, by omega, by go_num, H6⟩
                case measure => simp [intOf]; omega
              · have hkjz : ¬ ((k : Int) < (j : Int)) := by omega
                clear hq1 hq2
                go_wp2
                go_roundw
                case rel => exact ⟨k + 1, by omega, by go_num, H6⟩
                case measure => simp [intOf]; omega
            · skip
              go_wp2
              go_roundw
              case rel => exact ⟨k + 1, by omega, by go_num, H6⟩
              case measure => simp [intOf]; omega
        · have hnlt : ¬ ((k : Int) < D.s) := by have := HSK.out; omega
          go_wp2_with fail
          refine (RescueTime_implV P Q D c d br f t _ HX.out.srch hs).mono ?_
          rintro e w5 ⟨rfl, hb5⟩
          have H5 := hid (HX.out.then_ hb5)
          clear hb5 HX y0 y1 y2
          have y0 := H5.out.box.cell (i := 0) rfl
          have y1 := H5.out.box.cell (i := 1) rfl
          have y2 := H5.out.box.cell (i := 2) rfl
          go_wp2_with fail
          refine (stocked_any P Q D c d j _ H5.out.srch hk7 hj).mono ?_
          rintro e w6 ⟨Q5, d5, rfl, hD5, hb6⟩
          have H6 := hid (H5.out.then_ hb6)
          clear hb6 y0 y1 y2 H5
          go_wp2_with fail
          refine (RescueTime_implV P Q5 (dpt D j) c d5 br f t _ hD5 hs).mono ?_
          rintro e w7 ⟨rfl, hb7⟩
          have H7 := hid (H6.out.then_ hb7)
          have he : (rtF (dpt D j) br f t == rtF (dpt D j) br f t) = true := by simp
          clear hb7 hD5 H6
          by_cases h0 : 0 ≤ rtF D br f t
          · have hq := (HDEP.out h0).2
            have h0' : ¬ rtF D br f t < 0 := by omega
            go_wp2
            go_ret
            exact ⟨rfl, H7.out.bel⟩
          · have h0' : rtF D br f t < 0 := by omega
            go_wp2
            go_ret
            exact ⟨rfl, H7.out.bel⟩

set_option maxRecDepth 100000 in
theorem FnDepotBest_lifted (os : Os) (started : os.Started) (H : Type) (enc : TypeId × Value → H) :
    ReturnsInHanded {} Tryd.checked os 11 .any (fun w args => (Rows.fnDepotBestSpec.pre enc Tryd.prog Tryd.f11 [] false w args ∧ laidMetH Tryd.prog Rows.fnDepotBestRow.laid w) ∧ sizedMet enc Tryd.prog Tryd.f11 (OpenSpec.ofChange Rows.fnDepotBestSpec) false w args)
      (Rows.fnDepotBestSpec.post enc Tryd.prog Tryd.f11 false true false false) := by
  refine returnsInHanded_of_change_and (C := Tryd.checked) (X := fun w _ => laidMetH Tryd.prog Rows.fnDepotBestRow.laid w) (fun _ _ _ hh h => h.of_heap hh) own started (by kernel_rfl) Tryd.func11
    (ChangeSpec.witness_shaped (enc := enc) (C := Tryd.checked) (os := os) (X := fun w _ => laidMetH Tryd.prog Rows.fnDepotBestRow.laid w) false (World.doorLaid Tryd.prog 24 os) #[.slice none 0 0] 8 rfl (World.shaped_of_RefB (by kernel_rfl) (by kernel_rfl)) (by kernel_rfl) (by kernel_rfl) (by kernel_rfl)
      (laidMetH_of_parts3 (fuel := 8) (laidMet_of_run' 8 (by kernel_rfl) (by kernel_rfl)) (by kernel_rfl) (by kernel_rfl))) ?_
  intro W base args ds gs before hval0 hW _ _ hL _
  have hval : ∀ (j : Nat) t v, Tryd.f11.params[j]? = some t → args[j]? = some v → Value.okWide Tryd.prog W .any base t v := hval0
  have hW' := hW
  obtain ⟨p, q, hA0, hV, rfl, hfz, hnd⟩ := hW
  have hA : DataW.TrodAll enc Tryd.prog W 0 (fun _ => true) true Tryd.f11.params.toList args.toList ds p := hA0
  rw [Tryd.params11] at hA hval
  obtain ⟨v0, vs0, d0, ds0, p0, q0, hargs, rfl, rfl, h0, r0⟩ := trodAll_cons hA
  obtain ⟨rfl, rfl, rfl⟩ := trodAll_nil r0
  obtain rfl : args = #[v0] := by cases args; simp_all
  obtain ⟨rfl, rfl⟩ := trodVars_none hV
  have k0 := h0
  obtain ⟨m0, hm0⟩ := k0
  have lt0 : ∀ x ∈ p0, x.block < W.heap.size := DataW.trod_lt m0 _ _ _ hm0
  obtain ⟨a0, len0, cap0, rfl⟩ := okWide_slice Tryd.underlying22 (hval 0 22 v0 rfl rfl)
  obtain ⟨A0, n0, c0, y0, hv0, hp0, hn0, hl0⟩ := open_Bytes (v := .slice a0 len0 cap0) Tryd.underlying22 Tryd.underlying5 (by kernel_rfl) hm0
  simp only [Value.slice.injEq] at hv0
  obtain ⟨rfl, rfl, rfl⟩ := hv0
  clear hA0 hval0
  have htab := tab_of_laid hL
  refine (FnDepotBest_walk _ _ _ y0 W htab hp0 hn0 hl0).mono fun e W' ⟨he, bel⟩ => ?_
  subst he
  exact ⟨_, rfl, _, _, _, [], _, [], hW', trodAll_mk1 (shut_bool Tryd.underlying4 _), (trodAll_cons_mk (Below.trod laidOut (by kernel_rfl) (of_decide_eq_true (by kernel_rfl)) h0 bel lt0) trodAll_mk0), rfl, bel.frame _, fun h => by cases h⟩

theorem FnDepotBest_row : Rows.FnDepotBestSaid :=
  OpenClaim.holds_of_wide 11 Tryd.f11 rfl rfl rfl rfl rfl rfl rfl ⟨rfl, rfl, rfl, rfl, rfl⟩ rfl rfl rfl rfl rfl (by kernel_rfl) Tryd.func11 (by kernel_rfl)
    (of_decide_eq_true (by kernel_rfl)) (by unfold Func.isWrapper; first | (rw [if_pos (by decide +kernel)]; kernel_rfl) | (rw [if_neg (by decide +kernel)]; exact ⟨rfl, rfl⟩))
    (fun os started H enc _ => FnDepotBest_lifted os started H enc)
theorem FnDepotBest_holds : Rows.FnDepotBestCardSaid :=
  Claim7.holds_tied_plain_at .later [] [.data, .data, .data] true (true, "9a40d749f94adb9d5418125119b5fe0381ba681992067a3458f9e82ceadcb754") false
    FnDepotBest_row (fun _ h => by cases h) (by kernel_rfl) (fun _ h => by cases h) fnDepotBest_row_tie rfl ⟨rfl, rfl⟩ (by kernel_rfl) rfl
    (fun f fn hf hfn => by
      obtain rfl : f = 11 := Option.some.inj ((show Tryd.prog.funcNamed "loop.example/cavesurvey/laws.FnDepotBest" = some 11 by kernel_rfl).symm.trans hf) |>.symm
      obtain rfl : fn = Tryd.f11 := (Option.some.inj (Tryd.func11.symm.trans hfn)).symm
      exact ⟨by kernel_rfl, fun j t ht => by
        rw [Tryd.params11] at ht
        have hm : t ∈ [22] := by simpa using Array.mem_of_getElem? ht
        have hall : ([22].all fun u => !Tryd.prog.wantsStandIn u) = true := by kernel_rfl
        exact (show Tryd.prog.wantsStandIn t = false by simpa using List.all_eq_true.1 hall t hm)⟩)
    (by kernel_rfl)
#print axioms FnDepotBest_holds
end Go.Proofs.YtlhcjbgcgbeocaaDoor
