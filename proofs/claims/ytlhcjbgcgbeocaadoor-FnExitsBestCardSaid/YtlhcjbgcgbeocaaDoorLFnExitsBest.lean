/- FnExitsBest: no two exits are better. -/
import Derived.Test.YtlhcjbgcgbeocaaDoorLaw
import Derived.Test.YtlhcjbgcgbeocaaDoorBestL
namespace Go.Proofs.YtlhcjbgcgbeocaaDoor
open Go.ChangeShapes Go.WideShapes Go.ChangeAt Go.RowKit

set_option maxRecDepth 20000 in
set_option maxHeartbeats 1600000 in
theorem FnExitsBest_walk (A : Option Addr) (n c0 : Nat) (y : Nat → Int) (A' : Option Addr) (n' c0' : Nat) (y' : Nat → Int) (w : World) (htab : Pow10 w) (hx : Bytes w A n y) (hn : n ≤ c0) (hy : ∀ j, 0 ≤ y j ∧ y j < 256) (hx' : Bytes w A' n' y') (hn' : n' ≤ c0') (hy' : ∀ j, 0 ≤ y' j ∧ y' j < 256) :
    Calls Tryd.prog 10 #[.slice A n c0, .slice A' n' c0'] w (RetV (.bool true) w) := by
  by_cases hbig : (n : Int) > 1048576
  · go_enter Tryd.func10, Tryd.ntmps10
    go_wp2
    go_ret
    exact ⟨rfl, Below.refl _ _⟩
  · by_cases hbig' : (n' : Int) > 1048576
    · go_enter Tryd.func10, Tryd.ntmps10
      go_wp2
      go_ret
      exact ⟨rfl, Below.refl _ _⟩
    · go_enter Tryd.func10, Tryd.ntmps10
      go_wp2_with fail
      refine (DrawExitsBest_any A n c0 y w hx hy hn).mono ?_
      rintro e w1 ⟨P, Q, D, c, d, rfl, hD⟩
      have hs := hD.small
      have H1 := hid (LwI.start (d := d) htab hD rfl)
      have HX' := hid hx'
      clear hx hD htab hx'
      go_wp2_with fail
      generalize w1.alloc (.cells #[.int .i64 D.s, .slice P D.m c, .slice Q D.k d] 26) = w2 at H1 ⊢
      generalize w1.heap.size = X at H1 ⊢
      refine (ExitsBest_impl P Q D c d _ H1.out.srch hs).mono ?_
      rintro e w3 ⟨rfl, hb3⟩
      have H3 := hid (H1.out.then_ hb3)
      clear hb3 H1
      have y0 := H3.out.box.cell (i := 0) rfl
      have y1 := H3.out.box.cell (i := 1) rfl
      have y2 := H3.out.box.cell (i := 2) rfl
      go_wp2_with fail
      refine (ExitsBest_spec P Q D c d _ H3.out.srch hs).mono ?_
      rintro e w4 ⟨rfl, hb4⟩
      have H4 := hid (H3.out.then_ hb4)
      clear hb4 H3 y0 y1 y2
      have hr0 : ((bestF D).1 != (bestF D).1) = false := by simp
      have hr1 : ((bestF D).2 != (bestF D).2) = false := by simp
      go_wp2_with fail
      refine (DrawLastOut_any A' n' c0' y' w4 (HX'.out.below H4.out.bel) hy' hn').mono ?_
      rintro e w5 ⟨P', Q', D', c', d', A2, n2, c2, x, rfl, hD', hi, hn2, hxb⟩
      have hs' := hD'.small
      have H5 := hid (H4.out.then_ hD'.bel)
      have HK5 := hid (LwI.start (d := d') H4.out.tab hD' rfl)
      have HI5 := hid hi
      clear H4 hD' hi hxb HX'
      go_wp2_with fail
      have HI6 := hid (HI5.out.alloc (.cells #[.int .i64 D'.s, .slice P' D'.m c', .slice Q' D'.k d'] 26))
      have H6 := hid (H5.out.then_ (Joins.below_alloc1 w5 (.cells #[.int .i64 D'.s, .slice P' D'.m c', .slice Q' D'.k d'] 26)))
      clear HI5 H5
      generalize w5.alloc (.cells #[.int .i64 D'.s, .slice P' D'.m c', .slice Q' D'.k d'] 26) = w6 at H6 HI6 HK5 ⊢
      generalize w5.heap.size = X' at HK5 ⊢
      refine (LastOut_impl P' Q' D' c' d' A2 n2 c2 x _ HK5.out.srch hs' HI6.out (by omega)).mono ?_
      rintro e w7 ⟨rfl, hb7⟩
      have H7 := hid (H6.out.then_ hb7)
      have HK7 := hid (HK5.out.then_ hb7)
      clear hb7 H6 HK5 HI6
      have y0 := HK7.out.box.cell (i := 0) rfl
      have y1 := HK7.out.box.cell (i := 1) rfl
      have y2 := HK7.out.box.cell (i := 2) rfl
      go_wp2_with fail
      refine (ExitsBest_impl P' Q' D' c' d' _ HK7.out.srch hs').mono ?_
      rintro e w8 ⟨rfl, hb8⟩
      have H8 := hid (H7.out.then_ hb8)
      have HK8 := hid (HK7.out.then_ hb8)
      clear hb8 H7 HK7 y0 y1 y2
      by_cases ht : 0 ≤ lastF D' x n2
      · by_cases hnn : n2 ≤ 2
        · obtain ⟨hb1, hb2⟩ := bestF_best hnn ht
          have hb1' : ¬ (bestF D').1 < 0 := by omega
          have hnz : (n2 : Int) ≤ 2 := by omega
          have y0 := HK8.out.box.cell (i := 0) rfl
          have y1 := HK8.out.box.cell (i := 1) rfl
          have y2 := HK8.out.box.cell (i := 2) rfl
          go_wp2_with fail
          refine (LastOut_impl P' Q' D' c' d' _ 2 2 (two (bestF D').1 (bestF D').2) _ (HK8.out.srch.alloc _) hs' (two_ints _ _ _ _) (by omega)).mono ?_
          rintro e w9 ⟨rfl, hb9⟩
          have HM := hid (Below.then_ (Joins.below_alloc1 _ _) hb9)
          have H9 := hid (H8.out.then_ HM.out)
          have hle : ¬ lastF D' x n2 < lastF D' (two (bestF D').1 (bestF D').2) 2 := by have := hb2; unfold lo2 at this; omega
          clear hb9 HM H8 HK8 hb2 y0 y1 y2
          rcases bestF_in D with hE | ⟨hp1, hp2, hp3⟩
          · rw [hE]
            go_wp2_with fail
            refine (alive_any _ H9.out.tab).mono ?_
            rintro e wa ⟨rfl, hba⟩
            go_wp2
            go_ret
            exact ⟨rfl, (H9.out.then_ hba).bel⟩
          · have hp1' : ¬ (bestF D).1 < 0 := by omega
            have z0 := H9.out.box.cell (i := 0) rfl
            have z1 := H9.out.box.cell (i := 1) rfl
            have z2 := H9.out.box.cell (i := 2) rfl
            go_wp2_with fail
            refine (LastOut_impl P Q D c d _ 2 2 (two (bestF D).1 (bestF D).2) _ (H9.out.srch.alloc _) hs (two_ints _ _ _ _) (by omega)).mono ?_
            rintro e wb ⟨rfl, hbb⟩
            have HM := hid (Below.then_ (Joins.below_alloc1 _ _) hbb)
            have HL := hid (H9.out.then_ HM.out)
            have z0 := HL.out.box.cell (i := 0) rfl
            have hl2 : 0 ≤ lastF D (two (bestF D).1 (bestF D).2) 2 := hp2
            clear hbb HM
            by_cases hlt : (bestF D).1 < (bestF D).2
            · go_wp2
              go_ret
              exact ⟨rfl, HL.out.bel⟩
            · have hs1 : D.s = 1 := hp3.resolve_left hlt
              have hs1z : (D.s == 1) = true := by simp [hs1]
              go_wp2
              go_ret
              exact ⟨by first | rfl | (simp [hs1]), HL.out.bel⟩
        · have hnz : ¬ ((n2 : Int) ≤ 2) := by omega
          rcases bestF_in D with hE | ⟨hp1, hp2, hp3⟩
          · rw [hE]
            go_wp2_with fail
            refine (alive_any _ H8.out.tab).mono ?_
            rintro e wa ⟨rfl, hba⟩
            go_wp2
            go_ret
            exact ⟨rfl, (H8.out.then_ hba).bel⟩
          · have hp1' : ¬ (bestF D).1 < 0 := by omega
            have z0 := H8.out.box.cell (i := 0) rfl
            have z1 := H8.out.box.cell (i := 1) rfl
            have z2 := H8.out.box.cell (i := 2) rfl
            go_wp2_with fail
            refine (LastOut_impl P Q D c d _ 2 2 (two (bestF D).1 (bestF D).2) _ (H8.out.srch.alloc _) hs (two_ints _ _ _ _) (by omega)).mono ?_
            rintro e wb ⟨rfl, hbb⟩
            have HM := hid (Below.then_ (Joins.below_alloc1 _ _) hbb)
            have HL := hid (H8.out.then_ HM.out)
            have z0 := HL.out.box.cell (i := 0) rfl
            have hl2 : 0 ≤ lastF D (two (bestF D).1 (bestF D).2) 2 := hp2
            clear hbb HM
            by_cases hlt : (bestF D).1 < (bestF D).2
            · go_wp2
              go_ret
              exact ⟨rfl, HL.out.bel⟩
            · have hs1 : D.s = 1 := hp3.resolve_left hlt
              have hs1z : (D.s == 1) = true := by simp [hs1]
              go_wp2
              go_ret
              exact ⟨by first | rfl | (simp [hs1]), HL.out.bel⟩
      · skip
        rcases bestF_in D with hE | ⟨hp1, hp2, hp3⟩
        · rw [hE]
          go_wp2_with fail
          refine (alive_any _ H8.out.tab).mono ?_
          rintro e wa ⟨rfl, hba⟩
          go_wp2
          go_ret
          exact ⟨rfl, (H8.out.then_ hba).bel⟩
        · have hp1' : ¬ (bestF D).1 < 0 := by omega
          have z0 := H8.out.box.cell (i := 0) rfl
          have z1 := H8.out.box.cell (i := 1) rfl
          have z2 := H8.out.box.cell (i := 2) rfl
          go_wp2_with fail
          refine (LastOut_impl P Q D c d _ 2 2 (two (bestF D).1 (bestF D).2) _ (H8.out.srch.alloc _) hs (two_ints _ _ _ _) (by omega)).mono ?_
          rintro e wb ⟨rfl, hbb⟩
          have HM := hid (Below.then_ (Joins.below_alloc1 _ _) hbb)
          have HL := hid (H8.out.then_ HM.out)
          have z0 := HL.out.box.cell (i := 0) rfl
          have hl2 : 0 ≤ lastF D (two (bestF D).1 (bestF D).2) 2 := hp2
          clear hbb HM
          by_cases hlt : (bestF D).1 < (bestF D).2
          · go_wp2
            go_ret
            exact ⟨rfl, HL.out.bel⟩
          · have hs1 : D.s = 1 := hp3.resolve_left hlt
            have hs1z : (D.s == 1) = true := by simp [hs1]
            go_wp2
            go_ret
            exact ⟨by first | rfl | (simp [hs1]), HL.out.bel⟩

set_option maxRecDepth 100000 in
theorem FnExitsBest_lifted (os : Os) (started : os.Started) (H : Type) (enc : TypeId × Value → H) :
    ReturnsInHanded {} Tryd.checked os 10 .any (fun w args => (Rows.fnExitsBestSpec.pre enc Tryd.prog Tryd.f10 [] false w args ∧ laidMetH Tryd.prog Rows.fnExitsBestRow.laid w) ∧ sizedMet enc Tryd.prog Tryd.f10 (OpenSpec.ofChange Rows.fnExitsBestSpec) false w args)
      (Rows.fnExitsBestSpec.post enc Tryd.prog Tryd.f10 false true false false) := by
  refine returnsInHanded_of_change_and (C := Tryd.checked) (X := fun w _ => laidMetH Tryd.prog Rows.fnExitsBestRow.laid w) (fun _ _ _ hh h => h.of_heap hh) own started (by kernel_rfl) Tryd.func10
    (ChangeSpec.witness_shaped (enc := enc) (C := Tryd.checked) (os := os) (X := fun w _ => laidMetH Tryd.prog Rows.fnExitsBestRow.laid w) false (World.doorLaid Tryd.prog 24 os) #[.slice none 0 0, .slice none 0 0] 8 rfl (World.shaped_of_RefB (by kernel_rfl) (by kernel_rfl)) (by kernel_rfl) (by kernel_rfl) (by kernel_rfl)
      (laidMetH_of_parts3 (fuel := 8) (laidMet_of_run' 8 (by kernel_rfl) (by kernel_rfl)) (by kernel_rfl) (by kernel_rfl))) ?_
  intro W base args ds gs before hval0 hW _ _ hL _
  have hval : ∀ (j : Nat) t v, Tryd.f10.params[j]? = some t → args[j]? = some v → Value.okWide Tryd.prog W .any base t v := hval0
  have hW' := hW
  obtain ⟨p, q, hA0, hV, rfl, hfz, hnd⟩ := hW
  have hA : DataW.TrodAll enc Tryd.prog W 0 (fun _ => true) true Tryd.f10.params.toList args.toList ds p := hA0
  rw [Tryd.params10] at hA hval
  obtain ⟨v0, vs0, d0, ds0, p0, q0, hargs, rfl, rfl, h0, r0⟩ := trodAll_cons hA
  obtain ⟨v1, vs1, d1, ds1, p1, q1, rfl, rfl, rfl, h1, r1⟩ := trodAll_cons r0
  obtain ⟨rfl, rfl, rfl⟩ := trodAll_nil r1
  obtain rfl : args = #[v0, v1] := by cases args; simp_all
  obtain ⟨rfl, rfl⟩ := trodVars_none hV
  have k0 := h0
  obtain ⟨m0, hm0⟩ := k0
  have lt0 : ∀ x ∈ p0, x.block < W.heap.size := DataW.trod_lt m0 _ _ _ hm0
  have k1 := h1
  obtain ⟨m1, hm1⟩ := k1
  have lt1 : ∀ x ∈ p1, x.block < W.heap.size := DataW.trod_lt m1 _ _ _ hm1
  obtain ⟨a0, len0, cap0, rfl⟩ := okWide_slice Tryd.underlying22 (hval 0 22 v0 rfl rfl)
  obtain ⟨A0, n0, c0, y0, hv0, hp0, hn0, hl0⟩ := open_Bytes (v := .slice a0 len0 cap0) Tryd.underlying22 Tryd.underlying5 (by kernel_rfl) hm0
  simp only [Value.slice.injEq] at hv0
  obtain ⟨rfl, rfl, rfl⟩ := hv0
  obtain ⟨a1, len1, cap1, rfl⟩ := okWide_slice Tryd.underlying22 (hval 1 22 v1 rfl rfl)
  obtain ⟨A1, n1, c1, y1, hv1, hp1, hn1, hl1⟩ := open_Bytes (v := .slice a1 len1 cap1) Tryd.underlying22 Tryd.underlying5 (by kernel_rfl) hm1
  simp only [Value.slice.injEq] at hv1
  obtain ⟨rfl, rfl, rfl⟩ := hv1
  clear hA0 hval0
  have htab := tab_of_laid hL
  refine (FnExitsBest_walk _ _ _ y0 _ _ _ y1 W htab hp0 hn0 hl0 hp1 hn1 hl1).mono fun e W' ⟨he, bel⟩ => ?_
  subst he
  exact ⟨_, rfl, _, _, _, [], _, [], hW', trodAll_mk1 (shut_bool Tryd.underlying4 _), (trodAll_cons_mk (Below.trod laidOut (by kernel_rfl) (of_decide_eq_true (by kernel_rfl)) h0 bel lt0) (trodAll_cons_mk (Below.trod laidOut (by kernel_rfl) (of_decide_eq_true (by kernel_rfl)) h1 bel lt1) trodAll_mk0)), rfl, bel.frame _, fun h => by cases h⟩

theorem FnExitsBest_row : Rows.FnExitsBestSaid :=
  OpenClaim.holds_of_wide 10 Tryd.f10 rfl rfl rfl rfl rfl rfl rfl ⟨rfl, rfl, rfl, rfl, rfl⟩ rfl rfl rfl rfl rfl (by kernel_rfl) Tryd.func10 (by kernel_rfl)
    (of_decide_eq_true (by kernel_rfl)) (by unfold Func.isWrapper; first | (rw [if_pos (by decide +kernel)]; kernel_rfl) | (rw [if_neg (by decide +kernel)]; exact ⟨rfl, rfl⟩))
    (fun os started H enc _ => FnExitsBest_lifted os started H enc)
theorem FnExitsBest_holds : Rows.FnExitsBestCardSaid :=
  Claim7.holds_tied_plain_at .later [] [.data, .data, .data] true (true, "9a40d749f94adb9d5418125119b5fe0381ba681992067a3458f9e82ceadcb754") false
    FnExitsBest_row (fun _ h => by cases h) (by kernel_rfl) (fun _ h => by cases h) fnExitsBest_row_tie rfl ⟨rfl, rfl⟩ (by kernel_rfl) rfl
    (fun f fn hf hfn => by
      obtain rfl : f = 10 := Option.some.inj ((show Tryd.prog.funcNamed "loop.example/cavesurvey/laws.FnExitsBest" = some 10 by kernel_rfl).symm.trans hf) |>.symm
      obtain rfl : fn = Tryd.f10 := (Option.some.inj (Tryd.func10.symm.trans hfn)).symm
      exact ⟨by kernel_rfl, fun j t ht => by
        rw [Tryd.params10] at ht
        have hm : t ∈ [22] := by simpa using Array.mem_of_getElem? ht
        have hall : ([22].all fun u => !Tryd.prog.wantsStandIn u) = true := by kernel_rfl
        exact (show Tryd.prog.wantsStandIn t = false by simpa using List.all_eq_true.1 hall t hm)⟩)
    (by kernel_rfl)
#print axioms FnExitsBest_holds
end Go.Proofs.YtlhcjbgcgbeocaaDoor
