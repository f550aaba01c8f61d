/- FnRescueStates: two ways to search find the same. -/
import Derived.Test.YtlhcjbgcgbeocaaDoorStock
import Derived.Test.YtlhcjbgcgbeocaaDoorRStV
namespace Go.Proofs.YtlhcjbgcgbeocaaDoor
open Go.ChangeShapes Go.WideShapes Go.ChangeAt Go.RowKit

set_option maxRecDepth 20000 in
theorem FnRescueStates_walk (A : Option Addr) (n c0 : Nat) (y : Nat → Int) (w : World) (htab : Pow10 w) (hx : Bytes w A n y) (hn : n ≤ c0) (hy : ∀ j, 0 ≤ y j ∧ y j < 256) :
    Calls Tryd.prog 12 #[.slice A n c0] w (RetV (.bool true) w) := by
  by_cases hbig : (n : Int) > 1048576
  · go_enter Tryd.func12, Tryd.ntmps12
    go_wp2
    go_ret
    exact ⟨rfl, Below.refl _ _⟩
  · go_enter Tryd.func12, Tryd.ntmps12
    go_wp2_with fail
    refine (DrawRescueStates_any A n c0 y w hx hy hn).mono ?_
    rintro e w1 ⟨P, Q, D, c, d, br, f, t, rfl, hD, hbr, hf, ht⟩
    have hs := hD.small
    have H1 := hid (LwI.start (d := d) htab hD rfl)
    clear hx hD htab
    go_wp2_with fail
    generalize w1.alloc (.cells #[.int .i64 D.s, .slice P D.m c, .slice Q D.k d] 26) = w2 at H1 ⊢
    generalize w1.heap.size = X at H1 ⊢
    refine (RescueStates_implV P Q D c d br f t _ H1.out.srch hs).mono ?_
    rintro e w3 ⟨rfl, hb3⟩
    have H3 := hid (H1.out.then_ hb3)
    clear hb3 H1
    have y0 := H3.out.box.cell (i := 0) rfl
    have y1 := H3.out.box.cell (i := 1) rfl
    have y2 := H3.out.box.cell (i := 2) rfl
    go_wp2_with fail
    refine (RescueStates_specV P Q D c d br f t _ H3.out.srch hs).mono ?_
    rintro e w4 ⟨rfl, hb4⟩
    have H4 := hid (H3.out.then_ hb4)
    clear hb4 H3 y0 y1 y2
    have hr0 : (rtF D br f t == rtF D br f t) = true := by simp
    have y0 := H4.out.box.cell (i := 0) rfl
    have y1 := H4.out.box.cell (i := 1) rfl
    have y2 := H4.out.box.cell (i := 2) rfl
    go_wp2_with fail
    refine (RescueTime_implV P Q D c d br f t _ H4.out.srch hs).mono ?_
    rintro e w5 ⟨rfl, hb5⟩
    have H5 := hid (H4.out.then_ hb5)
    clear hb5 H4 y0 y1 y2
    go_wp2_with fail
    refine (alive_any _ H5.out.tab).mono ?_
    rintro e w6 ⟨rfl, hb6⟩
    go_wp2
    go_ret
    exact ⟨rfl, (H5.out.then_ hb6).bel⟩

set_option maxRecDepth 100000 in
theorem FnRescueStates_lifted (os : Os) (started : os.Started) (H : Type) (enc : TypeId × Value → H) :
    ReturnsInHanded {} Tryd.checked os 12 .any (fun w args => (Rows.fnRescueStatesSpec.pre enc Tryd.prog Tryd.f12 [] false w args ∧ laidMetH Tryd.prog Rows.fnRescueStatesRow.laid w) ∧ sizedMet enc Tryd.prog Tryd.f12 (OpenSpec.ofChange Rows.fnRescueStatesSpec) false w args)
      (Rows.fnRescueStatesSpec.post enc Tryd.prog Tryd.f12 false true false false) := by
  refine returnsInHanded_of_change_and (C := Tryd.checked) (X := fun w _ => laidMetH Tryd.prog Rows.fnRescueStatesRow.laid w) (fun _ _ _ hh h => h.of_heap hh) own started (by kernel_rfl) Tryd.func12
    (ChangeSpec.witness_shaped (enc := enc) (C := Tryd.checked) (os := os) (X := fun w _ => laidMetH Tryd.prog Rows.fnRescueStatesRow.laid w) false (World.doorLaid Tryd.prog 24 os) #[.slice none 0 0] 8 rfl (World.shaped_of_RefB (by kernel_rfl) (by kernel_rfl)) (by kernel_rfl) (by kernel_rfl) (by kernel_rfl)
      (laidMetH_of_parts3 (fuel := 8) (laidMet_of_run' 8 (by kernel_rfl) (by kernel_rfl)) (by kernel_rfl) (by kernel_rfl))) ?_
  intro W base args ds gs before hval0 hW _ _ hL _
  have hval : ∀ (j : Nat) t v, Tryd.f12.params[j]? = some t → args[j]? = some v → Value.okWide Tryd.prog W .any base t v := hval0
  have hW' := hW
  obtain ⟨p, q, hA0, hV, rfl, hfz, hnd⟩ := hW
  have hA : DataW.TrodAll enc Tryd.prog W 0 (fun _ => true) true Tryd.f12.params.toList args.toList ds p := hA0
  rw [Tryd.params12] at hA hval
  obtain ⟨v0, vs0, d0, ds0, p0, q0, hargs, rfl, rfl, h0, r0⟩ := trodAll_cons hA
  obtain ⟨rfl, rfl, rfl⟩ := trodAll_nil r0
  obtain rfl : args = #[v0] := by cases args; simp_all
  obtain ⟨rfl, rfl⟩ := trodVars_none hV
  have k0 := h0
  obtain ⟨m0, hm0⟩ := k0
  have lt0 : ∀ x ∈ p0, x.block < W.heap.size := DataW.trod_lt m0 _ _ _ hm0
  obtain ⟨a0, len0, cap0, rfl⟩ := okWide_slice Tryd.underlying22 (hval 0 22 v0 rfl rfl)
  obtain ⟨A0, n0, c0, y0, hv0, hp0, hn0, hl0⟩ := open_Bytes (v := .slice a0 len0 cap0) Tryd.underlying22 Tryd.underlying5 (by kernel_rfl) hm0
  simp only [Value.slice.injEq] at hv0
  obtain ⟨rfl, rfl, rfl⟩ := hv0
  clear hA0 hval0
  have htab := tab_of_laid hL
  refine (FnRescueStates_walk _ _ _ y0 W htab hp0 hn0 hl0).mono fun e W' ⟨he, bel⟩ => ?_
  subst he
  exact ⟨_, rfl, _, _, _, [], _, [], hW', trodAll_mk1 (shut_bool Tryd.underlying4 _), (trodAll_cons_mk (Below.trod laidOut (by kernel_rfl) (of_decide_eq_true (by kernel_rfl)) h0 bel lt0) trodAll_mk0), rfl, bel.frame _, fun h => by cases h⟩

theorem FnRescueStates_row : Rows.FnRescueStatesSaid :=
  OpenClaim.holds_of_wide 12 Tryd.f12 rfl rfl rfl rfl rfl rfl rfl ⟨rfl, rfl, rfl, rfl, rfl⟩ rfl rfl rfl rfl rfl (by kernel_rfl) Tryd.func12 (by kernel_rfl)
    (of_decide_eq_true (by kernel_rfl)) (by unfold Func.isWrapper; first | (rw [if_pos (by decide +kernel)]; kernel_rfl) | (rw [if_neg (by decide +kernel)]; exact ⟨rfl, rfl⟩))
    (fun os started H enc _ => FnRescueStates_lifted os started H enc)
theorem FnRescueStates_holds : Rows.FnRescueStatesCardSaid :=
  Claim7.holds_tied_plain_at .later [] [.data, .data, .data] true (true, "9a40d749f94adb9d5418125119b5fe0381ba681992067a3458f9e82ceadcb754") false
    FnRescueStates_row (fun _ h => by cases h) (by kernel_rfl) (fun _ h => by cases h) fnRescueStates_row_tie rfl ⟨rfl, rfl⟩ (by kernel_rfl) rfl
    (fun f fn hf hfn => by
      obtain rfl : f = 12 := Option.some.inj ((show Tryd.prog.funcNamed "loop.example/cavesurvey/laws.FnRescueStates" = some 12 by kernel_rfl).symm.trans hf) |>.symm
      obtain rfl : fn = Tryd.f12 := (Option.some.inj (Tryd.func12.symm.trans hfn)).symm
      exact ⟨by kernel_rfl, fun j t ht => by
        rw [Tryd.params12] at ht
        have hm : t ∈ [22] := by simpa using Array.mem_of_getElem? ht
        have hall : ([22].all fun u => !Tryd.prog.wantsStandIn u) = true := by kernel_rfl
        exact (show Tryd.prog.wantsStandIn t = false by simpa using List.all_eq_true.1 hall t hm)⟩)
    (by kernel_rfl)
#print axioms FnRescueStates_holds
end Go.Proofs.YtlhcjbgcgbeocaaDoor
