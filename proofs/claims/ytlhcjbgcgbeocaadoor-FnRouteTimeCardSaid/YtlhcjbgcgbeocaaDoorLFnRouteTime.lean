/- FnRouteTime: no route is faster than the best one. -/
import Derived.Test.YtlhcjbgcgbeocaaDoorLaw
import Derived.Test.YtlhcjbgcgbeocaaDoorDraw5
import Derived.Test.YtlhcjbgcgbeocaaDoorAir
import Derived.Test.YtlhcjbgcgbeocaaDoorRoute2
namespace Go.Proofs.YtlhcjbgcgbeocaaDoor
open Go.ChangeShapes Go.WideShapes Go.ChangeAt Go.RowKit

theorem routeF_law {D : SrchD} {br : Int} {x : Nat → Int} {n : Nat} {m a : Int} (h : routeF D br x n = some (m, a)) :
    0 < n ∧ (1 ≤ br ∧ br ≤ 60) ∧ (0 ≤ rtF D br (x 0) (x (n - 1)) ∧ rtF D br (x 0) (x (n - 1)) ≤ m) ∧ (0 ≤ a ∧ a ≤ br) ∧ (br = 60 ∨ ∃ a', routeF D (br + 1) x n = some (m, a')) := by
  by_cases hc : SrchOk D ∧ (1 ≤ br ∧ br ≤ 60) ∧ 0 < n ∧ (0 ≤ x 0 ∧ x 0 < D.s)
  · rw [routeF_ok hc] at h
    obtain ⟨hok, hb, hn, h0⟩ := hc
    obtain ⟨h1, h2⟩ := routeK_sw hok h0 (n - 1) m a h
    have hsk := hok.2.2.1
    obtain ⟨d', hd, hg⟩ := hop_of_sw hok (show (x 0).toNat < D.k by omega) (show 0 ≤ br by omega) (sw_mono (fun _ _ _ => edge_of_min) h2)
    have hr := (rtF_spec D br (x 0) (x (n - 1))).le ⟨hok, hb, h0, h1⟩ hg
    have hbd := routeK_bd (show 0 ≤ br by omega) (n - 1) m a h
    refine ⟨hn, hb, ⟨hr.1, by omega⟩, ⟨hbd.2.2.1, hbd.2.2.2⟩, ?_⟩
    by_cases h60 : br = 60
    · exact .inl h60
    · obtain ⟨a', ha', _⟩ := routeK_air (n - 1) m a h
      exact .inr ⟨a', by rw [routeF_ok ⟨hok, ⟨by omega, by omega⟩, hn, h0⟩]; exact ha'⟩
  · unfold routeF at h
    rw [if_neg hc] at h
    cases h

set_option maxRecDepth 20000 in
theorem FnRouteTime_walk (A : Option Addr) (n c0 : Nat) (y : Nat → Int) (w : World) (htab : Pow10 w) (hx : Bytes w A n y) (hn : n ≤ c0) (hy : ∀ j, 0 ≤ y j ∧ y j < 256) :
    Calls Tryd.prog 9 #[.slice A n c0] w (RetV (.bool true) w) := by
  by_cases hbig : (n : Int) > 1048576
  · go_enter Tryd.func9, Tryd.ntmps9
    go_wp2
    go_ret
    exact ⟨rfl, Below.refl _ _⟩
  · go_enter Tryd.func9, Tryd.ntmps9
    go_wp2_with fail
    refine (DrawRouteTime_any A n c0 y w hx hy hn).mono ?_
    rintro e w1 ⟨P, Q, D, c, d, br, A2, n2, c2, x, rfl, hD, hbr, hi, hn2⟩
    have hs := hD.small
    have H1 := hid (LwI.start (d := d) htab hD rfl)
    have HI1 := hid hi
    clear hx hD htab hi
    go_wp2_with fail
    have HI2 := hid (HI1.out.alloc (.cells #[.int .i64 D.s, .slice P D.m c, .slice Q D.k d] 26))
    clear HI1
    generalize w1.alloc (.cells #[.int .i64 D.s, .slice P D.m c, .slice Q D.k d] 26) = w2 at H1 HI2 ⊢
    generalize w1.heap.size = X at H1 ⊢
    cases hr : routeF D br x n2 with
    | none =>
      refine (RouteTime_impl P Q D c d br A2 n2 c2 x _ H1.out.srch hs HI2.out (by omega)).mono ?_
      rw [← rrV_none hr]
      rintro e w3 ⟨rfl, hb3⟩
      have H3 := hid (H1.out.then_ hb3)
      have HI3 := hid (HI2.out.below hb3)
      clear hb3 H1 HI2
      have y0 := H3.out.box.cell (i := 0) rfl
      have y1 := H3.out.box.cell (i := 1) rfl
      have y2 := H3.out.box.cell (i := 2) rfl
      go_wp2_with fail
      refine (RouteTime_spec P Q D c d br A2 n2 c2 x _ H3.out.srch hs HI3.out (by omega)).mono ?_
      rw [← rrV_none hr]
      rintro e w4 ⟨rfl, hb4⟩
      have H4 := hid (H3.out.then_ hb4)
      clear hb4 H3 HI3 y0 y1 y2
      go_wp2_with fail
      refine (alive_any _ H4.out.tab).mono ?_
      rintro e w5 ⟨rfl, hb5⟩
      go_wp2
      go_ret
      exact ⟨rfl, (H4.out.then_ hb5).bel⟩
    | some p =>
      obtain ⟨m, a⟩ := p
      obtain ⟨hn0, hb, ⟨hr1, hr2⟩, ⟨ha1, ha2⟩, hmore⟩ := routeF_law hr
      refine (RouteTime_impl P Q D c d br A2 n2 c2 x _ H1.out.srch hs HI2.out (by omega)).mono ?_
      rw [← rrV_some hr]
      rintro e w3 ⟨rfl, hb3⟩
      have H3 := hid (H1.out.then_ hb3)
      have HI3 := hid (HI2.out.below hb3)
      clear hb3 H1 HI2
      have y0 := H3.out.box.cell (i := 0) rfl
      have y1 := H3.out.box.cell (i := 1) rfl
      have y2 := H3.out.box.cell (i := 2) rfl
      go_wp2_with fail
      refine (RouteTime_spec P Q D c d br A2 n2 c2 x _ H3.out.srch hs HI3.out (by omega)).mono ?_
      rw [← rrV_some hr]
      rintro e w4 ⟨rfl, hb4⟩
      have H4 := hid (H3.out.then_ hb4)
      have HI4 := hid (HI3.out.below hb4)
      clear hb4 H3 HI3 y0 y1 y2
      have hm0 : (m != m) = false := by simp
      have hm1 : (a != a) = false := by simp
      obtain ⟨bi, oi, hA2, hic⟩ := HI4.out hn0
      subst hA2
      have q0 : w4.cell? ⟨bi, oi, none⟩ = some (.int .i64 (x 0)) := by have := hic 0 hn0; rwa [Nat.add_zero] at this
      have q1 : w4.cell? ⟨bi, oi + (n2 - 1), none⟩ = some (.int .i64 (x (n2 - 1))) := hic (n2 - 1) (by omega)
      have hlz : (n2 : Int) - 1 = ((n2 - 1 : Nat) : Int) := by omega
      have hlt1 : ((n2 - 1 : Nat) : Int) < (n2 : Int) := by omega
      have hn0z : (0 : Int) < (n2 : Int) := by omega
      have hwk := rtF_walk hr1
      clear hic
      generalize x (n2 - 1) = t at *
      generalize hf : x 0 = f at *
      have y0 := H4.out.box.cell (i := 0) rfl
      have y1 := H4.out.box.cell (i := 1) rfl
      have y2 := H4.out.box.cell (i := 2) rfl
      go_wp2_with fail
      refine (RescueTime_implV P Q D c d br f t _ H4.out.srch hs).mono ?_
      rintro e w5 ⟨rfl, hb5⟩
      have H5 := hid (H4.out.then_ hb5)
      have HI5 := hid (HI4.out.below hb5)
      clear hb5 H4 HI4 y0 y1 y2 q0 q1
      have y0 := H5.out.box.cell (i := 0) rfl
      have y1 := H5.out.box.cell (i := 1) rfl
      have y2 := H5.out.box.cell (i := 2) rfl
      go_wp2_with fail
      refine (RouteTime_impl P Q D c d (br + 1) _ n2 c2 x _ H5.out.srch hs HI5.out (by omega)).mono ?_
      by_cases h60 : br = 60
      · generalize routeF D (br + 1) x n2 = o
        subst h60
        unfold rrV
        rintro e w6 ⟨rfl, hb6⟩
        have H6 := hid (H5.out.then_ hb6)
        clear hb6 H5 HI5 y0 y1 y2
        obtain ⟨hw1, hw2⟩ := hwk
        have y0 := H6.out.box.cell (i := 0) rfl
        have y1 := H6.out.box.cell (i := 1) rfl
        have y2 := H6.out.box.cell (i := 2) rfl
        go_wp2_with fail
        refine (WalkTime_implV P Q D c d f t _ H6.out.srch hs).mono ?_
        rintro e w7 ⟨rfl, hb7⟩
        go_wp2
        go_ret
        exact ⟨rfl, (H6.out.then_ hb7).bel⟩
      · obtain ⟨a', ha'⟩ := hmore.resolve_left h60
        have h60z : (br == 60) = false := by simp [h60]
        have hmm : (m == m) = true := by simp
        rw [← rrV_some ha']
        rintro e w6 ⟨rfl, hb6⟩
        have H6 := hid (H5.out.then_ hb6)
        clear hb6 H5 HI5 y0 y1 y2 ha' hmore hr
        obtain ⟨hw1, hw2⟩ := hwk
        have y0 := H6.out.box.cell (i := 0) rfl
        have y1 := H6.out.box.cell (i := 1) rfl
        have y2 := H6.out.box.cell (i := 2) rfl
        go_wp2_with fail
        refine (WalkTime_implV P Q D c d f t _ H6.out.srch hs).mono ?_
        rintro e w7 ⟨rfl, hb7⟩
        go_wp2
        go_ret
        exact ⟨rfl, (H6.out.then_ hb7).bel⟩

set_option maxRecDepth 100000 in
theorem FnRouteTime_lifted (os : Os) (started : os.Started) (H : Type) (enc : TypeId × Value → H) :
    ReturnsInHanded {} Tryd.checked os 9 .any (fun w args => (Rows.fnRouteTimeSpec.pre enc Tryd.prog Tryd.f9 [] false w args ∧ laidMetH Tryd.prog Rows.fnRouteTimeRow.laid w) ∧ sizedMet enc Tryd.prog Tryd.f9 (OpenSpec.ofChange Rows.fnRouteTimeSpec) false w args)
      (Rows.fnRouteTimeSpec.post enc Tryd.prog Tryd.f9 false true false false) := by
  refine returnsInHanded_of_change_and (C := Tryd.checked) (X := fun w _ => laidMetH Tryd.prog Rows.fnRouteTimeRow.laid w) (fun _ _ _ hh h => h.of_heap hh) own started (by kernel_rfl) Tryd.func9
    (ChangeSpec.witness_shaped (enc := enc) (C := Tryd.checked) (os := os) (X := fun w _ => laidMetH Tryd.prog Rows.fnRouteTimeRow.laid w) false (World.doorLaid Tryd.prog 24 os) #[.slice none 0 0] 8 rfl (World.shaped_of_RefB (by kernel_rfl) (by kernel_rfl)) (by kernel_rfl) (by kernel_rfl) (by kernel_rfl)
      (laidMetH_of_parts3 (fuel := 8) (laidMet_of_run' 8 (by kernel_rfl) (by kernel_rfl)) (by kernel_rfl) (by kernel_rfl))) ?_
  intro W base args ds gs before hval0 hW _ _ hL _
  have hval : ∀ (j : Nat) t v, Tryd.f9.params[j]? = some t → args[j]? = some v → Value.okWide Tryd.prog W .any base t v := hval0
  have hW' := hW
  obtain ⟨p, q, hA0, hV, rfl, hfz, hnd⟩ := hW
  have hA : DataW.TrodAll enc Tryd.prog W 0 (fun _ => true) true Tryd.f9.params.toList args.toList ds p := hA0
  rw [Tryd.params9] at hA hval
  obtain ⟨v0, vs0, d0, ds0, p0, q0, hargs, rfl, rfl, h0, r0⟩ := trodAll_cons hA
  obtain ⟨rfl, rfl, rfl⟩ := trodAll_nil r0
  obtain rfl : args = #[v0] := by cases args; simp_all
  obtain ⟨rfl, rfl⟩ := trodVars_none hV
  have k0 := h0
  obtain ⟨m0, hm0⟩ := k0
  have lt0 : ∀ x ∈ p0, x.block < W.heap.size := DataW.trod_lt m0 _ _ _ hm0
  obtain ⟨a0, len0, cap0, rfl⟩ := okWide_slice Tryd.underlying22 (hval 0 22 v0 rfl rfl)
  obtain ⟨A0, n0, c0, y0, hv0, hp0, hn0, hl0⟩ := open_Bytes (v := .slice a0 len0 cap0) Tryd.underlying22 Tryd.underlying5 (by kernel_rfl) hm0
  simp only [Value.slice.injEq] at hv0
  obtain ⟨rfl, rfl, rfl⟩ := hv0
  clear hA0 hval0
  have htab := tab_of_laid hL
  refine (FnRouteTime_walk _ _ _ y0 W htab hp0 hn0 hl0).mono fun e W' ⟨he, bel⟩ => ?_
  subst he
  exact ⟨_, rfl, _, _, _, [], _, [], hW', trodAll_mk1 (shut_bool Tryd.underlying4 _), (trodAll_cons_mk (Below.trod laidOut (by kernel_rfl) (of_decide_eq_true (by kernel_rfl)) h0 bel lt0) trodAll_mk0), rfl, bel.frame _, fun h => by cases h⟩

theorem FnRouteTime_row : Rows.FnRouteTimeSaid :=
  OpenClaim.holds_of_wide 9 Tryd.f9 rfl rfl rfl rfl rfl rfl rfl ⟨rfl, rfl, rfl, rfl, rfl⟩ rfl rfl rfl rfl rfl (by kernel_rfl) Tryd.func9 (by kernel_rfl)
    (of_decide_eq_true (by kernel_rfl)) (by unfold Func.isWrapper; first | (rw [if_pos (by decide +kernel)]; kernel_rfl) | (rw [if_neg (by decide +kernel)]; exact ⟨rfl, rfl⟩))
    (fun os started H enc _ => FnRouteTime_lifted os started H enc)
theorem FnRouteTime_holds : Rows.FnRouteTimeCardSaid :=
  Claim7.holds_tied_plain_at .later [] [.data, .data, .data] true (true, "9a40d749f94adb9d5418125119b5fe0381ba681992067a3458f9e82ceadcb754") false
    FnRouteTime_row (fun _ h => by cases h) (by kernel_rfl) (fun _ h => by cases h) fnRouteTime_row_tie rfl ⟨rfl, rfl⟩ (by kernel_rfl) rfl
    (fun f fn hf hfn => by
      obtain rfl : f = 9 := Option.some.inj ((show Tryd.prog.funcNamed "loop.example/cavesurvey/laws.FnRouteTime" = some 9 by kernel_rfl).symm.trans hf) |>.symm
      obtain rfl : fn = Tryd.f9 := (Option.some.inj (Tryd.func9.symm.trans hfn)).symm
      exact ⟨by kernel_rfl, fun j t ht => by
        rw [Tryd.params9] at ht
        have hm : t ∈ [22] := by simpa using Array.mem_of_getElem? ht
        have hall : ([22].all fun u => !Tryd.prog.wantsStandIn u) = true := by kernel_rfl
        exact (show Tryd.prog.wantsStandIn t = false by simpa using List.all_eq_true.1 hall t hm)⟩)
    (by kernel_rfl)
#print axioms FnRouteTime_holds
end Go.Proofs.YtlhcjbgcgbeocaaDoor
