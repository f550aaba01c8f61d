/- FnPumpBest: the best pump is a chamber. -/
import Derived.Test.YtahbfifnpceoeaaDoorLawV
namespace Go.Proofs.YtahbfifnpceoeaaDoor
open Go.ChangeShapes Go.WideShapes Go.ChangeAt Go.RowKit

set_option maxRecDepth 20000 in
set_option maxHeartbeats 4000000 in
theorem FnPumpBest_walk (A : Option Addr) (n c0 : Nat) (y : Nat → Int) (w : World) (htab : Pow10 w) (hx : Bytes w A n y) (hn : n ≤ c0) (hy : ∀ j, 0 ≤ y j ∧ y j < 256) :
    Calls Tryd.prog 12 #[.slice A n c0] w (RetV (.bool true) w) := by
  by_cases hbig : (n : Int) > 1048576
  · go_enter Tryd.func12, Tryd.ntmps12
    go_wp2
    go_ret
    exact ⟨rfl, Below.refl _ _⟩
  · go_enter Tryd.func12, Tryd.ntmps12
    go_wp2_with fail
    refine (DrawPumpBest_any A n c0 y w hx hy hn).mono ?_
    rintro ex w1 ⟨F, G, S, D, c, d, e, L, rfl, hD, hLb⟩
    have hs := hD.small
    have hsm := hD.sm
    have H1 := hid (LwC.start (c := c) (d := d) htab hD rfl)
    clear hx hD htab
    go_wp2_with fail
    generalize w1.alloc (.cells #[.slice F D.n c, .slice G D.q d, .slice S D.m e] 26) = w2 at H1 ⊢
    generalize w1.heap.size = X at H1 ⊢

    refine (PumpBest_implV F G S D c d e L _ H1.out.cave hs).mono ?_
    rintro ex w3 ⟨rfl, hb'⟩
    have H2 := hid (H1.out.then_ hb')
    clear hb' H1
    have y0 := H2.out.box.cell (i := 0) rfl
    have y1 := H2.out.box.cell (i := 1) rfl
    have y2 := H2.out.box.cell (i := 2) rfl
    go_wp2_with fail
    refine (PumpBest_specV F G S D c d e L _ H2.out.cave hs).mono ?_
    rintro ex w4 ⟨rfl, hb'⟩
    have H3 := hid (H2.out.then_ hb')
    clear hb' H2
    have y0 := H3.out.box.cell (i := 0) rfl
    have y1 := H3.out.box.cell (i := 1) rfl
    have y2 := H3.out.box.cell (i := 2) rfl
    have hr0 : (pbV D L != pbV D L) = false := by simp
    by_cases hok : WaOk D L
    · have hv := pbV_yes hok
      have hn6 := hok.1.1.2
      have hn1 := hok.1.1.1
      obtain ⟨hs0, hs1, hs2, hs3⟩ := pbF_spec D L D.n (by omega)
      rw [← hv] at hs0 hs1 hs2 hs3
      obtain ⟨x, hx⟩ : ∃ x, pbV D L = x := ⟨_, rfl⟩
      rw [hx] at hr0 hs0 hs1 hs2 hs3 ⊢
      have HOK := hid hok
      have HS2 := hid hs2
      have HS3 := hid hs3
      clear hok hv hs2 hs3 hx
      have hnn : ¬ x < 0 := by omega
      have hw0 : wlV D L 1 (fun _ => x) = wlF D L (fun _ => x) 1 D.n := wlV_yes ⟨HOK.out.1, ⟨HOK.out.2.1, HOK.out.2.2⟩, fun j hj => ⟨hs0, hs1⟩⟩
      have hbd := wlF_bd HOK.out.1 HOK.out.2.1 HOK.out.2.2 (fun _ => x) 1 D.n (Nat.le_refl _)
      have HW0 := hid hw0
      clear hw0
      go_wp2_with fail
      refine (WaterLeft_implV F G S D c d e L _ 1 1 (fun _ => x) _ (H3.out.cave.alloc _) hs (Ints.one _ _) (by omega)).mono ?_
      rintro ex w5 ⟨rfl, hb'⟩
      rw [HW0.out]
      have H4 := hid ((H3.out.then_ (below_alloc1 _ _)).then_ hb')
      clear hb' H3 y0 y1 y2
      obtain ⟨l0, hl0⟩ : ∃ l0, wlF D L (fun _ => x) 1 D.n = l0 := ⟨_, rfl⟩
      rw [hl0] at hbd ⊢
      have HL0 := hid hl0
      clear hl0
      go_wp2
      go_loopw [7] (fun i wr => ∃ k : Nat, k ≤ D.n ∧ i = .int .i64 k ∧ Hid (LwC w X F G S D c d e wr)) (fun i _ => D.n - (intOf i).toNat)
      case atStart => exact ⟨0, by omega, rfl, H4⟩
      case round =>
        clear H4
        obtain ⟨k, hk, rfl, HH⟩ := hrel
        have y0 := HH.out.box.cell (i := 0) rfl
        have y1 := HH.out.box.cell (i := 1) rfl
        have y2 := HH.out.box.cell (i := 2) rfl
        by_cases hlt : k < D.n
        · have hltz : (k : Int) < (D.n : Int) := by omega
          have hw1 : wlV D L 1 (fun _ => (k : Int)) = wlF D L (fun _ => (k : Int)) 1 D.n := wlV_yes ⟨HOK.out.1, ⟨HOK.out.2.1, HOK.out.2.2⟩, fun j hj => ⟨by show (0 : Int) ≤ (k : Int); omega, by show (k : Int) < (D.n : Int); omega⟩⟩
          have h2 := HS2.out k hlt
          have h3 := HS3.out k
          rw [HL0.out] at h2 h3
          have HW1 := hid hw1
          clear hw1
          go_wp2_with fail
          refine (WaterLeft_implV F G S D c d e L _ 1 1 (fun _ => (k : Int)) _ (HH.out.cave.alloc _) hs (Ints.one _ _) (by omega)).mono ?_
          rintro ex w6 ⟨rfl, hb'⟩
          rw [HW1.out]
          have H6 := hid ((HH.out.then_ (below_alloc1 _ _)).then_ hb')
          clear hb' HH y0 y1 y2 HW1
          generalize wlF D L (fun _ => (k : Int)) 1 D.n = z at h2 h3 ⊢
          have H3' := hid h3
          clear h3
          have e1 : decide (z < l0) = false := decide_eq_false (by omega)
          by_cases hkx : (k : Int) < x
          · have e2 : decide ((k : Int) < x) = true := decide_eq_true hkx
            have e3 : (z == l0) = false := by have := H3'.out hkx; simp; omega
            go_wp2
            go_roundw
            case rel => exact ⟨k + 1, by omega, by go_num, H6⟩
            case measure => simp [intOf] <;> omega
          · have e2 : decide ((k : Int) < x) = false := decide_eq_false hkx
            go_wp2
            go_roundw
            case rel => exact ⟨k + 1, by omega, by go_num, H6⟩
            case measure => simp [intOf] <;> omega
        · have : k = D.n := by omega
          subst this
          have e5 : decide (0 ≤ l0) = true := decide_eq_true hbd.1
          go_wp2
          go_ret
          exact ⟨rfl, HH.out.bel⟩
    · have hr1 : pbV D L = -1 := pbV_no hok
      go_wp2_with fail
      refine (alive_any _ H3.out.tab).mono ?_
      rintro ex w6 ⟨rfl, hb6⟩
      go_wp2
      go_ret
      exact ⟨rfl, (H3.out.then_ hb6).bel⟩

set_option maxRecDepth 100000 in
theorem FnPumpBest_lifted (os : Os) (started : os.Started) (H : Type) (enc : TypeId × Value → H) :
    ReturnsInHanded {} Tryd.checked os 12 .any (fun w args => (Rows.fnPumpBestSpec.pre enc Tryd.prog Tryd.f12 [] false w args ∧ laidMetH Tryd.prog Rows.fnPumpBestRow.laid w) ∧ sizedMet enc Tryd.prog Tryd.f12 (OpenSpec.ofChange Rows.fnPumpBestSpec) false w args)
      (Rows.fnPumpBestSpec.post enc Tryd.prog Tryd.f12 false true false false) := by
  refine returnsInHanded_of_change_and (C := Tryd.checked) (X := fun w _ => laidMetH Tryd.prog Rows.fnPumpBestRow.laid w) (fun _ _ _ hh h => h.of_heap hh) own started (by kernel_rfl) Tryd.func12
    (ChangeSpec.witness_shaped (enc := enc) (C := Tryd.checked) (os := os) (X := fun w _ => laidMetH Tryd.prog Rows.fnPumpBestRow.laid w) false (World.doorLaid Tryd.prog 24 os) #[.slice none 0 0] 8 rfl (World.shaped_of_RefB (by kernel_rfl) (by kernel_rfl)) (by kernel_rfl) (by kernel_rfl) (by kernel_rfl)
      (laidMetH_of_parts3 (fuel := 8) (laidMet_of_run' 8 (by kernel_rfl) (by kernel_rfl)) (by kernel_rfl) (by kernel_rfl))) ?_
  intro W base args ds gs before hval0 hW _ _ hL _
  have hval : ∀ (j : Nat) t v, Tryd.f12.params[j]? = some t → args[j]? = some v → Value.okWide Tryd.prog W .any base t v := hval0
  have hW' := hW
  obtain ⟨p, q, hA0, hV, rfl, hfz, hnd⟩ := hW
  have hA : DataW.TrodAll enc Tryd.prog W 0 (fun _ => true) true Tryd.f12.params.toList args.toList ds p := hA0
  rw [Tryd.params12] at hA hval
  obtain ⟨v0, vs0, d0, ds0, p0, q0, hargs, rfl, rfl, h0, r0⟩ := trodAll_cons hA
  obtain ⟨rfl, rfl, rfl⟩ := trodAll_nil r0
  obtain rfl : args = #[v0] := by cases args; simp_all
  obtain ⟨rfl, rfl⟩ := trodVars_none hV
  have k0 := h0
  obtain ⟨m0, hm0⟩ := k0
  have lt0 : ∀ x ∈ p0, x.block < W.heap.size := DataW.trod_lt m0 _ _ _ hm0
  obtain ⟨a0, len0, cap0, rfl⟩ := okWide_slice Tryd.underlying22 (hval 0 22 v0 rfl rfl)
  obtain ⟨A0, n0, c0, y0, hv0, hp0, hn0, hl0⟩ := open_Bytes (v := .slice a0 len0 cap0) Tryd.underlying22 Tryd.underlying5 (by kernel_rfl) hm0
  simp only [Value.slice.injEq] at hv0
  obtain ⟨rfl, rfl, rfl⟩ := hv0
  clear hA0 hval0
  have htab := tab_of_laid hL
  refine (FnPumpBest_walk _ _ _ y0 W htab hp0 hn0 hl0).mono fun e W' ⟨he, bel⟩ => ?_
  subst he
  exact ⟨_, rfl, _, _, _, [], _, [], hW', trodAll_mk1 (shut_bool Tryd.underlying4 _), (trodAll_cons_mk (Below.trod laidOut (by kernel_rfl) (of_decide_eq_true (by kernel_rfl)) h0 bel lt0) trodAll_mk0), rfl, bel.frame _, fun h => by cases h⟩

theorem FnPumpBest_row : Rows.FnPumpBestSaid :=
  OpenClaim.holds_of_wide 12 Tryd.f12 rfl rfl rfl rfl rfl rfl rfl ⟨rfl, rfl, rfl, rfl, rfl⟩ rfl rfl rfl rfl rfl (by kernel_rfl) Tryd.func12 (by kernel_rfl)
    (of_decide_eq_true (by kernel_rfl)) (by unfold Func.isWrapper; first | (rw [if_pos (by decide +kernel)]; kernel_rfl) | (rw [if_neg (by decide +kernel)]; exact ⟨rfl, rfl⟩))
    (fun os started H enc _ => FnPumpBest_lifted os started H enc)
theorem FnPumpBest_holds : Rows.FnPumpBestCardSaid :=
  Claim7.holds_tied_plain_at .later [] [.data, .data, .data] true (true, "a5a7d22d484212bf2246ed34c495e7e4937a4be0a82855a3527b2b559f36e5e1") false
    FnPumpBest_row (fun _ h => by cases h) (by kernel_rfl) (fun _ h => by cases h) fnPumpBest_row_tie rfl ⟨rfl, rfl⟩ (by kernel_rfl) rfl
    (fun f fn hf hfn => by
      obtain rfl : f = 12 := Option.some.inj ((show Tryd.prog.funcNamed "loop.example/cavesurvey/laws.FnPumpBest" = some 12 by kernel_rfl).symm.trans hf) |>.symm
      obtain rfl : fn = Tryd.f12 := (Option.some.inj (Tryd.func12.symm.trans hfn)).symm
      exact ⟨by kernel_rfl, fun j t ht => by
        rw [Tryd.params12] at ht
        have hm : t ∈ [22] := by simpa using Array.mem_of_getElem? ht
        have hall : ([22].all fun u => !Tryd.prog.wantsStandIn u) = true := by kernel_rfl
        exact (show Tryd.prog.wantsStandIn t = false by simpa using List.all_eq_true.1 hall t hm)⟩)
    (by kernel_rfl)
#print axioms FnPumpBest_holds
end Go.Proofs.YtahbfifnpceoeaaDoor
