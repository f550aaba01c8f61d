/- FnWaterAt: higher water is more. -/
import Derived.Test.YtahbfifnpceoeaaDoorLawV
namespace Go.Proofs.YtahbfifnpceoeaaDoor
open Go.ChangeShapes Go.WideShapes Go.ChangeAt Go.RowKit

set_option maxRecDepth 20000 in
set_option maxHeartbeats 1600000 in
theorem FnWaterAt_walk (A : Option Addr) (n c0 : Nat) (y : Nat → Int) (w : World) (htab : Pow10 w) (hx : Bytes w A n y) (hn : n ≤ c0) (hy : ∀ j, 0 ≤ y j ∧ y j < 256) :
    Calls Tryd.prog 7 #[.slice A n c0] w (RetV (.bool true) w) := by
  by_cases hbig : (n : Int) > 1048576
  · go_enter Tryd.func7, Tryd.ntmps7
    go_wp2
    go_ret
    exact ⟨rfl, Below.refl _ _⟩
  · go_enter Tryd.func7, Tryd.ntmps7
    go_wp2_with fail
    refine (DrawWaterAt_any A n c0 y w hx hy hn).mono ?_
    rintro ex w1 ⟨F, G, S, D, c, d, e, L, rfl, hD, hLb⟩
    have hs := hD.small
    have H1 := hid (LwC.start (c := c) (d := d) htab hD rfl)
    clear hx hD htab
    go_wp2_with fail
    generalize w1.alloc (.cells #[.slice F D.n c, .slice G D.q d, .slice S D.m e] 26) = w2 at H1 ⊢
    generalize w1.heap.size = X at H1 ⊢
    refine (WaterAt_implV F G S D c d e L _ H1.out.cave hs).mono ?_
    rintro ex w3 ⟨rfl, hb3⟩
    have H3 := hid (H1.out.then_ hb3)
    clear hb3 H1
    have y0 := H3.out.box.cell (i := 0) rfl
    have y1 := H3.out.box.cell (i := 1) rfl
    have y2 := H3.out.box.cell (i := 2) rfl
    go_wp2_with fail
    refine (WaterAt_specV F G S D c d e L _ H3.out.cave hs).mono ?_
    rintro ex w4 ⟨rfl, hb4⟩
    have H4 := hid (H3.out.then_ hb4)
    clear hb4 H3 y0 y1 y2
    have hr0 : (waV D L != waV D L) = false := by simp
    by_cases hok : WaOk D L
    · have hv := waV_yes hok
      have hbd := waF_bd hok.1 hok.2.1 hok.2.2 D.n (Nat.le_refl _)
      have hn6 := hok.1.1.2
      have hn6' : (D.n : Int) ≤ 6 := by omega
      have hnn : ¬ waV D L < 0 := by rw [hv]; omega
      have HOK := hid hok
      have HV := hid hv
      obtain ⟨x, hx⟩ : ∃ x, waV D L = x := ⟨_, rfl⟩
      have HX := hid hx
      have hxb : 0 ≤ x ∧ x ≤ 2160 := by rw [← hx, hv]; omega
      obtain ⟨hx0, hx1⟩ := hxb
      rw [hx] at hr0 hnn ⊢
      clear hv hbd hx hok
      go_wp2
      go_loopw [6, 7] (fun sv i wr => ∃ k : Nat, k ≤ D.n ∧ i = .int .i64 k ∧ sv = .int .i64 (arF D L k) ∧ Hid (LwC w X F G S D c d e wr)) (fun _ i _ => D.n - (intOf i).toNat)
      case atStart => exact ⟨0, by omega, rfl, rfl, H4⟩
      case round =>
        clear H4
        obtain ⟨k, hk, rfl, rfl, HH⟩ := hrel
        have y0 := HH.out.box.cell (i := 0) rfl
        have y1 := HH.out.box.cell (i := 1) rfl
        have y2 := HH.out.box.cell (i := 2) rfl
        have ha := arF_bd HOK.out.1 L k hk
        by_cases hlt : k < D.n
        · have hltz : (k : Int) < (D.n : Int) := by omega
          have hqz : (k : Int) < (D.q : Int) := by have := HOK.out.1.2.1; omega
          obtain ⟨bf, off, rfl, hcf⟩ := HH.out.cave.flo (by omega)
          obtain ⟨bg, og, rfl, hcg⟩ := HH.out.cave.are (by have := HOK.out.1.2.1; omega)
          have f1 := hcf k hlt
          have g1 := hcg k (by omega)
          have hch := HOK.out.1.2.2.2.1 k hlt
          have hg9 := hch.2
          clear hcf hcg
          by_cases hle : D.f k ≤ L
          · have HA : Hid (arF D L (k + 1) = arF D L k + D.g k) := hid (by rw [arF, if_pos hle])
            go_wp2
            go_roundw
            case rel => exact ⟨k + 1, by omega, by go_num, by rw [HA.out], HH⟩
            case measure => simp [intOf] <;> omega
          · have HA : Hid (arF D L (k + 1) = arF D L k) := hid (by rw [arF, if_neg hle])
            go_wp2
            go_roundw
            case rel => exact ⟨k + 1, by omega, by go_num, by rw [HA.out], HH⟩
            case measure => simp [intOf] <;> omega
        · have : k = D.n := by omega
          subst this
          by_cases h40 : L = 40
          · have e40 : (L == 40) = true := by simp [h40]
            clear h40
            go_wp2
            go_ret
            exact ⟨rfl, HH.out.bel⟩
          · have e40 : (L == 40) = false := by simp [h40]
            have hok2 : WaOk D (L + 1) := ⟨HOK.out.1, by have := HOK.out.2.1; omega, by have := HOK.out.2.2; omega⟩
            have heq : waV D (L + 1) = x + arF D L D.n := by rw [waV_yes hok2, waF_up, ← HX.out, HV.out]
            have HW := hid (WaterAt_implV F G S D c d e (L + 1) _ HH.out.cave hs)
            rw [heq] at HW
            have hbq : (x + arF D L D.n == x + arF D L D.n) = true := by simp
            clear h40 heq hok2
            go_wp2_with fail
            refine HW.out.mono ?_
            rintro ex w6 ⟨rfl, hb6⟩
            go_wp2
            go_ret
            exact ⟨rfl, (HH.out.then_ hb6).bel⟩
    · have hr1 : waV D L = -1 := waV_no hok
      go_wp2_with fail
      refine (alive_any _ H4.out.tab).mono ?_
      rintro ex w6 ⟨rfl, hb6⟩
      go_wp2
      go_ret
      exact ⟨rfl, (H4.out.then_ hb6).bel⟩

set_option maxRecDepth 100000 in
theorem FnWaterAt_lifted (os : Os) (started : os.Started) (H : Type) (enc : TypeId × Value → H) :
    ReturnsInHanded {} Tryd.checked os 7 .any (fun w args => (Rows.fnWaterAtSpec.pre enc Tryd.prog Tryd.f7 [] false w args ∧ laidMetH Tryd.prog Rows.fnWaterAtRow.laid w) ∧ sizedMet enc Tryd.prog Tryd.f7 (OpenSpec.ofChange Rows.fnWaterAtSpec) false w args)
      (Rows.fnWaterAtSpec.post enc Tryd.prog Tryd.f7 false true false false) := by
  refine returnsInHanded_of_change_and (C := Tryd.checked) (X := fun w _ => laidMetH Tryd.prog Rows.fnWaterAtRow.laid w) (fun _ _ _ hh h => h.of_heap hh) own started (by kernel_rfl) Tryd.func7
    (ChangeSpec.witness_shaped (enc := enc) (C := Tryd.checked) (os := os) (X := fun w _ => laidMetH Tryd.prog Rows.fnWaterAtRow.laid w) false (World.doorLaid Tryd.prog 24 os) #[.slice none 0 0] 8 rfl (World.shaped_of_RefB (by kernel_rfl) (by kernel_rfl)) (by kernel_rfl) (by kernel_rfl) (by kernel_rfl)
      (laidMetH_of_parts3 (fuel := 8) (laidMet_of_run' 8 (by kernel_rfl) (by kernel_rfl)) (by kernel_rfl) (by kernel_rfl))) ?_
  intro W base args ds gs before hval0 hW _ _ hL _
  have hval : ∀ (j : Nat) t v, Tryd.f7.params[j]? = some t → args[j]? = some v → Value.okWide Tryd.prog W .any base t v := hval0
  have hW' := hW
  obtain ⟨p, q, hA0, hV, rfl, hfz, hnd⟩ := hW
  have hA : DataW.TrodAll enc Tryd.prog W 0 (fun _ => true) true Tryd.f7.params.toList args.toList ds p := hA0
  rw [Tryd.params7] at hA hval
  obtain ⟨v0, vs0, d0, ds0, p0, q0, hargs, rfl, rfl, h0, r0⟩ := trodAll_cons hA
  obtain ⟨rfl, rfl, rfl⟩ := trodAll_nil r0
  obtain rfl : args = #[v0] := by cases args; simp_all
  obtain ⟨rfl, rfl⟩ := trodVars_none hV
  have k0 := h0
  obtain ⟨m0, hm0⟩ := k0
  have lt0 : ∀ x ∈ p0, x.block < W.heap.size := DataW.trod_lt m0 _ _ _ hm0
  obtain ⟨a0, len0, cap0, rfl⟩ := okWide_slice Tryd.underlying22 (hval 0 22 v0 rfl rfl)
  obtain ⟨A0, n0, c0, y0, hv0, hp0, hn0, hl0⟩ := open_Bytes (v := .slice a0 len0 cap0) Tryd.underlying22 Tryd.underlying5 (by kernel_rfl) hm0
  simp only [Value.slice.injEq] at hv0
  obtain ⟨rfl, rfl, rfl⟩ := hv0
  clear hA0 hval0
  have htab := tab_of_laid hL
  refine (FnWaterAt_walk _ _ _ y0 W htab hp0 hn0 hl0).mono fun e W' ⟨he, bel⟩ => ?_
  subst he
  exact ⟨_, rfl, _, _, _, [], _, [], hW', trodAll_mk1 (shut_bool Tryd.underlying4 _), (trodAll_cons_mk (Below.trod laidOut (by kernel_rfl) (of_decide_eq_true (by kernel_rfl)) h0 bel lt0) trodAll_mk0), rfl, bel.frame _, fun h => by cases h⟩

theorem FnWaterAt_row : Rows.FnWaterAtSaid :=
  OpenClaim.holds_of_wide 7 Tryd.f7 rfl rfl rfl rfl rfl rfl rfl ⟨rfl, rfl, rfl, rfl, rfl⟩ rfl rfl rfl rfl rfl (by kernel_rfl) Tryd.func7 (by kernel_rfl)
    (of_decide_eq_true (by kernel_rfl)) (by unfold Func.isWrapper; first | (rw [if_pos (by decide +kernel)]; kernel_rfl) | (rw [if_neg (by decide +kernel)]; exact ⟨rfl, rfl⟩))
    (fun os started H enc _ => FnWaterAt_lifted os started H enc)
theorem FnWaterAt_holds : Rows.FnWaterAtCardSaid :=
  Claim7.holds_tied_plain_at .later [] [.data, .data, .data] true (true, "a5a7d22d484212bf2246ed34c495e7e4937a4be0a82855a3527b2b559f36e5e1") false
    FnWaterAt_row (fun _ h => by cases h) (by kernel_rfl) (fun _ h => by cases h) fnWaterAt_row_tie rfl ⟨rfl, rfl⟩ (by kernel_rfl) rfl
    (fun f fn hf hfn => by
      obtain rfl : f = 7 := Option.some.inj ((show Tryd.prog.funcNamed "loop.example/cavesurvey/laws.FnWaterAt" = some 7 by kernel_rfl).symm.trans hf) |>.symm
      obtain rfl : fn = Tryd.f7 := (Option.some.inj (Tryd.func7.symm.trans hfn)).symm
      exact ⟨by kernel_rfl, fun j t ht => by
        rw [Tryd.params7] at ht
        have hm : t ∈ [22] := by simpa using Array.mem_of_getElem? ht
        have hall : ([22].all fun u => !Tryd.prog.wantsStandIn u) = true := by kernel_rfl
        exact (show Tryd.prog.wantsStandIn t = false by simpa using List.all_eq_true.1 hall t hm)⟩)
    (by kernel_rfl)
#print axioms FnWaterAt_holds
end Go.Proofs.YtahbfifnpceoeaaDoor
