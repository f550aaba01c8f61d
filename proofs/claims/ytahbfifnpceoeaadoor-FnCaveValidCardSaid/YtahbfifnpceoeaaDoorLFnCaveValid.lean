/- FnCaveValid: a cave stays valid when its first sill is taken away. -/
import Derived.Test.YtahbfifnpceoeaaDoorLawV
namespace Go.Proofs.YtahbfifnpceoeaaDoor
open Go.ChangeShapes Go.WideShapes Go.ChangeAt Go.RowKit

def NilD : CaveD := ⟨0, fun _ => 0, 0, fun _ => 0, 0, fun _ => 0, fun _ => 0, fun _ => 0⟩
theorem nil_no : ¬ CaveOk NilD := fun h => by have := h.1.1; simp [NilD] at this
theorem nil_at (w : World) : CaveAt w none none none NilD := ⟨fun h => absurd h (by simp [NilD]), fun h => absurd h (by simp [NilD]), fun h => absurd h (by simp [NilD])⟩
theorem nil_small : CaveSmall NilD := ⟨by simp [NilD], by simp [NilD], by simp [NilD]⟩
theorem nil_any (w : World) : Calls Tryd.prog 30 #[.agg #[.slice none 0 0, .slice none 0 0, .slice none 0 0]] w (RetV (.bool false) w) :=
  RetB.no (CaveValid_impl none none none NilD 0 0 0 w (nil_at w) nil_small) nil_no
def tailD (D : CaveD) : CaveD := ⟨D.n, D.f, D.q, D.g, D.m - 1, fun j => D.a (j + 1), fun j => D.b (j + 1), fun j => D.h (j + 1)⟩
theorem tail_ok {D : CaveD} (h : CaveOk D) : CaveOk (tailD D) :=
  ⟨h.1, h.2.1, by show D.m - 1 ≤ 9; have := h.2.2.1; omega, h.2.2.2.1, fun j hj => h.2.2.2.2 (j + 1) (by have : j < D.m - 1 := hj; omega)⟩
theorem tail_at {w : World} {F G : Option Addr} {b o : Nat} {D : CaveD} (h : CaveAt w F G (some ⟨b, o, none⟩) D) : CaveAt w F G (some ⟨b, o + 3, none⟩) (tailD D) :=
  ⟨h.flo, h.are, fun h0 => by
    have h0' : 0 < D.m - 1 := h0
    obtain ⟨b', o', e, hc⟩ := h.sil (by omega)
    cases e
    refine ⟨b, o + 3, rfl, fun j hj => ?_⟩
    have hj' : j < D.m - 1 := hj
    have := hc (j + 1) (by omega)
    rw [show o + (j + 1) * 3 = o + 3 + j * 3 by omega] at this
    exact this⟩
theorem tail_one {w : World} {F G S S' : Option Addr} {D : CaveD} (h : CaveAt w F G S D) (h1 : D.m = 1) : CaveAt w F G S' (tailD D) :=
  ⟨h.flo, h.are, fun h0 => absurd (show 0 < D.m - 1 from h0) (by omega)⟩

set_option maxRecDepth 20000 in
set_option maxHeartbeats 4000000 in
theorem FnCaveValid_walk (A : Option Addr) (n c0 : Nat) (y : Nat → Int) (w : World) (htab : Pow10 w) (hx : Bytes w A n y) (hn : n ≤ c0) (hy : ∀ j, 0 ≤ y j ∧ y j < 256) :
    Calls Tryd.prog 6 #[.slice A n c0] w (RetV (.bool true) w) := by
  by_cases hbig : (n : Int) > 1048576
  · go_enter Tryd.func6, Tryd.ntmps6
    go_wp2
    go_ret
    exact ⟨rfl, Below.refl _ _⟩
  · go_enter Tryd.func6, Tryd.ntmps6
    go_wp2_with fail
    refine (DrawCaveValid_any A n c0 y w hx hy hn).mono ?_
    rintro ex w1 ⟨F, G, S, D, c, d, e, rfl, hD⟩
    have hs := hD.small
    have hsm := hD.sm
    have H1 := hid (LwC.start (c := c) (d := d) htab hD rfl)
    clear hx hD htab
    go_wp2_with fail
    generalize w1.alloc (.cells #[.slice F D.n c, .slice G D.q d, .slice S D.m e] 26) = w2 at H1 ⊢
    generalize w1.heap.size = X at H1 ⊢

    have HV := hid (CaveValid_impl F G S D c d e _ H1.out.cave hs)
    by_cases hok : CaveOk D
    · refine (RetB.yes HV.out hok).mono ?_
      rintro ex w3 ⟨rfl, hb3⟩
      have H3 := hid (H1.out.then_ hb3)
      clear hb3 H1 HV
      have y0 := H3.out.box.cell (i := 0) rfl
      have y1 := H3.out.box.cell (i := 1) rfl
      have y2 := H3.out.box.cell (i := 2) rfl
      go_wp2_with fail
      refine (RetB.yes (CaveValid_spec F G S D c d e _ H3.out.cave hs) hok).mono ?_
      rintro ex w4 ⟨rfl, hb4⟩
      have H4 := hid (H3.out.then_ hb4)
      clear hb4 H3 y0 y1 y2
      have y0 := H4.out.box.cell (i := 0) rfl
      have y1 := H4.out.box.cell (i := 1) rfl
      have y2 := H4.out.box.cell (i := 2) rfl
      by_cases h0 : D.m = 0
      · have e1 : ((D.m : Int) == 0) = true := by simp [h0]
        clear h0
        go_wp2_with fail
        refine (nil_any _).mono ?_
        rintro ex w5 ⟨rfl, hb5⟩
        have H5 := hid (H4.out.then_ hb5)
        clear hb5
        go_wp2_with fail
        refine (alive_any _ H5.out.tab).mono ?_
        rintro ex w6 ⟨rfl, hb6⟩
        go_wp2
        go_ret
        exact ⟨rfl, (H5.out.then_ hb6).bel⟩
      · have e1 : ((D.m : Int) == 0) = false := by simp; omega
        have hsil := hid H4.out.cave.sil
        obtain ⟨b, o, rfl, _⟩ := hsil.out (by omega)
        have hm1 : (1 : Int) ≤ (D.m : Int) := by omega
        have hme : (D.m : Int) ≤ (e : Int) := by have := hsm.2.2.2; omega
        have hem : ((D.m : Int) - 1).toNat = D.m - 1 := by omega
        have s0 := sub_cell y0
        have s1 := sub_cell y1
        have s2 := sub_cell y2
        have HOK := hid (tail_ok hok)
        have HS : Hid (CaveSmall (tailD D)) := hid ⟨hs.1, hs.2.1, by have := hs.2.2; show D.m - 1 ≤ 1048576; omega⟩
        clear hok hsil
        by_cases he : e = 1
        · subst he
          have hD1 : D.m = 1 := by have := hsm.2.2.2; omega
          have hz : (tailD D).m = 0 := by show D.m - 1 = 0; omega
          have W1 : Hid (∀ s : Sub w4, Calls Tryd.prog 30 #[.agg #[.slice F D.n c, .slice G D.q d, .slice (some ⟨b, o, none⟩) 0 0]] s.val (RetV (.bool true) s.val)) := hid (fun s => by
            have := RetB.yes (CaveValid_impl F G (some ⟨b, o, none⟩) (tailD D) c d 0 s.val (tail_one ((H4.out.then_ s.h).cave) hD1) HS.out) HOK.out
            rwa [hz] at this)
          clear hz
          clear hD1
          go_wp2
          refine wp_region_sub (by kernel_rfl) (by kernel_rfl) ?_
          repeat (go_big_quiet_step ((go_at_call 30; (with_reducible exact RetV.sub (W1.out _)))))
          refine wpQuiet_nil ?_
          intro _ hw'
          obtain ⟨s, hw''⟩ := hw'
          subst hw''
          go_wp2
          go_ret
          exact ⟨rfl, Below.then_ H4.out.bel s.h⟩
        · have W1 : Hid (∀ s : Sub w4, Calls Tryd.prog 30 #[.agg #[.slice F D.n c, .slice G D.q d, .slice (some ⟨b, o + 3, none⟩) (D.m - 1) (e - 1)]] s.val (RetV (.bool true) s.val)) := hid (fun s =>
            RetB.yes (CaveValid_impl F G (some ⟨b, o + 3, none⟩) (tailD D) c d (e - 1) s.val (tail_at ((H4.out.then_ s.h).cave)) HS.out) HOK.out)
          go_wp2
          refine wp_region_sub (by kernel_rfl) (by kernel_rfl) ?_
          repeat (go_big_quiet_step ((go_at_call 30; (with_reducible exact RetV.sub (W1.out _)))))
          refine wpQuiet_nil ?_
          intro _ hw'
          obtain ⟨s, hw''⟩ := hw'
          subst hw''
          go_wp2
          go_ret
          exact ⟨rfl, Below.then_ H4.out.bel s.h⟩
    · refine (RetB.no HV.out hok).mono ?_
      rintro ex w3 ⟨rfl, hb3⟩
      have H3 := hid (H1.out.then_ hb3)
      clear hb3 H1 HV
      have y0 := H3.out.box.cell (i := 0) rfl
      have y1 := H3.out.box.cell (i := 1) rfl
      have y2 := H3.out.box.cell (i := 2) rfl
      go_wp2_with fail
      refine (RetB.no (CaveValid_spec F G S D c d e _ H3.out.cave hs) hok).mono ?_
      rintro ex w4 ⟨rfl, hb4⟩
      have H4 := hid (H3.out.then_ hb4)
      clear hb4 H3 y0 y1 y2
      go_wp2_with fail
      refine (nil_any _).mono ?_
      rintro ex w5 ⟨rfl, hb5⟩
      have H5 := hid (H4.out.then_ hb5)
      clear hb5
      go_wp2_with fail
      refine (alive_any _ H5.out.tab).mono ?_
      rintro ex w6 ⟨rfl, hb6⟩
      go_wp2
      go_ret
      exact ⟨rfl, (H5.out.then_ hb6).bel⟩

set_option maxRecDepth 100000 in
theorem FnCaveValid_lifted (os : Os) (started : os.Started) (H : Type) (enc : TypeId × Value → H) :
    ReturnsInHanded {} Tryd.checked os 6 .any (fun w args => (Rows.fnCaveValidSpec.pre enc Tryd.prog Tryd.f6 [] false w args ∧ laidMetH Tryd.prog Rows.fnCaveValidRow.laid w) ∧ sizedMet enc Tryd.prog Tryd.f6 (OpenSpec.ofChange Rows.fnCaveValidSpec) false w args)
      (Rows.fnCaveValidSpec.post enc Tryd.prog Tryd.f6 false true false false) := by
  refine returnsInHanded_of_change_and (C := Tryd.checked) (X := fun w _ => laidMetH Tryd.prog Rows.fnCaveValidRow.laid w) (fun _ _ _ hh h => h.of_heap hh) own started (by kernel_rfl) Tryd.func6
    (ChangeSpec.witness_shaped (enc := enc) (C := Tryd.checked) (os := os) (X := fun w _ => laidMetH Tryd.prog Rows.fnCaveValidRow.laid w) false (World.doorLaid Tryd.prog 24 os) #[.slice none 0 0] 8 rfl (World.shaped_of_RefB (by kernel_rfl) (by kernel_rfl)) (by kernel_rfl) (by kernel_rfl) (by kernel_rfl)
      (laidMetH_of_parts3 (fuel := 8) (laidMet_of_run' 8 (by kernel_rfl) (by kernel_rfl)) (by kernel_rfl) (by kernel_rfl))) ?_
  intro W base args ds gs before hval0 hW _ _ hL _
  have hval : ∀ (j : Nat) t v, Tryd.f6.params[j]? = some t → args[j]? = some v → Value.okWide Tryd.prog W .any base t v := hval0
  have hW' := hW
  obtain ⟨p, q, hA0, hV, rfl, hfz, hnd⟩ := hW
  have hA : DataW.TrodAll enc Tryd.prog W 0 (fun _ => true) true Tryd.f6.params.toList args.toList ds p := hA0
  rw [Tryd.params6] at hA hval
  obtain ⟨v0, vs0, d0, ds0, p0, q0, hargs, rfl, rfl, h0, r0⟩ := trodAll_cons hA
  obtain ⟨rfl, rfl, rfl⟩ := trodAll_nil r0
  obtain rfl : args = #[v0] := by cases args; simp_all
  obtain ⟨rfl, rfl⟩ := trodVars_none hV
  have k0 := h0
  obtain ⟨m0, hm0⟩ := k0
  have lt0 : ∀ x ∈ p0, x.block < W.heap.size := DataW.trod_lt m0 _ _ _ hm0
  obtain ⟨a0, len0, cap0, rfl⟩ := okWide_slice Tryd.underlying22 (hval 0 22 v0 rfl rfl)
  obtain ⟨A0, n0, c0, y0, hv0, hp0, hn0, hl0⟩ := open_Bytes (v := .slice a0 len0 cap0) Tryd.underlying22 Tryd.underlying5 (by kernel_rfl) hm0
  simp only [Value.slice.injEq] at hv0
  obtain ⟨rfl, rfl, rfl⟩ := hv0
  clear hA0 hval0
  have htab := tab_of_laid hL
  refine (FnCaveValid_walk _ _ _ y0 W htab hp0 hn0 hl0).mono fun e W' ⟨he, bel⟩ => ?_
  subst he
  exact ⟨_, rfl, _, _, _, [], _, [], hW', trodAll_mk1 (shut_bool Tryd.underlying4 _), (trodAll_cons_mk (Below.trod laidOut (by kernel_rfl) (of_decide_eq_true (by kernel_rfl)) h0 bel lt0) trodAll_mk0), rfl, bel.frame _, fun h => by cases h⟩

theorem FnCaveValid_row : Rows.FnCaveValidSaid :=
  OpenClaim.holds_of_wide 6 Tryd.f6 rfl rfl rfl rfl rfl rfl rfl ⟨rfl, rfl, rfl, rfl, rfl⟩ rfl rfl rfl rfl rfl (by kernel_rfl) Tryd.func6 (by kernel_rfl)
    (of_decide_eq_true (by kernel_rfl)) (by unfold Func.isWrapper; first | (rw [if_pos (by decide +kernel)]; kernel_rfl) | (rw [if_neg (by decide +kernel)]; exact ⟨rfl, rfl⟩))
    (fun os started H enc _ => FnCaveValid_lifted os started H enc)
theorem FnCaveValid_holds : Rows.FnCaveValidCardSaid :=
  Claim7.holds_tied_plain_at .later [] [.data, .data, .data] true (true, "a5a7d22d484212bf2246ed34c495e7e4937a4be0a82855a3527b2b559f36e5e1") false
    FnCaveValid_row (fun _ h => by cases h) (by kernel_rfl) (fun _ h => by cases h) fnCaveValid_row_tie rfl ⟨rfl, rfl⟩ (by kernel_rfl) rfl
    (fun f fn hf hfn => by
      obtain rfl : f = 6 := Option.some.inj ((show Tryd.prog.funcNamed "loop.example/cavesurvey/laws.FnCaveValid" = some 6 by kernel_rfl).symm.trans hf) |>.symm
      obtain rfl : fn = Tryd.f6 := (Option.some.inj (Tryd.func6.symm.trans hfn)).symm
      exact ⟨by kernel_rfl, fun j t ht => by
        rw [Tryd.params6] at ht
        have hm : t ∈ [22] := by simpa using Array.mem_of_getElem? ht
        have hall : ([22].all fun u => !Tryd.prog.wantsStandIn u) = true := by kernel_rfl
        exact (show Tryd.prog.wantsStandIn t = false by simpa using List.all_eq_true.1 hall t hm)⟩)
    (by kernel_rfl)
#print axioms FnCaveValid_holds
end Go.Proofs.YtahbfifnpceoeaaDoor
