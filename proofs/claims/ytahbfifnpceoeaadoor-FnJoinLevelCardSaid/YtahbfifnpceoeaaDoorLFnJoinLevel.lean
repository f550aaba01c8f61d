/- FnJoinLevel: the lowest way decides, and the lowest sills tell it. -/
import Derived.Test.YtahbfifnpceoeaaDoorLawV
namespace Go.Proofs.YtahbfifnpceoeaaDoor
open Go.ChangeShapes Go.WideShapes Go.ChangeAt Go.RowKit

theorem jlV_symm {D : CaveD} (a b : Int) : jlV D a b = jlV D b a := by
  by_cases h : JlOk D a b
  · have h2 : JlOk D b a := ⟨h.1, h.2.2, h.2.1⟩
    rw [jlV_yes h, jlV_yes h2]
    have := h.2
    exact jlF_symm h.1 (by omega) (by omega)
  · rw [jlV_no h, jlV_no (fun h2 => h ⟨h2.1, h2.2.2, h2.2.1⟩)]

set_option maxRecDepth 20000 in
set_option maxHeartbeats 4000000 in
theorem FnJoinLevel_walk (A : Option Addr) (n c0 : Nat) (y : Nat → Int) (w : World) (htab : Pow10 w) (hx : Bytes w A n y) (hn : n ≤ c0) (hy : ∀ j, 0 ≤ y j ∧ y j < 256) :
    Calls Tryd.prog 13 #[.slice A n c0] w (RetV (.bool true) w) := by
  by_cases hbig : (n : Int) > 1048576
  · go_enter Tryd.func13, Tryd.ntmps13
    go_wp2
    go_ret
    exact ⟨rfl, Below.refl _ _⟩
  · go_enter Tryd.func13, Tryd.ntmps13
    go_wp2_with fail
    refine (DrawJoinLevel_any A n c0 y w hx hy hn).mono ?_
    rintro ex w1 ⟨F, G, S, D, c, d, e, a, b, rfl, hD, ha, hb⟩
    have hs := hD.small
    have hsm := hD.sm
    have H1 := hid (LwC.start (c := c) (d := d) htab hD rfl)
    clear hx hD htab
    go_wp2_with fail
    generalize w1.alloc (.cells #[.slice F D.n c, .slice G D.q d, .slice S D.m e] 26) = w2 at H1 ⊢
    generalize w1.heap.size = X at H1 ⊢

    refine (JoinLevel_implV F G S D c d e a b _ H1.out.cave hs).mono ?_
    rintro ex w3 ⟨rfl, hb'⟩
    have H2 := hid (H1.out.then_ hb')
    clear hb' H1
    have y0 := H2.out.box.cell (i := 0) rfl
    have y1 := H2.out.box.cell (i := 1) rfl
    have y2 := H2.out.box.cell (i := 2) rfl
    have hsy := hid (jlV_symm (D := D) a b)
    have hlo : -1 ≤ jlV D a b ∧ jlV D a b ≤ 40 := by
      by_cases h : JlOk D a b
      · rw [jlV_yes h]; exact jlF_bd _ _
      · rw [jlV_no h]; omega
    go_wp2_with fail
    refine (JoinLevel_specV F G S D c d e a b _ H2.out.cave hs).mono ?_
    rintro ex w4 ⟨rfl, hb'⟩
    have H3 := hid (H2.out.then_ hb')
    clear hb' H2
    have y0 := H3.out.box.cell (i := 0) rfl
    have y1 := H3.out.box.cell (i := 1) rfl
    have y2 := H3.out.box.cell (i := 2) rfl
    have hr0 : (jlV D a b != jlV D a b) = false := by simp
    go_wp2_with fail
    refine (TreeLevel_implV F G S D c d e a b _ H3.out.cave hs).mono ?_
    rintro ex w5 ⟨rfl, hb'⟩
    have H4 := hid (H3.out.then_ hb')
    clear hb' H3
    have y0 := H4.out.box.cell (i := 0) rfl
    have y1 := H4.out.box.cell (i := 1) rfl
    have y2 := H4.out.box.cell (i := 2) rfl
    go_wp2_with fail
    refine (JoinLevel_implV F G S D c d e b a _ H4.out.cave hs).mono ?_
    rintro ex w6 ⟨rfl, hb'⟩
    have HQ5 := hid (H4.out.then_ hb')
    clear hb' H4
    have y0 := HQ5.out.box.cell (i := 0) rfl
    have y1 := HQ5.out.box.cell (i := 1) rfl
    have y2 := HQ5.out.box.cell (i := 2) rfl
    rw [← hsy.out]
    have HV := hid (CaveValid_spec F G S D c d e w6 HQ5.out.cave hs)
    obtain ⟨x, hxx⟩ : ∃ x, jlV D a b = x := ⟨_, rfl⟩
    rw [hxx] at hr0 hlo ⊢
    clear hsy
    by_cases hok : CaveOk D
    · have hxx' := hid hxx
      clear hxx
      go_wp2_with fail
      refine (RetB.yes HV.out hok).mono ?_
      rintro ex w77 ⟨rfl, hb'⟩
      have H5 := hid (HQ5.out.then_ hb')
      clear hb' HQ5
      have y0 := H5.out.box.cell (i := 0) rfl
      have y1 := H5.out.box.cell (i := 1) rfl
      have y2 := H5.out.box.cell (i := 2) rfl
      have hxx := hxx'.out
      clear hxx'
      have HOK := hid hok
      have hn6 := hok.1.2
      clear hok HV
      by_cases a0 : a < 0
      · have d1 : decide (a < 0) = true := decide_eq_true a0
        have hr1 : x = -1 := by rw [← hxx]; exact jlV_no (fun h => by have h1 := h.2.1; omega)
        have e1 : (x == -1) = true := by simp [hr1]
        clear hr1 hxx
        go_wp2_with fail
        refine (alive_any _ H5.out.tab).mono ?_
        rintro ex w7 ⟨rfl, hb7⟩
        go_wp2
        go_ret
        exact ⟨rfl, (H5.out.then_ hb7).bel⟩
      · have d1 : decide (a < 0) = false := decide_eq_false a0
        by_cases b0 : b < 0
        · have d2 : decide (b < 0) = true := decide_eq_true b0
          have hr1 : x = -1 := by rw [← hxx]; exact jlV_no (fun h => by have h1 := h.2.2; omega)
          have e1 : (x == -1) = true := by simp [hr1]
          clear hr1 hxx
          go_wp2_with fail
          refine (alive_any _ H5.out.tab).mono ?_
          rintro ex w7 ⟨rfl, hb7⟩
          go_wp2
          go_ret
          exact ⟨rfl, (H5.out.then_ hb7).bel⟩
        · have d2 : decide (b < 0) = false := decide_eq_false b0
          by_cases a1 : (D.n : Int) ≤ a
          · have d3 : decide ((D.n : Int) ≤ a) = true := decide_eq_true a1
            have hr1 : x = -1 := by rw [← hxx]; exact jlV_no (fun h => by have h1 := h.2.1; omega)
            have e1 : (x == -1) = true := by simp [hr1]
            clear hr1 hxx
            go_wp2_with fail
            refine (alive_any _ H5.out.tab).mono ?_
            rintro ex w7 ⟨rfl, hb7⟩
            go_wp2
            go_ret
            exact ⟨rfl, (H5.out.then_ hb7).bel⟩
          · have d3 : decide ((D.n : Int) ≤ a) = false := decide_eq_false a1
            by_cases b1 : (D.n : Int) ≤ b
            · have d4 : decide ((D.n : Int) ≤ b) = true := decide_eq_true b1
              have hr1 : x = -1 := by rw [← hxx]; exact jlV_no (fun h => by have h1 := h.2.2; omega)
              have e1 : (x == -1) = true := by simp [hr1]
              clear hr1 hxx
              go_wp2_with fail
              refine (alive_any _ H5.out.tab).mono ?_
              rintro ex w7 ⟨rfl, hb7⟩
              go_wp2
              go_ret
              exact ⟨rfl, (H5.out.then_ hb7).bel⟩
            · have d4 : decide ((D.n : Int) ≤ b) = false := decide_eq_false b1
              have HXX := hid hxx
              have HJ : Hid (JlOk D a b) := hid ⟨HOK.out, ⟨by omega, by omega⟩, by omega, by omega⟩
              clear hxx
              go_wp2
              go_loopw [7] (fun i wr => ∃ k : Nat, k ≤ D.n ∧ i = .int .i64 k ∧ Hid (LwC w X F G S D c d e wr)) (fun i _ => D.n - (intOf i).toNat)
              case atStart => exact ⟨0, by omega, rfl, H5⟩
              case round =>
                clear H5 y0 y1 y2
                obtain ⟨k, hk, rfl, HH⟩ := hrel
                have y0 := HH.out.box.cell (i := 0) rfl
                have y1 := HH.out.box.cell (i := 1) rfl
                have y2 := HH.out.box.cell (i := 2) rfl
                by_cases hlt : k < D.n
                · have hltz : (k : Int) < (D.n : Int) := by omega
                  go_wp2_with fail
                  refine (JoinLevel_implV F G S D c d e a (k : Int) _ HH.out.cave hs).mono ?_
                  rintro ex w8 ⟨rfl, hb'⟩
                  have H6 := hid (HH.out.then_ hb')
                  clear hb' HH
                  have y0 := H6.out.box.cell (i := 0) rfl
                  have y1 := H6.out.box.cell (i := 1) rfl
                  have y2 := H6.out.box.cell (i := 2) rfl
                  go_wp2_with fail
                  refine (JoinLevel_implV F G S D c d e (k : Int) b _ H6.out.cave hs).mono ?_
                  rintro ex w9 ⟨rfl, hb'⟩
                  have H7 := hid (H6.out.then_ hb')
                  clear hb' H6
                  have y0 := H7.out.box.cell (i := 0) rfl
                  have y1 := H7.out.box.cell (i := 1) rfl
                  have y2 := H7.out.box.cell (i := 2) rfl
                  obtain ⟨hn0, ⟨ja, jb⟩, jc, jd⟩ := HJ.out
                  have hov : 0 ≤ jlV D a k → 0 ≤ jlV D k b → 0 ≤ x ∧ x ≤ max (jlV D a k) (jlV D k b) := fun h1 h2 => by
                    have o1 : JlOk D a k := ⟨hn0, ⟨ja, jb⟩, by omega, by omega⟩
                    have o2 : JlOk D k b := ⟨hn0, ⟨by omega, by omega⟩, jc, jd⟩
                    rw [jlV_yes o1, Int.toNat_natCast] at h1 ⊢
                    rw [jlV_yes o2, Int.toNat_natCast] at h2 ⊢
                    rw [← HXX.out, jlV_yes HJ.out]
                    exact jlF_over hn0 (by omega) (by omega) hlt h1 h2
                  have HOV := hid hov
                  clear hov hn0
                  generalize jlV D a k = p1 at HOV ⊢
                  generalize jlV D k b = p2 at HOV ⊢
                  by_cases h1 : 0 ≤ p1
                  · have e1 : decide (0 ≤ p1) = true := decide_eq_true h1
                    by_cases h2 : 0 ≤ p2
                    · have e2 : decide (0 ≤ p2) = true := decide_eq_true h2
                      obtain ⟨o1, o2⟩ := HOV.out h1 h2
                      have e3 : decide (x < 0) = false := decide_eq_false (by omega)
                      by_cases hpq : p1 < p2
                      · have e4 : decide (p2 < x) = false := decide_eq_false (by omega)
                        go_wp2
                        go_roundw
                        case rel => exact ⟨k + 1, by omega, by go_num, H7⟩
                        case measure => simp [intOf] <;> omega
                      · have e4 : decide (p1 < x) = false := decide_eq_false (by omega)
                        go_wp2
                        go_roundw
                        case rel => exact ⟨k + 1, by omega, by go_num, H7⟩
                        case measure => simp [intOf] <;> omega
                    · have e2 : decide (0 ≤ p2) = false := decide_eq_false h2
                      go_wp2
                      go_roundw
                      case rel => exact ⟨k + 1, by omega, by go_num, H7⟩
                      case measure => simp [intOf] <;> omega
                  · have e1 : decide (0 ≤ p1) = false := decide_eq_false h1
                    go_wp2
                    go_roundw
                    case rel => exact ⟨k + 1, by omega, by go_num, H7⟩
                    case measure => simp [intOf] <;> omega
                · have : k = D.n := by omega
                  subst this
                  have e5 : decide (x ≤ 40) = true := decide_eq_true hlo.2
                  go_wp2
                  go_ret
                  exact ⟨rfl, HH.out.bel⟩
    · have HN := hid hok
      have hxx' := hid hxx
      clear hxx hok
      go_wp2_with fail
      refine (RetB.no HV.out HN.out).mono ?_
      rintro ex w77 ⟨rfl, hb'⟩
      have H5 := hid (HQ5.out.then_ hb')
      clear hb' HQ5
      have y0 := H5.out.box.cell (i := 0) rfl
      have y1 := H5.out.box.cell (i := 1) rfl
      have y2 := H5.out.box.cell (i := 2) rfl
      have hxx := hxx'.out
      have hr1 : x = -1 := by rw [← hxx]; exact jlV_no (fun h => HN.out h.1)
      have e1 : (x == -1) = true := by simp [hr1]
      clear hr1 hxx
      go_wp2_with fail
      refine (alive_any _ H5.out.tab).mono ?_
      rintro ex w7 ⟨rfl, hb7⟩
      go_wp2
      go_ret
      exact ⟨rfl, (H5.out.then_ hb7).bel⟩

set_option maxRecDepth 100000 in
theorem FnJoinLevel_lifted (os : Os) (started : os.Started) (H : Type) (enc : TypeId × Value → H) :
    ReturnsInHanded {} Tryd.checked os 13 .any (fun w args => (Rows.fnJoinLevelSpec.pre enc Tryd.prog Tryd.f13 [] false w args ∧ laidMetH Tryd.prog Rows.fnJoinLevelRow.laid w) ∧ sizedMet enc Tryd.prog Tryd.f13 (OpenSpec.ofChange Rows.fnJoinLevelSpec) false w args)
      (Rows.fnJoinLevelSpec.post enc Tryd.prog Tryd.f13 false true false false) := by
  refine returnsInHanded_of_change_and (C := Tryd.checked) (X := fun w _ => laidMetH Tryd.prog Rows.fnJoinLevelRow.laid w) (fun _ _ _ hh h => h.of_heap hh) own started (by kernel_rfl) Tryd.func13
    (ChangeSpec.witness_shaped (enc := enc) (C := Tryd.checked) (os := os) (X := fun w _ => laidMetH Tryd.prog Rows.fnJoinLevelRow.laid w) false (World.doorLaid Tryd.prog 24 os) #[.slice none 0 0] 8 rfl (World.shaped_of_RefB (by kernel_rfl) (by kernel_rfl)) (by kernel_rfl) (by kernel_rfl) (by kernel_rfl)
      (laidMetH_of_parts3 (fuel := 8) (laidMet_of_run' 8 (by kernel_rfl) (by kernel_rfl)) (by kernel_rfl) (by kernel_rfl))) ?_
  intro W base args ds gs before hval0 hW _ _ hL _
  have hval : ∀ (j : Nat) t v, Tryd.f13.params[j]? = some t → args[j]? = some v → Value.okWide Tryd.prog W .any base t v := hval0
  have hW' := hW
  obtain ⟨p, q, hA0, hV, rfl, hfz, hnd⟩ := hW
  have hA : DataW.TrodAll enc Tryd.prog W 0 (fun _ => true) true Tryd.f13.params.toList args.toList ds p := hA0
  rw [Tryd.params13] at hA hval
  obtain ⟨v0, vs0, d0, ds0, p0, q0, hargs, rfl, rfl, h0, r0⟩ := trodAll_cons hA
  obtain ⟨rfl, rfl, rfl⟩ := trodAll_nil r0
  obtain rfl : args = #[v0] := by cases args; simp_all
  obtain ⟨rfl, rfl⟩ := trodVars_none hV
  have k0 := h0
  obtain ⟨m0, hm0⟩ := k0
  have lt0 : ∀ x ∈ p0, x.block < W.heap.size := DataW.trod_lt m0 _ _ _ hm0
  obtain ⟨a0, len0, cap0, rfl⟩ := okWide_slice Tryd.underlying22 (hval 0 22 v0 rfl rfl)
  obtain ⟨A0, n0, c0, y0, hv0, hp0, hn0, hl0⟩ := open_Bytes (v := .slice a0 len0 cap0) Tryd.underlying22 Tryd.underlying5 (by kernel_rfl) hm0
  simp only [Value.slice.injEq] at hv0
  obtain ⟨rfl, rfl, rfl⟩ := hv0
  clear hA0 hval0
  have htab := tab_of_laid hL
  refine (FnJoinLevel_walk _ _ _ y0 W htab hp0 hn0 hl0).mono fun e W' ⟨he, bel⟩ => ?_
  subst he
  exact ⟨_, rfl, _, _, _, [], _, [], hW', trodAll_mk1 (shut_bool Tryd.underlying4 _), (trodAll_cons_mk (Below.trod laidOut (by kernel_rfl) (of_decide_eq_true (by kernel_rfl)) h0 bel lt0) trodAll_mk0), rfl, bel.frame _, fun h => by cases h⟩

theorem FnJoinLevel_row : Rows.FnJoinLevelSaid :=
  OpenClaim.holds_of_wide 13 Tryd.f13 rfl rfl rfl rfl rfl rfl rfl ⟨rfl, rfl, rfl, rfl, rfl⟩ rfl rfl rfl rfl rfl (by kernel_rfl) Tryd.func13 (by kernel_rfl)
    (of_decide_eq_true (by kernel_rfl)) (by unfold Func.isWrapper; first | (rw [if_pos (by decide +kernel)]; kernel_rfl) | (rw [if_neg (by decide +kernel)]; exact ⟨rfl, rfl⟩))
    (fun os started H enc _ => FnJoinLevel_lifted os started H enc)
theorem FnJoinLevel_holds : Rows.FnJoinLevelCardSaid :=
  Claim7.holds_tied_plain_at .later [] [.data, .data, .data] true (true, "a5a7d22d484212bf2246ed34c495e7e4937a4be0a82855a3527b2b559f36e5e1") false
    FnJoinLevel_row (fun _ h => by cases h) (by kernel_rfl) (fun _ h => by cases h) fnJoinLevel_row_tie rfl ⟨rfl, rfl⟩ (by kernel_rfl) rfl
    (fun f fn hf hfn => by
      obtain rfl : f = 13 := Option.some.inj ((show Tryd.prog.funcNamed "loop.example/cavesurvey/laws.FnJoinLevel" = some 13 by kernel_rfl).symm.trans hf) |>.symm
      obtain rfl : fn = Tryd.f13 := (Option.some.inj (Tryd.func13.symm.trans hfn)).symm
      exact ⟨by kernel_rfl, fun j t ht => by
        rw [Tryd.params13] at ht
        have hm : t ∈ [22] := by simpa using Array.mem_of_getElem? ht
        have hall : ([22].all fun u => !Tryd.prog.wantsStandIn u) = true := by kernel_rfl
        exact (show Tryd.prog.wantsStandIn t = false by simpa using List.all_eq_true.1 hall t hm)⟩)
    (by kernel_rfl)
#print axioms FnJoinLevel_holds
end Go.Proofs.YtahbfifnpceoeaaDoor
