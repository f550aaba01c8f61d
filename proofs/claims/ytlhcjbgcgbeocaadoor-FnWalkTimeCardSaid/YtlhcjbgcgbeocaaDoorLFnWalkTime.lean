/- FnWalkTime: times are distances. -/
import Derived.Test.YtlhcjbgcgbeocaaDoorLaw
import Derived.Test.YtlhcjbgcgbeocaaDoorWtHi
namespace Go.Proofs.YtlhcjbgcgbeocaaDoor
open Go.ChangeShapes Go.WideShapes Go.ChangeAt Go.RowKit

set_option maxRecDepth 20000 in
theorem FnWalkTime_walk (A : Option Addr) (n c0 : Nat) (y : Nat → Int) (w : World) (htab : Pow10 w) (hx : Bytes w A n y) (hn : n ≤ c0) (hy : ∀ j, 0 ≤ y j ∧ y j < 256) :
    Calls Tryd.prog 4 #[.slice A n c0] w (RetV (.bool true) w) := by
  by_cases hbig : (n : Int) > 1048576
  · go_enter Tryd.func4, Tryd.ntmps4
    go_wp2
    go_ret
    exact ⟨rfl, Below.refl _ _⟩
  · go_enter Tryd.func4, Tryd.ntmps4
    go_wp2_with fail
    refine (DrawWalkTime_any A n c0 y w hx hy hn).mono ?_
    rintro e w1 ⟨P, Q, D, c, d, f, t, rfl, hD, hf, ht⟩
    have hs := hD.small
    have hm := hD.sm
    have hsp := hD.sp
    have H1 := hid (LwI.start (d := d) htab hD rfl)
    clear hx hD htab
    go_wp2_with fail
    generalize w1.alloc (.cells #[.int .i64 D.s, .slice P D.m c, .slice Q D.k d] 26) = w2 at H1 ⊢
    generalize w1.heap.size = X at H1 ⊢
    refine (WalkTime_implV P Q D c d f t _ H1.out.srch hs).mono ?_
    rintro e w3 ⟨rfl, hb3⟩
    have H3 := hid (H1.out.then_ hb3)
    clear hb3 H1
    have y0 := H3.out.box.cell (i := 0) rfl
    have y1 := H3.out.box.cell (i := 1) rfl
    have y2 := H3.out.box.cell (i := 2) rfl
    go_wp2_with fail
    refine (WalkTime_specV P Q D c d f t _ H3.out.srch hs).mono ?_
    rintro e w4 ⟨rfl, hb4⟩
    have H4 := hid (H3.out.then_ hb4)
    clear hb4 H3 y0 y1 y2
    have hr0 : (wtF D f t != wtF D f t) = false := by simp
    have y0 := H4.out.box.cell (i := 0) rfl
    have y1 := H4.out.box.cell (i := 1) rfl
    have y2 := H4.out.box.cell (i := 2) rfl
    go_wp2_with fail
    refine (WalkTime_implV P Q D c d t f _ H4.out.srch hs).mono ?_
    rintro e w5 ⟨rfl, hb5⟩
    have H5 := hid (H4.out.then_ hb5)
    clear hb5 H4 y0 y1 y2
    have hsy := wtF_symm D f t
    have hlo := (wtF_spec D f t).lo
    have hr1 : (wtF D f t != wtF D t f) = false := by rw [hsy]; simp
    by_cases hneg : wtF D f t < 0
    · have hr2 : wtF D f t = -1 := by omega
      go_wp2_with fail
      refine (alive_any _ H5.out.tab).mono ?_
      rintro e w6 ⟨rfl, hb6⟩
      go_wp2
      go_ret
      exact ⟨rfl, (H5.out.then_ hb6).bel⟩
    · have hok := hid (wtF_ok (D := D) (f := f) (t := t) (by omega))
      have hz := hid (wtF_zero (D := D) (f := f) (t := t) (by omega))
      go_wp2
      clear hsy hr1 hr0
      generalize hX : wtF D f t = x at *
      go_loopw [7] (fun i wr => ∃ k : Nat, (k : Int) ≤ D.s ∧ i = .int .i64 k ∧ Hid (LwI w X P Q D c d wr)) (fun i _ => 20 - (intOf i).toNat)
      case atStart => exact ⟨0, by have := hok.out.1.1; omega, rfl, H5⟩
      case round =>
        clear H5
        obtain ⟨k, hk, rfl, HX⟩ := hrel
        have y0 := HX.out.box.cell (i := 0) rfl
        have y1 := HX.out.box.cell (i := 1) rfl
        have y2 := HX.out.box.cell (i := 2) rfl
        by_cases hlt : (k : Int) < D.s
        · go_wp2_with fail
          refine (WalkTime_implV P Q D c d f k _ HX.out.srch hs).mono ?_
          rintro e w6 ⟨rfl, hb6⟩
          have H6 := hid (HX.out.then_ hb6)
          clear hb6 HX y0 y1 y2
          have y0 := H6.out.box.cell (i := 0) rfl
          have y1 := H6.out.box.cell (i := 1) rfl
          have y2 := H6.out.box.cell (i := 2) rfl
          go_wp2_with fail
          refine (WalkTime_implV P Q D c d k t _ H6.out.srch hs).mono ?_
          rintro e w7 ⟨rfl, hb7⟩
          have H7 := hid (H6.out.then_ hb7)
          clear hb7 H6 y0 y1 y2
          have htri := fun h h' => wtF_tri (D := D) (f := f) (k := k) (t := t) h h'
          have hhi1 := wtF_hi D f k
          have hhi2 := wtF_hi D k t
          rw [hX] at htri
          have htri := hid htri
          by_cases h1 : 0 ≤ wtF D f k
          · by_cases h2 : 0 ≤ wtF D k t
            · have h3 := htri.out h1 h2
              go_wp2
              go_roundw
              case rel => exact ⟨k + 1, by omega, by go_num, H7⟩
              case measure => simp [intOf] <;> omega
            · go_wp2
              go_roundw
              case rel => exact ⟨k + 1, by omega, by go_num, H7⟩
              case measure => simp [intOf] <;> omega
          · go_wp2
            go_roundw
            case rel => exact ⟨k + 1, by omega, by go_num, H7⟩
            case measure => simp [intOf] <;> omega
        · go_wp2
          clear hneg hlo y0 y1 y2
          go_loopw [10] (fun i wr => ∃ k : Nat, k ≤ D.m ∧ i = .int .i64 k ∧ Hid (LwI w X P Q D c d wr)) (fun i _ => 21 - (intOf i).toNat)
          case atStart => exact ⟨0, by omega, rfl, HX⟩
          case round =>
            clear HX
            obtain ⟨k, hk, rfl, HX⟩ := hrel
            have y0 := HX.out.box.cell (i := 0) rfl
            have y1 := HX.out.box.cell (i := 1) rfl
            have y2 := HX.out.box.cell (i := 2) rfl
            by_cases hlt : k < D.m
            · have hltz : (k : Int) < (D.m : Int) := by omega
              obtain ⟨bp, op, hP, hpc⟩ := HX.out.srch.pas (by omega)
              obtain ⟨p1, p2, p3⟩ := hpc k hlt
              have he := wtF_edge hok.out.1 hlt
              subst hP
              have hlX := HX.out.box.lt
              have hnX : X ≠ wr.heap.size := by omega
              have hnX' : wr.heap.size ≠ X := by omega
              have hr1' := hid (HX.out.then_ (Joins.below_alloc1 wr (.cells #[.int .i64 (D.a k), .int .i64 (D.b k), .int .i64 (D.t k)] 31)))
              have hpB := hid (Blk.new wr 31 #[.int .i64 (D.a k), .int .i64 (D.b k), .int .i64 (D.t k)])
              go_wp2_with fail
              refine (WalkTime_implV _ Q D c d (D.a k) (D.b k) _ hr1'.out.srch hs).mono ?_
              rintro e w6 ⟨rfl, hb6⟩
              have H6 := hid (hr1'.out.then_ hb6)
              have q0 := (hpB.out.below hb6).cell (i := 0) rfl
              have q1 := (hpB.out.below hb6).cell (i := 1) rfl
              have q2 := (hpB.out.below hb6).cell (i := 2) rfl
              obtain ⟨he1, he2⟩ := he
              have hd1 : decide (wtF D (D.a k) (D.b k) < 0) = false := decide_eq_false (by omega)
              have hd2 : decide (D.t k < wtF D (D.a k) (D.b k)) = false := decide_eq_false (by omega)
              clear hb6 y0 y1 y2 HX hr1' hpB
              go_wp2
              go_roundw
              case rel => exact ⟨k + 1, by omega, by go_num, H6⟩
              case measure => simp [intOf] <;> omega
            · have hke : k = D.m := by omega
              subst hke
              go_wp2
              go_ret
              exact ⟨congrArg (fun b => Ending.returned (.bool b)) (beq_beq hz.out), HX.out.bel⟩

set_option maxRecDepth 100000 in
theorem FnWalkTime_lifted (os : Os) (started : os.Started) (H : Type) (enc : TypeId × Value → H) :
    ReturnsInHanded {} Tryd.checked os 4 .any (fun w args => (Rows.fnWalkTimeSpec.pre enc Tryd.prog Tryd.f4 [] false w args ∧ laidMetH Tryd.prog Rows.fnWalkTimeRow.laid w) ∧ sizedMet enc Tryd.prog Tryd.f4 (OpenSpec.ofChange Rows.fnWalkTimeSpec) false w args)
      (Rows.fnWalkTimeSpec.post enc Tryd.prog Tryd.f4 false true false false) := by
  refine returnsInHanded_of_change_and (C := Tryd.checked) (X := fun w _ => laidMetH Tryd.prog Rows.fnWalkTimeRow.laid w) (fun _ _ _ hh h => h.of_heap hh) own started (by kernel_rfl) Tryd.func4
    (ChangeSpec.witness_shaped (enc := enc) (C := Tryd.checked) (os := os) (X := fun w _ => laidMetH Tryd.prog Rows.fnWalkTimeRow.laid w) false (World.doorLaid Tryd.prog 24 os) #[.slice none 0 0] 8 rfl (World.shaped_of_RefB (by kernel_rfl) (by kernel_rfl)) (by kernel_rfl) (by kernel_rfl) (by kernel_rfl)
      (laidMetH_of_parts3 (fuel := 8) (laidMet_of_run' 8 (by kernel_rfl) (by kernel_rfl)) (by kernel_rfl) (by kernel_rfl))) ?_
  intro W base args ds gs before hval0 hW _ _ hL _
  have hval : ∀ (j : Nat) t v, Tryd.f4.params[j]? = some t → args[j]? = some v → Value.okWide Tryd.prog W .any base t v := hval0
  have hW' := hW
  obtain ⟨p, q, hA0, hV, rfl, hfz, hnd⟩ := hW
  have hA : DataW.TrodAll enc Tryd.prog W 0 (fun _ => true) true Tryd.f4.params.toList args.toList ds p := hA0
  rw [Tryd.params4] at hA hval
  obtain ⟨v0, vs0, d0, ds0, p0, q0, hargs, rfl, rfl, h0, r0⟩ := trodAll_cons hA
  obtain ⟨rfl, rfl, rfl⟩ := trodAll_nil r0
  obtain rfl : args = #[v0] := by cases args; simp_all
  obtain ⟨rfl, rfl⟩ := trodVars_none hV
  have k0 := h0
  obtain ⟨m0, hm0⟩ := k0
  have lt0 : ∀ x ∈ p0, x.block < W.heap.size := DataW.trod_lt m0 _ _ _ hm0
  obtain ⟨a0, len0, cap0, rfl⟩ := okWide_slice Tryd.underlying22 (hval 0 22 v0 rfl rfl)
  obtain ⟨A0, n0, c0, y0, hv0, hp0, hn0, hl0⟩ := open_Bytes (v := .slice a0 len0 cap0) Tryd.underlying22 Tryd.underlying5 (by kernel_rfl) hm0
  simp only [Value.slice.injEq] at hv0
  obtain ⟨rfl, rfl, rfl⟩ := hv0
  clear hA0 hval0
  have htab := tab_of_laid hL
  refine (FnWalkTime_walk _ _ _ y0 W htab hp0 hn0 hl0).mono fun e W' ⟨he, bel⟩ => ?_
  subst he
  exact ⟨_, rfl, _, _, _, [], _, [], hW', trodAll_mk1 (shut_bool Tryd.underlying4 _), (trodAll_cons_mk (Below.trod laidOut (by kernel_rfl) (of_decide_eq_true (by kernel_rfl)) h0 bel lt0) trodAll_mk0), rfl, bel.frame _, fun h => by cases h⟩

theorem FnWalkTime_row : Rows.FnWalkTimeSaid :=
  OpenClaim.holds_of_wide 4 Tryd.f4 rfl rfl rfl rfl rfl rfl rfl ⟨rfl, rfl, rfl, rfl, rfl⟩ rfl rfl rfl rfl rfl (by kernel_rfl) Tryd.func4 (by kernel_rfl)
    (of_decide_eq_true (by kernel_rfl)) (by unfold Func.isWrapper; first | (rw [if_pos (by decide +kernel)]; kernel_rfl) | (rw [if_neg (by decide +kernel)]; exact ⟨rfl, rfl⟩))
    (fun os started H enc _ => FnWalkTime_lifted os started H enc)
theorem FnWalkTime_holds : Rows.FnWalkTimeCardSaid :=
  Claim7.holds_tied_plain_at .later [] [.data, .data, .data] true (true, "9a40d749f94adb9d5418125119b5fe0381ba681992067a3458f9e82ceadcb754") false
    FnWalkTime_row (fun _ h => by cases h) (by kernel_rfl) (fun _ h => by cases h) fnWalkTime_row_tie rfl ⟨rfl, rfl⟩ (by kernel_rfl) rfl
    (fun f fn hf hfn => by
      obtain rfl : f = 4 := Option.some.inj ((show Tryd.prog.funcNamed "loop.example/cavesurvey/laws.FnWalkTime" = some 4 by kernel_rfl).symm.trans hf) |>.symm
      obtain rfl : fn = Tryd.f4 := (Option.some.inj (Tryd.func4.symm.trans hfn)).symm
      exact ⟨by kernel_rfl, fun j t ht => by
        rw [Tryd.params4] at ht
        have hm : t ∈ [22] := by simpa using Array.mem_of_getElem? ht
        have hall : ([22].all fun u => !Tryd.prog.wantsStandIn u) = true := by kernel_rfl
        exact (show Tryd.prog.wantsStandIn t = false by simpa using List.all_eq_true.1 hall t hm)⟩)
    (by kernel_rfl)
#print axioms FnWalkTime_holds
end Go.Proofs.YtlhcjbgcgbeocaaDoor
