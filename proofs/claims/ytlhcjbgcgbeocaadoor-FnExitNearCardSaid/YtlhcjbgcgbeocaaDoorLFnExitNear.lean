/- FnExitNear: no exit is nearer. -/
import Derived.Test.YtlhcjbgcgbeocaaDoorLaw
import Derived.Test.YtlhcjbgcgbeocaaDoorFnW
import Derived.Test.YtlhcjbgcgbeocaaDoorExit3
namespace Go.Proofs.YtlhcjbgcgbeocaaDoor
open Go.ChangeShapes Go.WideShapes Go.ChangeAt Go.RowKit

theorem hasInt_any (A : Option Addr) (n c : Nat) (x : Nat → Int) (v : Int) (w : World) (hx : Ints w A n x) (hn : n ≤ 1048576) :
    Calls Tryd.prog 23 #[.slice A n c, .int .i64 v] w (RetB (∃ j, j < n ∧ x j = v) w) := by
  go_enter Tryd.func23, Tryd.ntmps23
  go_wp2
  go_loop [5] (fun i => ∃ k : Nat, k ≤ n ∧ i = .int .i64 k ∧ (∀ j, j < k → x j ≠ v)) (fun i => n - (intOf i).toNat)
  case atStart => exact ⟨0, by omega, rfl, fun j hj => absurd hj (by omega)⟩
  case round =>
    obtain ⟨k, hk, rfl, hall⟩ := hrel
    have HA := hid hall
    clear hall
    by_cases hlt : k < n
    · obtain ⟨b, o, rfl, hc⟩ := hx (by omega)
      have c1 := hc k hlt
      have hltz : (k : Int) < (n : Int) := by omega
      clear hc hx
      by_cases he : x k = v
      · have he' : (x k == v) = true := by simp [he]
        go_wp2
        go_ret
        exact .mk_t ⟨k, hlt, he⟩ (Below.refl _ _) rfl
      · have he' : (x k == v) = false := by simp [he]
        have HE := hid he
        clear he
        go_wp2
        go_round
        case rel => exact ⟨k + 1, by omega, by go_num, fun j hj => by
          by_cases e : j = k
          · subst e; exact HE.out
          · exact HA.out j (by omega)⟩
        case measure => simp [intOf]; omega
    · have : k = n := by omega
      subst this
      go_wp2
      go_ret
      exact .mk_f (fun ⟨j, h1, h2⟩ => HA.out j h1 h2) (Below.refl _ _) rfl

set_option maxRecDepth 20000 in
theorem FnExitNear_walk (A : Option Addr) (n c0 : Nat) (y : Nat → Int) (w : World) (htab : Pow10 w) (hx : Bytes w A n y) (hn : n ≤ c0) (hy : ∀ j, 0 ≤ y j ∧ y j < 256) :
    Calls Tryd.prog 5 #[.slice A n c0] w (RetV (.bool true) w) := by
  by_cases hbig : (n : Int) > 1048576
  · go_enter Tryd.func5, Tryd.ntmps5
    go_wp2
    go_ret
    exact ⟨rfl, Below.refl _ _⟩
  · go_enter Tryd.func5, Tryd.ntmps5
    go_wp2_with fail
    refine (DrawExitNear_any A n c0 y w hx hy hn).mono ?_
    rintro e w1 ⟨P, Q, D, c, d, f, A2, n2, c2, x, rfl, hD, hf, hi, hn2, hxb⟩
    have hs := hD.small
    have hm := hD.sm
    have hsp := hD.sp
    have HI1 := hid hi
    have H1 := hid (LwI.start (d := d) htab hD rfl)
    clear hx hD htab hxb
    go_wp2_with fail
    have HI2 := hid (HI1.out.alloc (.cells #[.int .i64 D.s, .slice P D.m c, .slice Q D.k d] 26))
    clear hi HI1
    generalize w1.alloc (.cells #[.int .i64 D.s, .slice P D.m c, .slice Q D.k d] 26) = w2 at H1 HI2 ⊢
    generalize w1.heap.size = X at H1 ⊢
    refine (ExitNear_impl P Q D c d f A2 n2 c2 x _ H1.out.srch hs HI2.out (by omega)).mono ?_
    rintro e w3 ⟨rfl, hb3⟩
    have H3 := hid (H1.out.then_ hb3)
    have HI3 := hid (HI2.out.below hb3)
    clear hb3 H1 HI2
    have y0 := H3.out.box.cell (i := 0) rfl
    have y1 := H3.out.box.cell (i := 1) rfl
    have y2 := H3.out.box.cell (i := 2) rfl
    go_wp2_with fail
    refine (ExitNear_spec P Q D c d f A2 n2 c2 x _ H3.out.srch hs HI3.out (by omega)).mono ?_
    rintro e w4 ⟨rfl, hb4⟩
    have H4 := hid (H3.out.then_ hb4)
    have HI4 := hid (HI3.out.below hb4)
    clear hb4 H3 HI3 y0 y1 y2
    have hr0 : ((nearF D f x n2).1 != (nearF D f x n2).1) = false := by simp
    have hr1 : ((nearF D f x n2).2 != (nearF D f x n2).2) = false := by simp
    rcases nearF_lo D f x n2 with hne | ⟨hok, j, hj, hne, hj0⟩
    · rw [hne] at hr0 hr1 ⊢
      go_wp2_with fail
      refine (alive_any _ H4.out.tab).mono ?_
      rintro e w5 ⟨rfl, hb5⟩
      go_wp2
      go_ret
      exact ⟨rfl, (H4.out.then_ hb5).bel⟩
    · have HL : Hid (∀ i, i < n2 → 0 ≤ wtF D f (x i) → wtF D f (x j) ≤ wtF D f (x i)) := hid (fun i hi h0 => by have := nearF_least hok hi h0; rw [hne] at this; exact this)
      rw [hne] at hr0 hr1 ⊢
      have HOK := hid hok
      have hxj := hok.2.2 j hj
      obtain ⟨hxj0, _⟩ := hxj
      clear hok hne
      go_wp2
      go_loopw [10] (fun i wr => ∃ k : Nat, k ≤ n2 ∧ i = .int .i64 k ∧ Hid (LwI w X P Q D c d wr) ∧ Hid (Ints wr A2 n2 x)) (fun i _ => n2 - (intOf i).toNat)
      case atStart => exact ⟨0, by omega, rfl, H4, HI4⟩
      case round =>
        clear H4 HI4
        obtain ⟨k, hk, rfl, HX, HI⟩ := hrel
        by_cases hlt : k < n2
        · obtain ⟨bi, oi, hA2, hic⟩ := HI.out (by omega)
          subst hA2
          have hltz : (k : Int) < (n2 : Int) := by omega
          have s0 := sub_cell (HX.out.box.cell (i := 0) rfl)
          have s1 := sub_cell (HX.out.box.cell (i := 1) rfl)
          have s2 := sub_cell (HX.out.box.cell (i := 2) rfl)
          have s3 := sub_cell (hic k hlt)
          have HXV : Hid (∀ s : Sub wr, SrchAt s.val P Q D) := hid (fun s => HX.out.srch.below s.h)
          clear hic
          go_wp2
          refine wp_region_sub (by kernel_rfl) (by kernel_rfl) ?_
          repeat (go_big_quiet_step ((go_at_call 18; exact RetV.sub (WalkTime_implV P Q D c d f (x k) _ (HXV.out _) hs))))
          refine wpQuiet_nil ?_
          intro _ hw'
          obtain ⟨s, hw''⟩ := hw'
          subst hw''
          have H5 := hid (HX.out.then_ s.h)
          have HI5 := hid (HI.out.below s.h)
          clear s0 s1 s2 s3 HX HI HXV
          have hle := HL.out k hlt
          by_cases hw0 : 0 ≤ wtF D f (x k)
          · have hle' := hle hw0
            go_wp2
            go_roundw
            case rel => exact ⟨k + 1, by omega, by go_num, H5, HI5⟩
            case measure => simp [intOf] <;> omega
          · clear hle
            go_wp2
            go_roundw
            case rel => exact ⟨k + 1, by omega, by go_num, H5, HI5⟩
            case measure => simp [intOf] <;> omega
        · have hke : k = n2 := by omega
          subst hke
          go_wp2_with fail
          refine (RetB.yes (hasInt_any A2 k c2 x (x j) _ HI.out (by omega)) ⟨j, hj, rfl⟩).mono ?_
          rintro e w6 ⟨rfl, hb6⟩
          have H6 := hid (HX.out.then_ hb6)
          clear hb6 HX HI
          have y0 := H6.out.box.cell (i := 0) rfl
          have y1 := H6.out.box.cell (i := 1) rfl
          have y2 := H6.out.box.cell (i := 2) rfl
          go_wp2_with fail
          refine (WalkTime_implV P Q D c d f (x j) _ H6.out.srch hs).mono ?_
          rintro e w7 ⟨rfl, hb7⟩
          have he : (wtF D f (x j) == wtF D f (x j)) = true := by simp
          go_wp2
          go_ret
          exact ⟨rfl, (H6.out.then_ hb7).bel⟩

set_option maxRecDepth 100000 in
theorem FnExitNear_lifted (os : Os) (started : os.Started) (H : Type) (enc : TypeId × Value → H) :
    ReturnsInHanded {} Tryd.checked os 5 .any (fun w args => (Rows.fnExitNearSpec.pre enc Tryd.prog Tryd.f5 [] false w args ∧ laidMetH Tryd.prog Rows.fnExitNearRow.laid w) ∧ sizedMet enc Tryd.prog Tryd.f5 (OpenSpec.ofChange Rows.fnExitNearSpec) false w args)
      (Rows.fnExitNearSpec.post enc Tryd.prog Tryd.f5 false true false false) := by
  refine returnsInHanded_of_change_and (C := Tryd.checked) (X := fun w _ => laidMetH Tryd.prog Rows.fnExitNearRow.laid w) (fun _ _ _ hh h => h.of_heap hh) own started (by kernel_rfl) Tryd.func5
    (ChangeSpec.witness_shaped (enc := enc) (C := Tryd.checked) (os := os) (X := fun w _ => laidMetH Tryd.prog Rows.fnExitNearRow.laid w) false (World.doorLaid Tryd.prog 24 os) #[.slice none 0 0] 8 rfl (World.shaped_of_RefB (by kernel_rfl) (by kernel_rfl)) (by kernel_rfl) (by kernel_rfl) (by kernel_rfl)
      (laidMetH_of_parts3 (fuel := 8) (laidMet_of_run' 8 (by kernel_rfl) (by kernel_rfl)) (by kernel_rfl) (by kernel_rfl))) ?_
  intro W base args ds gs before hval0 hW _ _ hL _
  have hval : ∀ (j : Nat) t v, Tryd.f5.params[j]? = some t → args[j]? = some v → Value.okWide Tryd.prog W .any base t v := hval0
  have hW' := hW
  obtain ⟨p, q, hA0, hV, rfl, hfz, hnd⟩ := hW
  have hA : DataW.TrodAll enc Tryd.prog W 0 (fun _ => true) true Tryd.f5.params.toList args.toList ds p := hA0
  rw [Tryd.params5] at hA hval
  obtain ⟨v0, vs0, d0, ds0, p0, q0, hargs, rfl, rfl, h0, r0⟩ := trodAll_cons hA
  obtain ⟨rfl, rfl, rfl⟩ := trodAll_nil r0
  obtain rfl : args = #[v0] := by cases args; simp_all
  obtain ⟨rfl, rfl⟩ := trodVars_none hV
  have k0 := h0
  obtain ⟨m0, hm0⟩ := k0
  have lt0 : ∀ x ∈ p0, x.block < W.heap.size := DataW.trod_lt m0 _ _ _ hm0
  obtain ⟨a0, len0, cap0, rfl⟩ := okWide_slice Tryd.underlying22 (hval 0 22 v0 rfl rfl)
  obtain ⟨A0, n0, c0, y0, hv0, hp0, hn0, hl0⟩ := open_Bytes (v := .slice a0 len0 cap0) Tryd.underlying22 Tryd.underlying5 (by kernel_rfl) hm0
  simp only [Value.slice.injEq] at hv0
  obtain ⟨rfl, rfl, rfl⟩ := hv0
  clear hA0 hval0
  have htab := tab_of_laid hL
  refine (FnExitNear_walk _ _ _ y0 W htab hp0 hn0 hl0).mono fun e W' ⟨he, bel⟩ => ?_
  subst he
  exact ⟨_, rfl, _, _, _, [], _, [], hW', trodAll_mk1 (shut_bool Tryd.underlying4 _), (trodAll_cons_mk (Below.trod laidOut (by kernel_rfl) (of_decide_eq_true (by kernel_rfl)) h0 bel lt0) trodAll_mk0), rfl, bel.frame _, fun h => by cases h⟩

theorem FnExitNear_row : Rows.FnExitNearSaid :=
  OpenClaim.holds_of_wide 5 Tryd.f5 rfl rfl rfl rfl rfl rfl rfl ⟨rfl, rfl, rfl, rfl, rfl⟩ rfl rfl rfl rfl rfl (by kernel_rfl) Tryd.func5 (by kernel_rfl)
    (of_decide_eq_true (by kernel_rfl)) (by unfold Func.isWrapper; first | (rw [if_pos (by decide +kernel)]; kernel_rfl) | (rw [if_neg (by decide +kernel)]; exact ⟨rfl, rfl⟩))
    (fun os started H enc _ => FnExitNear_lifted os started H enc)
theorem FnExitNear_holds : Rows.FnExitNearCardSaid :=
  Claim7.holds_tied_plain_at .later [] [.data, .data, .data] true (true, "9a40d749f94adb9d5418125119b5fe0381ba681992067a3458f9e82ceadcb754") false
    FnExitNear_row (fun _ h => by cases h) (by kernel_rfl) (fun _ h => by cases h) fnExitNear_row_tie rfl ⟨rfl, rfl⟩ (by kernel_rfl) rfl
    (fun f fn hf hfn => by
      obtain rfl : f = 5 := Option.some.inj ((show Tryd.prog.funcNamed "loop.example/cavesurvey/laws.FnExitNear" = some 5 by kernel_rfl).symm.trans hf) |>.symm
      obtain rfl : fn = Tryd.f5 := (Option.some.inj (Tryd.func5.symm.trans hfn)).symm
      exact ⟨by kernel_rfl, fun j t ht => by
        rw [Tryd.params5] at ht
        have hm : t ∈ [22] := by simpa using Array.mem_of_getElem? ht
        have hall : ([22].all fun u => !Tryd.prog.wantsStandIn u) = true := by kernel_rfl
        exact (show Tryd.prog.wantsStandIn t = false by simpa using List.all_eq_true.1 hall t hm)⟩)
    (by kernel_rfl)
#print axioms FnExitNear_holds
end Go.Proofs.YtlhcjbgcgbeocaaDoor
