/- FnPoolsAt: more water joins, never parts. -/
import Derived.Test.YtahbfifnpceoeaaDoorLawV
namespace Go.Proofs.YtahbfifnpceoeaaDoor
open Go.ChangeShapes Go.WideShapes Go.ChangeAt Go.RowKit

set_option maxRecDepth 20000 in
set_option maxHeartbeats 4000000 in
theorem FnPoolsAt_walk (A : Option Addr) (n c0 : Nat) (y : Nat → Int) (w : World) (htab : Pow10 w) (hx : Bytes w A n y) (hn : n ≤ c0) (hy : ∀ j, 0 ≤ y j ∧ y j < 256) :
    Calls Tryd.prog 9 #[.slice A n c0] w (RetV (.bool true) w) := by
  by_cases hbig : (n : Int) > 1048576
  · go_enter Tryd.func9, Tryd.ntmps9
    go_wp2
    go_ret
    exact ⟨rfl, Below.refl _ _⟩
  · go_enter Tryd.func9, Tryd.ntmps9
    go_wp2_with fail
    refine (DrawPoolsAt_any A n c0 y w hx hy hn).mono ?_
    rintro ex w1 ⟨F, G, S, D, c, d, e, L, rfl, hD, hLb⟩
    have hs := hD.small
    have hsm := hD.sm
    have H1 := hid (LwC.start (c := c) (d := d) htab hD rfl)
    clear hx hD htab
    go_wp2_with fail
    generalize w1.alloc (.cells #[.slice F D.n c, .slice G D.q d, .slice S D.m e] 26) = w2 at H1 ⊢
    generalize w1.heap.size = X at H1 ⊢

    by_cases hok : CaveOk D
    · refine (PoolsAt_impl F G S D c d e L _ H1.out.cave hs hok).mono ?_
      rintro ex w3 ⟨A3, c3, rfl, hi3, hb3⟩
      have H3 := hid (H1.out.then_ hb3)
      have HI3 := hid hi3
      clear hb3 hi3 H1
      have y0 := H3.out.box.cell (i := 0) rfl
      have y1 := H3.out.box.cell (i := 1) rfl
      have y2 := H3.out.box.cell (i := 2) rfl
      go_wp2_with fail
      refine (PoolsAt_spec F G S D c d e L _ H3.out.cave hs hok).mono ?_
      rintro ex w4 ⟨A4, c4, rfl, hi4, hb4⟩
      have H4 := hid (H3.out.then_ hb4)
      have HI4 := hid hi4
      replace HI3 := hid (HI3.out.below hb4)
      clear hb4 hi4 H3 y0 y1 y2
      have hn1 := hok.1.1
      have hn6 := hok.1.2
      go_wp2_with fail
      refine (sameInts_yes A3 A4 D.n c3 c4 _ w4 HI3.out HI4.out (by omega)).mono ?_
      rintro ex w5 ⟨rfl, hb5⟩
      have H5 := hid (H4.out.then_ hb5)
      replace HI3 := hid (HI3.out.below hb5)
      clear hb5 HI4 H4
      have y0 := H5.out.box.cell (i := 0) rfl
      have y1 := H5.out.box.cell (i := 1) rfl
      have y2 := H5.out.box.cell (i := 2) rfl
      go_wp2_with fail
      refine (RetB.yes (CaveValid_spec F G S D c d e _ H5.out.cave hs) hok).mono ?_
      rintro ex w6 ⟨rfl, hb6⟩
      have H6 := hid (H5.out.then_ hb6)
      replace HI3 := hid (HI3.out.below hb6)
      clear hb6 H5 y0 y1 y2
      have y0 := H6.out.box.cell (i := 0) rfl
      have y1 := H6.out.box.cell (i := 1) rfl
      have y2 := H6.out.box.cell (i := 2) rfl
      go_wp2_with fail
      refine (PoolsAt_impl F G S D c d e (L + 3) _ H6.out.cave hs hok).mono ?_
      rintro ex w7 ⟨A7, c7, rfl, hi7, hb7⟩
      have H7 := hid (H6.out.then_ hb7)
      have HI7 := hid hi7
      replace HI3 := hid (HI3.out.below hb7)
      clear hb7 hi7 H6 y0 y1 y2
      have y0 := H7.out.box.cell (i := 0) rfl
      have y1 := H7.out.box.cell (i := 1) rfl
      have y2 := H7.out.box.cell (i := 2) rfl
      go_wp2_with fail
      refine (PoolsAt_impl F G S D c d e (-1) _ H7.out.cave hs hok).mono ?_
      rintro ex w8 ⟨A8, c8, rfl, hi8, hb8⟩
      have H8 := hid (H7.out.then_ hb8)
      have HI8 : Hid (Ints w8 A8 D.n (fun j => (j : Int))) := hid (hi8.congr (fun j _ => by rw [zN, pool_low hok (by omega)]))
      replace HI3 := hid (HI3.out.below hb8)
      replace HI7 := hid (HI7.out.below hb8)
      clear hb8 hi8 H7 y0 y1 y2
      have HLE : Hid (∀ k, k < D.n → poolF D L k ≤ k) := hid (fun k hk => pool_le hok L hk)
      have HUP : Hid (∀ k m, k < D.n → m < D.n → poolF D L k = poolF D L m → poolF D (L + 3) k = poolF D (L + 3) m) := hid (fun k m hk hm h => (pool_iff hok (L + 3) hk hm).2 (((pool_iff hok L hk hm).1 h).up (by omega)))
      clear hok
      generalize poolF D L = p at *
      generalize poolF D (L + 3) = r at *
      go_wp2
      go_loopw [8] (fun i wr => ∃ k : Nat, k ≤ D.n ∧ i = .int .i64 k ∧ ∃ q, wr = w8.drewN q) (fun i _ => D.n - (intOf i).toNat)
      case atStart => exact ⟨0, by omega, rfl, 0, rfl⟩
      case round =>
        obtain ⟨k, hk, rfl, q, rfl⟩ := hrel
        by_cases hlt : k < D.n
        · have hltz : (k : Int) < (D.n : Int) := by omega
          obtain ⟨b3, o3, rfl, hc3⟩ := HI3.out (by omega)
          obtain ⟨b7, o7, rfl, hc7⟩ := HI7.out (by omega)
          obtain ⟨b8, o8, rfl, hc8⟩ := HI8.out (by omega)
          have p1 : w8.cell? ⟨b3, o3 + k, none⟩ = some (.int .i64 (p k : Nat)) := hc3 k hlt
          have r1 : w8.cell? ⟨b7, o7 + k, none⟩ = some (.int .i64 (r k : Nat)) := hc7 k hlt
          have z1 : w8.cell? ⟨b8, o8 + k, none⟩ = some (.int .i64 (k : Nat)) := hc8 k hlt
          have HC3 : Hid (∀ j, j < D.n → w8.cell? ⟨b3, o3 + j, none⟩ = some (.int .i64 (p j : Nat))) := hid hc3
          have HC7 : Hid (∀ j, j < D.n → w8.cell? ⟨b7, o7 + j, none⟩ = some (.int .i64 (r j : Nat))) := hid hc7
          clear hc3 hc7 hc8
          go_wp2
          go_loopw [9] (fun i wr => ∃ m : Nat, m ≤ k ∧ i = .int .i64 m ∧ ∃ q, wr = w8.drewN q) (fun i _ => k - (intOf i).toNat)
          case atStart => exact ⟨0, by omega, rfl, _, rfl⟩
          case round =>
            obtain ⟨m, hm, rfl, q, rfl⟩ := hrel
            by_cases hmk : m < k
            · have hmkz : (m : Int) < (k : Int) := by omega
              have hmz : (m : Int) < (D.n : Int) := by omega
              have p2 := HC3.out m (by omega)
              have r2 := HC7.out m (by omega)
              by_cases hp : p k = p m
              · have e1 : (((p k : Nat) : Int) == ((p m : Nat) : Int)) = true := by simp [hp]
                have e2 : (((r k : Nat) : Int) != ((r m : Nat) : Int)) = false := by simp [HUP.out k m hlt (by omega) hp]
                clear hp
                go_wp2
                go_quiet (fail)
                go_wp2
                go_roundw
                case rel => exact ⟨m + 1, by omega, by go_num, _, rfl⟩
                case measure => simp [intOf] <;> omega
              · have e1 : (((p k : Nat) : Int) == ((p m : Nat) : Int)) = false := by simp; omega
                clear hp
                go_wp2
                go_quiet (fail)
                go_wp2
                go_roundw
                case rel => exact ⟨m + 1, by omega, by go_num, _, rfl⟩
                case measure => simp [intOf] <;> omega
            · have e1 : ((k : Int) != (k : Int)) = false := by simp
              have hle := HLE.out k hlt
              have e2 : ¬ k < p k := by omega
              clear hle
              go_wp2
              go_roundw
              case rel => exact ⟨k + 1, by omega, by go_num, _, rfl⟩
              case measure => simp [intOf] <;> omega
        · have : k = D.n := by omega
          subst this
          have y0 := H8.out.box.cell (i := 0) rfl
          have e1 : ((D.n : Int) == (D.n : Int)) = true := by simp
          go_wp2
          go_ret
          exact ⟨rfl, H8.out.bel.trans ((below_drewN (Below.refl w8.heap.size w8) _).mono H8.out.bel.size)⟩
    · refine (PoolsAt_impl0 F G S D c d e L _ H1.out.cave hs hok).mono ?_
      rintro ex w3 ⟨A3, c3, rfl, hi3, hb3⟩
      have H3 := hid (H1.out.then_ hb3)
      have HI3 := hid hi3
      clear hb3 hi3 H1
      have y0 := H3.out.box.cell (i := 0) rfl
      have y1 := H3.out.box.cell (i := 1) rfl
      have y2 := H3.out.box.cell (i := 2) rfl
      go_wp2_with fail
      refine (PoolsAt_spec0 F G S D c d e L _ H3.out.cave hs hok).mono ?_
      rintro ex w4 ⟨A4, c4, rfl, hi4, hb4⟩
      have H4 := hid (H3.out.then_ hb4)
      have HI4 := hid hi4
      replace HI3 := hid (HI3.out.below hb4)
      clear hb4 hi4 H3 y0 y1 y2
      go_wp2_with fail
      refine (sameInts_yes A3 A4 0 c3 c4 _ w4 HI3.out HI4.out (by omega)).mono ?_
      rintro ex w5 ⟨rfl, hb5⟩
      have H5 := hid (H4.out.then_ hb5)
      clear hb5 HI4 HI3 H4
      have y0 := H5.out.box.cell (i := 0) rfl
      have y1 := H5.out.box.cell (i := 1) rfl
      have y2 := H5.out.box.cell (i := 2) rfl
      go_wp2_with fail
      refine (RetB.no (CaveValid_spec F G S D c d e _ H5.out.cave hs) hok).mono ?_
      rintro ex w6 ⟨rfl, hb6⟩
      have H6 := hid (H5.out.then_ hb6)
      clear hb6 H5 y0 y1 y2
      go_wp2_with fail
      refine (alive_any _ H6.out.tab).mono ?_
      rintro ex w7 ⟨rfl, hb7⟩
      go_wp2
      go_ret
      exact ⟨rfl, (H6.out.then_ hb7).bel⟩

set_option maxRecDepth 100000 in
theorem FnPoolsAt_lifted (os : Os) (started : os.Started) (H : Type) (enc : TypeId × Value → H) :
    ReturnsInHanded {} Tryd.checked os 9 .any (fun w args => (Rows.fnPoolsAtSpec.pre enc Tryd.prog Tryd.f9 [] false w args ∧ laidMetH Tryd.prog Rows.fnPoolsAtRow.laid w) ∧ sizedMet enc Tryd.prog Tryd.f9 (OpenSpec.ofChange Rows.fnPoolsAtSpec) false w args)
      (Rows.fnPoolsAtSpec.post enc Tryd.prog Tryd.f9 false true false false) := by
  refine returnsInHanded_of_change_and (C := Tryd.checked) (X := fun w _ => laidMetH Tryd.prog Rows.fnPoolsAtRow.laid w) (fun _ _ _ hh h => h.of_heap hh) own started (by kernel_rfl) Tryd.func9
    (ChangeSpec.witness_shaped (enc := enc) (C := Tryd.checked) (os := os) (X := fun w _ => laidMetH Tryd.prog Rows.fnPoolsAtRow.laid w) false (World.doorLaid Tryd.prog 24 os) #[.slice none 0 0] 8 rfl (World.shaped_of_RefB (by kernel_rfl) (by kernel_rfl)) (by kernel_rfl) (by kernel_rfl) (by kernel_rfl)
      (laidMetH_of_parts3 (fuel := 8) (laidMet_of_run' 8 (by kernel_rfl) (by kernel_rfl)) (by kernel_rfl) (by kernel_rfl))) ?_
  intro W base args ds gs before hval0 hW _ _ hL _
  have hval : ∀ (j : Nat) t v, Tryd.f9.params[j]? = some t → args[j]? = some v → Value.okWide Tryd.prog W .any base t v := hval0
  have hW' := hW
  obtain ⟨p, q, hA0, hV, rfl, hfz, hnd⟩ := hW
  have hA : DataW.TrodAll enc Tryd.prog W 0 (fun _ => true) true Tryd.f9.params.toList args.toList ds p := hA0
  rw [Tryd.params9] at hA hval
  obtain ⟨v0, vs0, d0, ds0, p0, q0, hargs, rfl, rfl, h0, r0⟩ := trodAll_cons hA
  obtain ⟨rfl, rfl, rfl⟩ := trodAll_nil r0
  obtain rfl : args = #[v0] := by cases args; simp_all
  obtain ⟨rfl, rfl⟩ := trodVars_none hV
  have k0 := h0
  obtain ⟨m0, hm0⟩ := k0
  have lt0 : ∀ x ∈ p0, x.block < W.heap.size := DataW.trod_lt m0 _ _ _ hm0
  obtain ⟨a0, len0, cap0, rfl⟩ := okWide_slice Tryd.underlying22 (hval 0 22 v0 rfl rfl)
  obtain ⟨A0, n0, c0, y0, hv0, hp0, hn0, hl0⟩ := open_Bytes (v := .slice a0 len0 cap0) Tryd.underlying22 Tryd.underlying5 (by kernel_rfl) hm0
  simp only [Value.slice.injEq] at hv0
  obtain ⟨rfl, rfl, rfl⟩ := hv0
  clear hA0 hval0
  have htab := tab_of_laid hL
  refine (FnPoolsAt_walk _ _ _ y0 W htab hp0 hn0 hl0).mono fun e W' ⟨he, bel⟩ => ?_
  subst he
  exact ⟨_, rfl, _, _, _, [], _, [], hW', trodAll_mk1 (shut_bool Tryd.underlying4 _), (trodAll_cons_mk (Below.trod laidOut (by kernel_rfl) (of_decide_eq_true (by kernel_rfl)) h0 bel lt0) trodAll_mk0), rfl, bel.frame _, fun h => by cases h⟩

theorem FnPoolsAt_row : Rows.FnPoolsAtSaid :=
  OpenClaim.holds_of_wide 9 Tryd.f9 rfl rfl rfl rfl rfl rfl rfl ⟨rfl, rfl, rfl, rfl, rfl⟩ rfl rfl rfl rfl rfl (by kernel_rfl) Tryd.func9 (by kernel_rfl)
    (of_decide_eq_true (by kernel_rfl)) (by unfold Func.isWrapper; first | (rw [if_pos (by decide +kernel)]; kernel_rfl) | (rw [if_neg (by decide +kernel)]; exact ⟨rfl, rfl⟩))
    (fun os started H enc _ => FnPoolsAt_lifted os started H enc)
theorem FnPoolsAt_holds : Rows.FnPoolsAtCardSaid :=
  Claim7.holds_tied_plain_at .later [] [.data, .data, .data] true (true, "a5a7d22d484212bf2246ed34c495e7e4937a4be0a82855a3527b2b559f36e5e1") false
    FnPoolsAt_row (fun _ h => by cases h) (by kernel_rfl) (fun _ h => by cases h) fnPoolsAt_row_tie rfl ⟨rfl, rfl⟩ (by kernel_rfl) rfl
    (fun f fn hf hfn => by
      obtain rfl : f = 9 := Option.some.inj ((show Tryd.prog.funcNamed "loop.example/cavesurvey/laws.FnPoolsAt" = some 9 by kernel_rfl).symm.trans hf) |>.symm
      obtain rfl : fn = Tryd.f9 := (Option.some.inj (Tryd.func9.symm.trans hfn)).symm
      exact ⟨by kernel_rfl, fun j t ht => by
        rw [Tryd.params9] at ht
        have hm : t ∈ [22] := by simpa using Array.mem_of_getElem? ht
        have hall : ([22].all fun u => !Tryd.prog.wantsStandIn u) = true := by kernel_rfl
        exact (show Tryd.prog.wantsStandIn t = false by simpa using List.all_eq_true.1 hall t hm)⟩)
    (by kernel_rfl)
#print axioms FnPoolsAt_holds
end Go.Proofs.YtahbfifnpceoeaaDoor
