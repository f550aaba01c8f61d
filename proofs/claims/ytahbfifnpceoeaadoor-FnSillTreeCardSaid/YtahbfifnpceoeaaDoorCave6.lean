/- The reference's CaveValid. Lists are at most 2^20 long. -/
import Derived.Test.YtahbfifnpceoeaaDoorCave5
namespace Go.Proofs.YtahbfifnpceoeaaDoor
open Go.RowKit

set_option maxRecDepth 20000 in
set_option maxHeartbeats 3200000 in
theorem CaveValid_spec (F G S : Option Addr) (D : CaveD) (c d e : Nat) (w : World) (hx : CaveAt w F G S D) (hs : CaveSmall D) :
    Calls Tryd.prog 18 #[.agg #[.slice F D.n c, .slice G D.q d, .slice S D.m e]] w (RetB (CaveOk D) w) := by
  obtain ⟨hn, hq, hm⟩ := hs
  have hw1 := below_alloc1 w (.cells #[.slice F D.n c, .slice G D.q d, .slice S D.m e] 26)
  have hB := Blk.new w 26 #[.slice F D.n c, .slice G D.q d, .slice S D.m e]
  by_cases h1 : 1 ≤ D.n ∧ D.n ≤ 6
  · obtain ⟨h1a, h1b⟩ := h1
    by_cases h2 : D.q = D.n
    · have h2z : ((D.q : Int) != (D.n : Int)) = false := by simp [h2]
      have H2 := hid h2
      clear h2
      by_cases h3 : D.m ≤ 9
      · go_enter Tryd.func18, Tryd.ntmps18
        go_wp2_with (go_at_call 61; (with_reducible refine (l1In_y (D.n : Int) 1 6 _ (by omega) (by omega)).mono ?_); rintro e w' ⟨rfl, rfl⟩)
        go_loopw [3] (fun i wr => ∃ j : Nat, j ≤ D.n ∧ i = .int .i64 j ∧ Hid (∀ i, i < j → ChamOk D i) ∧ Hid (Below (w.alloc (.cells #[.slice F D.n c, .slice G D.q d, .slice S D.m e] 26)).heap.size (w.alloc (.cells #[.slice F D.n c, .slice G D.q d, .slice S D.m e] 26)) wr)) (fun i _ => D.n - (intOf i).toNat)
        case atStart => exact ⟨0, by omega, rfl, fun j hj => absurd hj (by omega), Below.refl _ _⟩
        case round =>
          obtain ⟨j, hj, rfl, HA, HB⟩ := hrel
          have HBW := hid (Below.then_ hw1 HB.out)
          have hB' := hB.below HB.out
          have y0 := hB'.cell (i := 0) rfl
          have y1 := hB'.cell (i := 1) rfl
          have y2 := hB'.cell (i := 2) rfl
          by_cases hlt : j < D.n
          · have hltz : (j : Int) < (D.n : Int) := by omega
            obtain ⟨b1, o1, rfl, k1⟩ := (hx.below HBW.out).flo (by omega)
            obtain ⟨b2, o2, rfl, k2⟩ := (hx.below HBW.out).are (by have := H2.out; omega)
            have c1 : wr.cell? ⟨b1, o1 + j, none⟩ = some (.int .i64 (D.f j)) := k1 j hlt
            have c2 : wr.cell? ⟨b2, o2 + j, none⟩ = some (.int .i64 (D.g j)) := k2 j (by have := H2.out; omega)
            have hltq : (j : Int) < (D.q : Int) := by have := H2.out; omega
            clear k1 k2
            by_cases q1 : 0 ≤ D.f j ∧ D.f j ≤ 40
            · obtain ⟨q1a, q1b⟩ := q1
              by_cases q2 : 1 ≤ D.g j ∧ D.g j ≤ 9
              · obtain ⟨q2a, q2b⟩ := q2
                have HA2 : Hid (∀ i, i < j + 1 → ChamOk D i) := fun i hi => by
                  by_cases e : i = j
                  · subst e; exact ⟨⟨by omega, by omega⟩, by omega, by omega⟩
                  · exact HA.out i (by omega)
                go_wp2_with (first | (go_at_call 61; (with_reducible refine (l1In_y (D.f j) _ _ _ q1a q1b).mono ?_); rintro e w' ⟨rfl, rfl⟩) | (go_at_call 61; (with_reducible refine (l1In_y (D.g j) _ _ _ q2a q2b).mono ?_); rintro e w' ⟨rfl, rfl⟩))
                go_roundw
                case rel => exact ⟨j + 1, by omega, by go_num, HA2, HB⟩
                case measure => simp [intOf] <;> omega
              · have Q2 := hid q2
                clear q2
                go_wp2_with (first | (go_at_call 61; (with_reducible refine (l1In_y (D.f j) _ _ _ q1a q1b).mono ?_); rintro e w' ⟨rfl, rfl⟩) | (go_at_call 61; (with_reducible refine (l1In_n (D.g j) _ _ _ Q2.out).mono ?_); rintro e w' ⟨rfl, rfl⟩))
                go_ret
                exact .mk_f (fun h => Q2.out (h.2.2.2.1 j hlt).2) HBW.out rfl
            · have Q1 := hid q1
              clear q1
              go_wp2_with (go_at_call 61; refine (l1In_n (D.f j) _ _ _ Q1.out).mono ?_; rintro e w' ⟨rfl, rfl⟩)
              go_ret
              exact .mk_f (fun h => Q1.out (h.2.2.2.1 j hlt).1) HBW.out rfl
          · have : j = D.n := by omega
            go_wp2
            go_loopw [4] (fun i wr => ∃ j : Nat, j ≤ D.m ∧ i = .int .i64 j ∧ Hid (∀ i, i < j → SillOk D i) ∧ Hid (Below (w.alloc (.cells #[.slice F D.n c, .slice G D.q d, .slice S D.m e] 26)).heap.size (w.alloc (.cells #[.slice F D.n c, .slice G D.q d, .slice S D.m e] 26)) wr)) (fun i _ => D.m - (intOf i).toNat)
            case atStart => exact ⟨0, by omega, rfl, fun j hj => absurd hj (by omega), HB⟩
            case round =>
              have HA2 : Hid (∀ i, i < D.n → ChamOk D i) := fun i hi => HA.out i (by omega)
              clear HB HBW hB' y0 y1 y2 HA this hlt hj
              obtain ⟨k, hk, rfl, HC, HB⟩ := hrel
              have HBW := hid (Below.then_ hw1 HB.out)
              have hB' := hB.below HB.out
              have y2 := hB'.cell (i := 2) rfl
              by_cases hlt : k < D.m
              · have hltz : (k : Int) < (D.m : Int) := by omega
                obtain ⟨b3, o3, rfl, a1, a2, a3⟩ := (hx.below HBW.out).sil.at_ hlt
                have hnw : wrap64 ((D.n : Int) - 1) = (D.n : Int) - 1 := by unfold wrap64; omega
                have hBA := (hB'.alloc (.cells #[.int .i64 (D.a k), .int .i64 (D.b k), .int .i64 (D.h k)] 34))
                have s0 := sub_cell (hBA.cell (i := 0) rfl)
                have hBs := Blk.new wr 34 #[.int .i64 (D.a k), .int .i64 (D.b k), .int .i64 (D.h k)]
                have s1 := sub_cell (hBs.cell (i := 0) rfl)
                have s2 := sub_cell (hBs.cell (i := 1) rfl)
                have s3 := sub_cell (hBs.cell (i := 2) rfl)
                have HB3 := hid (below_alloc HBW.out (.cells #[.int .i64 (D.a k), .int .i64 (D.b k), .int .i64 (D.h k)] 34))
                have HB4 := hid (HB.out.alloc HB.out.size (.cells #[.int .i64 (D.a k), .int .i64 (D.b k), .int .i64 (D.h k)] 34))
                by_cases hA : 0 ≤ D.a k ∧ D.a k ≤ (D.n : Int) - 1
                · obtain ⟨hA1, hA2⟩ := hA
                  by_cases hBb : 0 ≤ D.b k ∧ D.b k ≤ (D.n : Int) - 1
                  · obtain ⟨hB1, hB2⟩ := hBb
                    by_cases hne : D.a k = D.b k
                    · have e1 : (D.a k == D.b k) = true := by simp [hne]
                      have HN := hid hne
                      clear hne
                      go_wp2
                      refine wp_region_sub (by kernel_rfl) (by kernel_rfl) ?_
                      repeat (go_big_quiet_step ((first | (go_at_call 61; with_reducible exact RetS.sub (l1In_y (D.a k) _ _ _ hA1 hA2)) | (go_at_call 61; with_reducible exact RetS.sub (l1In_y (D.b k) _ _ _ hB1 hB2)))))
                      refine wpQuiet_nil ?_
                      intro _ hw'
                      obtain ⟨s, hw''⟩ := hw'
                      subst hw''
                      go_wp2
                      go_ret
                      exact .mk_f (fun h => (h.2.2.2.2 k hlt).2.2.1 HN.out) (Below.then_ HB3.out s.h) rfl
                    · have e1 : (D.a k == D.b k) = false := by simp [hne]
                      have HN := hid hne
                      clear hne
                      have HAA : Hid ((0 ≤ D.a k ∧ D.a k < D.n) ∧ (0 ≤ D.b k ∧ D.b k < D.n)) := ⟨⟨hA1, by omega⟩, ⟨hB1, by omega⟩⟩
                      obtain ⟨x, hxa⟩ := Int.eq_ofNat_of_zero_le hA1
                      obtain ⟨y, hyb⟩ := Int.eq_ofNat_of_zero_le hB1
                      have HX : Hid ((D.a k).toNat = x) := by show _ = _; omega
                      have HY : Hid ((D.b k).toNat = y) := by show _ = _; omega
                      have hxn : x < D.n := by omega
                      have hyn : y < D.n := by omega
                      have hxz : (x : Int) < (D.n : Int) := by omega
                      have hyz : (y : Int) < (D.n : Int) := by omega
                      have hxz1 : (x : Int) ≤ (D.n : Int) - 1 := by omega
                      have hyz1 : (y : Int) ≤ (D.n : Int) - 1 := by omega
                      rw [hxa] at a1 e1
                      rw [hyb] at a2 e1
                      rw [hxa, hyb] at HB3 HB4 s0 s1 s2 s3
                      clear hxa hyb hA1 hA2 hB1 hB2 hBs hBA
                      obtain ⟨b1, o1, rfl, k1⟩ := (hx.below HBW.out).flo (by omega)
                      have s4 : ∀ s : Sub (wr.alloc (.cells #[.int .i64 x, .int .i64 y, .int .i64 (D.h k)] 34)), s.val.cell? ⟨b1, o1 + x, none⟩ = some (.int .i64 (D.f x)) := sub_cell (cell_below (below_alloc1 wr _) (k1 x hxn))
                      have s5 : ∀ s : Sub (wr.alloc (.cells #[.int .i64 x, .int .i64 y, .int .i64 (D.h k)] 34)), s.val.cell? ⟨b1, o1 + y, none⟩ = some (.int .i64 (D.f y)) := sub_cell (cell_below (below_alloc1 wr _) (k1 y hyn))
                      clear k1
                      have HBAD : Hid (∀ h : SillOk D k, D.f x ≤ D.h k ∧ D.f y ≤ D.h k ∧ D.h k ≤ 40) := fun h => by
                        have := h.2.2.2
                        rwa [HX.out, HY.out] at this
                      by_cases hM : D.f x < D.f y
                      · obtain ⟨M, hM2⟩ : ∃ M, D.f y = M := ⟨_, rfl⟩
                        rw [hM2] at s5 hM
                        have HMM : Hid (M = D.f y) := hM2.symm
                        clear hM2
                        by_cases r1 : M ≤ D.h k ∧ D.h k ≤ 40
                        · obtain ⟨r1a, r1b⟩ := r1
                          have HC2 : Hid (∀ i, i < k + 1 → SillOk D i) := fun i hi => by
                            by_cases e : i = k
                            · subst e
                              refine ⟨HAA.out.1, HAA.out.2, HN.out, ?_⟩
                              have := HMM.out
                              rw [HX.out, HY.out]; omega
                            · exact HC.out i (by omega)
                          go_wp2
                          refine wp_region_sub (by kernel_rfl) (by kernel_rfl) ?_
                          repeat (go_big_quiet_step ((first | (go_at_call 61; with_reducible exact RetS.sub (l1In_y (x : Int) _ _ _ (by omega) hxz1)) | (go_at_call 61; with_reducible exact RetS.sub (l1In_y (y : Int) _ _ _ (by omega) hyz1)) | (go_at_call 61; with_reducible exact RetS.sub (l1In_y (D.h k) _ _ _ r1a r1b)))))
                          refine wpQuiet_nil ?_
                          intro _ hw'
                          obtain ⟨s, hw''⟩ := hw'
                          subst hw''
                          go_wp2
                          go_roundw
                          case rel => exact ⟨k + 1, by omega, by go_num, HC2, hid (HB4.out.trans (s.h.mono HB4.out.size))⟩
                          case measure => simp [intOf] <;> omega
                        · have R1 := hid r1
                          clear r1
                          go_wp2
                          refine wp_region_sub (by kernel_rfl) (by kernel_rfl) ?_
                          repeat (go_big_quiet_step ((first | (go_at_call 61; with_reducible exact RetS.sub (l1In_y (x : Int) _ _ _ (by omega) hxz1)) | (go_at_call 61; with_reducible exact RetS.sub (l1In_y (y : Int) _ _ _ (by omega) hyz1)) | (go_at_call 61; with_reducible exact RetS.sub (l1In_n (D.h k) _ _ _ R1.out)))))
                          refine wpQuiet_nil ?_
                          intro _ hw'
                          obtain ⟨s, hw''⟩ := hw'
                          subst hw''
                          go_wp2
                          go_ret
                          exact .mk_f (fun h => R1.out (by have := HBAD.out (h.2.2.2.2 k hlt); have := HMM.out; omega)) (Below.then_ HB3.out s.h) rfl
                      · obtain ⟨M, hM2⟩ : ∃ M, D.f x = M := ⟨_, rfl⟩
                        rw [hM2] at s4 hM
                        have HMM : Hid (M = D.f x) := hM2.symm
                        clear hM2
                        by_cases r1 : M ≤ D.h k ∧ D.h k ≤ 40
                        · obtain ⟨r1a, r1b⟩ := r1
                          have HC2 : Hid (∀ i, i < k + 1 → SillOk D i) := fun i hi => by
                            by_cases e : i = k
                            · subst e
                              refine ⟨HAA.out.1, HAA.out.2, HN.out, ?_⟩
                              have := HMM.out
                              rw [HX.out, HY.out]; omega
                            · exact HC.out i (by omega)
                          go_wp2
                          refine wp_region_sub (by kernel_rfl) (by kernel_rfl) ?_
                          repeat (go_big_quiet_step ((first | (go_at_call 61; with_reducible exact RetS.sub (l1In_y (x : Int) _ _ _ (by omega) hxz1)) | (go_at_call 61; with_reducible exact RetS.sub (l1In_y (y : Int) _ _ _ (by omega) hyz1)) | (go_at_call 61; with_reducible exact RetS.sub (l1In_y (D.h k) _ _ _ r1a r1b)))))
                          refine wpQuiet_nil ?_
                          intro _ hw'
                          obtain ⟨s, hw''⟩ := hw'
                          subst hw''
                          go_wp2
                          go_roundw
                          case rel => exact ⟨k + 1, by omega, by go_num, HC2, hid (HB4.out.trans (s.h.mono HB4.out.size))⟩
                          case measure => simp [intOf] <;> omega
                        · have R1 := hid r1
                          clear r1
                          go_wp2
                          refine wp_region_sub (by kernel_rfl) (by kernel_rfl) ?_
                          repeat (go_big_quiet_step ((first | (go_at_call 61; with_reducible exact RetS.sub (l1In_y (x : Int) _ _ _ (by omega) hxz1)) | (go_at_call 61; with_reducible exact RetS.sub (l1In_y (y : Int) _ _ _ (by omega) hyz1)) | (go_at_call 61; with_reducible exact RetS.sub (l1In_n (D.h k) _ _ _ R1.out)))))
                          refine wpQuiet_nil ?_
                          intro _ hw'
                          obtain ⟨s, hw''⟩ := hw'
                          subst hw''
                          go_wp2
                          go_ret
                          exact .mk_f (fun h => R1.out (by have := HBAD.out (h.2.2.2.2 k hlt); have := HMM.out; omega)) (Below.then_ HB3.out s.h) rfl
                  · have HBn := hid hBb
                    clear hBb
                    go_wp2
                    refine wp_region_sub (by kernel_rfl) (by kernel_rfl) ?_
                    repeat (go_big_quiet_step ((first | (go_at_call 61; with_reducible exact RetS.sub (l1In_y (D.a k) _ _ _ hA1 hA2)) | (go_at_call 61; with_reducible exact RetS.sub (l1In_n (D.b k) _ _ _ HBn.out)))))
                    refine wpQuiet_nil ?_
                    intro _ hw'
                    obtain ⟨s, hw''⟩ := hw'
                    subst hw''
                    go_wp2
                    go_ret
                    exact .mk_f (fun h => HBn.out (by have := (h.2.2.2.2 k hlt).2.1; omega)) (Below.then_ HB3.out s.h) rfl
                · have HAn := hid hA
                  clear hA
                  go_wp2
                  refine wp_region_sub (by kernel_rfl) (by kernel_rfl) ?_
                  repeat (go_big_quiet_step ((go_at_call 61; exact RetS.sub (l1In_n (D.a k) _ _ _ HAn.out))))
                  refine wpQuiet_nil ?_
                  intro _ hw'
                  obtain ⟨s, hw''⟩ := hw'
                  subst hw''
                  go_wp2
                  go_ret
                  exact .mk_f (fun h => HAn.out (by have := (h.2.2.2.2 k hlt).1; omega)) (Below.then_ HB3.out s.h) rfl
              · have : k = D.m := by omega
                subst this
                go_wp2
                go_ret
                exact .mk_t ⟨⟨h1a, h1b⟩, H2.out, h3, HA2.out, HC.out⟩ HBW.out rfl
      · have H3 := hid h3
        have h3z : (9 : Int) < (D.m : Int) := by omega
        clear h3
        go_enter Tryd.func18, Tryd.ntmps18
        go_wp2_with (go_at_call 61; (with_reducible refine (l1In_y (D.n : Int) 1 6 _ (by omega) (by omega)).mono ?_); rintro e w' ⟨rfl, rfl⟩)
        go_ret
        exact .mk_f (fun h => H3.out h.2.2.1) hw1 rfl
    · have h2z : ((D.q : Int) != (D.n : Int)) = true := by simp; omega
      have H2 := hid h2
      clear h2
      go_enter Tryd.func18, Tryd.ntmps18
      go_wp2_with (go_at_call 61; (with_reducible refine (l1In_y (D.n : Int) 1 6 _ (by omega) (by omega)).mono ?_); rintro e w' ⟨rfl, rfl⟩)
      go_ret
      exact .mk_f (fun h => H2.out h.2.1) hw1 rfl
  · have H1 := hid h1
    clear h1
    go_enter Tryd.func18, Tryd.ntmps18
    go_wp2_with (go_at_call 61; refine (l1In_n (D.n : Int) 1 6 _ (by have := H1.out; omega)).mono ?_; rintro e w' ⟨rfl, rfl⟩)
    go_ret
    exact .mk_f (fun h => H1.out h.1) hw1 rfl
end Go.Proofs.YtahbfifnpceoeaaDoor
