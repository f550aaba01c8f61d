/- The two CaveValid tell the same property. Lists are at most 2^20 long. -/
import Derived.Test.YtahbfifnpceoeaaDoorCave1
import Derived.Test.YtahbfifnpceoeaaDoorApp
import Derived.BigRegion
namespace Go.Proofs.YtahbfifnpceoeaaDoor
open Go.RowKit

theorem ret_bool {b : Bool} {P : Prop} {w w' : World} {e : Ending} (he : e = .returned (.bool b)) (h : b = true ↔ P) (hb : Below w.heap.size w w') : RetB P w e w' := ⟨b, he, h, hb⟩

set_option maxRecDepth 20000 in
set_option maxHeartbeats 3200000 in
theorem CaveValid_impl (F G S : Option Addr) (D : CaveD) (c d e : Nat) (w : World) (hx : CaveAt w F G S D) (hs : CaveSmall D) :
    Calls Tryd.prog 30 #[.agg #[.slice F D.n c, .slice G D.q d, .slice S D.m e]] w (RetB (CaveOk D) w) := by
  obtain ⟨hn, hq, hm⟩ := hs
  have hw1 := below_alloc1 w (.cells #[.slice F D.n c, .slice G D.q d, .slice S D.m e] 26)
  have hB := Blk.new w 26 #[.slice F D.n c, .slice G D.q d, .slice S D.m e]
  by_cases h1 : 1 ≤ D.n ∧ D.n ≤ 6
  · obtain ⟨h1a, h1b⟩ := h1
    by_cases h2 : D.q = D.n
    · have h2z : ((D.q : Int) != (D.n : Int)) = false := by simp [h2]
      have H2 := hid h2
      clear h2
      by_cases h3 : D.m ≤ 9
      · go_enter Tryd.func30, Tryd.ntmps30
        go_wp2
        go_loopw [33] (fun i wr => ∃ j : Nat, j ≤ D.n ∧ i = .int .i64 j ∧ Hid (∀ i, i < j → ChamOk D i) ∧ Hid (Below (w.alloc (.cells #[.slice F D.n c, .slice G D.q d, .slice S D.m e] 26)).heap.size (w.alloc (.cells #[.slice F D.n c, .slice G D.q d, .slice S D.m e] 26)) wr)) (fun i _ => D.n - (intOf i).toNat)
        case atStart => exact ⟨0, by omega, rfl, fun j hj => absurd hj (by omega), Below.refl _ _⟩
        case round =>
          obtain ⟨j, hj, rfl, HA, HB⟩ := hrel
          have HBW := hid (Below.then_ hw1 HB.out)
          have hB' := hB.below HB.out
          have y0 := hB'.cell (i := 0) rfl
          have y1 := hB'.cell (i := 1) rfl
          have y2 := hB'.cell (i := 2) rfl
          by_cases hlt : j < D.n
          · have hltz : (j : Int) < (D.n : Int) := by omega
            obtain ⟨b1, o1, rfl, k1⟩ := (hx.below HBW.out).flo (by omega)
            obtain ⟨b2, o2, rfl, k2⟩ := (hx.below HBW.out).are (by have := H2.out; omega)
            have c1 : wr.cell? ⟨b1, o1 + j, none⟩ = some (.int .i64 (D.f j)) := k1 j hlt
            have c2 : wr.cell? ⟨b2, o2 + j, none⟩ = some (.int .i64 (D.g j)) := k2 j (by have := H2.out; omega)
            have hltq : (j : Int) < (D.q : Int) := by have := H2.out; omega
            clear k1 k2
            by_cases q1 : D.f j < 0
            · go_wp2
              go_ret
              exact .mk_f (fun h => by have := (h.2.2.2.1 j hlt).1.1; omega) HBW.out rfl
            · by_cases q2 : 40 < D.f j
              · go_wp2
                go_ret
                exact .mk_f (fun h => by have := (h.2.2.2.1 j hlt).1.2; omega) HBW.out rfl
              · by_cases q3 : D.g j < 1
                · go_wp2
                  go_ret
                  exact .mk_f (fun h => by have := (h.2.2.2.1 j hlt).2.1; omega) HBW.out rfl
                · by_cases q4 : 9 < D.g j
                  · go_wp2
                    go_ret
                    exact .mk_f (fun h => by have := (h.2.2.2.1 j hlt).2.2; omega) HBW.out rfl
                  · have HA2 : Hid (∀ i, i < j + 1 → ChamOk D i) := fun i hi => by
                      by_cases e : i = j
                      · subst e; exact ⟨⟨by omega, by omega⟩, by omega, by omega⟩
                      · exact HA.out i (by omega)
                    go_wp2
                    go_roundw
                    case rel => exact ⟨j + 1, by omega, by go_num, HA2, HB⟩
                    case measure => simp [intOf] <;> omega
          · have : j = D.n := by omega
            go_wp2
            go_loopw [64] (fun i wr => ∃ j : Nat, j ≤ D.m ∧ i = .int .i64 j ∧ Hid (∀ i, i < j → SillOk D i) ∧ Hid (Below (w.alloc (.cells #[.slice F D.n c, .slice G D.q d, .slice S D.m e] 26)).heap.size (w.alloc (.cells #[.slice F D.n c, .slice G D.q d, .slice S D.m e] 26)) wr)) (fun i _ => D.m - (intOf i).toNat)
            case atStart => exact ⟨0, by omega, rfl, fun j hj => absurd hj (by omega), HB⟩
            case round =>
              have HA2 : Hid (∀ i, i < D.n → ChamOk D i) := fun i hi => HA.out i (by omega)
              clear HB HBW hB' y0 y1 y2 HA this hlt hj
              obtain ⟨k, hk, rfl, HC, HB⟩ := hrel
              have HBW := hid (Below.then_ hw1 HB.out)
              by_cases hlt : k < D.m
              · have hltz : (k : Int) < (D.m : Int) := by omega
                obtain ⟨b3, o3, rfl, a1, a2, a3⟩ := (hx.below HBW.out).sil.at_ hlt
                have hB' := hB.below HB.out
                have z0 : ∀ ob, (wr.alloc ob).cell? ⟨w.heap.size, 0, none⟩ = some (.slice F D.n c) := fun ob => (hB'.alloc ob).cell (i := 0) rfl
                have HB3 := hid (below_alloc HBW.out (.cells #[.int .i64 (D.a k), .int .i64 (D.b k), .int .i64 (D.h k)] 34))
                have HB4 := hid (HB.out.alloc HB.out.size (.cells #[.int .i64 (D.a k), .int .i64 (D.b k), .int .i64 (D.h k)] 34))
                by_cases hA : 0 ≤ D.a k ∧ D.a k < D.n
                · obtain ⟨hA1, hA2⟩ := hA
                  by_cases hBb : 0 ≤ D.b k ∧ D.b k < D.n
                  · obtain ⟨hB1, hB2⟩ := hBb
                    by_cases hne : D.a k = D.b k
                    · have e1 : (D.a k == D.b k) = true := by simp [hne]
                      have HN := hid hne
                      clear hne
                      go_wp2_with (first | (go_at_call 67; (with_reducible refine (isIndex_y _ _ _ hA1 hA2).mono ?_); rintro e w' ⟨rfl, rfl⟩) | (go_at_call 67; (with_reducible refine (isIndex_y _ _ _ hB1 hB2).mono ?_); rintro e w' ⟨rfl, rfl⟩))
                      go_ret
                      exact .mk_f (fun h => (h.2.2.2.2 k hlt).2.2.1 HN.out) HB3.out rfl
                    · have e1 : (D.a k == D.b k) = false := by simp [hne]
                      have HN := hid hne
                      clear hne
                      obtain ⟨x, hxa⟩ := Int.eq_ofNat_of_zero_le hA1
                      obtain ⟨y, hyb⟩ := Int.eq_ofNat_of_zero_le hB1
                      have HX : Hid ((D.a k).toNat = x) := by show _ = _; omega
                      have HY : Hid ((D.b k).toNat = y) := by show _ = _; omega
                      have hxn : x < D.n := by omega
                      have hyn : y < D.n := by omega
                      have hxz : (x : Int) < (D.n : Int) := by omega
                      have hyz : (y : Int) < (D.n : Int) := by omega
                      rw [hxa] at a1 e1
                      rw [hyb] at a2 e1
                      rw [hxa, hyb] at HB3 HB4
                      have HAA : Hid ((0 ≤ D.a k ∧ D.a k < D.n) ∧ (0 ≤ D.b k ∧ D.b k < D.n)) := ⟨⟨hA1, hA2⟩, ⟨hB1, hB2⟩⟩
                      clear hxa hyb hA1 hA2 hB1 hB2
                      obtain ⟨b1, o1, rfl, k1⟩ := (hx.below HBW.out).flo (by omega)
                      have c1 : ∀ ob, (wr.alloc ob).cell? ⟨b1, o1 + x, none⟩ = some (.int .i64 (D.f x)) := fun ob => cell_below (below_alloc1 wr ob) (k1 x hxn)
                      have c2 : ∀ ob, (wr.alloc ob).cell? ⟨b1, o1 + y, none⟩ = some (.int .i64 (D.f y)) := fun ob => cell_below (below_alloc1 wr ob) (k1 y hyn)
                      clear k1
                      have HBAD : Hid (∀ h : SillOk D k, D.f x ≤ D.h k ∧ D.f y ≤ D.h k ∧ D.h k ≤ 40) := fun h => by
                        have := h.2.2.2
                        rwa [HX.out, HY.out] at this
                      by_cases r1 : D.h k < D.f x
                      · have d1 : decide (D.h k < D.f x) = true := decide_eq_true r1
                        go_wp2_with (first | (go_at_call 67; (with_reducible refine (isIndex_y (x : Int) _ _ (by omega) hxz).mono ?_); rintro e w' ⟨rfl, rfl⟩) | (go_at_call 67; (with_reducible refine (isIndex_y (y : Int) _ _ (by omega) hyz).mono ?_); rintro e w' ⟨rfl, rfl⟩))
                        go_quiet (fail)
                        go_wp2
                        go_ret
                        exact .mk_f (fun h => by have := (HBAD.out (h.2.2.2.2 k hlt)).1; omega) (below_drewN HB3.out _) rfl
                      · have d1 : decide (D.h k < D.f x) = false := decide_eq_false r1
                        by_cases r2 : D.h k < D.f y
                        · have d2 : decide (D.h k < D.f y) = true := decide_eq_true r2
                          go_wp2_with (first | (go_at_call 67; (with_reducible refine (isIndex_y (x : Int) _ _ (by omega) hxz).mono ?_); rintro e w' ⟨rfl, rfl⟩) | (go_at_call 67; (with_reducible refine (isIndex_y (y : Int) _ _ (by omega) hyz).mono ?_); rintro e w' ⟨rfl, rfl⟩))
                          go_quiet (fail)
                          go_wp2
                          go_ret
                          exact .mk_f (fun h => by have := (HBAD.out (h.2.2.2.2 k hlt)).2.1; omega) (below_drewN HB3.out _) rfl
                        · have d2 : decide (D.h k < D.f y) = false := decide_eq_false r2
                          by_cases r3 : 40 < D.h k
                          · have d3 : decide (40 < D.h k) = true := decide_eq_true r3
                            go_wp2_with (first | (go_at_call 67; (with_reducible refine (isIndex_y (x : Int) _ _ (by omega) hxz).mono ?_); rintro e w' ⟨rfl, rfl⟩) | (go_at_call 67; (with_reducible refine (isIndex_y (y : Int) _ _ (by omega) hyz).mono ?_); rintro e w' ⟨rfl, rfl⟩))
                            go_quiet (fail)
                            go_wp2
                            go_ret
                            exact .mk_f (fun h => by have := (HBAD.out (h.2.2.2.2 k hlt)).2.2; omega) (below_drewN HB3.out _) rfl
                          · have d3 : decide (40 < D.h k) = false := decide_eq_false r3
                            have HC2 : Hid (∀ i, i < k + 1 → SillOk D i) := fun i hi => by
                              by_cases e : i = k
                              · subst e
                                refine ⟨HAA.out.1, HAA.out.2, HN.out, ?_⟩
                                rw [HX.out, HY.out]; omega
                              · exact HC.out i (by omega)
                            go_wp2_with (first | (go_at_call 67; (with_reducible refine (isIndex_y (x : Int) _ _ (by omega) hxz).mono ?_); rintro e w' ⟨rfl, rfl⟩) | (go_at_call 67; (with_reducible refine (isIndex_y (y : Int) _ _ (by omega) hyz).mono ?_); rintro e w' ⟨rfl, rfl⟩))
                            go_quiet (fail)
                            go_wp2
                            go_roundw
                            case rel => exact ⟨k + 1, by omega, by go_num, HC2, hid (below_drewN HB4.out _)⟩
                            case measure => simp [intOf] <;> omega
                  · have HBn := hid hBb
                    clear hBb
                    go_wp2_with (first | (go_at_call 67; (with_reducible refine (isIndex_y _ _ _ hA1 hA2).mono ?_); rintro e w' ⟨rfl, rfl⟩) | (go_at_call 67; (with_reducible refine (isIndex_n _ _ _ HBn.out).mono ?_); rintro e w' ⟨rfl, rfl⟩))
                    go_ret
                    exact .mk_f (fun h => HBn.out (h.2.2.2.2 k hlt).2.1) HB3.out rfl
                · have HAn := hid hA
                  clear hA
                  go_wp2_with (go_at_call 67; refine (isIndex_n _ _ _ HAn.out).mono ?_; rintro e w' ⟨rfl, rfl⟩)
                  go_ret
                  exact .mk_f (fun h => HAn.out (h.2.2.2.2 k hlt).1) HB3.out rfl
              · have : k = D.m := by omega
                subst this
                go_wp2
                go_ret
                exact .mk_t ⟨⟨h1a, h1b⟩, H2.out, h3, HA2.out, HC.out⟩ HBW.out rfl
      · have H3 := hid h3
        have h3z : (9 : Int) < (D.m : Int) := by omega
        clear h3
        go_enter Tryd.func30, Tryd.ntmps30
        go_wp2
        go_ret
        exact .mk_f (fun h => H3.out h.2.2.1) hw1 rfl
    · have h2z : ((D.q : Int) != (D.n : Int)) = true := by simp; omega
      have H2 := hid h2
      clear h2
      go_enter Tryd.func30, Tryd.ntmps30
      go_wp2
      go_ret
      exact .mk_f (fun h => H2.out h.2.1) hw1 rfl
  · have H1 := hid h1
    by_cases h1a : (D.n : Int) < 1
    · clear h1
      go_enter Tryd.func30, Tryd.ntmps30
      go_wp2
      go_ret
      exact .mk_f (fun h => H1.out h.1) hw1 rfl
    · have h1b : (6 : Int) < (D.n : Int) := by omega
      clear h1
      go_enter Tryd.func30, Tryd.ntmps30
      go_wp2
      go_ret
      exact .mk_f (fun h => H1.out h.1) hw1 rfl
end Go.Proofs.YtahbfifnpceoeaaDoor
