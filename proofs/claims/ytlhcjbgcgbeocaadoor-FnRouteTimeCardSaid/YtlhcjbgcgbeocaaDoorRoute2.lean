/- The reference's RouteTime. Lists are at most 2^20 long. -/
import Derived.Test.YtlhcjbgcgbeocaaDoorRoute
namespace Go.Proofs.YtlhcjbgcgbeocaaDoor
open Go.RowKit

def Mat (D : SrchD) (a b : Int) (i : Nat) : Prop := (D.a i = a ∧ D.b i = b) ∨ (D.b i = a ∧ D.a i = b)
/-- The fewest minutes among the first j passages between two places. -/
def MinU (D : SrchD) (a b : Int) (j : Nat) (r : Int) : Prop := (r = -1 ∧ ∀ i, i < j → ¬ Mat D a b i) ∨ (0 ≤ r ∧ (∃ i, i < j ∧ Mat D a b i ∧ D.t i = r) ∧ ∀ i, i < j → Mat D a b i → r ≤ D.t i)
theorem MinU.keep {D : SrchD} {a b : Int} {j : Nat} {r : Int} (h : MinU D a b j r) (hk : ¬ Mat D a b j ∨ (0 ≤ r ∧ r ≤ D.t j)) : MinU D a b (j + 1) r := by
  rcases h with ⟨h1, h2⟩ | ⟨h1, ⟨i, h2, h3, h4⟩, h5⟩
  · refine .inl ⟨h1, fun i hi hm => ?_⟩
    by_cases e : i = j
    · subst e; rcases hk with h | h
      · exact h hm
      · omega
    · exact h2 i (by omega) hm
  · refine .inr ⟨h1, ⟨i, by omega, h3, h4⟩, fun i hi hm => ?_⟩
    by_cases e : i = j
    · subst e; rcases hk with h | h
      · exact absurd hm h
      · omega
    · exact h5 i (by omega) hm
theorem MinU.set {D : SrchD} {a b : Int} {j : Nat} {r : Int} (h : MinU D a b j r) (hm : Mat D a b j) (h0 : 0 ≤ D.t j) (hk : r < 0 ∨ D.t j < r) : MinU D a b (j + 1) (D.t j) := by
  refine .inr ⟨h0, ⟨j, by omega, hm, rfl⟩, fun i hi hmi => ?_⟩
  by_cases e : i = j
  · subst e; omega
  · rcases h with ⟨h1, h2⟩ | ⟨h1, _, h5⟩
    · exact absurd hmi (h2 i (by omega))
    · have := h5 i (by omega) hmi
      omega
theorem MinU.done {D : SrchD} (hok : SrchOk D) {a b r : Int} (h : MinU D a b D.m r) : mI D a b = r := by
  by_cases hv : (0 ≤ a ∧ a < D.s) ∧ (0 ≤ b ∧ b < D.s)
  · refine (mI_spec hok hv.1 hv.2).uniq ?_
    have ha : (a.toNat : Int) = a := by omega
    have hb : (b.toNat : Int) = b := by omega
    rcases h with ⟨h1, h2⟩ | ⟨h1, ⟨i, h2, h3, h4⟩, h5⟩
    · refine .inl ⟨h1, fun t ⟨i, hi, _, hm⟩ => h2 i hi ?_⟩
      rw [ha, hb] at hm
      exact hm.elim .inl fun k => .inr ⟨k.2, k.1⟩
    · refine .inr ⟨h1, ⟨i, h2, h4, ?_⟩, fun t ⟨i, hi, ht, hm⟩ => ?_⟩
      · rw [ha, hb]; exact h3.elim .inl fun k => .inr ⟨k.2, k.1⟩
      · rw [ha, hb] at hm
        rw [← ht]
        exact h5 i hi (hm.elim .inl fun k => .inr ⟨k.2, k.1⟩)
  · rw [mI_bad hv]
    rcases h with ⟨h1, h2⟩ | ⟨h1, ⟨i, h2, h3, h4⟩, h5⟩
    · exact h1.symm
    · exfalso
      obtain ⟨q1, q2, _⟩ := hok.2.2.2 i h2
      refine hv ?_
      rcases h3 with ⟨e1, e2⟩ | ⟨e1, e2⟩
      · rw [← e1, ← e2]; exact ⟨q1, q2⟩
      · rw [← e1, ← e2]; exact ⟨q2, q1⟩

set_option maxRecDepth 20000 in
set_option maxHeartbeats 8000000 in
theorem RouteTime_spec (P Q : Option Addr) (D : SrchD) (c d : Nat) (br : Int) (A : Option Addr) (n cc : Nat) (x : Nat → Int) (w : World) (hx : SrchAt w P Q D) (hs : SrchSmall D) (hi : Ints w A n x) (hn : n ≤ 1048576) :
    Calls Tryd.prog 36 #[.agg #[.int .i64 D.s, .slice P D.m c, .slice Q D.k d], .int .i64 br, .slice A n cc] w (RetV (rrV (routeF D br x n)) w) := by
  have HWV := hid (below_alloc1 w (.cells #[.int .i64 D.s, .slice P D.m c, .slice Q D.k d] 26))
  have HB := hid (Blk.new w 26 #[.int .i64 D.s, .slice P D.m c, .slice Q D.k d])
  have HX := hid (hx.below HWV.out)
  have HI := hid (hi.below HWV.out)
  clear hx hi
  go_enter Tryd.func36, Tryd.ntmps36
  go_wp2
  generalize w.alloc (.cells #[.int .i64 D.s, .slice P D.m c, .slice Q D.k d] 26) = v at HWV HB HX HI ⊢
  have y0 := sub_cell (HB.out.cell (i := 0) rfl)
  have y1 := sub_cell (HB.out.cell (i := 1) rfl)
  have y2 := sub_cell (HB.out.cell (i := 2) rfl)
  by_cases hok : SrchOk D
  · have HOK := hid hok
    have hws := wrap_s hok.1.1 hok.1.2
    have HSV : Hid (∀ s : Sub v, Calls Tryd.prog 15 #[.agg #[.int .i64 D.s, .slice P D.m c, .slice Q D.k d]] s.val (RetV (.bool true) s.val)) := fun s => RetB.yes (SearchValid_spec P Q D c d _ (HX.out.below s.h) hs) HOK.out
    clear hok
    by_cases hbr : 1 ≤ br ∧ br ≤ 60
    · have HBR := hid hbr
      obtain ⟨hb1, hb60⟩ := hbr
      by_cases hn0 : n = 0
      · have HN : Hid (routeF D br x n = none) := routeF_bad fun h => by omega
        have hn0z : ((n : Int) == 0) = true := by simp [hn0]
        clear hn0
        refine wp_region_sub (by kernel_rfl) (by kernel_rfl) ?_
        repeat (go_big_quiet_step ((first | (go_at_call 15; exact RetV.sub (HSV.out _)) | (go_at_call 49; exact RetS.sub (l1In_y _ _ _ _ hb1 hb60)))))
        refine wpQuiet_nil ?_
        intro _ hw'
        obtain ⟨s, hw''⟩ := hw'
        subst hw''
        have hsv := s.h
        go_wp2
        go_ret3
        exact ⟨by rw [← rrV_none HN.out]; rfl, Below.then_ HWV.out hsv⟩
      · have hn0z : ((n : Int) == 0) = false := by simp; omega
        obtain ⟨b, o, rfl, hc⟩ := HI.out (by omega)
        have c0 : v.cell? ⟨b, o, none⟩ = some (.int .i64 (x 0)) := hc 0 (by omega)
        have c0s := sub_cell c0
        have hnz : (0 : Int) < (n : Int) := by omega
        by_cases hx0 : 0 ≤ x 0 ∧ x 0 ≤ D.s - 1
        · obtain ⟨hx1, hx2⟩ := hx0
          refine wp_region_sub (by kernel_rfl) (by kernel_rfl) ?_
          repeat (go_big_quiet_step ((first | (go_at_call 15; exact RetV.sub (HSV.out _)) | (go_at_call 49; (with_reducible exact RetS.sub (l1In_y br _ _ _ hb1 hb60))) | (go_at_call 49; (with_reducible exact RetS.sub (l1In_y (x 0) _ _ _ hx1 hx2))))))
          refine wpQuiet_nil ?_
          intro _ hw'
          obtain ⟨s, hw''⟩ := hw'
          subst hw''
          have HF : Hid (routeF D br x n = routeK D br x (n - 1)) := routeF_ok ⟨HOK.out, HBR.out, by omega, hx1, by omega⟩
          have hsv := hid s.h
          generalize s.val = v1 at hsv ⊢
          have HC := hid hc
          clear y0 y1 y2 c0 c0s hc
          go_wp2
          go_loopw [9, 10, 11] (fun m a i wr => ∃ (k : Nat) (mm aa : Int), (1 ≤ k ∧ k ≤ n) ∧ i = .int .i64 k ∧ m = .int .i64 mm ∧ a = .int .i64 aa ∧ Hid (RoSt D br x k mm aa) ∧ Hid (Below v.heap.size v wr)) (fun _ _ i _ => n - (intOf i).toNat)
          case atStart => exact ⟨1, 0, br, by omega, rfl, rfl, rfl, .inr ⟨by omega, rfl⟩, hsv⟩
          case round =>
            clear hsv
            obtain ⟨k, mm, aa, ⟨hk1, hk⟩, rfl, rfl, rfl, HR, HBW⟩ := hrel
            have hbd := HR.out.bd (by omega) (by omega)
            obtain ⟨bd1, bd2, bd3, bd4⟩ := hbd
            by_cases hlt : k < n
            · have hltz : (k : Int) < (n : Int) := by omega
              go_wp2
              go_loopw [12, 13] (fun bst i wr => ∃ (j : Nat) (bb : Int), j ≤ D.m ∧ i = .int .i64 j ∧ bst = .int .i64 bb ∧ Hid (MinU D (x (k - 1)) (x k) j bb) ∧ Hid (Below v.heap.size v wr)) (fun _ i _ => D.m - (intOf i).toNat)
              case atStart => exact ⟨0, -1, by omega, rfl, rfl, .inl ⟨rfl, fun i hi => absurd hi (by omega)⟩, HBW⟩
              case round =>
                clear HBW
                obtain ⟨j, bb, hj, rfl, rfl, HMU, HBW⟩ := hrel
                have z1 := (HB.out.below HBW.out).cell (i := 1) rfl
                by_cases hjm : j < D.m
                · have hjz : (j : Int) < (D.m : Int) := by omega
                  have hm10 := HOK.out.2.1
                  obtain ⟨b2, o2, rfl, a1, a2, a3⟩ := (HX.out.below HBW.out).pas.at_ hjm
                  obtain ⟨_, _, hne, ht1, ht2⟩ := HOK.out.2.2.2 j hjm
                  have hBx := hid (Blk.new wr 31 #[.int .i64 (D.a j), .int .i64 (D.b j), .int .i64 (D.t j)])
                  have HBJ := hid (HBW.out.alloc HBW.out.size (.cells #[.int .i64 (D.a j), .int .i64 (D.b j), .int .i64 (D.t j)] 31))
                  go_wp2
                  generalize wr.alloc (.cells #[.int .i64 (D.a j), .int .i64 (D.b j), .int .i64 (D.t j)] 31) = v1 at hBx HBJ ⊢
                  have s1 := sub_cell (cell_below HBJ.out (HC.out k hlt))
                  have s2 := sub_cell (cell_below HBJ.out (HC.out (k - 1) (by omega)))
                  have s3 := sub_cell (hBx.out.cell (i := 0) rfl)
                  have s4 := sub_cell (hBx.out.cell (i := 1) rfl)
                  have z5 := hBx.out.cell (i := 2) rfl
                  have s5 := sub_cell z5
                  clear a1 a2 a3 z1
                  by_cases e1 : D.a j = x (k - 1)
                  · have f1 : (D.a j == x (k - 1)) = true := by simp [e1]
                    by_cases e2 : D.b j = x k
                    · have f2 : (D.b j == x k) = true := by simp [e2]
                      have HMA : Hid (Mat D (x (k - 1)) (x k) j) := .inl ⟨e1, e2⟩
                      clear e1 e2 hne
                      by_cases h8 : bb < 0
                      · have g8 : decide (bb < 0) = true := decide_eq_true h8
                        have HK : Hid (bb < 0 ∨ D.t j < bb) := .inl h8
                        go_wp2
                        refine wp_region_sub (by kernel_rfl) (by kernel_rfl) ?_
                        repeat (go_big_quiet_step ((fail)))
                        refine wpQuiet_nil ?_
                        intro _ hw'
                        obtain ⟨s, hw''⟩ := hw'
                        subst hw''
                        have hsv := s.h
                        generalize s.val = v2 at hsv ⊢
                        have u5 := cell_below hsv z5
                        go_wp2
                        go_roundw
                        case rel => exact ⟨j + 1, _, by omega, by go_num, rfl, HMU.out.set HMA.out (by omega) HK.out, hid (HBJ.out.trans (hsv.mono HBJ.out.size))⟩
                        case measure => simp [intOf] <;> omega
                      · have g8 : decide (bb < 0) = false := decide_eq_false h8
                        by_cases h9 : D.t j < bb
                        · have g9 : decide (D.t j < bb) = true := decide_eq_true h9
                          have HK : Hid (bb < 0 ∨ D.t j < bb) := .inr h9
                          go_wp2
                          refine wp_region_sub (by kernel_rfl) (by kernel_rfl) ?_
                          repeat (go_big_quiet_step ((fail)))
                          refine wpQuiet_nil ?_
                          intro _ hw'
                          obtain ⟨s, hw''⟩ := hw'
                          subst hw''
                          have hsv := s.h
                          generalize s.val = v2 at hsv ⊢
                          have u5 := cell_below hsv z5
                          go_wp2
                          go_roundw
                          case rel => exact ⟨j + 1, _, by omega, by go_num, rfl, HMU.out.set HMA.out (by omega) HK.out, hid (HBJ.out.trans (hsv.mono HBJ.out.size))⟩
                          case measure => simp [intOf] <;> omega
                        · have g9 : decide (D.t j < bb) = false := decide_eq_false h9
                          have HNM : Hid (¬ Mat D (x (k - 1)) (x k) j ∨ (0 ≤ bb ∧ bb ≤ D.t j)) := .inr ⟨by omega, by omega⟩
                          go_wp2
                          refine wp_region_sub (by kernel_rfl) (by kernel_rfl) ?_
                          repeat (go_big_quiet_step ((fail)))
                          refine wpQuiet_nil ?_
                          intro _ hw'
                          obtain ⟨s, hw''⟩ := hw'
                          subst hw''
                          go_wp2
                          have hsv := s.h
                          generalize s.val = v2 at hsv ⊢
                          go_roundw
                          case rel => exact ⟨j + 1, bb, by omega, by go_num, rfl, HMU.out.keep HNM.out, hid (HBJ.out.trans (hsv.mono HBJ.out.size))⟩
                          case measure => simp [intOf] <;> omega
                    · have f2 : (D.b j == x k) = false := by simp [e2]
                      have f3 : (D.b j == x (k - 1)) = false := by simp; omega
                      have HNM : Hid (¬ Mat D (x (k - 1)) (x k) j ∨ (0 ≤ bb ∧ bb ≤ D.t j)) := .inl fun h => by rcases h with h | h <;> omega
                      clear e1 e2 hne
                      go_wp2
                      refine wp_region_sub (by kernel_rfl) (by kernel_rfl) ?_
                      repeat (go_big_quiet_step ((fail)))
                      refine wpQuiet_nil ?_
                      intro _ hw'
                      obtain ⟨s, hw''⟩ := hw'
                      subst hw''
                      go_wp2
                      have hsv := s.h
                      generalize s.val = v2 at hsv ⊢
                      go_roundw
                      case rel => exact ⟨j + 1, bb, by omega, by go_num, rfl, HMU.out.keep HNM.out, hid (HBJ.out.trans (hsv.mono HBJ.out.size))⟩
                      case measure => simp [intOf] <;> omega
                  · have f1 : (D.a j == x (k - 1)) = false := by simp [e1]
                    by_cases e3 : D.b j = x (k - 1)
                    · have f3 : (D.b j == x (k - 1)) = true := by simp [e3]
                      by_cases e4 : D.a j = x k
                      · have f4 : (D.a j == x k) = true := by simp [e4]
                        have HMA : Hid (Mat D (x (k - 1)) (x k) j) := .inr ⟨e3, e4⟩
                        clear e1 e3 e4 hne
                        by_cases h8 : bb < 0
                        · have g8 : decide (bb < 0) = true := decide_eq_true h8
                          have HK : Hid (bb < 0 ∨ D.t j < bb) := .inl h8
                          go_wp2
                          refine wp_region_sub (by kernel_rfl) (by kernel_rfl) ?_
                          repeat (go_big_quiet_step ((fail)))
                          refine wpQuiet_nil ?_
                          intro _ hw'
                          obtain ⟨s, hw''⟩ := hw'
                          subst hw''
                          have hsv := s.h
                          generalize s.val = v2 at hsv ⊢
                          have u5 := cell_below hsv z5
                          go_wp2
                          go_roundw
                          case rel => exact ⟨j + 1, _, by omega, by go_num, rfl, HMU.out.set HMA.out (by omega) HK.out, hid (HBJ.out.trans (hsv.mono HBJ.out.size))⟩
                          case measure => simp [intOf] <;> omega
                        · have g8 : decide (bb < 0) = false := decide_eq_false h8
                          by_cases h9 : D.t j < bb
                          · have g9 : decide (D.t j < bb) = true := decide_eq_true h9
                            have HK : Hid (bb < 0 ∨ D.t j < bb) := .inr h9
                            go_wp2
                            refine wp_region_sub (by kernel_rfl) (by kernel_rfl) ?_
                            repeat (go_big_quiet_step ((fail)))
                            refine wpQuiet_nil ?_
                            intro _ hw'
                            obtain ⟨s, hw''⟩ := hw'
                            subst hw''
                            have hsv := s.h
                            generalize s.val = v2 at hsv ⊢
                            have u5 := cell_below hsv z5
                            go_wp2
                            go_roundw
                            case rel => exact ⟨j + 1, _, by omega, by go_num, rfl, HMU.out.set HMA.out (by omega) HK.out, hid (HBJ.out.trans (hsv.mono HBJ.out.size))⟩
                            case measure => simp [intOf] <;> omega
                          · have g9 : decide (D.t j < bb) = false := decide_eq_false h9
                            have HNM : Hid (¬ Mat D (x (k - 1)) (x k) j ∨ (0 ≤ bb ∧ bb ≤ D.t j)) := .inr ⟨by omega, by omega⟩
                            go_wp2
                            refine wp_region_sub (by kernel_rfl) (by kernel_rfl) ?_
                            repeat (go_big_quiet_step ((fail)))
                            refine wpQuiet_nil ?_
                            intro _ hw'
                            obtain ⟨s, hw''⟩ := hw'
                            subst hw''
                            go_wp2
                            have hsv := s.h
                            generalize s.val = v2 at hsv ⊢
                            go_roundw
                            case rel => exact ⟨j + 1, bb, by omega, by go_num, rfl, HMU.out.keep HNM.out, hid (HBJ.out.trans (hsv.mono HBJ.out.size))⟩
                            case measure => simp [intOf] <;> omega
                      · have f4 : (D.a j == x k) = false := by simp [e4]
                        have HNM : Hid (¬ Mat D (x (k - 1)) (x k) j ∨ (0 ≤ bb ∧ bb ≤ D.t j)) := .inl fun h => by rcases h with h | h <;> omega
                        clear e1 e3 e4 hne
                        go_wp2
                        refine wp_region_sub (by kernel_rfl) (by kernel_rfl) ?_
                        repeat (go_big_quiet_step ((fail)))
                        refine wpQuiet_nil ?_
                        intro _ hw'
                        obtain ⟨s, hw''⟩ := hw'
                        subst hw''
                        go_wp2
                        have hsv := s.h
                        generalize s.val = v2 at hsv ⊢
                        go_roundw
                        case rel => exact ⟨j + 1, bb, by omega, by go_num, rfl, HMU.out.keep HNM.out, hid (HBJ.out.trans (hsv.mono HBJ.out.size))⟩
                        case measure => simp [intOf] <;> omega
                    · have f3 : (D.b j == x (k - 1)) = false := by simp [e3]
                      have HNM : Hid (¬ Mat D (x (k - 1)) (x k) j ∨ (0 ≤ bb ∧ bb ≤ D.t j)) := .inl fun h => by rcases h with h | h <;> omega
                      clear e1 e3 hne
                      go_wp2
                      refine wp_region_sub (by kernel_rfl) (by kernel_rfl) ?_
                      repeat (go_big_quiet_step ((fail)))
                      refine wpQuiet_nil ?_
                      intro _ hw'
                      obtain ⟨s, hw''⟩ := hw'
                      subst hw''
                      go_wp2
                      have hsv := s.h
                      generalize s.val = v2 at hsv ⊢
                      go_roundw
                      case rel => exact ⟨j + 1, bb, by omega, by go_num, rfl, HMU.out.keep HNM.out, hid (HBJ.out.trans (hsv.mono HBJ.out.size))⟩
                      case measure => simp [intOf] <;> omega
                · have : j = D.m := by omega
                  subst this
                  have HMI : Hid (mI D (x (k - 1)) (x k) = bb) := HMU.out.done HOK.out
                  have hhi := mI_hi D (x (k - 1)) (x k)
                  rw [HMI.out] at hhi
                  obtain ⟨t1, t2, t3⟩ := hhi
                  by_cases h1 : bb < 0
                  · have HN : Hid (routeF D br x n = none) := HF.out.trans (HR.out.stop (by omega) hlt HMI.out (.inl (by omega)))
                    go_wp2
                    go_ret3
                    exact ⟨by rw [← rrV_none HN.out]; rfl, Below.then_ HWV.out HBW.out⟩
                  · by_cases h2 : aa < bb
                    · have HN : Hid (routeF D br x n = none) := HF.out.trans (HR.out.stop (by omega) hlt HMI.out (.inr h2))
                      go_wp2
                      go_ret3
                      exact ⟨by rw [← rrV_none HN.out]; rfl, Below.then_ HWV.out HBW.out⟩
                    · have HR2 := hid (HR.out.on (by omega) HMI.out (by omega) (by omega))
                      have hxk : 0 ≤ x k ∧ x k < D.s := by
                        have hR := HR2.out
                        rcases hR with ⟨h, _⟩ | ⟨_, h⟩
                        · omega
                        · rw [show k + 1 - 1 = (k - 1) + 1 by omega] at h
                          have := (routeK_in h).1
                          rwa [show k - 1 + 1 = k by omega] at this
                      obtain ⟨q, hq⟩ := Int.eq_ofNat_of_zero_le hxk.1
                      have lq : q < D.k := by have := HOK.out.2.2.1; omega
                      have lqz : (q : Int) < (D.k : Int) := by omega
                      have c1 := cell_below HBW.out (HC.out k hlt)
                      rw [hq] at c1
                      obtain ⟨bq, oq, rfl, hdq⟩ := (HX.out.below HBW.out).dep (by omega)
                      have q1 : wr.cell? ⟨bq, oq + q, none⟩ = some (.bool (D.dep q)) := hdq q lq
                      have z2 := (HB.out.below HBW.out).cell (i := 2) rfl
                      have HQ := hid hq
                      clear hdq hq hxk
                      have s1 := sub_cell c1
                      have s3 := sub_cell z2
                      rcases (Bool.eq_false_or_eq_true (D.dep q)).symm with hd | hd
                      · have HR3 : Hid (RoSt D br x (k + 1) (mm + bb) (aa - bb)) := by
                          have h := HR2.out
                          rw [HQ.out, Int.toNat_natCast, if_neg (by rw [hd]; decide)] at h
                          exact h
                        rw [hd] at q1
                        have s2 := sub_cell q1
                        clear HR2 HR c1 q1 z2
                        go_wp2
                        refine wp_region_sub (by kernel_rfl) (by kernel_rfl) ?_
                        repeat (go_big_quiet_step ((fail)))
                        refine wpQuiet_nil ?_
                        intro _ hw'
                        obtain ⟨s, hw''⟩ := hw'
                        subst hw''
                        have hsv := s.h
                        generalize s.val = v2 at hsv ⊢
                        go_wp2
                        go_roundw
                        case rel => exact ⟨k + 1, _, _, by omega, by go_num, by go_num, by go_num, HR3, hid (HBW.out.trans (hsv.mono HBW.out.size))⟩
                        case measure => simp [intOf] <;> omega
                      · have HR3 : Hid (RoSt D br x (k + 1) (mm + bb) br) := by
                          have h := HR2.out
                          rw [HQ.out, Int.toNat_natCast, if_pos hd] at h
                          exact h
                        rw [hd] at q1
                        have s2 := sub_cell q1
                        clear HR2 HR c1 q1 z2
                        go_wp2
                        refine wp_region_sub (by kernel_rfl) (by kernel_rfl) ?_
                        repeat (go_big_quiet_step ((fail)))
                        refine wpQuiet_nil ?_
                        intro _ hw'
                        obtain ⟨s, hw''⟩ := hw'
                        subst hw''
                        have hsv := s.h
                        generalize s.val = v2 at hsv ⊢
                        go_wp2
                        go_roundw
                        case rel => exact ⟨k + 1, _, _, by omega, by go_num, by go_num, rfl, HR3, hid (HBW.out.trans (hsv.mono HBW.out.size))⟩
                        case measure => simp [intOf] <;> omega
            · have : k = n := by omega
              subst this
              have HV : Hid (routeF D br x k = some (mm, aa)) := by
                rcases HR.out with ⟨h1, _⟩ | ⟨_, h2⟩
                · omega
                · exact HF.out.trans h2
              go_wp2
              go_ret3
              exact ⟨by rw [← rrV_some HV.out]; rfl, Below.then_ HWV.out HBW.out⟩
        · have HN : Hid (routeF D br x n = none) := routeF_bad fun h => hx0 (by have := h.2.2.2 0 (by omega); omega)
          have HX0 := hid hx0
          clear hx0
          refine wp_region_sub (by kernel_rfl) (by kernel_rfl) ?_
          repeat (go_big_quiet_step ((first | (go_at_call 15; exact RetV.sub (HSV.out _)) | (go_at_call 49; (with_reducible exact RetS.sub (l1In_y br _ _ _ hb1 hb60))) | (go_at_call 49; (with_reducible exact RetS.sub (l1In_n (x 0) _ _ _ HX0.out))))))
          refine wpQuiet_nil ?_
          intro _ hw'
          obtain ⟨s, hw''⟩ := hw'
          subst hw''
          have hsv := s.h
          go_wp2
          go_ret3
          exact ⟨by rw [← rrV_none HN.out]; rfl, Below.then_ HWV.out hsv⟩
    · have HN : Hid (routeF D br x n = none) := routeF_bad fun h => hbr h.2.1
      have HBR := hid hbr
      clear hbr
      refine wp_region_sub (by kernel_rfl) (by kernel_rfl) ?_
      repeat (go_big_quiet_step ((first | (go_at_call 15; exact RetV.sub (HSV.out _)) | (go_at_call 49; (with_reducible exact RetS.sub (l1In_n br _ _ _ HBR.out))))))
      refine wpQuiet_nil ?_
      intro _ hw'
      obtain ⟨s, hw''⟩ := hw'
      subst hw''
      have hsv := s.h
      go_wp2
      go_ret3
      exact ⟨by rw [← rrV_none HN.out]; rfl, Below.then_ HWV.out hsv⟩
  · have HN : Hid (routeF D br x n = none) := routeF_bad fun h => hok h.1
    have HSV : Hid (∀ s : Sub v, Calls Tryd.prog 15 #[.agg #[.int .i64 D.s, .slice P D.m c, .slice Q D.k d]] s.val (RetV (.bool false) s.val)) := fun s => RetB.no (SearchValid_spec P Q D c d _ (HX.out.below s.h) hs) hok
    have HOK := hid hok
    clear hok
    refine wp_region_sub (by kernel_rfl) (by kernel_rfl) ?_
    repeat (go_big_quiet_step ((go_at_call 15; exact RetV.sub (HSV.out _))))
    refine wpQuiet_nil ?_
    intro _ hw'
    obtain ⟨s, hw''⟩ := hw'
    subst hw''
    have hsv := s.h
    go_wp2
    go_ret3
    exact ⟨by rw [← rrV_none HN.out]; rfl, Below.then_ HWV.out hsv⟩
end Go.Proofs.YtlhcjbgcgbeocaaDoor
