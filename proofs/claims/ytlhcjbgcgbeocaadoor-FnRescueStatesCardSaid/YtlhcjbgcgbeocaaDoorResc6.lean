/- The program's RescueStates: the walk. Lists are at most 2^20 long. -/
import Derived.Test.YtlhcjbgcgbeocaaDoorState2
import Derived.Test.YtlhcjbgcgbeocaaDoorResc5
namespace Go.Proofs.YtlhcjbgcgbeocaaDoor
open Go.RowKit

theorem tmod_cast' (p n : Nat) : (p : Int).tmod (n : Int) = ((p % n : Nat) : Int) := by
  rw [Int.tmod_eq_emod_of_nonneg (Int.natCast_nonneg _), Int.natCast_emod]
theorem tdiv_cast' (p n : Nat) : (p : Int).tdiv (n : Int) = ((p / n : Nat) : Int) := by
  rw [Int.tdiv_eq_ediv_of_nonneg (Int.natCast_nonneg _), Int.natCast_ediv]

/-- What a row of the table tells of the steps. -/
theorem no_step {D : SrchD} {T : Nat → Nat → Int} {x u : Nat} {a : Int} (hok : SrchOk D) (hm : MinE D x u (T x u)) (h : T x u < 1 ∨ a < T x u) : ∀ t, EdgeM D x u t → ¬ t ≤ a := fun t he hle => by
  obtain rfl := he.1.uniq hm
  have := hm.hi hok
  have := he.2
  omega

set_option maxRecDepth 20000 in
set_option maxHeartbeats 8000000 in
theorem States_main (P Q : Option Addr) (D : SrchD) (c0 d0 b f t : Nat) (w : World) (hx : SrchAt w P Q D) (hs : SrchSmall D) (hok : SrchOk D) (h1 : 1 ≤ b) (h60 : b ≤ 60) (hf : f < D.k) (ht : t < D.k) :
    Calls Tryd.prog 44 #[.agg #[.int .i64 D.s, .slice P D.m c0, .slice Q D.k d0], .int .i64 b, .int .i64 f, .int .i64 t] w (RetI (fun r => SDist (EdgeM D) D.dep b f t r) w) := by
  have hsk := hok.2.2.1
  have hk7 : D.k ≤ 7 := by have := hok.1.2; omega
  have HS : Hid (D.s = (D.k : Int)) := hsk.symm
  have HFITS := hid (fun w' hx' => RetB.yes (rescueFits_any P Q D c0 d0 b w' hx' hs) ⟨hok, by omega, by omega⟩)
  have HWALK := hid (fun w' hx' => passageTimes_any P Q D c0 d0 w' hx' hok)
  rw [HS.out] at HFITS HWALK
  rw [← hsk]
  have HOK := hid hok
  have HX := hid hx
  obtain ⟨N, hN0⟩ : ∃ N, D.k * (b + 1) = N := ⟨_, rfl⟩
  obtain ⟨F0, hF0⟩ : ∃ F0, f * (b + 1) = F0 := ⟨_, rfl⟩
  have hNz : (D.k : Int) * ((b : Int) + 1) = (N : Int) := by rw [← hN0]; push_cast; rfl
  have hFz : (f : Int) * ((b : Int) + 1) = (F0 : Int) := by rw [← hF0]; push_cast; rfl
  have hN7 : N ≤ 427 := by rw [← hN0]; exact Nat.mul_le_mul hk7 (show b + 1 ≤ 61 by omega)
  obtain ⟨s0, hs0⟩ : ∃ s0, f * (b + 1) + b = s0 := ⟨_, rfl⟩
  have hFN : s0 < N := by rw [← hs0, ← hN0]; exact sIdx_lt (Nat.le_refl _) hf
  have hidx : (F0 : Int) + (b : Int) = (s0 : Int) := by rw [← hs0, ← hF0]; push_cast; rfl
  have HS0 := hid hs0
  have HN0 := hid hN0
  have HF0 := hid hF0
  have hmk := run_make_row' (P := Tryd.prog) 24 4 (.bool false) 1 Tryd.underlying24 info4 rfl .i64 .i64 N (by omega) (by omega)
  have hfz : (f : Int) < (D.k : Int) := by omega
  have htz : (t : Int) < (D.k : Int) := by omega
  clear hsk hok hx h1 hN0 hF0 hs0
  have hB := hid (Blk.new w 26 #[.int .i64 D.k, .slice P D.m c0, .slice Q D.k d0])
  have hw1 := hid (below_alloc1 w (.cells #[.int .i64 D.k, .slice P D.m c0, .slice Q D.k d0] 26))
  go_enter Tryd.func44, Tryd.ntmps44
  go_wp2_with fail
  refine (HFITS.out _ (HX.out.below hw1.out)).mono ?_
  rintro e w1 ⟨rfl, hb1⟩
  have hB1 := hid (hB.out.below hb1)
  have y0 := hB1.out.cell (i := 0) rfl
  have y1 := hB1.out.cell (i := 1) rfl
  have y2 := hB1.out.cell (i := 2) rfl
  have hw2 := hid (Below.then_ hw1.out hb1)
  clear hB hw1 hb1
  go_wp2_with (first | (go_at_call 48; (with_reducible refine (isIndex_y (f : Int) _ _ (by omega) hfz).mono ?_); rintro e w' ⟨rfl, rfl⟩) | (go_at_call 48; (with_reducible refine (isIndex_y (t : Int) _ _ (by omega) htz).mono ?_); rintro e w' ⟨rfl, rfl⟩))
  refine (HWALK.out _ (HX.out.below hw2.out)).mono ?_
  rintro e w2 ⟨g, r, T, rfl, hT, hD, hg, hb2⟩
  have hB2 := hid (hB1.out.below hb2)
  have HW3 := hid (Below.then_ hw2.out hb2)
  have HTT := hid hT
  have HD := hid hD
  clear y0 y1 y2 hT hD hg hb2 HFITS HWALK
  have y0 := hB2.out.cell (i := 0) rfl
  go_wp2_with fail
  refine (noTimes_any N _ (by omega)).mono ?_
  rintro e w3 ⟨rfl, hrow, hb3⟩
  have s1 := hrow.cell hFN
  have s2 := hrow.frozen (s0)
  have hB3 := hid ((hB2.out.below hb3).far (p := ⟨w2.heap.size, s0, none⟩) (by have := hB2.out.lt; show w.heap.size ≠ w2.heap.size; omega) (.int .i64 0))
  clear y0
  have y0 := hB3.out.cell (i := 0) rfl
  have hR0 : Row w3 w2.heap.size N N (fun _ => -1) := ⟨_, hrow, fun _ _ => rfl⟩
  have HR0 := hid ((hR0.set (s0) 0).congr (y := fun v => if v = s0 then 0 else -1) (fun _ _ => rfl))
  have HB0 := hid (hb3.setCell (p := ⟨w2.heap.size, s0, none⟩) (Nat.le_refl _) (.int .i64 0))
  have hlt23 : w2.heap.size < w3.heap.size := hrow.lt
  clear hrow hR0 hb3
  have HSR0 := hid (World.rowIs_made (w3.setCell ⟨w2.heap.size, s0, none⟩ (.int .i64 0)) (.bool false) N 4)
  have HRA := hid (HR0.out.alloc (.cells (madeCells #[.bool false] N) 4))
  have HBA := hid (HB0.out.alloc HB0.out.size (.cells (madeCells #[.bool false] N) 4))
  have HBK := hid (hB3.out.alloc (.cells (madeCells #[.bool false] N) 4))
  have hidz : (s0 : Int) < (N : Int) := by omega
  go_wp2
  clear hmk y0 HB0 HR0 s1 s2
  simp only [World.size_setCell] at HSR0
  have HT0 : Hid (DSx D b f (fun _ => false) (fun v => if v = s0 then 0 else -1) N) := by
    have := DSx.start (b := b) hf
    rw [HS0.out, HN0.out] at this
    exact this
  go_loopg [] N (fun l wr => ∃ S times, Hid (Row wr w2.heap.size N N times) ∧ Hid (DSx D b f S times l) ∧ Hid (wr.rowIs w3.heap.size 4 N (fun j => .bool (S j))) ∧ Hid (Below w2.heap.size w2 wr) ∧ Hid (∀ x, x / (b + 1) = t → S x = false))
  case atStart => exact ⟨fun _ => false, _, HRA, HT0, HSR0, HBA, fun _ _ => rfl⟩
  case round =>
    clear HRA HT0 HSR0 HBA HBK
    obtain ⟨S, times, HRT, HJ, HSR, HB, HSt⟩ := hrel
    have hXr := HX.out.below (Below.then_ HW3.out HB.out)
    go_wp2_with fail
    refine (earliest_any _ _ N _ _ times S wr (HRT.out.ints (Nat.le_refl _)) (Rd.of_row HSR.out) (by omega)).mono ?_
    rintro e w' ⟨⟨i, rfl, hN⟩, rfl⟩
    have hq := HJ.out.2
    rcases hN with ⟨rfl, hnone⟩ | ⟨c, rfl, hc, hSc, h0c, hmin⟩
    · have HG : Hid (SDist (EdgeM D) D.dep b f t (-1)) := by
        obtain ⟨hi, _, hdj⟩ := hq
        exact sdist_none HOK.out hf hdj HSt.out (by rw [HN0.out]; exact hnone)
      clear hq hnone
      go_wp2
      go_ret
      exact ⟨_, rfl, HG.out, Below.then_ HW3.out HB.out⟩
    · have HNC : Hid (c < D.k * (b + 1)) := by show _ < _; rw [HN0.out]; exact hc
      have hcz : (c : Int) < (N : Int) := by omega
      obtain ⟨x, hx0⟩ : ∃ x, c / (b + 1) = x := ⟨_, rfl⟩
      obtain ⟨a, ha0⟩ : ∃ a, c % (b + 1) = a := ⟨_, rfl⟩
      have hxk : x < D.k := by rw [← hx0]; exact (Nat.div_lt_iff_lt_mul (by omega)).2 HNC.out
      have hab : a ≤ b := by have := Nat.mod_lt c (show 0 < b + 1 by omega); omega
      have d1 : (c : Int) / ((b : Int) + 1) = (x : Int) := by rw [← hx0]; push_cast; rfl
      have d2 : (c : Int) % ((b : Int) + 1) = (a : Int) := by rw [← ha0]; push_cast; rfl
      have d3 : (c : Int).tdiv ((b : Int) + 1) = (x : Int) := by rw [Int.tdiv_eq_ediv_of_nonneg (Int.natCast_nonneg _)]; exact d1
      have d4 : (c : Int).tmod ((b : Int) + 1) = (a : Int) := by rw [Int.tmod_eq_emod_of_nonneg (Int.natCast_nonneg _)]; exact d2
      have hb1 : ((b : Int) + 1 == 0) = false := by simp; omega
      have hxz : (x : Int) < (D.k : Int) := by omega
      have HX0 := hid hx0
      have HA0 := hid ha0
      clear hx0 ha0
      have HJ2 := hid (HJ.out.settle HNC.out h0c hSc (by rw [HN0.out]; exact hmin))
      have s1 := HSR.out.cell hc
      have s2 := HSR.out.frozen c
      have HSR2 := hid (bools_row_set HSR.out c)
      have HRT2 := hid (HRT.out.far (p := ⟨w3.heap.size, c, none⟩) (by show w2.heap.size ≠ w3.heap.size; omega) (.bool true))
      have HB2 := hid (HB.out.setCell (p := ⟨w3.heap.size, c, none⟩) (by show w2.heap.size ≤ w3.heap.size; omega) (.bool true))
      by_cases hxt : x = t
      · have hxtz : ((x : Int) == (t : Int)) = true := by simp [hxt]
        have HG : Hid (SDist (EdgeM D) D.dep b f t (times c)) := by
          obtain ⟨hi, _, hdj⟩ := hq
          exact sdist_of_dj HOK.out hf hdj HSt.out HNC.out (HX0.out.trans hxt) h0c (by rw [HN0.out]; exact hmin)
        have q1 := HRT2.out.cell (Nat.le_refl _) hc
        clear hq hmin hxt
        go_wp2
        go_quiet (fail)
        go_wp2
        go_ret
        exact ⟨_, rfl, HG.out, below_drewN (Below.then_ HW3.out HB2.out) _⟩
      · have hxtz : ((x : Int) == (t : Int)) = false := by simp; omega
        have HS2t : Hid (∀ y, y / (b + 1) = t → (if y = c then true else S y) = false) := fun y hy => by
          rw [if_neg (fun e => hxt (by rw [← HX0.out, ← e]; exact hy))]
          exact HSt.out y hy
        have q3 := (HTT.out.below HB2.out).row hxk hxk
        clear hq hmin hxt hXr HJ
        generalize hS2 : (fun v => if v = c then true else S v) = S2 at HJ2
        replace HSR2 : Hid ((wr.setCell ⟨w3.heap.size, c, none⟩ (.bool true)).rowIs w3.heap.size 4 N (fun j => .bool (S2 j))) := by rw [← hS2]; exact HSR2
        replace HS2t : Hid (∀ y, y / (b + 1) = t → S2 y = false) := by rw [← hS2]; exact HS2t
        clear hS2
        go_wp2
        go_quiet (fail)
        go_wp2
        go_loopw [84] (fun i wr => ∃ u : Nat, ∃ times, u ≤ D.k ∧ i = .int .i64 u ∧ Hid (Row wr w2.heap.size N N times) ∧ Hid (DSy D b f S2 times gk c u) ∧ Hid (wr.rowIs w3.heap.size 4 N (fun j => .bool (S2 j))) ∧ Hid (Below w2.heap.size w2 wr)) (fun i _ => D.k - (intOf i).toNat)
        case atStart => exact ⟨0, times, by omega, rfl, HRT2, HJ2, HSR2, hid (below_drewN HB2.out _)⟩
        case round =>
          clear HRT2 HJ2 HSR2 HB2 s1 s2 q3
          obtain ⟨u, times, huk, rfl, HR, HT, HSR, HB⟩ := hrel
          by_cases hu : u < D.k
          · have huz : (u : Int) < (D.k : Int) := by omega
            have w1' := (HTT.out.below HB.out).cell hxk hu
            have HM : Hid (MinE D x u (T x u)) := PT.min HD.out hxk hu
            have HNC' := HNC
            by_cases h1 : T x u < 1
            · have HNO : Hid (∀ t, EdgeM D (c / (b + 1)) u t → ¬ t ≤ ((c % (b + 1) : Nat) : Int)) := by
                rw [HX0.out]; exact no_step HOK.out HM.out (.inl h1)
              go_wp2
              go_roundw
              case rel => exact ⟨u + 1, times, by omega, by go_num, HR, HT.out.skip HNO.out, HSR, HB⟩
              case measure => simp [intOf] <;> omega
            · by_cases h2 : T x u ≤ (a : Int)
              · obtain ⟨k, hk0⟩ := Int.eq_ofNat_of_zero_le (show 0 ≤ T x u by omega)
                have hka : k ≤ a := by omega
                have hkt : (T x u).toNat = k := by rw [hk0]; exact Int.toNat_natCast k
                have h20 : T x u ≤ 20 := (MinE.hi HOK.out HM.out).2.1
                have HE : Hid (EdgeM D (c / (b + 1)) u (T x u)) := by rw [HX0.out]; exact ⟨HM.out, by omega⟩
                have HLE : Hid (T x u ≤ ((c % (b + 1) : Nat) : Int)) := by rw [HA0.out]; exact h2
                have hsum : wrap64 (times c + T x u) = times c + T x u := HT.out.sum h60 hk7 (by omega) (by omega) h20
                obtain ⟨J0, hJ0⟩ : ∃ J0, u * (b + 1) = J0 := ⟨_, rfl⟩
                have hJz : (u : Int) * ((b : Int) + 1) = (J0 : Int) := by rw [← hJ0]; push_cast; rfl
                have hJ7 : J0 ≤ 427 := by rw [← hJ0]; exact Nat.mul_le_mul (show u ≤ 7 by omega) (show b + 1 ≤ 61 by omega)
                obtain ⟨bq, oq, hQ, hdq⟩ := (HX.out.below (Below.then_ HW3.out HB.out)).dep (by omega)
                have q1 : wr.cell? ⟨bq, oq + u, none⟩ = some (.bool (D.dep u)) := hdq u hu
                have q2 := (hB2.out.below HB.out).cell (i := 2) rfl
                have HQ := hid hQ
                rw [hQ] at q2
                clear hdq hQ
                rcases (Bool.eq_false_or_eq_true (D.dep u)).symm with hd | hd
                · obtain ⟨o, ho0⟩ : ∃ o, J0 + (a - k) = o := ⟨_, rfl⟩
                  have hoz1 : (J0 : Int) + ((a : Int) - T x u) = (o : Int) := by omega
                  have HO : Hid (tgt D b c u (T x u) = o) := by
                    unfold tgt
                    rw [if_neg (by rw [hd]; simp), HA0.out, hJ0, hkt, ho0]
                    rfl
                  rw [hd] at q1
                  clear hJ0 hd hk0 ho0 hkt
                  have ho : o < N := by rw [← HO.out]; have := tgt_lt (D := D) (b := b) (c := c) (w := T x u) hu; rw [HN0.out] at this; exact this
                  have hoz : (o : Int) < (N : Int) := by omega
                  have s1 := sub_cell (HR.out.cell (Nat.le_refl _) ho)
                  have s2 := sub_cell (HR.out.cell (Nat.le_refl _) hc)
                  by_cases h4 : times o < 0
                  · have e4 : decide (times o < 0) = true := decide_eq_true h4
                    have HY : Hid (times o < 0 ∨ times c + T x u < times o) := .inl h4
                    go_wp2
                    refine wp_region_sub (by kernel_rfl) (by kernel_rfl) ?_
                    repeat (go_big_quiet_step ((fail)))
                    refine wpQuiet_nil ?_
                    intro _ hw'
                    obtain ⟨s, hw''⟩ := hw'
                    subst hw''
                    have hsv := s.h
                    generalize s.val = v at hsv ⊢
                    clear s1 s2
                    have hRv := HR.out.below hsv
                    have s1 := hRv.cell (Nat.le_refl _) ho
                    have s2 := hRv.cell (Nat.le_refl _) hc
                    have s3 := hRv.froz o
                    have HRU := hid (hRv.set o (times c + T x u))
                    have HSU : Hid ((v.setCell ⟨w2.heap.size, o, none⟩ (.int .i64 (times c + T x u))).rowIs w3.heap.size 4 N (fun j => .bool (S2 j))) := (row_below hsv HSR.out).setOther (by show w3.heap.size ≠ w2.heap.size; omega) _
                    have HLU := hid ((HB.out.trans (hsv.mono HB.out.size)).setCell (p := ⟨w2.heap.size, o, none⟩) (Nat.le_refl _) (.int .i64 (times c + T x u)))
                    have HTU : Hid (DSy D b f S2 (fun v => if v = o then times c + T x u else times v) gk c (u + 1)) := by
                      have h7 := HT.out.set HNC.out hu HE.out HLE.out h20 (by rw [HO.out]; exact HY.out)
                      rw [HO.out] at h7
                      exact h7
                    clear hRv hsv
                    go_wp2
                    go_roundw
                    case rel => exact ⟨u + 1, _, by omega, by go_num, HRU, HTU, HSU, HLU⟩
                    case measure => simp [intOf] <;> omega
                  · have e4 : decide (times o < 0) = false := decide_eq_false h4
                    by_cases h5 : times c + T x u < times o
                    · have e5 : decide (times c + T x u < times o) = true := decide_eq_true h5
                      have HY : Hid (times o < 0 ∨ times c + T x u < times o) := .inr h5
                      go_wp2
                      refine wp_region_sub (by kernel_rfl) (by kernel_rfl) ?_
                      repeat (go_big_quiet_step ((fail)))
                      refine wpQuiet_nil ?_
                      intro _ hw'
                      obtain ⟨s, hw''⟩ := hw'
                      subst hw''
                      have hsv := s.h
                      generalize s.val = v at hsv ⊢
                      clear s1 s2
                      have hRv := HR.out.below hsv
                      have s1 := hRv.cell (Nat.le_refl _) ho
                      have s2 := hRv.cell (Nat.le_refl _) hc
                      have s3 := hRv.froz o
                      have HRU := hid (hRv.set o (times c + T x u))
                      have HSU : Hid ((v.setCell ⟨w2.heap.size, o, none⟩ (.int .i64 (times c + T x u))).rowIs w3.heap.size 4 N (fun j => .bool (S2 j))) := (row_below hsv HSR.out).setOther (by show w3.heap.size ≠ w2.heap.size; omega) _
                      have HLU := hid ((HB.out.trans (hsv.mono HB.out.size)).setCell (p := ⟨w2.heap.size, o, none⟩) (Nat.le_refl _) (.int .i64 (times c + T x u)))
                      have HTU : Hid (DSy D b f S2 (fun v => if v = o then times c + T x u else times v) gk c (u + 1)) := by
                        have h7 := HT.out.set HNC.out hu HE.out HLE.out h20 (by rw [HO.out]; exact HY.out)
                        rw [HO.out] at h7
                        exact h7
                      clear hRv hsv
                      go_wp2
                      go_roundw
                      case rel => exact ⟨u + 1, _, by omega, by go_num, HRU, HTU, HSU, HLU⟩
                      case measure => simp [intOf] <;> omega
                    · have e5 : decide (times c + T x u < times o) = false := decide_eq_false h5
                      have HTU : Hid (DSy D b f S2 times gk c (u + 1)) := HT.out.keep HE.out (by rw [HO.out]; omega)
                      go_wp2
                      refine wp_region_sub (by kernel_rfl) (by kernel_rfl) ?_
                      repeat (go_big_quiet_step ((fail)))
                      refine wpQuiet_nil ?_
                      intro _ hw'
                      obtain ⟨s, hw''⟩ := hw'
                      subst hw''
                      have hsv := s.h
                      generalize s.val = v at hsv ⊢
                      clear s1 s2
                      go_wp2
                      go_roundw
                      case rel => exact ⟨u + 1, times, by omega, by go_num, hid (HR.out.below hsv), HTU, hid (row_below hsv HSR.out), hid (HB.out.trans (hsv.mono HB.out.size))⟩
                      case measure => simp [intOf] <;> omega
                · obtain ⟨o, ho0⟩ : ∃ o, J0 + b = o := ⟨_, rfl⟩
                  have hoz1 : (J0 : Int) + (b : Int) = (o : Int) := by omega
                  have HO : Hid (tgt D b c u (T x u) = o) := by
                    unfold tgt
                    rw [if_pos hd, hJ0, ho0]
                    rfl
                  rw [hd] at q1
                  clear hJ0 hd hk0 ho0 hkt
                  have ho : o < N := by rw [← HO.out]; have := tgt_lt (D := D) (b := b) (c := c) (w := T x u) hu; rw [HN0.out] at this; exact this
                  have hoz : (o : Int) < (N : Int) := by omega
                  have s1 := sub_cell (HR.out.cell (Nat.le_refl _) ho)
                  have s2 := sub_cell (HR.out.cell (Nat.le_refl _) hc)
                  by_cases h4 : times o < 0
                  · have e4 : decide (times o < 0) = true := decide_eq_true h4
                    have HY : Hid (times o < 0 ∨ times c + T x u < times o) := .inl h4
                    go_wp2
                    refine wp_region_sub (by kernel_rfl) (by kernel_rfl) ?_
                    repeat (go_big_quiet_step ((fail)))
                    refine wpQuiet_nil ?_
                    intro _ hw'
                    obtain ⟨s, hw''⟩ := hw'
                    subst hw''
                    have hsv := s.h
                    generalize s.val = v at hsv ⊢
                    clear s1 s2
                    have hRv := HR.out.below hsv
                    have s1 := hRv.cell (Nat.le_refl _) ho
                    have s2 := hRv.cell (Nat.le_refl _) hc
                    have s3 := hRv.froz o
                    have HRU := hid (hRv.set o (times c + T x u))
                    have HSU : Hid ((v.setCell ⟨w2.heap.size, o, none⟩ (.int .i64 (times c + T x u))).rowIs w3.heap.size 4 N (fun j => .bool (S2 j))) := (row_below hsv HSR.out).setOther (by show w3.heap.size ≠ w2.heap.size; omega) _
                    have HLU := hid ((HB.out.trans (hsv.mono HB.out.size)).setCell (p := ⟨w2.heap.size, o, none⟩) (Nat.le_refl _) (.int .i64 (times c + T x u)))
                    have HTU : Hid (DSy D b f S2 (fun v => if v = o then times c + T x u else times v) gk c (u + 1)) := by
                      have h7 := HT.out.set HNC.out hu HE.out HLE.out h20 (by rw [HO.out]; exact HY.out)
                      rw [HO.out] at h7
                      exact h7
                    clear hRv hsv
                    go_wp2
                    go_roundw
                    case rel => exact ⟨u + 1, _, by omega, by go_num, HRU, HTU, HSU, HLU⟩
                    case measure => simp [intOf] <;> omega
                  · have e4 : decide (times o < 0) = false := decide_eq_false h4
                    by_cases h5 : times c + T x u < times o
                    · have e5 : decide (times c + T x u < times o) = true := decide_eq_true h5
                      have HY : Hid (times o < 0 ∨ times c + T x u < times o) := .inr h5
                      go_wp2
                      refine wp_region_sub (by kernel_rfl) (by kernel_rfl) ?_
                      repeat (go_big_quiet_step ((fail)))
                      refine wpQuiet_nil ?_
                      intro _ hw'
                      obtain ⟨s, hw''⟩ := hw'
                      subst hw''
                      have hsv := s.h
                      generalize s.val = v at hsv ⊢
                      clear s1 s2
                      have hRv := HR.out.below hsv
                      have s1 := hRv.cell (Nat.le_refl _) ho
                      have s2 := hRv.cell (Nat.le_refl _) hc
                      have s3 := hRv.froz o
                      have HRU := hid (hRv.set o (times c + T x u))
                      have HSU : Hid ((v.setCell ⟨w2.heap.size, o, none⟩ (.int .i64 (times c + T x u))).rowIs w3.heap.size 4 N (fun j => .bool (S2 j))) := (row_below hsv HSR.out).setOther (by show w3.heap.size ≠ w2.heap.size; omega) _
                      have HLU := hid ((HB.out.trans (hsv.mono HB.out.size)).setCell (p := ⟨w2.heap.size, o, none⟩) (Nat.le_refl _) (.int .i64 (times c + T x u)))
                      have HTU : Hid (DSy D b f S2 (fun v => if v = o then times c + T x u else times v) gk c (u + 1)) := by
                        have h7 := HT.out.set HNC.out hu HE.out HLE.out h20 (by rw [HO.out]; exact HY.out)
                        rw [HO.out] at h7
                        exact h7
                      clear hRv hsv
                      go_wp2
                      go_roundw
                      case rel => exact ⟨u + 1, _, by omega, by go_num, HRU, HTU, HSU, HLU⟩
                      case measure => simp [intOf] <;> omega
                    · have e5 : decide (times c + T x u < times o) = false := decide_eq_false h5
                      have HTU : Hid (DSy D b f S2 times gk c (u + 1)) := HT.out.keep HE.out (by rw [HO.out]; omega)
                      go_wp2
                      refine wp_region_sub (by kernel_rfl) (by kernel_rfl) ?_
                      repeat (go_big_quiet_step ((fail)))
                      refine wpQuiet_nil ?_
                      intro _ hw'
                      obtain ⟨s, hw''⟩ := hw'
                      subst hw''
                      have hsv := s.h
                      generalize s.val = v at hsv ⊢
                      clear s1 s2
                      go_wp2
                      go_roundw
                      case rel => exact ⟨u + 1, times, by omega, by go_num, hid (HR.out.below hsv), HTU, hid (row_below hsv HSR.out), hid (HB.out.trans (hsv.mono HB.out.size))⟩
                      case measure => simp [intOf] <;> omega
              · have HNO : Hid (∀ t, EdgeM D (c / (b + 1)) u t → ¬ t ≤ ((c % (b + 1) : Nat) : Int)) := by
                  rw [HX0.out, HA0.out]; exact no_step HOK.out HM.out (.inr (by omega))
                go_wp2
                go_roundw
                case rel => exact ⟨u + 1, times, by omega, by go_num, HR, HT.out.skip HNO.out, HSR, HB⟩
                case measure => simp [intOf] <;> omega
          · have : u = D.k := by omega
            subst this
            have HZ := hid (HT.out.done hk7)
            go_wp2
            go_roundg (gk - 1)
            case measure => have := HZ.out.2; omega
            case rel => exact ⟨S2, times, HR, HZ.out.1, HSR, HB, HS2t⟩
end Go.Proofs.YtlhcjbgcgbeocaaDoor
