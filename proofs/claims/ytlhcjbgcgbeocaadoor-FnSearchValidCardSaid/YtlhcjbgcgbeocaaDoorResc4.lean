/- The program's RescueTime: the walk. Lists are at most 2^20 long. -/
import Derived.Test.YtlhcjbgcgbeocaaDoorResc3
namespace Go.Proofs.YtlhcjbgcgbeocaaDoor
open Go.RowKit

set_option maxRecDepth 20000 in
set_option maxHeartbeats 8000000 in
theorem Rescue_main (P Q : Option Addr) (D : SrchD) (c0 d0 : Nat) (br : Int) (f t : Nat) (w : World) (hx : SrchAt w P Q D) (hs : SrchSmall D) (hok : SrchOk D) (h1 : 1 ≤ br) (h60 : br ≤ 60) (hf : f < D.k) (ht : t < D.k) :
    Calls Tryd.prog 28 #[.agg #[.int .i64 D.s, .slice P D.m c0, .slice Q D.k d0], .int .i64 br, .int .i64 f, .int .i64 t] w (RetI (fun r => GDist (RI D br f) f t r) w) := by
  have hsk := hok.2.2.1
  have hk7 : D.k ≤ 7 := by have := hok.1.2; omega
  have HS : Hid (D.s = (D.k : Int)) := hsk.symm
  have HFITS := hid (fun w' hx' => RetB.yes (rescueFits_any P Q D c0 d0 br w' hx' hs) ⟨hok, h1, h60⟩)
  have HWALK := hid (fun w' hx' => walkTimes_any P Q D c0 d0 w' hx' hok)
  rw [HS.out] at HFITS HWALK
  rw [← hsk]
  have HOK := hid hok
  have HX := hid hx
  have hmk := run_make_row' (P := Tryd.prog) 24 4 (.bool false) 1 Tryd.underlying24 info4 rfl .i64 .i64 D.k (by omega) (by omega)
  have hfz : (f : Int) < (D.k : Int) := by omega
  have htz : (t : Int) < (D.k : Int) := by omega
  clear hsk hok hx h1
  have hB := hid (Blk.new w 26 #[.int .i64 D.k, .slice P D.m c0, .slice Q D.k d0])
  have hw1 := hid (below_alloc1 w (.cells #[.int .i64 D.k, .slice P D.m c0, .slice Q D.k d0] 26))
  go_enter Tryd.func28, Tryd.ntmps28
  go_wp2_with fail
  refine (HFITS.out _ (HX.out.below hw1.out)).mono ?_
  rintro e w1 ⟨rfl, hb1⟩
  have hB1 := hid (hB.out.below hb1)
  have y0 := hB1.out.cell (i := 0) rfl
  have y1 := hB1.out.cell (i := 1) rfl
  have y2 := hB1.out.cell (i := 2) rfl
  have hw2 := hid (Below.then_ hw1.out hb1)
  clear hB hw1 hb1
  go_wp2_with (first | (go_at_call 48; (with_reducible refine (isIndex_y (f : Int) _ _ (by omega) hfz).mono ?_); rintro e w' ⟨rfl, rfl⟩) | (go_at_call 48; (with_reducible refine (isIndex_y (t : Int) _ _ (by omega) htz).mono ?_); rintro e w' ⟨rfl, rfl⟩))
  refine (HWALK.out _ (HX.out.below hw2.out)).mono ?_
  rintro e w2 ⟨g, r, T, rfl, hT, hD, hg, hb2⟩
  have hB2 := hid (hB1.out.below hb2)
  have HW3 := hid (Below.then_ hw2.out hb2)
  have HTT := hid hT
  have HD := hid hD
  clear y0 y1 y2 hT hD hg hb2 HFITS HWALK
  have y0 := hB2.out.cell (i := 0) rfl
  go_wp2_with fail
  refine (noTimes_any D.k _ (by omega)).mono ?_
  rintro e w3 ⟨rfl, hrow, hb3⟩
  have s1 := hrow.cell hf
  have s2 := hrow.frozen f
  have hB3 := hid ((hB2.out.below hb3).far (p := ⟨w2.heap.size, f, none⟩) (by have := hB2.out.lt; show w.heap.size ≠ w2.heap.size; omega) (.int .i64 0))
  clear y0
  have y0 := hB3.out.cell (i := 0) rfl
  have hR0 : Row w3 w2.heap.size D.k D.k (fun _ => -1) := ⟨_, hrow, fun _ _ => rfl⟩
  have HR0 := hid ((hR0.set f 0).congr (y := fun v => if v = f then 0 else -1) (fun _ _ => rfl))
  have HB0 := hid (hb3.setCell (p := ⟨w2.heap.size, f, none⟩) (Nat.le_refl _) (.int .i64 0))
  have hlt23 : w2.heap.size < w3.heap.size := hrow.lt
  clear hrow hR0 hb3
  have HSR0 := hid (World.rowIs_made (w3.setCell ⟨w2.heap.size, f, none⟩ (.int .i64 0)) (.bool false) D.k 4)
  have HRA := hid (HR0.out.alloc (.cells (madeCells #[.bool false] D.k) 4))
  have HBA := hid (HB0.out.alloc HB0.out.size (.cells (madeCells #[.bool false] D.k) 4))
  have HBK := hid (hB3.out.alloc (.cells (madeCells #[.bool false] D.k) 4))
  go_wp2
  clear hmk y0 HB0 HR0 s1 s2
  simp only [World.size_setCell] at HSR0
  go_loopg [] D.k (fun l wr => ∃ S times, Hid (Row wr w2.heap.size D.k D.k times) ∧ Hid (DJx D br f S times l) ∧ Hid (wr.rowIs w3.heap.size 4 D.k (fun j => .bool (S j))) ∧ Hid (Below w2.heap.size w2 wr) ∧ Hid (S t = false))
  case atStart => exact ⟨fun _ => false, _, HRA, DJx.start hf, HSR0, HBA, rfl⟩
  case round =>
    obtain ⟨S, times, HRT, HJ, HSR, HB, HSt⟩ := hrel
    have hBr : Blk wr w.heap.size 26 #[.int .i64 D.k, .slice P D.m c0, .slice Q D.k d0] := hB2.out.below HB.out
    have z2 := hBr.cell (i := 2) rfl
    have hXr := HX.out.below (Below.then_ HW3.out HB.out)
    go_wp2_with fail
    refine (earliest_any _ _ D.k _ _ times S wr (HRT.out.ints (Nat.le_refl _)) (Rd.of_row HSR.out) (by omega)).mono ?_
    rintro e w' ⟨⟨i, rfl, hN⟩, rfl⟩
    have hq := HJ.out.2
    rcases hN with ⟨rfl, hnone⟩ | ⟨c, rfl, hc, hSc, h0c, hmin⟩
    · have s1 := HRT.out.cell (Nat.le_refl _) ht
      have HG : Hid (GDist (RI D br f) f t (times t)) := by
        obtain ⟨hi, _, hdj⟩ := hq
        exact hdj.none (RI.ok D br f) hf ht HSt.out hnone
      clear hq hnone
      go_wp2
      go_ret
      exact ⟨_, rfl, HG.out, Below.then_ HW3.out HB.out⟩
    · by_cases hct : c = t
      · subst hct
        have s1 := HRT.out.cell (Nat.le_refl _) ht
        have HG : Hid (GDist (RI D br f) f c (times c)) := by
          obtain ⟨hi, _, hdj⟩ := hq
          exact hdj.goal (RI.ok D br f) hf ht h0c hSc hmin
        clear hq hmin
        go_wp2
        go_ret
        exact ⟨_, rfl, HG.out, Below.then_ HW3.out HB.out⟩
      · have hctz : ((c : Int) == (t : Int)) = false := by simp; omega
        have HJ2 := hid (HJ.out.settle hc h0c hSc hmin)
        have HS2t : Hid ((if t = c then true else S t) = false) := by show _ = _; rw [if_neg (fun e => hct e.symm)]; exact HSt.out
        have hcz : (c : Int) < (D.k : Int) := by omega
        have s1 := HSR.out.cell hc
        have s2 := HSR.out.frozen c
        have HSR2 := hid (bools_row_set HSR.out c)
        have HRT2 := hid (HRT.out.far (p := ⟨w3.heap.size, c, none⟩) (by show w2.heap.size ≠ w3.heap.size; omega) (.bool true))
        have HB2 := hid (HB.out.setCell (p := ⟨w3.heap.size, c, none⟩) (by show w2.heap.size ≤ w3.heap.size; omega) (.bool true))
        obtain ⟨bq, oq, rfl, hdq⟩ := (HX.out.below (Below.then_ HW3.out HB2.out)).dep (by omega)
        have q1 : (wr.setCell ⟨w3.heap.size, c, none⟩ (.bool true)).cell? ⟨bq, oq + c, none⟩ = some (.bool (D.dep c)) := hdq c hc
        have q2 := (hB2.out.below HB2.out).cell (i := 2) rfl
        have q3 := (HTT.out.below HB2.out).row hc hc
        clear hq hdq hmin hXr HJ z2
        generalize hS2 : (fun v => if v = c then true else S v) = S2 at HJ2
        replace HSR2 : Hid ((wr.setCell ⟨w3.heap.size, c, none⟩ (.bool true)).rowIs w3.heap.size 4 D.k (fun j => .bool (S2 j))) := by rw [← hS2]; exact HSR2
        replace HS2t : Hid (S2 t = false) := by rw [← hS2]; exact HS2t
        clear hS2
        by_cases hcf0 : c = f
        · have hcf : Hid (c = f ∨ D.dep c = true) := .inl hcf0
          have c1 : ((c : Int) != (f : Int)) = false := by simp [hcf0]
          clear hcf0
          go_wp2
          go_loopw [77] (fun i wr => ∃ j : Nat, ∃ times, j ≤ D.k ∧ i = .int .i64 j ∧ Hid (Row wr w2.heap.size D.k D.k times) ∧ Hid (DJy D br f S2 times gk c j) ∧ Hid (wr.rowIs w3.heap.size 4 D.k (fun j => .bool (S2 j))) ∧ Hid (Below w2.heap.size w2 wr)) (fun i _ => D.k - (intOf i).toNat)
          case atStart => exact ⟨0, times, by omega, rfl, HRT2, HJ2, HSR2, HB2⟩
          case round =>
            clear HRT2 HJ2 HSR2 HB2
            obtain ⟨j, times, hjk, rfl, HR, HT, HSR, HB⟩ := hrel
            by_cases hj : j < D.k
            · have hjz : (j : Int) < (D.k : Int) := by omega
              have w1' := (HTT.out.below HB.out).cell hc hj
              have s1 := sub_cell (HR.out.cell (Nat.le_refl _) hj)
              have s2 := sub_cell (HR.out.cell (Nat.le_refl _) hc)
              by_cases h1 : 0 ≤ T c j
              · by_cases h2 : T c j ≤ br
                · have hsum : wrap64 (times c + T c j) = times c + T c j := HT.out.sum h60 hk7 (by omega) h1 h2
                  by_cases h4 : times j < 0
                  · have e4 : decide (times j < 0) = true := decide_eq_true h4
                    have HY : Hid (Helps2 br times c j (T c j)) := ⟨⟨h1, h2⟩, .inl h4⟩
                    go_wp2
                    refine wp_region_sub (by kernel_rfl) (by kernel_rfl) ?_
                    repeat (go_big_quiet_step ((fail)))
                    refine wpQuiet_nil ?_
                    intro _ hw'
                    obtain ⟨s, hw''⟩ := hw'
                    subst hw''
                    have hsv := s.h
                    generalize s.val = v at hsv ⊢
                    clear s1 s2
                    have hRv := HR.out.below hsv
                    have s1 := hRv.cell (Nat.le_refl _) hj
                    have s2 := hRv.cell (Nat.le_refl _) hc
                    have s3 := hRv.froz j
                    have HRU := hid (hRv.set j (times c + T c j))
                    have HSU : Hid ((v.setCell ⟨w2.heap.size, j, none⟩ (.int .i64 (times c + T c j))).rowIs w3.heap.size 4 D.k (fun j => .bool (S2 j))) := (row_below hsv HSR.out).setOther (by show w3.heap.size ≠ w2.heap.size; omega) _
                    have HLU := hid ((HB.out.trans (hsv.mono HB.out.size)).setCell (p := ⟨w2.heap.size, j, none⟩) (Nat.le_refl _) (.int .i64 (times c + T c j)))
                    clear hRv hsv
                    go_wp2
                    go_roundw
                    case rel => exact ⟨j + 1, _, by omega, by go_num, HRU, HT.out.set h60 hc hj hcf.out (HD.out c j hc hj) HY.out, HSU, HLU⟩
                    case measure => simp [intOf] <;> omega
                  · have e4 : decide (times j < 0) = false := decide_eq_false h4
                    by_cases h5 : times c + T c j < times j
                    · have e5 : decide (times c + T c j < times j) = true := decide_eq_true h5
                      have HY : Hid (Helps2 br times c j (T c j)) := ⟨⟨h1, h2⟩, .inr h5⟩
                      go_wp2
                      refine wp_region_sub (by kernel_rfl) (by kernel_rfl) ?_
                      repeat (go_big_quiet_step ((fail)))
                      refine wpQuiet_nil ?_
                      intro _ hw'
                      obtain ⟨s, hw''⟩ := hw'
                      subst hw''
                      have hsv := s.h
                      generalize s.val = v at hsv ⊢
                      clear s1 s2
                      have hRv := HR.out.below hsv
                      have s1 := hRv.cell (Nat.le_refl _) hj
                      have s2 := hRv.cell (Nat.le_refl _) hc
                      have s3 := hRv.froz j
                      have HRU := hid (hRv.set j (times c + T c j))
                      have HSU : Hid ((v.setCell ⟨w2.heap.size, j, none⟩ (.int .i64 (times c + T c j))).rowIs w3.heap.size 4 D.k (fun j => .bool (S2 j))) := (row_below hsv HSR.out).setOther (by show w3.heap.size ≠ w2.heap.size; omega) _
                      have HLU := hid ((HB.out.trans (hsv.mono HB.out.size)).setCell (p := ⟨w2.heap.size, j, none⟩) (Nat.le_refl _) (.int .i64 (times c + T c j)))
                      clear hRv hsv
                      go_wp2
                      go_roundw
                      case rel => exact ⟨j + 1, _, by omega, by go_num, HRU, HT.out.set h60 hc hj hcf.out (HD.out c j hc hj) HY.out, HSU, HLU⟩
                      case measure => simp [intOf] <;> omega
                    · have e5 : decide (times c + T c j < times j) = false := decide_eq_false h5
                      have HNO : Hid (¬ Helps2 br times c j (T c j)) := fun h => h.2.elim h4 h5
                      go_wp2
                      refine wp_region_sub (by kernel_rfl) (by kernel_rfl) ?_
                      repeat (go_big_quiet_step ((fail)))
                      refine wpQuiet_nil ?_
                      intro _ hw'
                      obtain ⟨s, hw''⟩ := hw'
                      subst hw''
                      have hsv := s.h
                      generalize s.val = v at hsv ⊢
                      clear s1 s2
                      go_wp2
                      go_roundw
                      case rel => exact ⟨j + 1, times, by omega, by go_num, hid (HR.out.below hsv), HT.out.keep (HD.out c j hc hj) HNO.out, hid (row_below hsv HSR.out), hid (HB.out.trans (hsv.mono HB.out.size))⟩
                      case measure => simp [intOf] <;> omega
                · have HNO : Hid (¬ Helps2 br times c j (T c j)) := fun h => h2 h.1.2
                  clear s1 s2
                  go_wp2
                  go_roundw
                  case rel => exact ⟨j + 1, times, by omega, by go_num, HR, HT.out.keep (HD.out c j hc hj) HNO.out, HSR, HB⟩
                  case measure => simp [intOf] <;> omega
              · have HNO : Hid (¬ Helps2 br times c j (T c j)) := fun h => h1 h.1.1
                clear s1 s2
                go_wp2
                go_roundw
                case rel => exact ⟨j + 1, times, by omega, by go_num, HR, HT.out.keep (HD.out c j hc hj) HNO.out, HSR, HB⟩
                case measure => simp [intOf] <;> omega
            · have : j = D.k := by omega
              subst this
              have HZ := hid (HT.out.done hk7)
              go_wp2
              go_roundg (gk - 1)
              case measure => have := HZ.out.2; omega
              case rel => exact ⟨S2, times, HR, HZ.out.1, HSR, HB, HS2t⟩
        · have c1 : ((c : Int) != (f : Int)) = true := by simp; omega
          rcases (Bool.eq_false_or_eq_true (D.dep c)).symm with hd | hd
          · have HZ := hid (HJ2.out.stop (fun h => h.elim hcf0 (fun e => by rw [hd] at e; cases e)))
            rw [hd] at q1
            go_wp2
            go_roundg (gk - 1)
            case measure => have := HZ.out.2; omega
            case rel => exact ⟨_, times, HRT2, HZ.out.1, HSR2, HB2, HS2t⟩
          · have hcf : Hid (c = f ∨ D.dep c = true) := .inr hd
            rw [hd] at q1
            clear hcf0
            go_wp2
            go_loopw [77] (fun i wr => ∃ j : Nat, ∃ times, j ≤ D.k ∧ i = .int .i64 j ∧ Hid (Row wr w2.heap.size D.k D.k times) ∧ Hid (DJy D br f S2 times gk c j) ∧ Hid (wr.rowIs w3.heap.size 4 D.k (fun j => .bool (S2 j))) ∧ Hid (Below w2.heap.size w2 wr)) (fun i _ => D.k - (intOf i).toNat)
            case atStart => exact ⟨0, times, by omega, rfl, HRT2, HJ2, HSR2, HB2⟩
            case round =>
              clear HRT2 HJ2 HSR2 HB2
              obtain ⟨j, times, hjk, rfl, HR, HT, HSR, HB⟩ := hrel
              by_cases hj : j < D.k
              · have hjz : (j : Int) < (D.k : Int) := by omega
                have w1' := (HTT.out.below HB.out).cell hc hj
                have s1 := sub_cell (HR.out.cell (Nat.le_refl _) hj)
                have s2 := sub_cell (HR.out.cell (Nat.le_refl _) hc)
                by_cases h1 : 0 ≤ T c j
                · by_cases h2 : T c j ≤ br
                  · have hsum : wrap64 (times c + T c j) = times c + T c j := HT.out.sum h60 hk7 (by omega) h1 h2
                    by_cases h4 : times j < 0
                    · have e4 : decide (times j < 0) = true := decide_eq_true h4
                      have HY : Hid (Helps2 br times c j (T c j)) := ⟨⟨h1, h2⟩, .inl h4⟩
                      go_wp2
                      refine wp_region_sub (by kernel_rfl) (by kernel_rfl) ?_
                      repeat (go_big_quiet_step ((fail)))
                      refine wpQuiet_nil ?_
                      intro _ hw'
                      obtain ⟨s, hw''⟩ := hw'
                      subst hw''
                      have hsv := s.h
                      generalize s.val = v at hsv ⊢
                      clear s1 s2
                      have hRv := HR.out.below hsv
                      have s1 := hRv.cell (Nat.le_refl _) hj
                      have s2 := hRv.cell (Nat.le_refl _) hc
                      have s3 := hRv.froz j
                      have HRU := hid (hRv.set j (times c + T c j))
                      have HSU : Hid ((v.setCell ⟨w2.heap.size, j, none⟩ (.int .i64 (times c + T c j))).rowIs w3.heap.size 4 D.k (fun j => .bool (S2 j))) := (row_below hsv HSR.out).setOther (by show w3.heap.size ≠ w2.heap.size; omega) _
                      have HLU := hid ((HB.out.trans (hsv.mono HB.out.size)).setCell (p := ⟨w2.heap.size, j, none⟩) (Nat.le_refl _) (.int .i64 (times c + T c j)))
                      clear hRv hsv
                      go_wp2
                      go_roundw
                      case rel => exact ⟨j + 1, _, by omega, by go_num, HRU, HT.out.set h60 hc hj hcf.out (HD.out c j hc hj) HY.out, HSU, HLU⟩
                      case measure => simp [intOf] <;> omega
                    · have e4 : decide (times j < 0) = false := decide_eq_false h4
                      by_cases h5 : times c + T c j < times j
                      · have e5 : decide (times c + T c j < times j) = true := decide_eq_true h5
                        have HY : Hid (Helps2 br times c j (T c j)) := ⟨⟨h1, h2⟩, .inr h5⟩
                        go_wp2
                        refine wp_region_sub (by kernel_rfl) (by kernel_rfl) ?_
                        repeat (go_big_quiet_step ((fail)))
                        refine wpQuiet_nil ?_
                        intro _ hw'
                        obtain ⟨s, hw''⟩ := hw'
                        subst hw''
                        have hsv := s.h
                        generalize s.val = v at hsv ⊢
                        clear s1 s2
                        have hRv := HR.out.below hsv
                        have s1 := hRv.cell (Nat.le_refl _) hj
                        have s2 := hRv.cell (Nat.le_refl _) hc
                        have s3 := hRv.froz j
                        have HRU := hid (hRv.set j (times c + T c j))
                        have HSU : Hid ((v.setCell ⟨w2.heap.size, j, none⟩ (.int .i64 (times c + T c j))).rowIs w3.heap.size 4 D.k (fun j => .bool (S2 j))) := (row_below hsv HSR.out).setOther (by show w3.heap.size ≠ w2.heap.size; omega) _
                        have HLU := hid ((HB.out.trans (hsv.mono HB.out.size)).setCell (p := ⟨w2.heap.size, j, none⟩) (Nat.le_refl _) (.int .i64 (times c + T c j)))
                        clear hRv hsv
                        go_wp2
                        go_roundw
                        case rel => exact ⟨j + 1, _, by omega, by go_num, HRU, HT.out.set h60 hc hj hcf.out (HD.out c j hc hj) HY.out, HSU, HLU⟩
                        case measure => simp [intOf] <;> omega
                      · have e5 : decide (times c + T c j < times j) = false := decide_eq_false h5
                        have HNO : Hid (¬ Helps2 br times c j (T c j)) := fun h => h.2.elim h4 h5
                        go_wp2
                        refine wp_region_sub (by kernel_rfl) (by kernel_rfl) ?_
                        repeat (go_big_quiet_step ((fail)))
                        refine wpQuiet_nil ?_
                        intro _ hw'
                        obtain ⟨s, hw''⟩ := hw'
                        subst hw''
                        have hsv := s.h
                        generalize s.val = v at hsv ⊢
                        clear s1 s2
                        go_wp2
                        go_roundw
                        case rel => exact ⟨j + 1, times, by omega, by go_num, hid (HR.out.below hsv), HT.out.keep (HD.out c j hc hj) HNO.out, hid (row_below hsv HSR.out), hid (HB.out.trans (hsv.mono HB.out.size))⟩
                        case measure => simp [intOf] <;> omega
                  · have HNO : Hid (¬ Helps2 br times c j (T c j)) := fun h => h2 h.1.2
                    clear s1 s2
                    go_wp2
                    go_roundw
                    case rel => exact ⟨j + 1, times, by omega, by go_num, HR, HT.out.keep (HD.out c j hc hj) HNO.out, HSR, HB⟩
                    case measure => simp [intOf] <;> omega
                · have HNO : Hid (¬ Helps2 br times c j (T c j)) := fun h => h1 h.1.1
                  clear s1 s2
                  go_wp2
                  go_roundw
                  case rel => exact ⟨j + 1, times, by omega, by go_num, HR, HT.out.keep (HD.out c j hc hj) HNO.out, HSR, HB⟩
                  case measure => simp [intOf] <;> omega
              · have : j = D.k := by omega
                subst this
                have HZ := hid (HT.out.done hk7)
                go_wp2
                go_roundg (gk - 1)
                case measure => have := HZ.out.2; omega
                case rel => exact ⟨S2, times, HR, HZ.out.1, HSR, HB, HS2t⟩
end Go.Proofs.YtlhcjbgcgbeocaaDoor
