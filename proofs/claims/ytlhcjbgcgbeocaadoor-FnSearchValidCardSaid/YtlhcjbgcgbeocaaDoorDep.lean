/- The program's DepotBest. Lists are at most 2^20 long. -/
import Derived.Test.YtlhcjbgcgbeocaaDoorClone
import Derived.Test.YtlhcjbgcgbeocaaDoorAir
import Derived.Deep.RegionHeld3
namespace Go.Proofs.YtlhcjbgcgbeocaaDoor
open Go.RowKit

theorem depF_bad {D : SrchD} {br f t : Int} (h : ¬ RtOk D br f t) : depF D br f t = (-1, -1) := by
  unfold depF
  split
  · rcases depK_in D.dep (fun k => rtF (dpt D k) br f t) D.k with ⟨e, _⟩ | ⟨j, _, _, _, h0, _⟩
    · exact e
    · have := rtF_bad (D := dpt D j) (br := br) (f := f) (t := t) h
      omega
  · rfl
theorem depF_ok {D : SrchD} {br f t : Int} (h : RtOk D br f t) : depF D br f t = depK D.dep (fun k => rtF (dpt D k) br f t) D.k := by
  unfold depF
  exact if_pos ⟨h.1, h.2.1, h.2.2.1, h.2.2.1⟩
theorem depK_take {dep : Nat → Bool} {v : Nat → Int} {k : Nat} {b l : Int} (h : depK dep v k = (b, l)) (hd : dep k = false) (h0 : 0 ≤ v k) (hb : b < 0 ∨ v k < l) : depK dep v (k + 1) = ((k : Int), v k) := by
  unfold depK; rw [h]; exact if_pos ⟨hd, h0, hb⟩
theorem depK_leave {dep : Nat → Bool} {v : Nat → Int} {k : Nat} {b l : Int} (h : depK dep v k = (b, l)) (hn : ¬ (dep k = false ∧ 0 ≤ v k ∧ (b < 0 ∨ v k < l))) : depK dep v (k + 1) = (b, l) := by
  unfold depK; rw [h]; exact if_neg hn

set_option maxRecDepth 20000 in
set_option maxHeartbeats 4000000 in
theorem DepotBest_impl (P Q : Option Addr) (D : SrchD) (c d : Nat) (br f t : Int) (w : World) (hx : SrchAt w P Q D) (hs : SrchSmall D) :
    Calls Tryd.prog 41 #[.agg #[.int .i64 D.s, .slice P D.m c, .slice Q D.k d], .int .i64 br, .int .i64 f, .int .i64 t] w (RetV (.tuple #[.int .i64 (depF D br f t).1, .int .i64 (depF D br f t).2]) w) := by
  have hw1 := hid (below_alloc1 w (.cells #[.int .i64 D.s, .slice P D.m c, .slice Q D.k d] 26))
  have hB := hid (Blk.new w 26 #[.int .i64 D.s, .slice P D.m c, .slice Q D.k d])
  have HX := hid hx
  clear hx
  by_cases hok : SrchOk D ∧ 1 ≤ br ∧ br ≤ 60
  · have HOK := hid hok
    clear hok
    go_enter Tryd.func41, Tryd.ntmps41
    go_wp2_with fail
    refine (RetB.yes (rescueFits_any P Q D c d br _ (HX.out.below hw1.out) hs) HOK.out).mono ?_
    rintro e w1 ⟨rfl, hq1⟩
    have hB1 := hid (hB.out.below hq1)
    have HW1 := hid (Below.then_ hw1.out hq1)
    have y0 := hB1.out.cell (i := 0) rfl
    have y1 := hB1.out.cell (i := 1) rfl
    have y2 := hB1.out.cell (i := 2) rfl
    clear hB hw1 hq1
    by_cases hf : 0 ≤ f ∧ f < D.s
    · have HF := hid hf
      obtain ⟨hf1, hf2⟩ := hf
      by_cases ht : 0 ≤ t ∧ t < D.s
      · have HT := hid ht
        obtain ⟨ht1, ht2⟩ := ht
        have HV : Hid (depF D br f t = depK D.dep (fun k => rtF (dpt D k) br f t) D.k) := depF_ok ⟨HOK.out.1, HOK.out.2, HF.out, HT.out⟩
        have hk1 : 0 < D.k := by have := HOK.out.1.1; have := HOK.out.1.2.2.1; omega
        have hk7 : D.k ≤ 7 := by have := HOK.out.1.1; have := HOK.out.1.2.2.1; omega
        obtain ⟨bq, oq, rfl, hdq⟩ := (HX.out.below HW1.out).dep hk1
        have HDQ : Hid (∀ k, k < D.k → w1.cell? ⟨bq, oq + k, none⟩ = some (.bool (D.dep k))) := hdq
        clear hdq
        go_wp2_with (first | (go_at_call 48; (with_reducible refine (isIndex_y f _ _ hf1 hf2).mono ?_); rintro e w' ⟨rfl, rfl⟩) | (go_at_call 48; (with_reducible refine (isIndex_y t _ _ ht1 ht2).mono ?_); rintro e w' ⟨rfl, rfl⟩))
        go_loopw [10, 11, 37] (fun bs ls i wr => ∃ (k : Nat) (b l : Int), k ≤ D.k ∧ i = .int .i64 k ∧ bs = .int .i64 b ∧ ls = .int .i64 l ∧ Hid (depK D.dep (fun k => rtF (dpt D k) br f t) k = (b, l)) ∧ Hid (Below w1.heap.size w1 wr)) (fun _ _ i _ => D.k - (intOf i).toNat)
        case atStart => exact ⟨0, -1, -1, by omega, rfl, rfl, rfl, rfl, Below.refl _ _⟩
        case round =>
          clear y0 y1 y2
          obtain ⟨k, b, l, hk, rfl, rfl, rfl, HK, HB⟩ := hrel
          by_cases hlt : k < D.k
          · have hltz : (k : Int) < (D.k : Int) := by omega
            have q1 := cell_below HB.out (HDQ.out k hlt)
            rcases (Bool.eq_false_or_eq_true (D.dep k)) with hd | hd
            · have HK2 : Hid (depK D.dep (fun k => rtF (dpt D k) br f t) (k + 1) = (b, l)) := depK_leave HK.out (fun h => by rw [hd] at h; exact absurd h.1 (by decide))
              have HB5 := HB
              rw [hd] at q1
              go_wp2
              go_roundw
              case rel => exact ⟨k + 1, b, l, by omega, by go_num, rfl, rfl, HK2, HB5⟩
              case measure => simp [intOf] <;> omega
            · rw [hd] at q1
              have hBr := hid (hB1.out.below HB.out)
              have y0 := hBr.out.cell (i := 0) rfl
              have y1 := hBr.out.cell (i := 1) rfl
              have y2 := hBr.out.cell (i := 2) rfl
              have HXA : Hid (SrchAt wr.drew P (some ⟨bq, oq, none⟩) D) := (HX.out.below (Below.then_ HW1.out HB.out)).below (Below.refl _ _).drew
              have HX3 : Hid (∀ o, SrchAt (wr.alloc o).drew P (some ⟨bq, oq, none⟩) D) := fun o => (HX.out.below (Below.then_ HW1.out HB.out)).below (below_alloc1 wr o).drew
              have Y0 : Hid (∀ o, (wr.alloc o).drew.cell? ⟨w.heap.size, 0, none⟩ = some (.int .i64 D.s)) := fun o => cell_below (below_alloc1 wr o).drew y0
              have Y1 : Hid (∀ o, (wr.alloc o).drew.cell? ⟨w.heap.size, 1, none⟩ = some (.slice P D.m c)) := fun o => cell_below (below_alloc1 wr o).drew y1
              have Y2 : Hid (∀ o, (wr.alloc o).drew.cell? ⟨w.heap.size, 2, none⟩ = some (.slice (some ⟨bq, oq, none⟩) D.k d)) := fun o => cell_below (below_alloc1 wr o).drew y2
              have hltw := hBr.out.lt
              have hne1 : w.heap.size ≠ wr.heap.size := by omega
              have hne2 : wr.heap.size ≠ w.heap.size := by omega
              go_wp2
              go_region_held3 (fun v => v.cell? ⟨w.heap.size, 0, none⟩ = some (.int .i64 D.s) ∧ v.cell? ⟨w.heap.size, 1, none⟩ = some (.slice P D.m c) ∧ v.cell? ⟨w.heap.size, 2, none⟩ = some (.slice (some ⟨bq, oq, none⟩) D.k d)) (go_keep)
                (first | (go_at_call 65; refine (Clone_any _ D.k d D.dep _ (HX3.out _).dep hk1 hs.2).mono ?_; rintro e w7 ⟨g, cap, rfl, hR, hcap, hg, hb7⟩; have hR' := hid hR; have hg' := hid hg; have hb7' := hid hb7; clear hR hb7 hg; have c0 := cell_below hb7'.out (Y0.out _); have c1 := cell_below hb7'.out (Y1.out _); have c2 := cell_below hb7'.out (Y2.out _)
                          have nb' := hid ((Blk.new wr 26 #[.int .i64 0, .slice none 0 0, .slice none 0 0]).drew.below hb7'.out); have n0 := nb'.out.cell (i := 0) rfl; have n1 := nb'.out.cell (i := 1) rfl; have n2 := nb'.out.cell (i := 2) rfl; have z0 := nb'.out.frozen 0; have z1 := nb'.out.frozen 1; have z2 := nb'.out.frozen 2)
                       | (go_at_call 65; refine (Clone_any _ D.k d D.dep _ HXA.out.dep hk1 hs.2).mono ?_; rintro e w7 ⟨g, cap, rfl, hR, hcap, hg, hb7⟩; have hR' := hid hR; have hg' := hid hg; have hb7' := hid hb7; clear hR hb7 hg; have c0 := cell_below hb7'.out y0; have c1 := cell_below hb7'.out y1; have c2 := cell_below hb7'.out y2))
              · have HN : Hid (Blk (w7.alloc (.cells #[.int .i64 D.s, .slice P D.m c, .slice (some ⟨g, 0, none⟩) D.k cap] 26)) w7.heap.size 26 #[.int .i64 D.s, .slice P D.m c, .slice (some ⟨g, 0, none⟩) D.k cap]) := Blk.new _ _ _
                have HRW := hid (hR'.out.alloc (.cells #[.int .i64 D.s, .slice P D.m c, .slice (some ⟨g, 0, none⟩) D.k cap] 26))
                have hb8 := HB.out.drew.trans (hb7'.out.mono HB.out.size)
                have HB8 := hid (hb8.alloc hb8.size (.cells #[.int .i64 D.s, .slice P D.m c, .slice (some ⟨g, 0, none⟩) D.k cap] 26))
                have hgn : w7.heap.size ≠ g := by have := hR'.out.lt; omega
                have hgb : w1.heap.size ≤ g := by have := HB.out.size; have := hg'.out; simp at this; omega
                have hs0 := hg'.out
                clear hs0 hb8 hR' hb7' hg' c0 c1 c2 q1 y0 y1 y2 hBr HXA HX3 Y0 Y1 Y2
                generalize w7.alloc (.cells #[.int .i64 D.s, .slice P D.m c, .slice (some ⟨g, 0, none⟩) D.k cap] 26) = v8 at HN HRW HB8 ⊢
                generalize w7.heap.size = nb at hgn HN ⊢
                have n0 := HN.out.cell (i := 0) rfl
                have n1 := HN.out.cell (i := 1) rfl
                have n2 := HN.out.cell (i := 2) rfl
                have r1 := HRW.out.cell hcap hlt
                have r2 := HRW.out.froz k
                have HRW2 := hid (HRW.out.set k true)
                have HN2 := hid (HN.out.far (p := ⟨g, k, none⟩) hgn (.bool true))
                have HB9 := hid (HB8.out.setCell (p := ⟨g, k, none⟩) hgb (.bool true))
                have m0 := HN2.out.cell (i := 0) rfl
                have m1 := HN2.out.cell (i := 1) rfl
                have m2 := HN2.out.cell (i := 2) rfl
                clear HN HRW HB8 HN2
                go_wp2_with fail
                refine (RescueTime_implV P (some ⟨g, 0, none⟩) (dpt D k) c cap br f t _ ⟨(HX.out.below (Below.then_ HW1.out HB9.out)).pas, HRW2.out.bools hcap⟩ hs).mono ?_
                rintro e w9 ⟨rfl, hb9⟩
                have HB5 := hid (HB9.out.trans (hb9.mono HB9.out.size))
                clear hb9 n0 n1 n2 r1 r2 m0 m1 m2
                skip
                by_cases h0 : 0 ≤ rtF (dpt D k) br f t
                · by_cases hb0 : b < 0
                  · have HK2 : Hid (depK D.dep (fun k => rtF (dpt D k) br f t) (k + 1) = ((k : Int), rtF (dpt D k) br f t)) := depK_take HK.out hd h0 (.inl hb0)
                    go_wp2
                    go_roundw
                    case rel => exact ⟨k + 1, _, _, by omega, by go_num, rfl, rfl, HK2, HB5⟩
                    case measure => simp [intOf] <;> omega
                  · by_cases hl : rtF (dpt D k) br f t < l
                    · have HK2 : Hid (depK D.dep (fun k => rtF (dpt D k) br f t) (k + 1) = ((k : Int), rtF (dpt D k) br f t)) := depK_take HK.out hd h0 (.inr hl)
                      go_wp2
                      go_roundw
                      case rel => exact ⟨k + 1, _, _, by omega, by go_num, rfl, rfl, HK2, HB5⟩
                      case measure => simp [intOf] <;> omega
                    · have HK2 : Hid (depK D.dep (fun k => rtF (dpt D k) br f t) (k + 1) = (b, l)) := depK_leave HK.out (fun h => h.2.2.elim hb0 hl)
                      go_wp2
                      go_roundw
                      case rel => exact ⟨k + 1, b, l, by omega, by go_num, rfl, rfl, HK2, HB5⟩
                      case measure => simp [intOf] <;> omega
                · have HK2 : Hid (depK D.dep (fun k => rtF (dpt D k) br f t) (k + 1) = (b, l)) := depK_leave HK.out (fun h => h0 h.2.1)
                  go_wp2
                  go_roundw
                  case rel => exact ⟨k + 1, b, l, by omega, by go_num, rfl, rfl, HK2, HB5⟩
                  case measure => simp [intOf] <;> omega
              · have HN : Hid (Blk (((w7.setCell ⟨wr.heap.size, 0, none⟩ (.int .i64 D.s)).setCell ⟨wr.heap.size, 1, none⟩ (.slice P D.m c)).setCell ⟨wr.heap.size, 2, none⟩ (.slice (some ⟨g, 0, none⟩) D.k cap)) wr.heap.size 26 #[.int .i64 D.s, .slice P D.m c, .slice (some ⟨g, 0, none⟩) D.k cap]) := ((nb'.out.set_ 0 _).set_ 1 _).set_ 2 _
                have hgb0 := hg'.out
                simp at hgb0
                have hgn : wr.heap.size ≠ g := by omega
                have HRW := hid (((hR'.out.far (p := ⟨wr.heap.size, 0, none⟩) hgn.symm (.int .i64 D.s)).far (p := ⟨wr.heap.size, 1, none⟩) hgn.symm (.slice P D.m c)).far (p := ⟨wr.heap.size, 2, none⟩) hgn.symm (.slice (some ⟨g, 0, none⟩) D.k cap))
                have hb8 := (HB.out.alloc HB.out.size (.cells #[.int .i64 0, .slice none 0 0, .slice none 0 0] 26)).drew.trans (hb7'.out.mono (by have := HB.out.size; simp; omega))
                have HB8 := hid (((hb8.setCell (p := ⟨wr.heap.size, 0, none⟩) HB.out.size (.int .i64 D.s)).setCell (p := ⟨wr.heap.size, 1, none⟩) HB.out.size (.slice P D.m c)).setCell (p := ⟨wr.heap.size, 2, none⟩) HB.out.size (.slice (some ⟨g, 0, none⟩) D.k cap))
                have hgb : w1.heap.size ≤ g := by have := HB.out.size; omega
                clear hgb0 hb8 hR' hb7' hg' c0 c1 c2 q1 y0 y1 y2 hBr HXA HX3 Y0 Y1 Y2 nb' n0 n1 n2 z0 z1 z2
                generalize ((w7.setCell ⟨wr.heap.size, 0, none⟩ (.int .i64 D.s)).setCell ⟨wr.heap.size, 1, none⟩ (.slice P D.m c)).setCell ⟨wr.heap.size, 2, none⟩ (.slice (some ⟨g, 0, none⟩) D.k cap) = v8 at HN HRW HB8 ⊢
                generalize wr.heap.size = nb at hgn HN ⊢
                have n0 := HN.out.cell (i := 0) rfl
                have n1 := HN.out.cell (i := 1) rfl
                have n2 := HN.out.cell (i := 2) rfl
                have r1 := HRW.out.cell hcap hlt
                have r2 := HRW.out.froz k
                have HRW2 := hid (HRW.out.set k true)
                have HN2 := hid (HN.out.far (p := ⟨g, k, none⟩) hgn (.bool true))
                have HB9 := hid (HB8.out.setCell (p := ⟨g, k, none⟩) hgb (.bool true))
                have m0 := HN2.out.cell (i := 0) rfl
                have m1 := HN2.out.cell (i := 1) rfl
                have m2 := HN2.out.cell (i := 2) rfl
                clear HN HRW HB8 HN2
                go_wp2_with fail
                refine (RescueTime_implV P (some ⟨g, 0, none⟩) (dpt D k) c cap br f t _ ⟨(HX.out.below (Below.then_ HW1.out HB9.out)).pas, HRW2.out.bools hcap⟩ hs).mono ?_
                rintro e w9 ⟨rfl, hb9⟩
                have HB5 := hid (HB9.out.trans (hb9.mono HB9.out.size))
                clear hb9 n0 n1 n2 r1 r2 m0 m1 m2
                skip
                by_cases h0 : 0 ≤ rtF (dpt D k) br f t
                · by_cases hb0 : b < 0
                  · have HK2 : Hid (depK D.dep (fun k => rtF (dpt D k) br f t) (k + 1) = ((k : Int), rtF (dpt D k) br f t)) := depK_take HK.out hd h0 (.inl hb0)
                    go_wp2
                    go_roundw
                    case rel => exact ⟨k + 1, _, _, by omega, by go_num, rfl, rfl, HK2, HB5⟩
                    case measure => simp [intOf] <;> omega
                  · by_cases hl : rtF (dpt D k) br f t < l
                    · have HK2 : Hid (depK D.dep (fun k => rtF (dpt D k) br f t) (k + 1) = ((k : Int), rtF (dpt D k) br f t)) := depK_take HK.out hd h0 (.inr hl)
                      go_wp2
                      go_roundw
                      case rel => exact ⟨k + 1, _, _, by omega, by go_num, rfl, rfl, HK2, HB5⟩
                      case measure => simp [intOf] <;> omega
                    · have HK2 : Hid (depK D.dep (fun k => rtF (dpt D k) br f t) (k + 1) = (b, l)) := depK_leave HK.out (fun h => h.2.2.elim hb0 hl)
                      go_wp2
                      go_roundw
                      case rel => exact ⟨k + 1, b, l, by omega, by go_num, rfl, rfl, HK2, HB5⟩
                      case measure => simp [intOf] <;> omega
                · have HK2 : Hid (depK D.dep (fun k => rtF (dpt D k) br f t) (k + 1) = (b, l)) := depK_leave HK.out (fun h => h0 h.2.1)
                  go_wp2
                  go_roundw
                  case rel => exact ⟨k + 1, b, l, by omega, by go_num, rfl, rfl, HK2, HB5⟩
                  case measure => simp [intOf] <;> omega
          · have : k = D.k := by omega
            subst this
            have HE : Hid (depF D br f t = (b, l)) := HV.out.trans HK.out
            go_wp2
            go_ret2
            exact ⟨by rw [HE.out]; rfl, Below.then_ HW1.out HB.out⟩
      · have HN : Hid (¬ RtOk D br f t) := fun h => ht h.2.2.2
        have HT := hid ht
        have HWX := HW1
        clear ht
        go_wp2_with (first | (go_at_call 48; (with_reducible refine (isIndex_n t _ _ HT.out).mono ?_); rintro e w' ⟨rfl, rfl⟩) | (go_at_call 48; (with_reducible refine (isIndex_y f _ _ hf1 hf2).mono ?_); rintro e w' ⟨rfl, rfl⟩))
        go_wp2
        go_ret2
        exact ⟨by rw [depF_bad HN.out]; rfl, HWX.out⟩
    · have HN : Hid (¬ RtOk D br f t) := fun h => hf h.2.2.1
      have HF := hid hf
      have HWX := HW1
      clear hf
      go_wp2_with (go_at_call 48; refine (isIndex_n f _ _ HF.out).mono ?_; rintro e w' ⟨rfl, rfl⟩)
      go_wp2
      go_ret2
      exact ⟨by rw [depF_bad HN.out]; rfl, HWX.out⟩
  · have HN : Hid (¬ RtOk D br f t) := fun h => hok ⟨h.1, h.2.1⟩
    have HOK := hid hok
    clear hok
    go_enter Tryd.func41, Tryd.ntmps41
    go_wp2_with fail
    refine (RetB.no (rescueFits_any P Q D c d br _ (HX.out.below hw1.out) hs) HOK.out).mono ?_
    rintro e w1 ⟨rfl, hq1⟩
    have HWX := hid (Below.then_ hw1.out hq1)
    go_wp2
    go_ret2
    exact ⟨by rw [depF_bad HN.out]; rfl, HWX.out⟩
end Go.Proofs.YtlhcjbgcgbeocaaDoor
