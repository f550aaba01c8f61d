/- The reference's DepotBest. Lists are at most 2^20 long. -/
import Derived.Test.YtlhcjbgcgbeocaaDoorDep
import Derived.Deep.RegionLawGrows
import Derived.BigRegion
namespace Go.Proofs.YtlhcjbgcgbeocaaDoor
open Go.RowKit

theorem blk_grown_B {wr w' : World} {e : Obj} {z : Array Value} {T : TypeId} (h : (((wr.alloc e).alloc (.cells z T)).drew).grownBy w' none) : Blk w' (wr.heap.size + 1) T z := by
  have k := (Blk.new (wr.alloc e) T z).below (Below.grown (B := ((wr.alloc e).alloc (.cells z T)).heap.size) (Below.refl _ _).drew h (Nat.le_refl _) (fun k hk => by cases hk))
  rw [World.size_alloc] at k
  exact k
theorem blk_grown_C {wr w' : World} {e : Obj} {z : Array Value} {T : TypeId} (h : (((wr.alloc (.cells z T)).alloc e).drew).grownBy w' none) : Blk w' wr.heap.size T z :=
  ((Blk.new wr T z).alloc e).below (Below.grown (B := ((wr.alloc (.cells z T)).alloc e).heap.size) (Below.refl _ _).drew h (Nat.le_refl _) (fun k hk => by cases hk))

set_option maxRecDepth 20000 in
set_option maxHeartbeats 4000000 in
theorem DepotBest_spec (P Q : Option Addr) (D : SrchD) (c d : Nat) (br f t : Int) (w : World) (hx : SrchAt w P Q D) (hs : SrchSmall D) :
    Calls Tryd.prog 42 #[.agg #[.int .i64 D.s, .slice P D.m c, .slice Q D.k d], .int .i64 br, .int .i64 f, .int .i64 t] w (RetV (.tuple #[.int .i64 (depF D br f t).1, .int .i64 (depF D br f t).2]) w) := by
  have hw1 := hid (below_alloc1 w (.cells #[.int .i64 D.s, .slice P D.m c, .slice Q D.k d] 26))
  have hB := hid (Blk.new w 26 #[.int .i64 D.s, .slice P D.m c, .slice Q D.k d])
  have HX := hid hx
  clear hx
  go_enter Tryd.func42, Tryd.ntmps42
  go_wp2_with fail
  refine (RescueTime_specV P Q D c d br f f _ (HX.out.below hw1.out) hs).mono ?_
  rintro e w1 ⟨rfl, hq1⟩
  have hB1 := hid (hB.out.below hq1)
  have HW1 := hid (Below.then_ hw1.out hq1)
  clear hB hw1 hq1
  by_cases hok : RtOk D br f f
  · have HOK := hid hok
    have hge : ¬ rtF D br f f < 0 := fun h => rtF_self.1 h hok
    have HV : Hid (depF D br f t = depK D.dep (fun k => rtF (dpt D k) br f t) D.k) := by show _ = _; unfold depF; exact if_pos hok
    have hk1 : 0 < D.k := by have := hok.1.1; have := hok.1.2.2.1; omega
    have hk7 : D.k ≤ 7 := by have := hok.1.1; have := hok.1.2.2.1; omega
    have HSK := hid hok.1.2.2.1
    obtain ⟨bq, oq, rfl, hdq⟩ := (HX.out.below HW1.out).dep hk1
    have HDQ : Hid (∀ k, k < D.k → w1.cell? ⟨bq, oq + k, none⟩ = some (.bool (D.dep k))) := hdq
    clear hdq hok
    go_wp2
    go_loopw [10, 11, 12] (fun bs ls i wr => ∃ (k : Nat) (b l : Int), k ≤ D.k ∧ i = .int .i64 k ∧ bs = .int .i64 b ∧ ls = .int .i64 l ∧ Hid (depK D.dep (fun k => rtF (dpt D k) br f t) k = (b, l)) ∧ Hid (Below w1.heap.size w1 wr)) (fun _ _ i _ => D.k - (intOf i).toNat)
    case atStart => exact ⟨0, -1, -1, by omega, rfl, rfl, rfl, rfl, Below.refl _ _⟩
    case round =>
      obtain ⟨k, b, l, hk, rfl, rfl, rfl, HK, HB⟩ := hrel
      have hBr := hid (hB1.out.below HB.out)
      have y0 := hBr.out.cell (i := 0) rfl
      have y1 := hBr.out.cell (i := 1) rfl
      have y2 := hBr.out.cell (i := 2) rfl
      by_cases hlt : k < D.k
      · have hltz : (k : Int) < D.s := by have := HSK.out; omega
        have q1 := cell_below HB.out (HDQ.out k hlt)
        obtain ⟨i0, hi, hz0, hz1, hz2⟩ := info_parts info4
        have HC : Hid (∀ W, Below wr.heap.size wr W → ∀ j u, ((List.range D.k).map fun j => Value.bool (D.dep j))[j]? = some u → W.cell? ((⟨bq, oq, none⟩ : Addr).add j) = some u) := fun W hW => bools_news (fun j hj => cell_below hW (cell_below HB.out (HDQ.out j hj)))
        have hltw := hBr.out.lt
        have hne1 : w.heap.size ≠ wr.heap.size := by omega
        have hne2 : wr.heap.size ≠ w.heap.size := by omega
        have hne3 : w.heap.size ≠ wr.heap.size + 1 := by omega
        have hne4 : wr.heap.size + 1 ≠ w.heap.size := by omega
        go_wp2
        go_region_held3 (fun v => v.cell? ⟨w.heap.size, 0, none⟩ = some (.int .i64 D.s) ∧ v.cell? ⟨w.heap.size, 1, none⟩ = some (.slice P D.m c) ∧ v.cell? ⟨w.heap.size, 2, none⟩ = some (.slice (some ⟨bq, oq, none⟩) D.k d)) (go_keep)
                (first | (refine step_append_grows rfl (.tmp 31) (.tmp 33) 24 rfl 4 i0 (.bool false) 1 1 Tryd.underlying24 hi hz0 hz1 hz2 rfl (by decide) _ 0 0 [] rfl (fun _ => ⟨rfl, rfl⟩) rfl (fun _ _ j u hu => by simp at hu) ⟨bq, oq, none⟩ D.k d _ rfl (by simp) (HC.out _ (by repeat (first | exact Below.refl _ _ | refine Below.drew ?_ | refine Below.alloc ?_ (by simp <;> omega) _))) bools_one (by omega) (by unfold maxLen; omega) (by omega) ?_; intro v' w' hown' hg'
                          obtain ⟨g, cap, rfl, hR, hcap, hgl⟩ := RowB.of_own hk1 (by simpa using hown')
                          have hR' := hid hR
                          have hgl' := hid hgl
                          have hb7' : Hid (Below wr.heap.size wr w') := Below.grown (by repeat (first | exact Below.refl _ _ | refine Below.drew ?_ | refine Below.alloc ?_ (by simp <;> omega) _)) hg' (by simp <;> omega) (fun k hk => by cases hk)
                          have c0 := cell_below hb7'.out y0
                          have c1 := cell_below hb7'.out y1
                          have c2 := cell_below hb7'.out y2
                          try (have nb' := hid (blk_grown_B (z := #[.int .i64 0, .slice none 0 0, .slice none 0 0]) hg'); have n0 := nb'.out.cell (i := 0) rfl; have n1 := nb'.out.cell (i := 1) rfl; have n2 := nb'.out.cell (i := 2) rfl; have z0 := nb'.out.frozen 0; have z1 := nb'.out.frozen 1; have z2 := nb'.out.frozen 2)
                          try (have nb' := hid (blk_grown_C (z := #[.int .i64 0, .slice none 0 0, .slice none 0 0]) hg'); have n0 := nb'.out.cell (i := 0) rfl; have n1 := nb'.out.cell (i := 1) rfl; have n2 := nb'.out.cell (i := 2) rfl; have z0 := nb'.out.frozen 0; have z1 := nb'.out.frozen 1; have z2 := nb'.out.frozen 2)
                          clear hR hgl hown' hg'))
        · have HN : Hid (Blk (w'.alloc (.cells #[.int .i64 D.s, .slice P D.m c, .slice (some ⟨g, 0, none⟩) D.k cap] 26)) w'.heap.size 26 #[.int .i64 D.s, .slice P D.m c, .slice (some ⟨g, 0, none⟩) D.k cap]) := Blk.new _ _ _
          have HRW := hid (hR'.out.alloc (.cells #[.int .i64 D.s, .slice P D.m c, .slice (some ⟨g, 0, none⟩) D.k cap] 26))
          have hb8 := HB.out.trans (hb7'.out.mono HB.out.size)
          have HB8 := hid (hb8.alloc hb8.size (.cells #[.int .i64 D.s, .slice P D.m c, .slice (some ⟨g, 0, none⟩) D.k cap] 26))
          have hgn : w'.heap.size ≠ g := by have := hR'.out.lt; omega
          have hgb : w1.heap.size ≤ g := by have := HB.out.size; have := hgl'.out; omega
          clear hb8 hR' hb7' hgl' c0 c1 c2 q1 y0 y1 y2 hBr
          generalize w'.alloc (.cells #[.int .i64 D.s, .slice P D.m c, .slice (some ⟨g, 0, none⟩) D.k cap] 26) = v8 at HN HRW HB8 ⊢
          generalize w'.heap.size = nb at hgn HN ⊢
          have n0 := HN.out.cell (i := 0) rfl
          have n1 := HN.out.cell (i := 1) rfl
          have n2 := HN.out.cell (i := 2) rfl
          have r1 := HRW.out.cell hcap hlt
          have r2 := HRW.out.froz k
          have HRW2 := hid (HRW.out.set k true)
          have HN2 := hid (HN.out.far (p := ⟨g, k, none⟩) hgn (.bool true))
          have HB9 := hid (HB8.out.setCell (p := ⟨g, k, none⟩) hgb (.bool true))
          have m0 := HN2.out.cell (i := 0) rfl
          have m1 := HN2.out.cell (i := 1) rfl
          have m2 := HN2.out.cell (i := 2) rfl
          have hkz : (k : Int) < (D.k : Int) := by omega
          clear HN HRW HB8 HN2
          go_wp2_with fail
          refine (RescueTime_specV P (some ⟨g, 0, none⟩) (dpt D k) c cap br f t _ ⟨(HX.out.below (Below.then_ HW1.out HB9.out)).pas, HRW2.out.bools hcap⟩ hs).mono ?_
          rintro e w9 ⟨rfl, hb9⟩
          have HB5 := hid (HB9.out.trans (hb9.mono HB9.out.size))
          clear hb9 n0 n1 n2 r1 r2 m0 m1 m2
          have y2 := (hB1.out.below HB5.out).cell (i := 2) rfl
          have q1 := cell_below HB5.out (HDQ.out k hlt)
          rcases (Bool.eq_false_or_eq_true (D.dep k)) with hd | hd
          · rw [hd] at q1
            have HK2 : Hid (depK D.dep (fun k => rtF (dpt D k) br f t) (k + 1) = (b, l)) := depK_leave HK.out (fun h => by rw [hd] at h; exact absurd h.1 (by decide))
            go_wp2
            go_roundw
            case rel => exact ⟨k + 1, b, l, by omega, by go_num, rfl, rfl, HK2, HB5⟩
            case measure => simp [intOf] <;> omega
          · rw [hd] at q1
            by_cases h0 : 0 ≤ rtF (dpt D k) br f t
            · by_cases hb0 : b < 0
              · have HK2 : Hid (depK D.dep (fun k => rtF (dpt D k) br f t) (k + 1) = ((k : Int), rtF (dpt D k) br f t)) := depK_take HK.out hd h0 (.inl hb0)
                go_wp2
                go_roundw
                case rel => exact ⟨k + 1, _, _, by omega, by go_num, rfl, rfl, HK2, HB5⟩
                case measure => simp [intOf] <;> omega
              · by_cases hl : rtF (dpt D k) br f t < l
                · have HK2 : Hid (depK D.dep (fun k => rtF (dpt D k) br f t) (k + 1) = ((k : Int), rtF (dpt D k) br f t)) := depK_take HK.out hd h0 (.inr hl)
                  go_wp2
                  go_roundw
                  case rel => exact ⟨k + 1, _, _, by omega, by go_num, rfl, rfl, HK2, HB5⟩
                  case measure => simp [intOf] <;> omega
                · have HK2 : Hid (depK D.dep (fun k => rtF (dpt D k) br f t) (k + 1) = (b, l)) := depK_leave HK.out (fun h => h.2.2.elim hb0 hl)
                  go_wp2
                  go_roundw
                  case rel => exact ⟨k + 1, b, l, by omega, by go_num, rfl, rfl, HK2, HB5⟩
                  case measure => simp [intOf] <;> omega
            · have HK2 : Hid (depK D.dep (fun k => rtF (dpt D k) br f t) (k + 1) = (b, l)) := depK_leave HK.out (fun h => h0 h.2.1)
              go_wp2
              go_roundw
              case rel => exact ⟨k + 1, b, l, by omega, by go_num, rfl, rfl, HK2, HB5⟩
              case measure => simp [intOf] <;> omega
        · have HN : Hid (Blk (((w'.setCell ⟨(wr.heap.size + 1), 0, none⟩ (.int .i64 D.s)).setCell ⟨(wr.heap.size + 1), 1, none⟩ (.slice P D.m c)).setCell ⟨(wr.heap.size + 1), 2, none⟩ (.slice (some ⟨g, 0, none⟩) D.k cap)) ((wr.heap.size + 1)) 26 #[.int .i64 D.s, .slice P D.m c, .slice (some ⟨g, 0, none⟩) D.k cap]) := ((nb'.out.set_ 0 _).set_ 1 _).set_ 2 _
          have hgb0 := hgl'.out
          try simp at hgb0
          have hgn : (wr.heap.size + 1) ≠ g := by omega
          have HRW := hid (((hR'.out.far (p := ⟨(wr.heap.size + 1), 0, none⟩) hgn.symm (.int .i64 D.s)).far (p := ⟨(wr.heap.size + 1), 1, none⟩) hgn.symm (.slice P D.m c)).far (p := ⟨(wr.heap.size + 1), 2, none⟩) hgn.symm (.slice (some ⟨g, 0, none⟩) D.k cap))
          have hnb : w1.heap.size ≤ (wr.heap.size + 1) := by have := HB.out.size; omega
          have hb8 := HB.out.trans (hb7'.out.mono HB.out.size)
          have HB8 := hid (((hb8.setCell (p := ⟨(wr.heap.size + 1), 0, none⟩) hnb (.int .i64 D.s)).setCell (p := ⟨(wr.heap.size + 1), 1, none⟩) hnb (.slice P D.m c)).setCell (p := ⟨(wr.heap.size + 1), 2, none⟩) hnb (.slice (some ⟨g, 0, none⟩) D.k cap))
          have hgb : w1.heap.size ≤ g := by omega
          clear hgb0 hb8 hR' hb7' hgl' c0 c1 c2 q1 y0 y1 y2 hBr nb' n0 n1 n2 z0 z1 z2 hnb
          generalize ((w'.setCell ⟨(wr.heap.size + 1), 0, none⟩ (.int .i64 D.s)).setCell ⟨(wr.heap.size + 1), 1, none⟩ (.slice P D.m c)).setCell ⟨(wr.heap.size + 1), 2, none⟩ (.slice (some ⟨g, 0, none⟩) D.k cap) = v8 at HN HRW HB8 ⊢
          generalize (wr.heap.size + 1) = nb at hgn HN ⊢
          have n0 := HN.out.cell (i := 0) rfl
          have n1 := HN.out.cell (i := 1) rfl
          have n2 := HN.out.cell (i := 2) rfl
          have r1 := HRW.out.cell hcap hlt
          have r2 := HRW.out.froz k
          have HRW2 := hid (HRW.out.set k true)
          have HN2 := hid (HN.out.far (p := ⟨g, k, none⟩) hgn (.bool true))
          have HB9 := hid (HB8.out.setCell (p := ⟨g, k, none⟩) hgb (.bool true))
          have m0 := HN2.out.cell (i := 0) rfl
          have m1 := HN2.out.cell (i := 1) rfl
          have m2 := HN2.out.cell (i := 2) rfl
          have hkz : (k : Int) < (D.k : Int) := by omega
          clear HN HRW HB8 HN2
          go_wp2_with fail
          refine (RescueTime_specV P (some ⟨g, 0, none⟩) (dpt D k) c cap br f t _ ⟨(HX.out.below (Below.then_ HW1.out HB9.out)).pas, HRW2.out.bools hcap⟩ hs).mono ?_
          rintro e w9 ⟨rfl, hb9⟩
          have HB5 := hid (HB9.out.trans (hb9.mono HB9.out.size))
          clear hb9 n0 n1 n2 r1 r2 m0 m1 m2
          have y2 := (hB1.out.below HB5.out).cell (i := 2) rfl
          have q1 := cell_below HB5.out (HDQ.out k hlt)
          rcases (Bool.eq_false_or_eq_true (D.dep k)) with hd | hd
          · rw [hd] at q1
            have HK2 : Hid (depK D.dep (fun k => rtF (dpt D k) br f t) (k + 1) = (b, l)) := depK_leave HK.out (fun h => by rw [hd] at h; exact absurd h.1 (by decide))
            go_wp2
            go_roundw
            case rel => exact ⟨k + 1, b, l, by omega, by go_num, rfl, rfl, HK2, HB5⟩
            case measure => simp [intOf] <;> omega
          · rw [hd] at q1
            by_cases h0 : 0 ≤ rtF (dpt D k) br f t
            · by_cases hb0 : b < 0
              · have HK2 : Hid (depK D.dep (fun k => rtF (dpt D k) br f t) (k + 1) = ((k : Int), rtF (dpt D k) br f t)) := depK_take HK.out hd h0 (.inl hb0)
                go_wp2
                go_roundw
                case rel => exact ⟨k + 1, _, _, by omega, by go_num, rfl, rfl, HK2, HB5⟩
                case measure => simp [intOf] <;> omega
              · by_cases hl : rtF (dpt D k) br f t < l
                · have HK2 : Hid (depK D.dep (fun k => rtF (dpt D k) br f t) (k + 1) = ((k : Int), rtF (dpt D k) br f t)) := depK_take HK.out hd h0 (.inr hl)
                  go_wp2
                  go_roundw
                  case rel => exact ⟨k + 1, _, _, by omega, by go_num, rfl, rfl, HK2, HB5⟩
                  case measure => simp [intOf] <;> omega
                · have HK2 : Hid (depK D.dep (fun k => rtF (dpt D k) br f t) (k + 1) = (b, l)) := depK_leave HK.out (fun h => h.2.2.elim hb0 hl)
                  go_wp2
                  go_roundw
                  case rel => exact ⟨k + 1, b, l, by omega, by go_num, rfl, rfl, HK2, HB5⟩
                  case measure => simp [intOf] <;> omega
            · have HK2 : Hid (depK D.dep (fun k => rtF (dpt D k) br f t) (k + 1) = (b, l)) := depK_leave HK.out (fun h => h0 h.2.1)
              go_wp2
              go_roundw
              case rel => exact ⟨k + 1, b, l, by omega, by go_num, rfl, rfl, HK2, HB5⟩
              case measure => simp [intOf] <;> omega
        · have HN : Hid (Blk (((w'.setCell ⟨wr.heap.size, 0, none⟩ (.int .i64 D.s)).setCell ⟨wr.heap.size, 1, none⟩ (.slice P D.m c)).setCell ⟨wr.heap.size, 2, none⟩ (.slice (some ⟨g, 0, none⟩) D.k cap)) (wr.heap.size) 26 #[.int .i64 D.s, .slice P D.m c, .slice (some ⟨g, 0, none⟩) D.k cap]) := ((nb'.out.set_ 0 _).set_ 1 _).set_ 2 _
          have hgb0 := hgl'.out
          try simp at hgb0
          have hgn : wr.heap.size ≠ g := by omega
          have HRW := hid (((hR'.out.far (p := ⟨wr.heap.size, 0, none⟩) hgn.symm (.int .i64 D.s)).far (p := ⟨wr.heap.size, 1, none⟩) hgn.symm (.slice P D.m c)).far (p := ⟨wr.heap.size, 2, none⟩) hgn.symm (.slice (some ⟨g, 0, none⟩) D.k cap))
          have hnb : w1.heap.size ≤ wr.heap.size := by have := HB.out.size; omega
          have hb8 := HB.out.trans (hb7'.out.mono HB.out.size)
          have HB8 := hid (((hb8.setCell (p := ⟨wr.heap.size, 0, none⟩) hnb (.int .i64 D.s)).setCell (p := ⟨wr.heap.size, 1, none⟩) hnb (.slice P D.m c)).setCell (p := ⟨wr.heap.size, 2, none⟩) hnb (.slice (some ⟨g, 0, none⟩) D.k cap))
          have hgb : w1.heap.size ≤ g := by omega
          clear hgb0 hb8 hR' hb7' hgl' c0 c1 c2 q1 y0 y1 y2 hBr nb' n0 n1 n2 z0 z1 z2 hnb
          generalize ((w'.setCell ⟨wr.heap.size, 0, none⟩ (.int .i64 D.s)).setCell ⟨wr.heap.size, 1, none⟩ (.slice P D.m c)).setCell ⟨wr.heap.size, 2, none⟩ (.slice (some ⟨g, 0, none⟩) D.k cap) = v8 at HN HRW HB8 ⊢
          generalize wr.heap.size = nb at hgn HN ⊢
          have n0 := HN.out.cell (i := 0) rfl
          have n1 := HN.out.cell (i := 1) rfl
          have n2 := HN.out.cell (i := 2) rfl
          have r1 := HRW.out.cell hcap hlt
          have r2 := HRW.out.froz k
          have HRW2 := hid (HRW.out.set k true)
          have HN2 := hid (HN.out.far (p := ⟨g, k, none⟩) hgn (.bool true))
          have HB9 := hid (HB8.out.setCell (p := ⟨g, k, none⟩) hgb (.bool true))
          have m0 := HN2.out.cell (i := 0) rfl
          have m1 := HN2.out.cell (i := 1) rfl
          have m2 := HN2.out.cell (i := 2) rfl
          have hkz : (k : Int) < (D.k : Int) := by omega
          clear HN HRW HB8 HN2
          go_wp2_with fail
          refine (RescueTime_specV P (some ⟨g, 0, none⟩) (dpt D k) c cap br f t _ ⟨(HX.out.below (Below.then_ HW1.out HB9.out)).pas, HRW2.out.bools hcap⟩ hs).mono ?_
          rintro e w9 ⟨rfl, hb9⟩
          have HB5 := hid (HB9.out.trans (hb9.mono HB9.out.size))
          clear hb9 n0 n1 n2 r1 r2 m0 m1 m2
          have y2 := (hB1.out.below HB5.out).cell (i := 2) rfl
          have q1 := cell_below HB5.out (HDQ.out k hlt)
          rcases (Bool.eq_false_or_eq_true (D.dep k)) with hd | hd
          · rw [hd] at q1
            have HK2 : Hid (depK D.dep (fun k => rtF (dpt D k) br f t) (k + 1) = (b, l)) := depK_leave HK.out (fun h => by rw [hd] at h; exact absurd h.1 (by decide))
            go_wp2
            go_roundw
            case rel => exact ⟨k + 1, b, l, by omega, by go_num, rfl, rfl, HK2, HB5⟩
            case measure => simp [intOf] <;> omega
          · rw [hd] at q1
            by_cases h0 : 0 ≤ rtF (dpt D k) br f t
            · by_cases hb0 : b < 0
              · have HK2 : Hid (depK D.dep (fun k => rtF (dpt D k) br f t) (k + 1) = ((k : Int), rtF (dpt D k) br f t)) := depK_take HK.out hd h0 (.inl hb0)
                go_wp2
                go_roundw
                case rel => exact ⟨k + 1, _, _, by omega, by go_num, rfl, rfl, HK2, HB5⟩
                case measure => simp [intOf] <;> omega
              · by_cases hl : rtF (dpt D k) br f t < l
                · have HK2 : Hid (depK D.dep (fun k => rtF (dpt D k) br f t) (k + 1) = ((k : Int), rtF (dpt D k) br f t)) := depK_take HK.out hd h0 (.inr hl)
                  go_wp2
                  go_roundw
                  case rel => exact ⟨k + 1, _, _, by omega, by go_num, rfl, rfl, HK2, HB5⟩
                  case measure => simp [intOf] <;> omega
                · have HK2 : Hid (depK D.dep (fun k => rtF (dpt D k) br f t) (k + 1) = (b, l)) := depK_leave HK.out (fun h => h.2.2.elim hb0 hl)
                  go_wp2
                  go_roundw
                  case rel => exact ⟨k + 1, b, l, by omega, by go_num, rfl, rfl, HK2, HB5⟩
                  case measure => simp [intOf] <;> omega
            · have HK2 : Hid (depK D.dep (fun k => rtF (dpt D k) br f t) (k + 1) = (b, l)) := depK_leave HK.out (fun h => h0 h.2.1)
              go_wp2
              go_roundw
              case rel => exact ⟨k + 1, b, l, by omega, by go_num, rfl, rfl, HK2, HB5⟩
              case measure => simp [intOf] <;> omega
      · have : k = D.k := by omega
        subst this
        have HE : Hid (depF D br f t = (b, l)) := HV.out.trans HK.out
        have hnl : ¬ ((D.k : Int) < D.s) := by have := HSK.out; omega
        go_wp2
        go_ret2
        exact ⟨by rw [HE.out]; rfl, Below.then_ HW1.out HB.out⟩
  · have hlt0 : rtF D br f f < 0 := rtF_self.2 hok
    have HN : Hid (depF D br f t = (-1, -1)) := by show _ = _; unfold depF; exact if_neg hok
    clear hok
    go_wp2
    go_ret2
    exact ⟨by rw [HN.out]; rfl, HW1.out⟩
end Go.Proofs.YtlhcjbgcgbeocaaDoor
