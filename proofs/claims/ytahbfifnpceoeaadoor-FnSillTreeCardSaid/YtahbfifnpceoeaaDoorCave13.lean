/- PumpBest of the reference. -/
import Derived.Test.YtahbfifnpceoeaaDoorCave12
import Derived.Deep.RegionHeld3
namespace Go.Proofs.YtahbfifnpceoeaaDoor
open Go.RowKit

theorem Ints.one' (w : World) (x : Int) (p : Nat) (hp : p = w.heap.size) : Ints (w.alloc (.cells #[.int .i64 x] 3)) (some ⟨p, 0, none⟩) 1 (fun _ => x) := by
  subst hp
  exact Ints.one w x

theorem Rd.drew' {w : World} {A : Option Addr} {m : Nat} {cs : Nat → Value} (h : Rd w A m cs) : Rd w.drew A m cs := h
set_option maxRecDepth 20000 in
set_option maxHeartbeats 4000000 in
theorem PumpBest_spec (F G S : Option Addr) (D : CaveD) (c d e : Nat) (L : Int) (w : World) (hx : CaveAt w F G S D) (hs : CaveSmall D) (hok : CaveOk D) (h0 : 0 ≤ L) (h40 : L ≤ 40) :
    Calls Tryd.prog 47 #[.agg #[.slice F D.n c, .slice G D.q d, .slice S D.m e], .int .i64 L] w (RetV (.int .i64 (pbF D L D.n)) w) := by
  have hn1 := hok.1.1
  have hn6 := hok.1.2
  have HX := hid hx
  have hwa := waF_bd hok h0 h40 D.n (Nat.le_refl _)
  have HV := hid (fun w' hx' => WaterAt_spec F G S D c d e L w' hx' hs hok h0 h40)
  have HP := hid (fun A (x : Int) w' hx' hi' h => WaterLeft_spec F G S D c d e L A 1 1 (fun _ => x) w' hx' hs hok h0 h40 hi' (by omega) (fun _ _ => h))
  have hw1 := hid (below_alloc1 w (.cells #[.slice F D.n c, .slice G D.q d, .slice S D.m e] 26))
  have hB := hid (Blk.new w 26 #[.slice F D.n c, .slice G D.q d, .slice S D.m e])
  have hnn : ¬ waF D L D.n < 0 := by omega
  clear hx hok
  go_enter Tryd.func47, Tryd.ntmps47
  go_wp2_with fail
  refine (HV.out _ (HX.out.below hw1.out)).mono ?_
  rintro ex w1 ⟨rfl, hb1⟩
  have hB1 := hid (hB.out.below hb1)
  have HW1 := hid (Below.then_ hw1.out hb1)
  clear hb1 HV
  go_wp2
  clear hnn hwa
  go_loopw [5, 6] (fun b i wr => ∃ k : Nat, k ≤ D.n ∧ i = .int .i64 k ∧ b = .int .i64 (pbF D L k) ∧ Hid (Below w1.heap.size w1 wr)) (fun _ i _ => D.n - (intOf i).toNat)
  case atStart => exact ⟨0, by omega, rfl, rfl, Below.refl _ _⟩
  case round =>
    obtain ⟨k, hk, rfl, rfl, HB⟩ := hrel
    have HBW := hid (Below.then_ HW1.out HB.out)
    have hBr := hid (hB1.out.below HB.out)
    have y0 := hBr.out.cell (i := 0) rfl
    have y1 := hBr.out.cell (i := 1) rfl
    have y2 := hBr.out.cell (i := 2) rfl
    by_cases hlt : k < D.n
    · have hltz : (k : Int) < (D.n : Int) := by omega
      have hr := pbF_rng D L k
      by_cases hb : pbF D L k < 0
      · have HS := hid (pbF_take (D := D) (L := L) (k := k) (.inl hb))
        go_wp2
        go_region
        go_wp2
        go_roundw
        case rel => exact ⟨k + 1, by omega, by go_num, by rw [HS.out], hid HB.out.drew⟩
        case measure => simp [intOf] <;> omega
      · have hltw := hBr.out.lt
        have hne1 : w.heap.size ≠ wr.heap.size := by omega
        have hne2 : wr.heap.size ≠ w.heap.size := by omega
        have hne3 : w.heap.size ≠ wr.heap.size + 1 := by omega
        have hne4 : wr.heap.size + 1 ≠ w.heap.size := by omega
        have HXr := hid (HX.out.below HBW.out)
        have HR1 : Hid (0 ≤ (k : Int) ∧ (k : Int) < (D.n : Int)) := hid ⟨by omega, hltz⟩
        have HR2 : Hid (0 ≤ pbF D L k ∧ pbF D L k < (D.n : Int)) := hid ⟨by omega, by omega⟩
        obtain ⟨m, hm⟩ := Int.eq_ofNat_of_zero_le (show 0 ≤ pbF D L k by omega)
        rw [hm] at HR2
        by_cases hc : wlF D L (fun _ => (k : Int)) 1 D.n < wlF D L (fun _ => pbF D L k) 1 D.n
        · have HS := hid (pbF_take (D := D) (L := L) (k := k) (.inr hc))
          rw [hm] at hc ⊢
          clear hr hBr hm hb
          go_wp2
          go_region_held3 (fun v => v.cell? ⟨w.heap.size, 0, none⟩ = some (.slice F D.n c) ∧ v.cell? ⟨w.heap.size, 1, none⟩ = some (.slice G D.q d) ∧ v.cell? ⟨w.heap.size, 2, none⟩ = some (.slice S D.m e)) (go_keep)
            (first
            | (go_at_call 44; refine (HP.out _ (k : Int) _ (HXr.out.below ?_) ?_ HR1.out).mono ?_
               · repeat (first | exact Below.refl _ _ | refine Below.drew ?_ | refine Below.alloc ?_ (by first | omega | (simp <;> omega)) _)
               · first | exact Ints.one' _ _ _ rfl | exact Ints.one' _ _ _ (Array.size_push _).symm | exact Rd.alloc (Ints.one' _ _ _ rfl) _
               rintro ex7 w7 ⟨rfl, hb7⟩
               have HB8 : Hid (Below wr.heap.size wr w7) := by
                 refine hid (Below.then_ ?_ hb7)
                 repeat (first | exact Below.refl _ _ | refine Below.drew ?_ | refine Below.alloc ?_ (by first | omega | (simp <;> omega)) _)
               have HB7 := hid hb7
               have c0 := cell_below HB8.out y0
               have c1 := cell_below HB8.out y1
               have c2 := cell_below HB8.out y2
               have hs8 := HB8.out.size
               have hnw : w.heap.size ≠ w7.heap.size := by omega
               have hnw2 : w7.heap.size ≠ w.heap.size := by omega
               clear hb7)
            | (go_at_call 44; refine (HP.out _ (m : Int) _ (HXr.out.below ?_) ?_ HR2.out).mono ?_
               · repeat (first | exact HB8.out | refine Below.drew ?_ | refine Below.alloc ?_ (by first | omega | (simp <;> omega)) _)
               · first | exact Ints.one' _ _ _ rfl | exact Rd.below (Rd.drew' (Rd.alloc (Ints.one' _ _ _ rfl) _)) HB7.out | exact Rd.below (Rd.drew' (Ints.one' _ _ _ (by simp))) HB7.out
               rintro ex9 w9 ⟨rfl, hb9⟩
               have HB9 : Hid (Below w1.heap.size w1 w9) := by
                 refine hid (Below.then_ HB.out (Below.then_ ?_ hb9))
                 repeat (first | exact HB8.out | refine Below.drew ?_ | refine Below.alloc ?_ (by first | omega | (simp <;> omega)) _)
               have c0 : w9.cell? ⟨w.heap.size, 0, none⟩ = some (.slice F D.n c) := (Blk.below hB1.out HB9.out).cell (i := 0) rfl
               have c1 : w9.cell? ⟨w.heap.size, 1, none⟩ = some (.slice G D.q d) := (Blk.below hB1.out HB9.out).cell (i := 1) rfl
               have c2 : w9.cell? ⟨w.heap.size, 2, none⟩ = some (.slice S D.m e) := (Blk.below hB1.out HB9.out).cell (i := 2) rfl
               clear hb9))
          all_goals
            go_wp2
            go_roundw
            case rel => exact ⟨k + 1, by omega, by go_num, by rw [HS.out], HB9⟩
            case measure => simp [intOf] <;> omega
        · have HS := hid (pbF_leave (D := D) (L := L) (k := k) hb hc)
          rw [hm] at HS hc ⊢
          clear hr hBr hm hb
          go_wp2
          go_region_held3 (fun v => v.cell? ⟨w.heap.size, 0, none⟩ = some (.slice F D.n c) ∧ v.cell? ⟨w.heap.size, 1, none⟩ = some (.slice G D.q d) ∧ v.cell? ⟨w.heap.size, 2, none⟩ = some (.slice S D.m e)) (go_keep)
            (first
            | (go_at_call 44; refine (HP.out _ (k : Int) _ (HXr.out.below ?_) ?_ HR1.out).mono ?_
               · repeat (first | exact Below.refl _ _ | refine Below.drew ?_ | refine Below.alloc ?_ (by first | omega | (simp <;> omega)) _)
               · first | exact Ints.one' _ _ _ rfl | exact Ints.one' _ _ _ (Array.size_push _).symm | exact Rd.alloc (Ints.one' _ _ _ rfl) _
               rintro ex7 w7 ⟨rfl, hb7⟩
               have HB8 : Hid (Below wr.heap.size wr w7) := by
                 refine hid (Below.then_ ?_ hb7)
                 repeat (first | exact Below.refl _ _ | refine Below.drew ?_ | refine Below.alloc ?_ (by first | omega | (simp <;> omega)) _)
               have HB7 := hid hb7
               have c0 := cell_below HB8.out y0
               have c1 := cell_below HB8.out y1
               have c2 := cell_below HB8.out y2
               have hs8 := HB8.out.size
               have hnw : w.heap.size ≠ w7.heap.size := by omega
               have hnw2 : w7.heap.size ≠ w.heap.size := by omega
               clear hb7)
            | (go_at_call 44; refine (HP.out _ (m : Int) _ (HXr.out.below ?_) ?_ HR2.out).mono ?_
               · repeat (first | exact HB8.out | refine Below.drew ?_ | refine Below.alloc ?_ (by first | omega | (simp <;> omega)) _)
               · first | exact Ints.one' _ _ _ rfl | exact Rd.below (Rd.drew' (Rd.alloc (Ints.one' _ _ _ rfl) _)) HB7.out | exact Rd.below (Rd.drew' (Ints.one' _ _ _ (by simp))) HB7.out
               rintro ex9 w9 ⟨rfl, hb9⟩
               have HB9 : Hid (Below w1.heap.size w1 w9) := by
                 refine hid (Below.then_ HB.out (Below.then_ ?_ hb9))
                 repeat (first | exact HB8.out | refine Below.drew ?_ | refine Below.alloc ?_ (by first | omega | (simp <;> omega)) _)
               have c0 : w9.cell? ⟨w.heap.size, 0, none⟩ = some (.slice F D.n c) := (Blk.below hB1.out HB9.out).cell (i := 0) rfl
               have c1 : w9.cell? ⟨w.heap.size, 1, none⟩ = some (.slice G D.q d) := (Blk.below hB1.out HB9.out).cell (i := 1) rfl
               have c2 : w9.cell? ⟨w.heap.size, 2, none⟩ = some (.slice S D.m e) := (Blk.below hB1.out HB9.out).cell (i := 2) rfl
               clear hb9))
          all_goals
            go_wp2
            go_roundw
            case rel => exact ⟨k + 1, by omega, by go_num, by rw [HS.out], HB9⟩
            case measure => simp [intOf] <;> omega
    · have : k = D.n := by omega
      subst this
      go_wp2
      go_ret
      exact ⟨rfl, HBW.out⟩

theorem PumpBest_spec0 (F G S : Option Addr) (D : CaveD) (c d e : Nat) (L : Int) (w : World) (hx : CaveAt w F G S D) (hs : CaveSmall D) (hno : ¬ WaOk D L) :
    Calls Tryd.prog 47 #[.agg #[.slice F D.n c, .slice G D.q d, .slice S D.m e], .int .i64 L] w (RetV (.int .i64 (-1)) w) := by
  have HX := hid hx
  have HV := hid (fun w' hx' => WaterAt_spec0 F G S D c d e L w' hx' hs hno)
  have hw1 := hid (below_alloc1 w (.cells #[.slice F D.n c, .slice G D.q d, .slice S D.m e] 26))
  clear hx hno
  go_enter Tryd.func47, Tryd.ntmps47
  go_wp2_with fail
  refine (HV.out _ (HX.out.below hw1.out)).mono ?_
  rintro ex w1 ⟨rfl, hb1⟩
  have HW1 := hid (Below.then_ hw1.out hb1)
  go_wp2
  go_ret
  exact ⟨rfl, HW1.out⟩

theorem PumpBest_same (D : CaveD) (hs : CaveSmall D) (L : Int) : ∃ r : Int,
    (∀ (F G S : Option Addr) (c d e : Nat) (w : World), CaveAt w F G S D → Calls Tryd.prog 47 #[.agg #[.slice F D.n c, .slice G D.q d, .slice S D.m e], .int .i64 L] w (RetV (.int .i64 r) w)) ∧
    (∀ (F G S : Option Addr) (c d e : Nat) (w : World), CaveAt w F G S D → Calls Tryd.prog 45 #[.agg #[.slice F D.n c, .slice G D.q d, .slice S D.m e], .int .i64 L] w (RetV (.int .i64 r) w)) := by
  by_cases h : WaOk D L
  · obtain ⟨hok, h0, h40⟩ := h
    exact ⟨_, fun F G S c d e w hx => PumpBest_spec F G S D c d e L w hx hs hok h0 h40, fun F G S c d e w hx => PumpBest_impl F G S D c d e L w hx hs hok h0 h40⟩
  · exact ⟨_, fun F G S c d e w hx => PumpBest_spec0 F G S D c d e L w hx hs h, fun F G S c d e w hx => PumpBest_impl0 F G S D c d e L w hx hs h⟩
end Go.Proofs.YtahbfifnpceoeaaDoor
