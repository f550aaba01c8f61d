/- The two RescueAir: the least air with which there is a route. Lists are at most 2^20 long. -/
import Derived.Test.YtlhcjbgcgbeocaaDoorFnR
import Derived.Test.YtlhcjbgcgbeocaaDoorResc5
namespace Go.Proofs.YtlhcjbgcgbeocaaDoor
open Go.RowKit

theorem RescueTime_implV (P Q : Option Addr) (D : SrchD) (c d : Nat) (br f t : Int) (w : World) (hx : SrchAt w P Q D) (hs : SrchSmall D) :
    Calls Tryd.prog 28 #[.agg #[.int .i64 D.s, .slice P D.m c, .slice Q D.k d], .int .i64 br, .int .i64 f, .int .i64 t] w (RetV (.int .i64 (rtF D br f t)) w) :=
  RetI.val (RescueTime_impl P Q D c d br f t w hx hs) fun _ h => h.uniq (rtF_spec D br f t)
theorem RescueTime_specV (P Q : Option Addr) (D : SrchD) (c d : Nat) (br f t : Int) (w : World) (hx : SrchAt w P Q D) (hs : SrchSmall D) :
    Calls Tryd.prog 29 #[.agg #[.int .i64 D.s, .slice P D.m c, .slice Q D.k d], .int .i64 br, .int .i64 f, .int .i64 t] w (RetV (.int .i64 (rtF D br f t)) w) :=
  RetI.val (RescueTime_spec P Q D c d br f t w hx hs) fun _ h => h.uniq (rtF_spec D br f t)

theorem raK_hit {t : Nat → Int} {b : Nat} (h : 0 ≤ t b) (hb : b ≤ 60) : raK t (61 - b) b = b := by
  obtain ⟨m, hm⟩ : ∃ m, 61 - b = m + 1 := ⟨60 - b, by omega⟩
  rw [hm, raK, if_pos h]
theorem raK_miss {t : Nat → Int} {b : Nat} (h : t b < 0) (hb : b ≤ 60) : raK t (61 - b) b = raK t (61 - (b + 1)) (b + 1) := by
  obtain ⟨m, hm⟩ : ∃ m, 61 - b = m + 1 := ⟨60 - b, by omega⟩
  rw [hm, raK, if_neg (by omega), show 61 - (b + 1) = m by omega]

set_option maxHeartbeats 1600000 in
theorem RescueAir_impl (P Q : Option Addr) (D : SrchD) (c d : Nat) (f t : Int) (w : World) (hx : SrchAt w P Q D) (hs : SrchSmall D) :
    Calls Tryd.prog 32 #[.agg #[.int .i64 D.s, .slice P D.m c, .slice Q D.k d], .int .i64 f, .int .i64 t] w (RetV (.int .i64 (raF D f t)) w) := by
  have hw1 := hid (below_alloc1 w (.cells #[.int .i64 D.s, .slice P D.m c, .slice Q D.k d] 26))
  have hB := hid (Blk.new w 26 #[.int .i64 D.s, .slice P D.m c, .slice Q D.k d])
  have HX := hid hx
  clear hx
  go_enter Tryd.func32, Tryd.ntmps32
  go_wp2
  go_loopw [7] (fun i wr => ∃ b : Nat, b ≤ 61 ∧ i = .int .i64 b ∧ Hid (1 ≤ b ∧ raF D f t = raK (fun b => rtF D b f t) (61 - b) b) ∧ Hid (Below (w.heap.size + 1) (w.alloc (.cells #[.int .i64 D.s, .slice P D.m c, .slice Q D.k d] 26)) wr)) (fun i _ => 61 - (intOf i).toNat)
  case atStart => exact ⟨1, by omega, rfl, ⟨by omega, rfl⟩, hid (Below.refl _ _)⟩
  case round =>
    obtain ⟨b, hb, rfl, HK, HB⟩ := hrel
    have hbb := hid (hB.out.below (HB.out.mono (by simp)))
    have y0 := hbb.out.cell (i := 0) rfl
    have y1 := hbb.out.cell (i := 1) rfl
    have y2 := hbb.out.cell (i := 2) rfl
    have hb2 := hid (hw1.out.trans (HB.out.mono (by omega)))
    by_cases hlt : b ≤ 60
    · have hltz : (b : Int) ≤ 60 := by omega
      go_wp2_with fail
      refine (RescueTime_implV P Q D c d b f t _ (HX.out.below hb2.out) hs).mono ?_
      rintro e w2 ⟨rfl, hb3⟩
      have HB3 := hid (HB.out.trans (hb3.mono (by have := HB.out.size; simp at this; omega)))
      by_cases h0 : 0 ≤ rtF D b f t
      · have HV : Hid (raF D f t = b) := HK.out.2.trans (raK_hit (t := fun b => rtF D b f t) h0 hlt)
        go_wp2
        go_ret
        exact ⟨by rw [HV.out]; rfl, hw1.out.trans (HB3.out.mono (by omega))⟩
      · have HV : Hid (1 ≤ b + 1 ∧ raF D f t = raK (fun b => rtF D b f t) (61 - (b + 1)) (b + 1)) := ⟨by omega, HK.out.2.trans (raK_miss (t := fun b => rtF D b f t) (by omega) hlt)⟩
        go_wp2
        go_roundw
        case rel => exact ⟨b + 1, by omega, by go_num, HV, HB3⟩
        case measure => simp [intOf] <;> omega
    · have HV : Hid (raF D f t = -1) := by
        have h := HK.out.2
        rw [show 61 - b = 0 by omega] at h
        exact h
      go_wp2
      go_ret
      exact ⟨by rw [HV.out]; rfl, hb2.out⟩
set_option maxHeartbeats 1600000 in
theorem RescueAir_spec (P Q : Option Addr) (D : SrchD) (c d : Nat) (f t : Int) (w : World) (hx : SrchAt w P Q D) (hs : SrchSmall D) :
    Calls Tryd.prog 33 #[.agg #[.int .i64 D.s, .slice P D.m c, .slice Q D.k d], .int .i64 f, .int .i64 t] w (RetV (.int .i64 (raF D f t)) w) := by
  have hw1 := hid (below_alloc1 w (.cells #[.int .i64 D.s, .slice P D.m c, .slice Q D.k d] 26))
  have hB := hid (Blk.new w 26 #[.int .i64 D.s, .slice P D.m c, .slice Q D.k d])
  have HX := hid hx
  clear hx
  go_enter Tryd.func33, Tryd.ntmps33
  go_wp2
  go_loopw [7] (fun i wr => ∃ b : Nat, b ≤ 61 ∧ i = .int .i64 b ∧ Hid (1 ≤ b ∧ raF D f t = raK (fun b => rtF D b f t) (61 - b) b) ∧ Hid (Below (w.heap.size + 1) (w.alloc (.cells #[.int .i64 D.s, .slice P D.m c, .slice Q D.k d] 26)) wr)) (fun i _ => 61 - (intOf i).toNat)
  case atStart => exact ⟨1, by omega, rfl, ⟨by omega, rfl⟩, hid (Below.refl _ _)⟩
  case round =>
    obtain ⟨b, hb, rfl, HK, HB⟩ := hrel
    have hbb := hid (hB.out.below (HB.out.mono (by simp)))
    have y0 := hbb.out.cell (i := 0) rfl
    have y1 := hbb.out.cell (i := 1) rfl
    have y2 := hbb.out.cell (i := 2) rfl
    have hb2 := hid (hw1.out.trans (HB.out.mono (by omega)))
    by_cases hlt : b ≤ 60
    · have hltz : (b : Int) ≤ 60 := by omega
      go_wp2_with fail
      refine (RescueTime_specV P Q D c d b f t _ (HX.out.below hb2.out) hs).mono ?_
      rintro e w2 ⟨rfl, hb3⟩
      have HB3 := hid (HB.out.trans (hb3.mono (by have := HB.out.size; simp at this; omega)))
      by_cases h0 : 0 ≤ rtF D b f t
      · have HV : Hid (raF D f t = b) := HK.out.2.trans (raK_hit (t := fun b => rtF D b f t) h0 hlt)
        go_wp2
        go_ret
        exact ⟨by rw [HV.out]; rfl, hw1.out.trans (HB3.out.mono (by omega))⟩
      · have HV : Hid (1 ≤ b + 1 ∧ raF D f t = raK (fun b => rtF D b f t) (61 - (b + 1)) (b + 1)) := ⟨by omega, HK.out.2.trans (raK_miss (t := fun b => rtF D b f t) (by omega) hlt)⟩
        go_wp2
        go_roundw
        case rel => exact ⟨b + 1, by omega, by go_num, HV, HB3⟩
        case measure => simp [intOf] <;> omega
    · have HV : Hid (raF D f t = -1) := by
        have h := HK.out.2
        rw [show 61 - b = 0 by omega] at h
        exact h
      go_wp2
      go_ret
      exact ⟨by rw [HV.out]; rfl, hb2.out⟩
end Go.Proofs.YtlhcjbgcgbeocaaDoor
