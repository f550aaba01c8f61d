/- What a cut costs. Lists are at most 2^20 long. -/
import Derived.Test.YtekngpinldiodaaPit5
namespace Go.Proofs.Ytekngpinldiodaa
open Go.RowKit

/-- What the first k blocks cost when the pit is cut at S. -/
def cutF (D : PitD) (S : Nat) : Nat → Int
  | 0 => 0
  | k + 1 => cutF D S k + if S.testBit k then max (-D.p k) 0 else max (D.p k) 0
theorem cutF_bd {D : PitD} (hok : PitOk D) (S : Nat) : ∀ k, k ≤ D.n → 0 ≤ cutF D S k ∧ cutF D S k ≤ 20 * (k : Int)
  | 0, _ => by simp [cutF]
  | k + 1, h => by
    have ih := cutF_bd hok S k (by omega)
    have hp := (hok.2 k (by omega)).1
    simp only [cutF]
    split <;> omega

set_option maxHeartbeats 400000 in
theorem PitCut_impl (A : Option Addr) (D : PitD) (c : Nat) (S : Nat) (w : World) (hx : PitAt w A D) (hs : PitSmall D) (hf : SetFits D S) (hm : MayP D S) :
    Calls Try.prog 28 #[.slice A D.n c, .int .i64 S] w (RetV (.int .i64 (cutF D S D.n)) w) := by
  have hn := hs.1
  have h8 := hf.1.1
  have hS := fits_lt hf
  have HB := hid (cutF_bd hf.1 S)
  have HF := hid hf
  have HM := hid hm
  clear hf hm
  go_enter Try.func28, Try.ntmps28
  go_wp2_with (go_at_call 24; refine (RetB.yes (PitMay_impl A D c S w hx hs HF.out) HM.out).mono ?_; rintro e w1 ⟨rfl, hb⟩)
  go_loopw [5, 14] (fun s i wr => ∃ k : Nat, k ≤ D.n ∧ i = .int .i64 k ∧ s = .int .i64 (cutF D S k) ∧ Below w.heap.size w wr) (fun _ i _ => D.n - (intOf i).toNat)
  case atStart => exact ⟨0, by omega, rfl, rfl, hb⟩
  case round =>
    obtain ⟨k, hk, rfl, rfl, hbel⟩ := hrel
    by_cases hlt : k < D.n
    · obtain ⟨b, o, C, cc, rfl, a1, a2, a3⟩ := (hx.below hbel).at_ hlt
      have hltz : (k : Int) < (D.n : Int) := by omega
      have b1 := (HB.out k hk).1
      have b2 := (HB.out k hk).2
      have p1 := (HF.out.1.2 k hlt).1.1
      have p2 := (HF.out.1.2 k hlt).1.2
      rcases (Bool.eq_false_or_eq_true (S.testBit k)).symm with hbit | hbit
      · have t1 := and0_f hS hbit
        have HW : Hid (cutF D S (k + 1) = cutF D S k + max (D.p k) 0) := by show _ = _; simp [cutF, hbit]
        clear hbit
        go_wp2
        go_roundw
        case rel => exact ⟨k + 1, by omega, by go_num, vint (by rw [HW.out]; split <;> omega), hbel.alloc hbel.size _⟩
        case measure => simp [intOf]; omega
      · have t1 := and0_t hS hbit
        have HW : Hid (cutF D S (k + 1) = cutF D S k + max (-D.p k) 0) := by show _ = _; simp [cutF, hbit]
        clear hbit
        go_wp2
        go_roundw
        case rel => exact ⟨k + 1, by omega, by go_num, vint (by rw [HW.out]; split <;> omega), hbel.alloc hbel.size _⟩
        case measure => simp [intOf]; omega
    · have : k = D.n := by omega
      subst this
      go_wp2
      go_ret
      exact ⟨rfl, hbel⟩

set_option maxHeartbeats 400000 in
theorem PitCut_spec (A : Option Addr) (D : PitD) (c : Nat) (S : Nat) (w : World) (hx : PitAt w A D) (hs : PitSmall D) (hf : SetFits D S) (hm : MayP D S) :
    Calls Try.prog 27 #[.slice A D.n c, .int .i64 S] w (RetV (.int .i64 (cutF D S D.n)) w) := by
  have hn := hs.1
  have h8 := hf.1.1
  have HB := hid (cutF_bd hf.1 S)
  have HF := hid hf
  have HM := hid hm
  clear hf hm
  go_enter Try.func27, Try.ntmps27
  go_wp2_with (go_at_call 23; refine (RetB.yes (PitMay_spec A D c S w hx hs HF.out) HM.out).mono ?_; rintro e w1 ⟨rfl, hb⟩)
  go_loop [5, 6] (fun s i => ∃ k : Nat, k ≤ D.n ∧ i = .int .i64 k ∧ s = .int .i64 (cutF D S k)) (fun _ i => D.n - (intOf i).toNat)
  case atStart => exact ⟨0, by omega, rfl, rfl⟩
  case round =>
    obtain ⟨k, hk, rfl, rfl⟩ := hrel
    by_cases hlt : k < D.n
    · obtain ⟨b, o, C, cc, rfl, a1, a2, a3⟩ := (hx.below hb).at_ hlt
      have hltz : (k : Int) < (D.n : Int) := by omega
      have b1 := (HB.out k hk).1
      have b2 := (HB.out k hk).2
      have p1 := (HF.out.1.2 k hlt).1.1
      have p2 := (HF.out.1.2 k hlt).1.2
      rcases (Bool.eq_false_or_eq_true (S.testBit k)).symm with hbit | hbit
      · have t1 := tmod1_f hbit
        have HW : Hid (cutF D S (k + 1) = cutF D S k + max (D.p k) 0) := by show _ = _; simp [cutF, hbit]
        clear hbit
        go_wp2
        go_round
        case rel => exact ⟨k + 1, by omega, by go_num, vint (by rw [HW.out]; split <;> omega)⟩
        case measure => simp [intOf]; omega
      · have t1 := tmod1_t hbit
        have HW : Hid (cutF D S (k + 1) = cutF D S k + max (-D.p k) 0) := by show _ = _; simp [cutF, hbit]
        clear hbit
        go_wp2
        go_round
        case rel => exact ⟨k + 1, by omega, by go_num, vint (by rw [HW.out]; split <;> omega)⟩
        case measure => simp [intOf]; omega
    · have : k = D.n := by omega
      subst this
      go_wp2
      go_ret
      exact ⟨rfl, hb⟩

theorem PitCut_spec0 (A : Option Addr) (D : PitD) (c : Nat) (S : Int) (w : World) (h : Calls Try.prog 23 #[.slice A D.n c, .int .i64 S] w (RetV (.bool false) w)) :
    Calls Try.prog 27 #[.slice A D.n c, .int .i64 S] w (RetV (.int .i64 (-1)) w) := by
  have H := hid h
  clear h
  go_enter Try.func27, Try.ntmps27
  go_wp2_with (go_at_call 23; refine Calls.mono H.out ?_; rintro e w1 ⟨rfl, hb⟩)
  go_ret
  exact ⟨rfl, hb⟩
theorem PitCut_impl0 (A : Option Addr) (D : PitD) (c : Nat) (S : Int) (w : World) (h : Calls Try.prog 24 #[.slice A D.n c, .int .i64 S] w (RetV (.bool false) w)) :
    Calls Try.prog 28 #[.slice A D.n c, .int .i64 S] w (RetV (.int .i64 (-1)) w) := by
  have H := hid h
  clear h
  go_enter Try.func28, Try.ntmps28
  go_wp2_with (go_at_call 24; refine Calls.mono H.out ?_; rintro e w1 ⟨rfl, hb⟩)
  go_ret
  exact ⟨rfl, hb⟩

/-- Both PitMay answer no. -/
theorem may_no (D : PitD) (hs : PitSmall D) (x : Int) (h : ¬ (SetFits D x ∧ MayP D x.toNat)) :
    (∀ (A : Option Addr) (c : Nat) (w : World), PitAt w A D → Calls Try.prog 23 #[.slice A D.n c, .int .i64 x] w (RetV (.bool false) w)) ∧
    (∀ (A : Option Addr) (c : Nat) (w : World), PitAt w A D → Calls Try.prog 24 #[.slice A D.n c, .int .i64 x] w (RetV (.bool false) w)) := by
  by_cases hf : SetFits D x
  · obtain ⟨T, rfl, _, _⟩ := fits_nat hf
    have hm : ¬ MayP D T := fun hm => h ⟨hf, by simpa using hm⟩
    exact ⟨fun A c w hx => RetB.no (PitMay_spec A D c T w hx hs hf) hm, fun A c w hx => RetB.no (PitMay_impl A D c T w hx hs hf) hm⟩
  · exact ⟨fun A c w hx => PitMay_spec0 A D c x w hx hs hf, fun A c w hx => PitMay_impl0 A D c x w hx hs hf⟩
end Go.Proofs.Ytekngpinldiodaa
