/- Sets of blocks: which fit a pit, what they are worth, whether they have what they need. Lists are at most 2^20 long. -/
import Derived.Test.YtekngpinldiodaaPit3
import Derived.Test.YtekngpinldiodaaBits
namespace Go.Proofs.Ytekngpinldiodaa
open Go.RowKit

def SetFits (D : PitD) (S : Int) : Prop := PitOk D ∧ 0 ≤ S ∧ S < 2 ^ D.n

theorem pow8 {D : PitD} (h : D.n ≤ 8) : 2 ^ D.n ≤ 256 := by have := pow_lt h; omega

theorem l6Set_any (A : Option Addr) (D : PitD) (c : Nat) (S : Int) (w : World) (hx : PitAt w A D) (hs : PitSmall D) :
    Calls Try.prog 53 #[.slice A D.n c, .int .i64 S] w (RetB (SetFits D S) w) := by
  by_cases hok : PitOk D
  · have h8 := hok.1
    have hp := pow8 h8
    have e1 : wrap64 (2 ^ D.n) = 2 ^ D.n := wrap_pow (by omega)
    have e2 : wrap64 (2 ^ D.n - 1) = 2 ^ D.n - 1 := wrap_pow1 (by omega)
    by_cases hS : 0 ≤ S ∧ S ≤ 2 ^ D.n - 1
    · have HS := hid hS
      clear hS
      go_enter Try.func53, Try.ntmps53
      go_wp2_with (first | (go_at_call 15; refine (RetB.yes (PitValid_spec A D c w hx hs) hok).mono ?_; rintro e w1 ⟨rfl, hb⟩) | (go_at_call 48; refine (l1In_y _ _ _ _ HS.out.1 HS.out.2).mono ?_; rintro e w' ⟨rfl, rfl⟩))
      go_ret
      exact .mk_t ⟨hok, HS.out.1, by have := HS.out.2; omega⟩ hb rfl
    · have HS := hid hS
      clear hS
      go_enter Try.func53, Try.ntmps53
      go_wp2_with (first | (go_at_call 15; refine (RetB.yes (PitValid_spec A D c w hx hs) hok).mono ?_; rintro e w1 ⟨rfl, hb⟩) | (go_at_call 48; refine (l1In_n _ _ _ _ HS.out).mono ?_; rintro e w' ⟨rfl, rfl⟩))
      go_ret
      exact .mk_f (fun h => HS.out ⟨h.2.1, by have := h.2.2; omega⟩) hb rfl
  · go_enter Try.func53, Try.ntmps53
    go_wp2_with (go_at_call 15; refine (RetB.no (PitValid_spec A D c w hx hs) hok).mono ?_; rintro e w1 ⟨rfl, hb⟩)
    go_ret
    exact .mk_f (fun h => hok h.1) hb rfl

theorem pitSetFits_any (A : Option Addr) (D : PitD) (c : Nat) (S : Int) (w : World) (hx : PitAt w A D) (hs : PitSmall D) :
    Calls Try.prog 54 #[.slice A D.n c, .int .i64 S] w (RetB (SetFits D S) w) := by
  by_cases hok : PitOk D
  · have h8 := hok.1
    have hp := pow8 h8
    have e1 : wrap64 (2 ^ D.n) = 2 ^ D.n := wrap_pow (by omega)
    by_cases h0 : 0 ≤ S
    · by_cases hS : S < 2 ^ D.n
      · go_enter Try.func54, Try.ntmps54
        go_wp2_with (go_at_call 17; refine (RetB.yes (PitValid_impl A D c w hx hs) hok).mono ?_; rintro e w1 ⟨rfl, hb⟩)
        go_ret
        exact .mk_t ⟨hok, h0, hS⟩ hb rfl
      · go_enter Try.func54, Try.ntmps54
        go_wp2_with (go_at_call 17; refine (RetB.yes (PitValid_impl A D c w hx hs) hok).mono ?_; rintro e w1 ⟨rfl, hb⟩)
        go_ret
        exact .mk_f (fun h => by have := h.2.2; omega) hb (by first | rfl | exact ret_dec_f (by omega))
    · go_enter Try.func54, Try.ntmps54
      go_wp2_with (go_at_call 17; refine (RetB.yes (PitValid_impl A D c w hx hs) hok).mono ?_; rintro e w1 ⟨rfl, hb⟩)
      go_ret
      exact .mk_f (fun h => by have := h.2.1; omega) hb rfl
  · go_enter Try.func54, Try.ntmps54
    go_wp2_with (go_at_call 17; refine (RetB.no (PitValid_impl A D c w hx hs) hok).mono ?_; rintro e w1 ⟨rfl, hb⟩)
    go_ret
    exact .mk_f (fun h => hok h.1) hb rfl

/-- What the first k blocks of a set are worth. -/
def worthF (D : PitD) (S : Nat) : Nat → Int
  | 0 => 0
  | k + 1 => worthF D S k + if S.testBit k then D.p k else 0
theorem worthF_bd {D : PitD} (hok : PitOk D) (S : Nat) : ∀ k, k ≤ D.n → -20 * (k : Int) ≤ worthF D S k ∧ worthF D S k ≤ 20 * (k : Int)
  | 0, _ => by simp [worthF]
  | k + 1, h => by
    have ih := worthF_bd hok S k (by omega)
    have hp := (hok.2 k (by omega)).1
    simp only [worthF]
    split <;> omega

theorem fits_nat {D : PitD} {S : Int} (h : SetFits D S) : ∃ T : Nat, S = T ∧ T < 2 ^ D.n ∧ T < 256 := by
  obtain ⟨hok, h0, h1⟩ := h
  have hp := pow8 hok.1
  refine ⟨S.toNat, by omega, ?_, ?_⟩
  · have : ((S.toNat : Nat) : Int) < ((2 ^ D.n : Nat) : Int) := by rw [← pow_int]; omega
    omega
  · rw [pow_int] at h1; omega

set_option maxHeartbeats 400000 in
theorem PitWorth_impl (A : Option Addr) (D : PitD) (c : Nat) (S : Nat) (w : World) (hx : PitAt w A D) (hs : PitSmall D) (hf : SetFits D S) :
    Calls Try.prog 20 #[.slice A D.n c, .int .i64 S] w (RetV (.int .i64 (worthF D S D.n)) w) := by
  have hn := hs.1
  have h8 := hf.1.1
  have hS : S < 2 ^ 62 := by obtain ⟨T, e, _, hT⟩ := fits_nat hf; have : S = T := by omega
                             omega
  have HB := hid (worthF_bd hf.1 S)
  have HF := hid hf
  clear hf
  go_enter Try.func20, Try.ntmps20
  go_wp2_with (go_at_call 54; refine (RetB.yes (pitSetFits_any A D c S w hx hs) HF.out).mono ?_; rintro e w1 ⟨rfl, hb⟩)
  go_loopw [5, 14] (fun s i wr => ∃ k : Nat, k ≤ D.n ∧ i = .int .i64 k ∧ s = .int .i64 (worthF D S k) ∧ Below w.heap.size w wr) (fun _ i _ => D.n - (intOf i).toNat)
  case atStart => exact ⟨0, by omega, rfl, rfl, hb⟩
  case round =>
    obtain ⟨k, hk, rfl, rfl, hbel⟩ := hrel
    by_cases hlt : k < D.n
    · obtain ⟨b, o, C, cc, rfl, a1, a2, a3⟩ := (hx.below hbel).at_ hlt
      have hltz : (k : Int) < (D.n : Int) := by omega
      have b1 := (HB.out k hk).1
      have b2 := (HB.out k hk).2
      have p1 := (HF.out.1.2 k hlt).1.1
      have p2 := (HF.out.1.2 k hlt).1.2
      cases hbit : S.testBit k
      · have t1 := and1_f hS hbit
        have HW : Hid (worthF D S (k + 1) = worthF D S k) := by show _ = _; simp [worthF, hbit]
        clear hbit
        go_wp2
        go_roundw
        case rel => exact ⟨k + 1, by omega, by go_num, by rw [HW.out], hbel.alloc hbel.size _⟩
        case measure => simp [intOf]; omega
      · have t1 := and1_t hS hbit
        have HW : Hid (worthF D S (k + 1) = worthF D S k + D.p k) := by show _ = _; simp [worthF, hbit]
        clear hbit
        go_wp2
        go_roundw
        case rel => exact ⟨k + 1, by omega, by go_num, by rw [HW.out], hbel.alloc hbel.size _⟩
        case measure => simp [intOf]; omega
    · have : k = D.n := by omega
      subst this
      go_wp2
      go_ret
      exact ⟨rfl, hbel⟩

theorem PitWorth_impl0 (A : Option Addr) (D : PitD) (c : Nat) (S : Int) (w : World) (hx : PitAt w A D) (hs : PitSmall D) (hf : ¬ SetFits D S) :
    Calls Try.prog 20 #[.slice A D.n c, .int .i64 S] w (RetV (.int .i64 0) w) := by
  go_enter Try.func20, Try.ntmps20
  go_wp2_with (go_at_call 54; refine (RetB.no (pitSetFits_any A D c S w hx hs) hf).mono ?_; rintro e w1 ⟨rfl, hb⟩)
  go_ret
  exact ⟨rfl, hb⟩

set_option maxHeartbeats 400000 in
theorem PitWorth_spec (A : Option Addr) (D : PitD) (c : Nat) (S : Nat) (w : World) (hx : PitAt w A D) (hs : PitSmall D) (hf : SetFits D S) :
    Calls Try.prog 19 #[.slice A D.n c, .int .i64 S] w (RetV (.int .i64 (worthF D S D.n)) w) := by
  have hn := hs.1
  have h8 := hf.1.1
  have hS : S < 2 ^ 62 := by obtain ⟨T, e, _, hT⟩ := fits_nat hf; have : S = T := by omega
                             omega
  have HB := hid (worthF_bd hf.1 S)
  have HF := hid hf
  clear hf
  go_enter Try.func19, Try.ntmps19
  go_wp2
  go_loopw [5, 6] (fun s i wr => ∃ k : Nat, k ≤ D.n ∧ i = .int .i64 k ∧ s = .int .i64 (worthF D S k) ∧ Below w.heap.size w wr) (fun _ i _ => D.n - (intOf i).toNat)
  case atStart => exact ⟨0, by omega, rfl, rfl, Below.refl _ _⟩
  case round =>
    obtain ⟨k, hk, rfl, rfl, hbel⟩ := hrel
    by_cases hlt : k < D.n
    · obtain ⟨b, o, C, cc, rfl, -, -, -⟩ := hx.at_ hlt
      have hltz : (k : Int) < (D.n : Int) := by omega
      have b1 := (HB.out k hk).1
      have b2 := (HB.out k hk).2
      have p1 := (HF.out.1.2 k hlt).1.1
      have p2 := (HF.out.1.2 k hlt).1.2
      cases hbit : S.testBit k
      · have t1 := tmod1_f hbit
        have HW : Hid (worthF D S (k + 1) = worthF D S k) := by show _ = _; simp [worthF, hbit]
        clear hbit
        go_wp2_with (go_at_call 53; refine (RetB.yes (l6Set_any _ D c S _ (hx.below hbel) hs) HF.out).mono ?_; rintro e w1 ⟨rfl, hb⟩)
        go_roundw
        case rel => exact ⟨k + 1, by omega, by go_num, by rw [HW.out], Below.then_ hbel hb⟩
        case measure => simp [intOf]; omega
      · have t1 := tmod1_t hbit
        have HW : Hid (worthF D S (k + 1) = worthF D S k + D.p k) := by show _ = _; simp [worthF, hbit]
        clear hbit
        go_wp2_with fail
        refine (RetB.yes (l6Set_any _ D c S _ (hx.below hbel) hs) HF.out).mono ?_
        rintro e w1 ⟨rfl, hb⟩
        obtain ⟨b', o', C, cc, hA, a1, a2, a3⟩ := (hx.below (Below.then_ hbel hb)).at_ hlt
        simp only [Option.some.injEq, Addr.mk.injEq, and_true] at hA
        obtain ⟨rfl, rfl⟩ := hA
        go_wp2
        go_roundw
        case rel => exact ⟨k + 1, by omega, by go_num, by rw [HW.out], Below.then_ hbel hb⟩
        case measure => simp [intOf]; omega
    · have : k = D.n := by omega
      subst this
      go_wp2
      go_ret
      exact ⟨rfl, hbel⟩

theorem PitWorth_spec0 (A : Option Addr) (D : PitD) (c : Nat) (S : Int) (w : World) (hx : PitAt w A D) (hs : PitSmall D) (hf : ¬ SetFits D S) :
    Calls Try.prog 19 #[.slice A D.n c, .int .i64 S] w (RetV (.int .i64 0) w) := by
  have hn := hs.1
  go_enter Try.func19, Try.ntmps19
  go_wp2
  refine wp_loop_rounds 1 ?_
  rw [rounds_succ]
  by_cases h0 : 0 < D.n
  · have hltz : (0 : Int) < (D.n : Int) := by omega
    go_wp2_with (go_at_call 53; refine (RetB.no (l6Set_any _ D c S _ hx hs) hf).mono ?_; rintro e w1 ⟨rfl, hb⟩)
    go_ret
    exact ⟨rfl, hb⟩
  · go_wp2
    go_ret
    exact ⟨rfl, Below.refl _ _⟩
end Go.Proofs.Ytekngpinldiodaa
