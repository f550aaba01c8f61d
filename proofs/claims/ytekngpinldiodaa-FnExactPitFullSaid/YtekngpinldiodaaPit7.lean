/- Closing a set: both programs add the same blocks in the same order. Lists are at most 2^20 long. -/
import Derived.Test.YtekngpinldiodaaPit5
namespace Go.Proofs.Ytekngpinldiodaa
open Go.RowKit

/-- S and the first j blocks that block i needs. -/
def clI (D : PitD) (i S : Nat) : Nat → Nat
  | 0 => S
  | j + 1 => clI D i S j ||| 2 ^ (D.x i j).toNat
/-- S behind the last t blocks. -/
def clO (D : PitD) (S : Nat) : Nat → Nat
  | 0 => S
  | t + 1 => if (clO D S t).testBit (D.n - 1 - t) then clI D (D.n - 1 - t) (clO D S t) (D.l (D.n - 1 - t)) else clO D S t

theorem clI_lt {D : PitD} (hok : PitOk D) {i S : Nat} (hi : i < D.n) (hS : S < 2 ^ D.n) : ∀ j, j ≤ D.l i → clI D i S j < 2 ^ D.n
  | 0, _ => hS
  | j + 1, h => by
    have := (hok.2 i hi).2.1 j (by omega)
    exact Nat.or_lt_two_pow (clI_lt hok hi hS j (by omega)) (Nat.pow_lt_pow_right (by decide) (by omega))
theorem clO_lt {D : PitD} (hok : PitOk D) {S : Nat} (hS : S < 2 ^ D.n) : ∀ t, t ≤ D.n → clO D S t < 2 ^ D.n
  | 0, _ => hS
  | t + 1, h => by
    have ih := clO_lt hok hS t (by omega)
    simp only [clO]
    split
    · exact clI_lt hok (by omega) ih _ (Nat.le_refl _)
    · exact ih
theorem clI_bit {D : PitD} (hok : PitOk D) {i S : Nat} (hi : i < D.n) : ∀ j, j ≤ D.l i → (clI D i S j).testBit i = S.testBit i
  | 0, _ => rfl
  | j + 1, h => by
    have := (hok.2 i hi).2.1 j (by omega)
    simp only [clI, Nat.testBit_or, Nat.testBit_two_pow, clI_bit hok hi j (by omega)]
    have e : ¬ (D.x i j).toNat = i := by omega
    simp [e]
theorem clO_step {D : PitD} {S i : Nat} (hi : i < D.n) : clO D S (D.n - i) = if (clO D S (D.n - (i + 1))).testBit i then clI D i (clO D S (D.n - (i + 1))) (D.l i) else clO D S (D.n - (i + 1)) := by
  rw [show D.n - i = (D.n - (i + 1)) + 1 by omega]
  simp only [clO]
  rw [show D.n - 1 - (D.n - (i + 1)) = i by omega]

set_option maxHeartbeats 800000 in
theorem PitClose_impl (A : Option Addr) (D : PitD) (c : Nat) (S : Nat) (w : World) (hx : PitAt w A D) (hs : PitSmall D) (hf : SetFits D S) :
    Calls Try.prog 22 #[.slice A D.n c, .int .i64 S] w (RetV (.int .i64 (clO D S D.n)) w) := by
  have hn := hs.1
  have h8 := hf.1.1
  have hp := pow8 h8
  have hT : S < 2 ^ D.n := by obtain ⟨T, e, h, _⟩ := fits_nat hf; have : S = T := by omega
                              omega
  have HT := hid hT
  have HF := hid hf
  have HL := hid hs.2
  clear hf hT
  go_enter Try.func22, Try.ntmps22
  go_wp2_with (go_at_call 54; refine (RetB.yes (pitSetFits_any A D c S w hx hs) HF.out).mono ?_; rintro e w1 ⟨rfl, hb⟩)
  go_loop [1, 5] (fun s i => ∃ m : Nat, m ≤ D.n ∧ i = .int .i64 ((m : Int) - 1) ∧ s = .int .i64 (clO D S (D.n - m))) (fun _ i => (intOf i + 1).toNat)
  case atStart => exact ⟨D.n, by omega, rfl, by rw [Nat.sub_self]; rfl⟩
  case round =>
    obtain ⟨m, hm, rfl, rfl⟩ := hrel
    by_cases hlt : 0 < m
    · obtain ⟨i, rfl⟩ : ∃ i, m = i + 1 := ⟨m - 1, by omega⟩
      have ei : ((i + 1 : Nat) : Int) - 1 = (i : Int) := by omega
      rw [ei]
      have EI := hid ei
      clear ei
      obtain ⟨b, o, C, cc, rfl, a1, a2, a3⟩ := (hx.below hb).at_ (show i < D.n by omega)
      have hiz : (i : Int) < (D.n : Int) := by omega
      have hlk := HL.out i (by omega)
      have hOS := hid (clO_step (D := D) (S := S) (show i < D.n by omega))
      have hOl := clO_lt HF.out.1 HT.out (D.n - (i + 1)) (by omega)
      obtain ⟨T, hTe⟩ : ∃ T, T = clO D S (D.n - (i + 1)) := ⟨_, rfl⟩
      rw [← hTe] at hOS hOl ⊢
      clear hTe
      have hT62 : T < 2 ^ 62 := by omega
      rcases (Bool.eq_false_or_eq_true (T.testBit i)).symm with hbit | hbit
      · have t1 := and0_f hT62 hbit
        have HB := hid hbit
        clear hbit
        go_wp2
        go_round
        case rel => exact ⟨i, by omega, by go_num, by rw [hOS.out, HB.out]; rfl⟩
        case measure => simp [intOf] <;> omega
      · have t1 := and0_t hT62 hbit
        have HB := hid hbit
        clear hbit
        go_wp2
        go_loop [1, 30] (fun s j => ∃ u : Nat, u ≤ D.l i ∧ j = .int .i64 u ∧ s = .int .i64 (clI D i T u)) (fun _ j => D.l i - (intOf j).toNat)
        case atStart => exact ⟨0, by omega, rfl, rfl⟩
        case round =>
          obtain ⟨u, hu, rfl, rfl⟩ := hrel
          by_cases hul : u < D.l i
          · obtain ⟨b2, o2, rfl, hc⟩ := a3 (by omega)
            have hulz : (u : Int) < (D.l i : Int) := by omega
            have c1 := hc u hul
            have x1 := ((HF.out.1.2 i (by omega)).2.1 u hul).1
            have x2 := ((HF.out.1.2 i (by omega)).2.1 u hul).2
            have hIl := clI_lt HF.out.1 (show i < D.n by omega) hOl u (by omega)
            have e1 : wrap64 (2 ^ (D.x i u).toNat) = 2 ^ (D.x i u).toNat := wrap_pow (by omega)
            have e2 := or_pow_i64 (S := clI D i T u) (k := (D.x i u).toNat) (by omega) (by omega)
            clear hc a3
            go_wp2
            go_round
            case rel => exact ⟨u + 1, by omega, by go_num, rfl⟩
            case measure => simp [intOf] <;> omega
          · have : u = D.l i := by omega
            subst this
            go_wp2
            go_round
            case rel => exact ⟨i, by omega, by go_num, by rw [hOS.out, HB.out]; rfl⟩
            case measure => simp [intOf] <;> omega
    · have : m = 0 := by omega
      subst this
      go_wp2
      go_ret
      exact ⟨rfl, hb⟩

theorem PitClose_impl0 (A : Option Addr) (D : PitD) (c : Nat) (S : Int) (w : World) (hx : PitAt w A D) (hs : PitSmall D) (hf : ¬ SetFits D S) :
    Calls Try.prog 22 #[.slice A D.n c, .int .i64 S] w (RetV (.int .i64 (-1)) w) := by
  go_enter Try.func22, Try.ntmps22
  go_wp2_with (go_at_call 54; refine (RetB.no (pitSetFits_any A D c S w hx hs) hf).mono ?_; rintro e w1 ⟨rfl, hb⟩)
  go_ret
  exact ⟨rfl, hb⟩

set_option maxHeartbeats 800000 in
theorem PitClose_spec (A : Option Addr) (D : PitD) (c : Nat) (S : Nat) (w : World) (hx : PitAt w A D) (hs : PitSmall D) (hf : SetFits D S) :
    Calls Try.prog 21 #[.slice A D.n c, .int .i64 S] w (RetV (.int .i64 (clO D S D.n)) w) := by
  have hn := hs.1
  have h8 := hf.1.1
  have hp := pow8 h8
  have hT : S < 2 ^ D.n := by obtain ⟨T, e, h, _⟩ := fits_nat hf; have : S = T := by omega
                              omega
  have HT := hid hT
  have HF := hid hf
  have HL := hid hs.2
  clear hf hT
  go_enter Try.func21, Try.ntmps21
  go_wp2_with (go_at_call 53; refine (RetB.yes (l6Set_any A D c S w hx hs) HF.out).mono ?_; rintro e w1 ⟨rfl, hb⟩)
  go_loop [1, 5] (fun s i => ∃ m : Nat, m ≤ D.n ∧ i = .int .i64 ((m : Int) - 1) ∧ s = .int .i64 (clO D S (D.n - m))) (fun _ i => (intOf i + 1).toNat)
  case atStart => exact ⟨D.n, by omega, rfl, by rw [Nat.sub_self]; rfl⟩
  case round =>
    obtain ⟨m, hm, rfl, rfl⟩ := hrel
    by_cases hlt : 0 < m
    · obtain ⟨i, rfl⟩ : ∃ i, m = i + 1 := ⟨m - 1, by omega⟩
      have ei : ((i + 1 : Nat) : Int) - 1 = (i : Int) := by omega
      rw [ei]
      have EI := hid ei
      clear ei
      obtain ⟨b, o, C, cc, rfl, a1, a2, a3⟩ := (hx.below hb).at_ (show i < D.n by omega)
      have hiz : (i : Int) < (D.n : Int) := by omega
      have hlk := HL.out i (by omega)
      have hOS := hid (clO_step (D := D) (S := S) (show i < D.n by omega))
      have hOl := clO_lt HF.out.1 HT.out (D.n - (i + 1)) (by omega)
      obtain ⟨T, hTe⟩ : ∃ T, T = clO D S (D.n - (i + 1)) := ⟨_, rfl⟩
      rw [← hTe] at hOS hOl ⊢
      clear hTe
      rcases (Bool.eq_false_or_eq_true (T.testBit i)).symm with hbit | hbit
      · have t1 := tmod1_f hbit
        have HB := hid hbit
        clear hbit
        go_wp2
        go_loop [1, 6] (fun s j => j = .int .i64 0 ∧ s = .int .i64 T) (fun _ _ => 1)
        case atStart => exact ⟨rfl, rfl⟩
        case round =>
          obtain ⟨rfl, rfl⟩ := hrel
          by_cases hul : 0 < D.l i
          · have hulz : (0 : Int) < (D.l i : Int) := by omega
            go_wp2
            go_round
            case rel => exact ⟨i, by omega, by go_num, by rw [hOS.out, HB.out]; rfl⟩
            case measure => simp [intOf] <;> omega
          · go_wp2
            go_round
            case rel => exact ⟨i, by omega, by go_num, by rw [hOS.out, HB.out]; rfl⟩
            case measure => simp [intOf] <;> omega
      · have HB := hid hbit
        clear hbit
        go_wp2
        go_loop [1, 6] (fun s j => ∃ u : Nat, u ≤ D.l i ∧ j = .int .i64 u ∧ s = .int .i64 (clI D i T u)) (fun _ j => D.l i - (intOf j).toNat)
        case atStart => exact ⟨0, by omega, rfl, rfl⟩
        case round =>
          obtain ⟨u, hu, rfl, rfl⟩ := hrel
          by_cases hul : u < D.l i
          · obtain ⟨b2, o2, rfl, hc⟩ := a3 (by omega)
            have hulz : (u : Int) < (D.l i : Int) := by omega
            have c1 := hc u hul
            have x1 := ((HF.out.1.2 i (by omega)).2.1 u hul).1
            have x2 := ((HF.out.1.2 i (by omega)).2.1 u hul).2
            have hIl := clI_lt HF.out.1 (show i < D.n by omega) hOl u (by omega)
            have e1 : wrap64 (2 ^ (D.x i u).toNat) = 2 ^ (D.x i u).toNat := wrap_pow (by omega)
            have e3 : (2 : Int) ^ (D.x i u).toNat ≤ 256 := by rw [pow_int]; have := pow_lt (show (D.x i u).toNat ≤ 8 by omega); omega
            have e4 : 0 ≤ (2 : Int) ^ (D.x i u).toNat := by rw [pow_int]; exact Int.natCast_nonneg _
            have t1 := tmod1_t (S := clI D i T u) (k := i) (by rw [clI_bit HF.out.1 (show i < D.n by omega) u (by omega)]; exact HB.out)
            clear hc a3
            rcases (Bool.eq_false_or_eq_true ((clI D i T u).testBit (D.x i u).toNat)).symm with hb2 | hb2
            · have t2 := tmod0_f hb2
              have HW : Hid (clI D i T (u + 1) = clI D i T u + 2 ^ (D.x i u).toNat) := (or_add_bit _ _ hb2).symm
              clear hb2
              go_wp2
              go_round
              case rel => exact ⟨u + 1, by omega, by go_num, by rw [HW.out]; exact vint (by rw [pow_int]; omega)⟩
              case measure => simp [intOf] <;> omega
            · have t2 := tmod0_t hb2
              have HW : Hid (clI D i T (u + 1) = clI D i T u) := or_has_bit _ _ hb2
              clear hb2
              go_wp2
              go_round
              case rel => exact ⟨u + 1, by omega, by go_num, by rw [HW.out]⟩
              case measure => simp [intOf] <;> omega
          · have : u = D.l i := by omega
            subst this
            go_wp2
            go_round
            case rel => exact ⟨i, by omega, by go_num, by rw [hOS.out, HB.out]; rfl⟩
            case measure => simp [intOf] <;> omega
    · have : m = 0 := by omega
      subst this
      go_wp2
      go_ret
      exact ⟨rfl, hb⟩

theorem PitClose_spec0 (A : Option Addr) (D : PitD) (c : Nat) (S : Int) (w : World) (hx : PitAt w A D) (hs : PitSmall D) (hf : ¬ SetFits D S) :
    Calls Try.prog 21 #[.slice A D.n c, .int .i64 S] w (RetV (.int .i64 (-1)) w) := by
  go_enter Try.func21, Try.ntmps21
  go_wp2_with (go_at_call 53; refine (RetB.no (l6Set_any A D c S w hx hs) hf).mono ?_; rintro e w1 ⟨rfl, hb⟩)
  go_ret
  exact ⟨rfl, hb⟩
end Go.Proofs.Ytekngpinldiodaa
