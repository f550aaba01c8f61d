/- Whether a set has what its blocks need; what a cut costs; closing a set. Lists are at most 2^20 long. -/
import Derived.Test.YtekngpinldiodaaPit4
namespace Go.Proofs.Ytekngpinldiodaa
open Go.RowKit

def MayP (D : PitD) (S : Nat) : Prop := ∀ i, i < D.n → S.testBit i = true → ∀ j, j < D.l i → S.testBit (D.x i j).toNat = true

theorem fits_lt {D : PitD} {S : Nat} (hf : SetFits D S) : S < 2 ^ 62 := by
  obtain ⟨T, e, _, hT⟩ := fits_nat hf
  have : S = T := by omega
  omega

set_option maxHeartbeats 800000 in
theorem PitMay_impl (A : Option Addr) (D : PitD) (c : Nat) (S : Nat) (w : World) (hx : PitAt w A D) (hs : PitSmall D) (hf : SetFits D S) :
    Calls Try.prog 24 #[.slice A D.n c, .int .i64 S] w (RetB (MayP D S) w) := by
  have hn := hs.1
  have h8 := hf.1.1
  have hS := fits_lt hf
  have HF := hid hf
  have HL := hid hs.2
  clear hf
  go_enter Try.func24, Try.ntmps24
  go_wp2_with (go_at_call 54; refine (RetB.yes (pitSetFits_any A D c S w hx hs) HF.out).mono ?_; rintro e w1 ⟨rfl, hb⟩)
  go_loopw [15] (fun i wr => ∃ k : Nat, k ≤ D.n ∧ i = .int .i64 k ∧ (∀ i, i < k → S.testBit i = true → ∀ j, j < D.l i → S.testBit (D.x i j).toNat = true) ∧ Below w.heap.size w wr) (fun i _ => D.n - (intOf i).toNat)
  case atStart => exact ⟨0, by omega, rfl, fun j hj => absurd hj (by omega), hb⟩
  case round =>
    obtain ⟨k, hk, rfl, hall, hbel⟩ := hrel
    have HA := hid hall
    clear hall
    by_cases hlt : k < D.n
    · obtain ⟨b, o, C, cc, rfl, a1, a2, a3⟩ := (hx.below hbel).at_ hlt
      have hltz : (k : Int) < (D.n : Int) := by omega
      have hlk := HL.out k hlt
      cases hbit : S.testBit k
      · have t1 := and0_f hS hbit
        have HB := hid hbit
        clear hbit
        go_wp2
        go_roundw
        case rel => exact ⟨k + 1, by omega, by go_num, fun j hj => by
          by_cases e : j = k
          · subst e; intro h; rw [HB.out] at h; cases h
          · exact HA.out j (by omega), hbel.alloc hbel.size _⟩
        case measure => simp [intOf]; omega
      · have t1 := and0_t hS hbit
        have HB := hid hbit
        clear hbit
        go_wp2
        go_loop [28] (fun i => ∃ u : Nat, u ≤ D.l k ∧ i = .int .i64 u ∧ ∀ j, j < u → S.testBit (D.x k j).toNat = true) (fun i => D.l k - (intOf i).toNat)
        case atStart => exact ⟨0, by omega, rfl, fun j hj => absurd hj (by omega)⟩
        case round =>
          obtain ⟨u, hu, rfl, hin⟩ := hrel
          have HI := hid hin
          clear hin
          by_cases hul : u < D.l k
          · obtain ⟨b2, o2, rfl, hc⟩ := a3 (by omega)
            have hulz : (u : Int) < (D.l k : Int) := by omega
            have c1 : ∀ ob, (wr.alloc ob).cell? ⟨b2, o2 + u, none⟩ = some (.int .i64 (D.x k u)) := fun ob => cell_below ((Below.refl _ _).alloc (Nat.le_refl _) ob) (hc u hul)
            have x1 := ((HF.out.1.2 k hlt).2.1 u hul).1
            have x2 := ((HF.out.1.2 k hlt).2.1 u hul).2
            clear hc a3
            cases hb2 : S.testBit (D.x k u).toNat
            · have t2 := and0_f hS hb2
              have HB2 := hid hb2
              clear hb2
              go_wp2
              go_ret
              exact .mk_f (fun h => by have := h k hlt HB.out u hul; rw [HB2.out] at this; cases this) (hbel.alloc hbel.size _) rfl
            · have t2 := and0_t hS hb2
              have HB2 := hid hb2
              clear hb2
              go_wp2
              go_round
              case rel => exact ⟨u + 1, by omega, by go_num, fun j hj => by
                by_cases e : j = u
                · subst e; exact HB2.out
                · exact HI.out j (by omega)⟩
              case measure => simp [intOf]; omega
          · go_wp2
            go_roundw
            case rel => exact ⟨k + 1, by omega, by go_num, fun j hj => by
              by_cases e : j = k
              · subst e; exact fun _ j hj => HI.out j (by omega)
              · exact HA.out j (by omega), hbel.alloc hbel.size _⟩
            case measure => simp [intOf]; omega
    · have : k = D.n := by omega
      subst this
      go_wp2
      go_ret
      exact .mk_t HA.out hbel rfl

theorem PitMay_impl0 (A : Option Addr) (D : PitD) (c : Nat) (S : Int) (w : World) (hx : PitAt w A D) (hs : PitSmall D) (hf : ¬ SetFits D S) :
    Calls Try.prog 24 #[.slice A D.n c, .int .i64 S] w (RetV (.bool false) w) := by
  go_enter Try.func24, Try.ntmps24
  go_wp2_with (go_at_call 54; refine (RetB.no (pitSetFits_any A D c S w hx hs) hf).mono ?_; rintro e w1 ⟨rfl, hb⟩)
  go_ret
  exact ⟨rfl, hb⟩

set_option maxHeartbeats 800000 in
theorem PitMay_spec (A : Option Addr) (D : PitD) (c : Nat) (S : Nat) (w : World) (hx : PitAt w A D) (hs : PitSmall D) (hf : SetFits D S) :
    Calls Try.prog 23 #[.slice A D.n c, .int .i64 S] w (RetB (MayP D S) w) := by
  have hn := hs.1
  have h8 := hf.1.1
  have HF := hid hf
  have HL := hid hs.2
  clear hf
  go_enter Try.func23, Try.ntmps23
  go_wp2_with (go_at_call 53; refine (RetB.yes (l6Set_any A D c S w hx hs) HF.out).mono ?_; rintro e w1 ⟨rfl, hb⟩)
  go_loop [5] (fun i => ∃ k : Nat, k ≤ D.n ∧ i = .int .i64 k ∧ ∀ i, i < k → S.testBit i = true → ∀ j, j < D.l i → S.testBit (D.x i j).toNat = true) (fun i => D.n - (intOf i).toNat)
  case atStart => exact ⟨0, by omega, rfl, fun j hj => absurd hj (by omega)⟩
  case round =>
    obtain ⟨k, hk, rfl, hall⟩ := hrel
    have HA := hid hall
    clear hall
    by_cases hlt : k < D.n
    · obtain ⟨b, o, C, cc, rfl, a1, a2, a3⟩ := (hx.below hb).at_ hlt
      have hltz : (k : Int) < (D.n : Int) := by omega
      have hlk := HL.out k hlt
      go_wp2
      go_loop [6] (fun i => ∃ u : Nat, u ≤ D.l k ∧ i = .int .i64 u ∧ ∀ j, j < u → S.testBit k = true → S.testBit (D.x k j).toNat = true) (fun i => D.l k - (intOf i).toNat)
      case atStart => exact ⟨0, by omega, rfl, fun j hj => absurd hj (by omega)⟩
      case round =>
        obtain ⟨u, hu, rfl, hin⟩ := hrel
        have HI := hid hin
        clear hin
        by_cases hul : u < D.l k
        · obtain ⟨b2, o2, rfl, hc⟩ := a3 (by omega)
          have hulz : (u : Int) < (D.l k : Int) := by omega
          have c1 := hc u hul
          have x1 := ((HF.out.1.2 k hlt).2.1 u hul).1
          have x2 := ((HF.out.1.2 k hlt).2.1 u hul).2
          clear hc a3
          rcases (Bool.eq_false_or_eq_true (S.testBit k)).symm with hbit | hbit
          · have t1 := tmod1_f hbit
            have HB := hid hbit
            clear hbit
            go_wp2
            go_round
            case rel => exact ⟨u + 1, by omega, by go_num, fun j hj => by intro h; rw [HB.out] at h; cases h⟩
            case measure => simp [intOf]; omega
          · have t1 := tmod1_t hbit
            have HB := hid hbit
            clear hbit
            cases hb2 : S.testBit (D.x k u).toNat
            · have t2 := tmod0_f hb2
              have HB2 := hid hb2
              clear hb2
              go_wp2
              go_ret
              exact .mk_f (fun h => by have := h k hlt HB.out u hul; rw [HB2.out] at this; cases this) hb rfl
            · have t2 := tmod0_t hb2
              have HB2 := hid hb2
              clear hb2
              go_wp2
              go_round
              case rel => exact ⟨u + 1, by omega, by go_num, fun j hj => by
                by_cases e : j = u
                · subst e; exact fun _ => HB2.out
                · exact HI.out j (by omega)⟩
              case measure => simp [intOf]; omega
        · go_wp2
          go_round
          case rel => exact ⟨k + 1, by omega, by go_num, fun j hj => by
            by_cases e : j = k
            · subst e; exact fun h j hj => HI.out j (by omega) h
            · exact HA.out j (by omega)⟩
          case measure => simp [intOf]; omega
    · have : k = D.n := by omega
      subst this
      go_wp2
      go_ret
      exact .mk_t HA.out hb rfl

theorem PitMay_spec0 (A : Option Addr) (D : PitD) (c : Nat) (S : Int) (w : World) (hx : PitAt w A D) (hs : PitSmall D) (hf : ¬ SetFits D S) :
    Calls Try.prog 23 #[.slice A D.n c, .int .i64 S] w (RetV (.bool false) w) := by
  go_enter Try.func23, Try.ntmps23
  go_wp2_with (go_at_call 53; refine (RetB.no (l6Set_any A D c S w hx hs) hf).mono ?_; rintro e w1 ⟨rfl, hb⟩)
  go_ret
  exact ⟨rfl, hb⟩
end Go.Proofs.Ytekngpinldiodaa
