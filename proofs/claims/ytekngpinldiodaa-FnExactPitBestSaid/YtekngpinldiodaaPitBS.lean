/- The reference's PitBest tries all sets. Lists are at most 2^20 long. -/
import Derived.Test.YtekngpinldiodaaFlowP
import Derived.Test.YtekngpinldiodaaPit5
namespace Go.Proofs.Ytekngpinldiodaa
open Go.RowKit

theorem bestU_ex (D : PitD) : ∀ k, ∃ b, BestU D k b
  | 0 => ⟨-1, .start D⟩
  | k + 1 => by
    obtain ⟨b, h⟩ := bestU_ex D k
    by_cases hm : MayP D k
    · rcases h with ⟨rfl, h2⟩ | ⟨S, rfl, h2, h3, h4⟩
      · exact ⟨_, BestU.first (.inl ⟨rfl, h2⟩) hm⟩
      · by_cases hw : worthF D S D.n < worthF D k D.n
        · exact ⟨_, BestU.more (.inr ⟨S, rfl, h2, h3, h4⟩) hm hw⟩
        · exact ⟨_, BestU.less (.inr ⟨S, rfl, h2, h3, h4⟩) hw⟩
    · exact ⟨b, h.no hm⟩
theorem best_ex (D : PitD) : ∃ S, BestP D S := by
  obtain ⟨b, h⟩ := bestU_ex D (2 ^ D.n)
  obtain ⟨S, _, h⟩ := h.done
  exact ⟨S, h⟩

set_option maxHeartbeats 1600000 in
theorem PitBest_spec (A : Option Addr) (D : PitD) (c B : Nat) (w : World) (hx : PitAt w A D) (hs : PitSmall D) (hok : PitOk D) (hB : BestP D B) :
    Calls Try.prog 40 #[.slice A D.n c] w (RetV (.int .i64 B) w) := by
  have hn := hs.1
  have h8 := hok.1
  obtain ⟨P, hP⟩ : ∃ P, P = 2 ^ D.n := ⟨_, rfl⟩
  have hp : P ≤ 256 := by rw [hP]; exact pow8 h8
  have e1 : wrap64 (2 ^ D.n) = (P : Int) := by rw [wrap_pow (by omega), hP, pow_int]
  have HP := hid hP
  have HO := hid hok
  have HB := hid hB
  have HS := hid hs
  have HF : Hid (∀ k : Nat, k < P → SetFits D k) := hid (fun k hk => ⟨HO.out, Int.natCast_nonneg _, by rw [pow_int, ← HP.out]; omega⟩)
  clear hok hB hs hP
  go_enter Try.func40, Try.ntmps40
  go_wp2
  go_loopw [3, 4] (fun b i wr => ∃ (k : Nat) (r : Int), k ≤ P ∧ i = .int .i64 k ∧ b = .int .i64 r ∧ Hid (BestU D k r) ∧ Hid (Below w.heap.size w wr)) (fun _ i _ => P - (intOf i).toNat)
  case atStart => exact ⟨0, -1, by omega, rfl, rfl, hid (.start D), hid (Below.refl _ _)⟩
  case round =>
    obtain ⟨k, r, hk, rfl, rfl, HU, HW⟩ := hrel
    by_cases hlt : k < P
    · have hltz : (k : Int) < (P : Int) := by omega
      by_cases hm : MayP D k
      · have HM := hid hm
        clear hm
        by_cases hr : r < 0
        · obtain rfl : r = -1 := by
            rcases HU.out with ⟨h, _⟩ | ⟨S, h, _⟩ <;> omega
          go_wp2_with (first
            | (go_at_call 15; refine (RetB.yes (PitValid_spec A D c _ (hx.below HW.out) HS.out) HO.out).mono ?_; rintro e w1 ⟨rfl, hb1⟩; have HW1 := hid (Below.then_ HW.out hb1); clear hb1)
            | (go_at_call 23; refine (RetB.yes (PitMay_spec A D c k _ (hx.below HW1.out) HS.out (HF.out k hlt)) HM.out).mono ?_; rintro e w2 ⟨rfl, hb2⟩; have HW2 := hid (Below.then_ HW1.out hb2); clear hb2))
          go_roundw
          case rel => exact ⟨k + 1, k, by omega, by go_num, rfl, hid (HU.out.first HM.out), HW2⟩
          case measure => simp [intOf]; omega
        · obtain ⟨S, rfl, hSk⟩ : ∃ S : Nat, r = S ∧ S < k := by
            rcases HU.out with ⟨h, _⟩ | ⟨S, h, h2, _⟩
            · omega
            · exact ⟨S, h, h2⟩
          by_cases hw : worthF D S D.n < worthF D k D.n
          · have HL := hid hw
            go_wp2_with (first
              | (go_at_call 15; refine (RetB.yes (PitValid_spec A D c _ (hx.below HW.out) HS.out) HO.out).mono ?_; rintro e w1 ⟨rfl, hb1⟩; have HW1 := hid (Below.then_ HW.out hb1); clear hb1)
              | (go_at_call 23; refine (RetB.yes (PitMay_spec A D c k _ (hx.below HW1.out) HS.out (HF.out k hlt)) HM.out).mono ?_; rintro e w2 ⟨rfl, hb2⟩; have HW2 := hid (Below.then_ HW1.out hb2); clear hb2)
              | (go_at_call 19; refine (PitWorth_spec A D c k _ (hx.below HW2.out) HS.out (HF.out k hlt)).mono ?_; rintro e w3 ⟨rfl, hb3⟩; have HW3 := hid (Below.then_ HW2.out hb3); clear hb3 HW2)
              | (go_at_call 19; refine (PitWorth_spec A D c S _ (hx.below HW3.out) HS.out (HF.out S (by omega))).mono ?_; rintro e w4 ⟨rfl, hb4⟩; have HW4 := hid (Below.then_ HW3.out hb4); clear hb4))
            go_roundw
            case rel => exact ⟨k + 1, k, by omega, by go_num, rfl, hid (HU.out.more HM.out HL.out), HW4⟩
            case measure => simp [intOf]; omega
          · have HL := hid hw
            go_wp2_with (first
              | (go_at_call 15; refine (RetB.yes (PitValid_spec A D c _ (hx.below HW.out) HS.out) HO.out).mono ?_; rintro e w1 ⟨rfl, hb1⟩; have HW1 := hid (Below.then_ HW.out hb1); clear hb1)
              | (go_at_call 23; refine (RetB.yes (PitMay_spec A D c k _ (hx.below HW1.out) HS.out (HF.out k hlt)) HM.out).mono ?_; rintro e w2 ⟨rfl, hb2⟩; have HW2 := hid (Below.then_ HW1.out hb2); clear hb2)
              | (go_at_call 19; refine (PitWorth_spec A D c k _ (hx.below HW2.out) HS.out (HF.out k hlt)).mono ?_; rintro e w3 ⟨rfl, hb3⟩; have HW3 := hid (Below.then_ HW2.out hb3); clear hb3 HW2)
              | (go_at_call 19; refine (PitWorth_spec A D c S _ (hx.below HW3.out) HS.out (HF.out S (by omega))).mono ?_; rintro e w4 ⟨rfl, hb4⟩; have HW4 := hid (Below.then_ HW3.out hb4); clear hb4))
            go_roundw
            case rel => exact ⟨k + 1, S, by omega, by go_num, rfl, hid (HU.out.less (by have h := HL.out; omega)), HW4⟩
            case measure => simp [intOf]; omega
      · have HM := hid hm
        clear hm
        go_wp2_with (first
          | (go_at_call 15; refine (RetB.yes (PitValid_spec A D c _ (hx.below HW.out) HS.out) HO.out).mono ?_; rintro e w1 ⟨rfl, hb1⟩; have HW1 := hid (Below.then_ HW.out hb1); clear hb1)
          | (go_at_call 23; refine (RetB.no (PitMay_spec A D c k _ (hx.below HW1.out) HS.out (HF.out k hlt)) HM.out).mono ?_; rintro e w2 ⟨rfl, hb2⟩; have HW2 := hid (Below.then_ HW1.out hb2); clear hb2))
        go_roundw
        case rel => exact ⟨k + 1, r, by omega, by go_num, rfl, hid (HU.out.no HM.out), HW2⟩
        case measure => simp [intOf]; omega
    · have hkP : k = P := by omega
      have HE : Hid (r = (B : Int)) := by
        have h := HU.out
        rw [hkP, HP.out] at h
        obtain ⟨S, h1, h2⟩ := h.done
        rw [h1, h2.uniq HB.out]
        exact rfl
      subst hkP
      go_wp2
      go_ret
      exact ⟨by first | rfl | (rw [HE.out]; rfl), HW.out⟩

theorem PitBest_spec0 (A : Option Addr) (D : PitD) (c : Nat) (w : World) (hx : PitAt w A D) (hs : PitSmall D) (hok : ¬ PitOk D) :
    Calls Try.prog 40 #[.slice A D.n c] w (RetV (.int .i64 (-1)) w) := by
  have hn := hs.1
  go_enter Try.func40, Try.ntmps40
  go_wp2
  refine wp_loop_rounds 1 ?_
  rw [rounds_succ]
  by_cases h0 : 0 < wrap64 (2 ^ min D.n 64)
  · go_wp2_with (go_at_call 15; refine (RetB.no (PitValid_spec A D c w hx hs) hok).mono ?_; rintro e w1 ⟨rfl, hb⟩)
    go_ret
    exact ⟨rfl, hb⟩
  · go_wp2
    go_ret
    exact ⟨rfl, Below.refl _ _⟩
end Go.Proofs.Ytekngpinldiodaa
