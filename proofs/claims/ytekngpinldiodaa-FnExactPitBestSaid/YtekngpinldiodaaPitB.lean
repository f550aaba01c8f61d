/- PitBest of the program: the blocks that are reached over what the greatest flow leaves free. Lists are at most 2^20 long. -/
import Derived.Test.YtekngpinldiodaaPitF
namespace Go.Proofs.Ytekngpinldiodaa
open Go.RowKit

theorem Reached.sub {N s : Nat} {T : Nat → Nat → Int} {cf cg : Nat → Int} (h : Reached N s T cf) (k : Reached N s T cg) : ∀ v, v < N → 0 ≤ cg v → 0 ≤ cf v := by
  obtain ⟨-, ⟨rf, hf⟩, hc⟩ := h
  obtain ⟨-, ⟨rk, ht⟩, -⟩ := k
  have main : ∀ n v, rk v ≤ n → v < N → 0 ≤ cg v → 0 ≤ cf v := fun n => by
    induction n with
    | zero =>
      intro v hv hvN h0
      by_cases e : v = s
      · subst e; rw [hf.src]; omega
      · have := (ht.up v hvN h0 e).2.2.1; omega
    | succ n ih =>
      intro v hv hvN h0
      by_cases e : v = s
      · subst e; rw [hf.src]; omega
      · obtain ⟨q1, q2, q3, q4⟩ := ht.up v hvN h0 e
        have hu := ih _ (by omega) q1 q2
        by_cases e2 : 0 ≤ cf v
        · exact e2
        · have := hc _ v q1 hvN hu (by omega); omega
  exact fun v => main _ v (Nat.le_refl _)

set_option maxRecDepth 20000 in
set_option maxHeartbeats 1600000 in
theorem PitBest_impl (A : Option Addr) (D : PitD) (c B : Nat) (w : World) (hx : PitAt w A D) (hs : PitSmall D) (hok : PitOk D) (hB : BestP D B) :
    Calls Try.prog 41 #[.slice A D.n c] w (RetV (.int .i64 B) w) := by
  have hn := hs.1
  have h8 := hok.1
  obtain ⟨N, hN⟩ : ∃ N, N = D.n + 2 := ⟨_, rfl⟩
  have HN := hid hN
  have HO := hid hok
  have HX := hid hx
  have HS := hid hs
  have HB := hid hB
  have hsN : D.n < N := by omega
  have hN8 : N ≤ 10 := by omega
  clear hok hx hs hB hN
  go_enter Try.func41, Try.ntmps41
  go_wp2_with fail
  refine (RetB.yes (PitValid_impl A D c w HX.out HS.out) HO.out).mono ?_
  rintro e w1 ⟨rfl, hb1⟩
  have HW1 := hid hb1
  clear hb1
  go_wp2_with fail
  refine (pitFlow_any A D c w1 (HX.out.below HW1.out) HS.out HO.out).mono ?_
  rintro e w2 ⟨g, r, T, fl, cf, rfl, hT, hF, hR, hsnk, hb2⟩
  have HW2 := hid (Below.then_ HW1.out hb2)
  have HF := hid hF
  have HR := hid hR
  have HSN := hid hsnk
  rw [← HN.out] at hT ⊢
  have HTB := hid hT
  clear hT hF hR hsnk hb2 HW1
  go_wp2_with fail
  refine (reachedFrom_any g N N D.n r T w2 HTB.out (by omega) hsN).mono ?_
  rintro e w3 ⟨cg, rfl, hcf, hR, hb3⟩
  have HW3 := hid (Below.then_ HW2.out hb3)
  have HR2 := hid hR
  have HCF := hid hcf
  clear hb3 HW2 hR hcf HTB
  generalize w2.heap.size = cb at *
  go_wp2
  go_loop [6, 23] (fun s i => ∃ k : Nat, k ≤ N ∧ i = .int .i64 k ∧ s = .int .i64 (setB (fun v => decide (0 ≤ cg v)) (min k D.n))) (fun _ i => N - (intOf i).toNat)
  case atStart => exact ⟨0, by omega, rfl, by rw [Nat.zero_min]; rfl⟩
  case round =>
    obtain ⟨k, hk, rfl, rfl⟩ := hrel
    by_cases hlt : k < N
    · have hltz : (k : Int) < (N : Int) := by omega
      have c1 := HCF.out.cell hlt
      by_cases hkn : k < D.n
      · have hknz : (k : Int) < (D.n : Int) := by omega
        have hSl := setB_lt (fun v => decide (0 ≤ cg v)) k
        have hp8 := pow_lt (show k ≤ 8 by omega)
        have HE1 : Hid (min k D.n = k) := hid (by omega)
        have HE2 : Hid (min (k + 1) D.n = k + 1) := hid (by omega)
        rw [HE1.out]
        obtain ⟨S, hS⟩ : ∃ S, S = setB (fun v => decide (0 ≤ cg v)) k := ⟨_, rfl⟩
        rw [← hS] at hSl ⊢
        have HS3 := hid hS
        clear hS
        by_cases h0 : 0 ≤ cg k
        · have e1 : wrap64 (2 ^ k) = 2 ^ k := wrap_pow (by omega)
          have e2 := or_pow_i64 (S := S) (k := k) (by omega) (by omega)
          have HW : Hid (setB (fun v => decide (0 ≤ cg v)) (k + 1) = S ||| 2 ^ k) := hid (by rw [HS3.out, setB, if_pos (decide_eq_true h0)])
          go_wp2
          go_round
          case rel => exact ⟨k + 1, by omega, by go_num, by rw [HE2.out, HW.out]⟩
          case measure => simp [intOf] <;> omega
        · have HW : Hid (setB (fun v => decide (0 ≤ cg v)) (k + 1) = S) := hid (by rw [HS3.out, setB, if_neg (by simpa using h0)])
          go_wp2
          go_round
          case rel => exact ⟨k + 1, by omega, by go_num, by rw [HE2.out, HW.out]⟩
          case measure => simp [intOf] <;> omega
      · have HE1 : Hid (min k D.n = min (k + 1) D.n) := hid (by omega)
        rw [HE1.out]
        have hknz : ¬ (k : Int) < (D.n : Int) := by omega
        go_wp2
        go_round
        case rel => exact ⟨k + 1, by omega, by go_num, rfl⟩
        case measure => simp [intOf] <;> omega
    · have HE1 : Hid (min k D.n = D.n) := hid (by omega)
      have hkN : k = N := by omega
      rw [HE1.out]
      subst hkN
      have HBE : Hid (setB (fun v => decide (0 ≤ cg v)) D.n = B) := hid (by
        have hR := HR.out
        have hR2 := HR2.out
        rw [HN.out] at hR2
        obtain ⟨hlo, ⟨rk, ht⟩, hno⟩ := hR2
        refine BestP.uniq (D := D) (best_of_flow HO.out (capO_cap HO.out) HF.out ht hno ?_ (setB_lt _ _) fun i hi => ?_) HB.out
        · have h1 := HSN.out
          have h2 := hR.sub ⟨hlo, ⟨rk, ht⟩, hno⟩ (D.n + 1) (by omega)
          omega
        · rw [setB_bit _ i D.n hi]; simp)
      go_wp2
      go_ret
      exact ⟨by first | rfl | (rw [HBE.out]; rfl), HW3.out⟩

theorem PitBest_impl0 (A : Option Addr) (D : PitD) (c : Nat) (w : World) (hx : PitAt w A D) (hs : PitSmall D) (hok : ¬ PitOk D) :
    Calls Try.prog 41 #[.slice A D.n c] w (RetV (.int .i64 (-1)) w) := by
  go_enter Try.func41, Try.ntmps41
  go_wp2_with (go_at_call 17; refine (RetB.no (PitValid_impl A D c w hx hs) hok).mono ?_; rintro e w1 ⟨rfl, hb⟩)
  go_ret
  exact ⟨rfl, hb⟩
end Go.Proofs.Ytekngpinldiodaa
