/- The best set of blocks of a pit, in plain words: it is the set of the blocks that are reached over what the greatest flow leaves free. -/
import Derived.Test.YtekngpinldiodaaFlow
import Derived.Test.YtekngpinldiodaaPit6
namespace Go.Proofs.Ytekngpinldiodaa
open Go.RowKit

/-- Block i needs block j. -/
def NeedP (D : PitD) (i j : Nat) : Prop := ∃ k, k < D.l i ∧ D.x i k = (j : Int)
/-- Of the sets that have what they need, this is worth the most, and of several it is the least number. -/
def BestP (D : PitD) (S : Nat) : Prop := S < 2 ^ D.n ∧ MayP D S ∧ ∀ T, T < 2 ^ D.n → MayP D T → worthF D T D.n < worthF D S D.n ∨ (worthF D T D.n = worthF D S D.n ∧ S ≤ T)
theorem BestP.uniq {D : PitD} {S T : Nat} (h : BestP D S) (k : BestP D T) : S = T := by
  have h1 := h.2.2 T k.1 k.2.1
  have h2 := k.2.2 S h.1 h.2.1
  omega

/-- The network: blocks, behind them the source, behind that the sink. -/
structure Cap (D : PitD) (C : Nat → Nat → Int) : Prop where
  src : ∀ i, i < D.n → C D.n i = max (D.p i) 0
  snk : ∀ i, i < D.n → C i (D.n + 1) = max (-D.p i) 0
  nd : ∀ i j, i < D.n → j < D.n → NeedP D i j → C i j = 161
  non : ∀ i j, i < D.n → j < D.n → ¬ NeedP D i j → C i j = 0
  zer : ∀ i, i < D.n → C i D.n = 0 ∧ C (D.n + 1) i = 0
  zz : C D.n D.n = 0 ∧ C D.n (D.n + 1) = 0 ∧ C (D.n + 1) D.n = 0 ∧ C (D.n + 1) (D.n + 1) = 0

section
variable {D : PitD} {C : Nat → Nat → Int}
theorem Cap.pos (h : Cap D C) : ∀ x y, x < D.n + 2 → y < D.n + 2 → 0 ≤ C x y := fun x y hx hy => by
  by_cases hx1 : x < D.n
  · by_cases hy1 : y < D.n
    · by_cases hn : NeedP D x y
      · rw [h.nd x y hx1 hy1 hn]; omega
      · rw [h.non x y hx1 hy1 hn]; omega
    · by_cases e : y = D.n
      · subst e; rw [(h.zer x hx1).1]; omega
      · obtain rfl : y = D.n + 1 := by omega
        rw [h.snk x hx1]; omega
  · by_cases e : x = D.n
    · subst e
      by_cases hy1 : y < D.n
      · rw [h.src y hy1]; omega
      · by_cases e : y = D.n
        · subst e; rw [h.zz.1]; omega
        · obtain rfl : y = D.n + 1 := by omega
          rw [h.zz.2.1]; omega
    · obtain rfl : x = D.n + 1 := by omega
      by_cases hy1 : y < D.n
      · rw [(h.zer y hy1).2]; omega
      · by_cases e : y = D.n
        · subst e; rw [h.zz.2.2.1]; omega
        · obtain rfl : y = D.n + 1 := by omega
          rw [h.zz.2.2.2]; omega

/-- The points of a set of blocks, with the source. -/
def ptsR (D : PitD) (S : Nat) (v : Nat) : Bool := if v < D.n then S.testBit v else v == D.n
theorem ptsR_s (D : PitD) (S : Nat) : ptsR D S D.n = true := by unfold ptsR; rw [if_neg (by omega)]; simp
theorem ptsR_t (D : PitD) (S : Nat) : ptsR D S (D.n + 1) = false := by unfold ptsR; rw [if_neg (by omega)]; simp
theorem ptsR_b {D : PitD} {S v : Nat} (h : v < D.n) : ptsR D S v = S.testBit v := by unfold ptsR; rw [if_pos h]

theorem cutF_sum (D : PitD) (S : Nat) : ∀ k, cutF D S k = sumN k (fun i => if S.testBit i = true then max (-D.p i) 0 else max (D.p i) 0)
  | 0 => rfl
  | k + 1 => by
    rw [cutF, sumN, cutF_sum D S k]
theorem worth_cut (D : PitD) (S : Nat) : ∀ k, worthF D S k + cutF D S k = sumN k (fun i => max (D.p i) 0)
  | 0 => rfl
  | k + 1 => by
    have := worth_cut D S k
    rw [worthF, cutF, sumN]
    cases e : S.testBit k <;> simp only [if_true, Bool.false_eq_true, if_false] <;> (repeat' split) <;> omega

/-- The cut at a set that has what it needs costs what PitCut says. -/
theorem Cap.cut (h : Cap D C) {S : Nat} (hm : ∀ i j, i < D.n → j < D.n → NeedP D i j → S.testBit i = true → S.testBit j = true) :
    sumN (D.n + 2) (fun x => if ptsR D S x = true then sumN (D.n + 2) (fun y => if ptsR D S y = true then 0 else C x y) else 0) = cutF D S D.n := by
  have e0 : ∀ f : Nat → Int, sumN (D.n + 2) f = sumN D.n f + f D.n + f (D.n + 1) := fun f => rfl
  rw [e0, ptsR_t, ptsR_s]
  simp only [if_true, Bool.false_eq_true, if_false, e0, ptsR_t, ptsR_s, h.zz.2.1]
  have h1 : sumN D.n (fun x => if ptsR D S x = true then sumN D.n (fun y => if ptsR D S y = true then 0 else C x y) + C x (D.n + 1) else 0) = sumN D.n (fun i => if S.testBit i = true then max (-D.p i) 0 else 0) := sumN_congr D.n fun x hx => by
    rw [ptsR_b hx]
    cases e : S.testBit x with
    | false => rfl
    | true =>
      simp only [if_true]
      rw [h.snk x hx, sumN_all0 D.n fun y hy => ?_]
      · omega
      · rw [ptsR_b hy]
        cases e2 : S.testBit y with
        | true => rfl
        | false =>
          simp only [Bool.false_eq_true, if_false]
          refine h.non x y hx hy fun hn => ?_
          rw [hm x y hx hy hn e] at e2; cases e2
  have h2 : sumN D.n (fun y => if ptsR D S y = true then 0 else C D.n y) = sumN D.n (fun i => if S.testBit i = true then 0 else max (D.p i) 0) := sumN_congr D.n fun y hy => by
    rw [ptsR_b hy, h.src y hy]
  simp only [Int.add_zero]
  rw [h1, h2, cutF_sum, ← sumN_add]
  refine sumN_congr D.n fun i _ => ?_
  split <;> omega
theorem may_need {S : Nat} (_ : PitOk D) (hm : MayP D S) : ∀ i j, i < D.n → j < D.n → NeedP D i j → S.testBit i = true → S.testBit j = true := fun i j hi _ ⟨k, hk, e⟩ hS => by
  have := hm i hi hS k hk
  rwa [e, Int.toNat_natCast] at this
theorem need_may {S : Nat} (hok : PitOk D) (h : ∀ i j, i < D.n → j < D.n → NeedP D i j → S.testBit i = true → S.testBit j = true) : MayP D S := fun i hi hS k hk => by
  have hx := (hok.2 i hi).2.1 k hk
  exact h i (D.x i k).toNat hi (by omega) ⟨k, hk, by omega⟩ hS

/-- What is reached is the best set. -/
theorem best_of_flow (hok : PitOk D) (hC : Cap D C) {r : Nat → Nat → Int} {fl : Int} (h : FL (D.n + 2) D.n (D.n + 1) C r fl) {cf : Nat → Int} {rk : Nat → Nat} (ht : Tree (D.n + 2) D.n r cf rk)
    (hno : ∀ x y, x < D.n + 2 → y < D.n + 2 → 0 ≤ cf x → cf y < 0 → r x y ≤ 0) (hsnk : cf (D.n + 1) < 0) {S : Nat} (hlt : S < 2 ^ D.n) (hS : ∀ i, i < D.n → (S.testBit i = true ↔ 0 ≤ cf i)) : BestP D S := by
  have hsrc : 0 ≤ cf D.n := by rw [ht.src]; omega
  have hR : ∀ v, v < D.n + 2 → (ptsR D S v = true ↔ 0 ≤ cf v) := fun v hv => by
    by_cases e : v < D.n
    · rw [ptsR_b e]; exact hS v e
    · by_cases e2 : v = D.n
      · subst e2; simp [ptsR_s, hsrc]
      · obtain rfl : v = D.n + 1 := by omega
        simp [ptsR_t]; omega
  have hout : ∀ x y, x < D.n + 2 → y < D.n + 2 → ptsR D S x = true → ptsR D S y = false → r x y ≤ 0 := fun x y hx hy h1 h2 => hno x y hx hy ((hR x hx).1 h1) (by
    by_cases e : 0 ≤ cf y
    · rw [(hR y hy).2 e] at h2; cases h2
    · omega)
  have hcut := h.eq_cut (ptsR_s D S) (ptsR_t D S) (by omega) hout
  have hfl : fl ≤ 160 := by
    have hb := h.bal D.n (by omega) (by omega)
    rw [if_pos rfl] at hb
    have h0 : 0 ≤ sumN (D.n + 2) (r D.n) := sumN_nonneg _ fun y hy => h.pos D.n y (by omega) hy
    have h1 : sumN (D.n + 2) (C D.n) ≤ 160 := by
      show sumN D.n (C D.n) + C D.n D.n + C D.n (D.n + 1) ≤ 160
      rw [hC.zz.1, hC.zz.2.1]
      have h2 : ∀ k, k ≤ D.n → sumN k (C D.n) ≤ 20 * (k : Int) := fun k => by
        induction k with
        | zero => intro _; simp [sumN]
        | succ k ih =>
          intro hk
          have := ih (by omega)
          have hp := (hok.2 k (by omega)).1
          simp only [sumN]
          rw [hC.src k (by omega)]
          omega
      have := h2 D.n (Nat.le_refl _)
      have := hok.1
      omega
    omega
  have hmS : MayP D S := need_may hok fun i j hi hj hn hSi => by
    cases e : S.testBit j with
    | true => rfl
    | false =>
      exfalso
      have hpos := hC.pos
      have h3 := sumN_ge1 (f := fun x => if ptsR D S x = true then sumN (D.n + 2) (fun y => if ptsR D S y = true then 0 else C x y) else 0) (i := i) (D.n + 2) (fun x hx => by
        show 0 ≤ if ptsR D S x = true then _ else _
        split
        · exact sumN_nonneg _ fun y hy => by have := hpos x y hx hy; split <;> omega
        · omega) (by omega)
      have h4 := sumN_ge1 (f := fun y => if ptsR D S y = true then 0 else C i y) (i := j) (D.n + 2) (fun y hy => by
        have := hpos i y (by omega) hy
        show 0 ≤ if ptsR D S y = true then _ else _
        split <;> omega) (by omega)
      simp only [ptsR_b hi, ptsR_b hj, hSi, e, if_true, Bool.false_eq_true, if_false] at h3 h4
      rw [hC.nd i j hi hj hn] at h4
      omega
  have hcS := hC.cut (may_need hok hmS)
  refine ⟨hlt, hmS, fun T hT hmT => ?_⟩
  have hcT := hC.cut (may_need hok hmT)
  have hle := h.le_cut (ptsR_s D T) (ptsR_t D T) (by omega)
  have w1 := worth_cut D S D.n
  have w2 := worth_cut D T D.n
  by_cases e : cutF D T D.n ≤ fl
  · right
    refine ⟨by omega, ?_⟩
    have htight : ∀ x y, x < D.n + 2 → y < D.n + 2 → ptsR D T x = true → ptsR D T y = false → r x y = 0 := fun x y hx hy h1 h2 => h.tight (ptsR_s D T) (ptsR_t D T) (by omega) (by rw [hcT]; exact e) hx hy h1 h2
    have hin : ∀ n v, rk v ≤ n → v < D.n + 2 → 0 ≤ cf v → ptsR D T v = true := fun n => by
      induction n with
      | zero =>
        intro v hv hv2 hc
        by_cases e2 : v = D.n
        · subst e2; exact ptsR_s D T
        · have := (ht.up v hv2 hc e2).2.2.1; omega
      | succ n ih =>
        intro v hv hv2 hc
        by_cases e2 : v = D.n
        · subst e2; exact ptsR_s D T
        · obtain ⟨q1, q2, q3, q4⟩ := ht.up v hv2 hc e2
          have hu := ih _ (by omega) q1 q2
          cases e3 : ptsR D T v with
          | true => rfl
          | false => have := htight _ v q1 hv2 hu e3; omega
    have hand : S &&& T = S := by
      apply Nat.eq_of_testBit_eq
      intro i
      rw [Nat.testBit_and]
      cases e3 : S.testBit i with
      | false => rfl
      | true =>
        by_cases hi : i < D.n
        · have := hin (rk i) i (Nat.le_refl _) (by omega) ((hS i hi).1 e3)
          rw [ptsR_b hi] at this
          rw [this]; rfl
        · have := Nat.testBit_lt_two_pow (Nat.lt_of_lt_of_le hlt (pow_lt (show D.n ≤ i by omega)))
          rw [this] at e3; cases e3
    rw [← hand]
    exact Nat.and_le_right
  · left; omega
end
end Go.Proofs.Ytekngpinldiodaa
