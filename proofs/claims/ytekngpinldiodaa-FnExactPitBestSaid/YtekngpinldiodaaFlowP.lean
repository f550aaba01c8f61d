/- The network of a pit, laid block by block; the least that is free along a way; the best set found by trying all. Plain words, no program in sight. -/
import Derived.Test.YtekngpinldiodaaReachP
namespace Go.Proofs.Ytekngpinldiodaa
open Go.RowKit

def needB (D : PitD) (x u y : Nat) : Bool := (List.range u).any fun t => D.x x t == (y : Int)
theorem needB_iff {D : PitD} {x u y : Nat} : needB D x u y = true ↔ ∃ t, t < u ∧ D.x x t = (y : Int) := by
  unfold needB
  rw [List.any_eq_true]
  exact ⟨fun ⟨t, ht, e⟩ => ⟨t, List.mem_range.1 ht, by simpa using e⟩, fun ⟨t, ht, e⟩ => ⟨t, List.mem_range.2 ht, by simpa using e⟩⟩
theorem needB_succ (D : PitD) (x u y : Nat) : needB D x (u + 1) y = (needB D x u y || (D.x x u == (y : Int))) := by
  unfold needB
  rw [List.range_succ, List.any_append]
  simp
/-- k blocks are laid. -/
def capO (D : PitD) (k x y : Nat) : Int := if x = D.n then (if y < k then max (D.p y) 0 else 0) else if x < k then (if y = D.n + 1 then max (-D.p x) 0 else if needB D x (D.l x) y = true then 161 else 0) else 0
/-- k blocks are laid, and of block k its worth and u needs. -/
def capI (D : PitD) (k u x y : Nat) : Int := if x = D.n then (if y ≤ k then max (D.p y) 0 else 0) else if x < k then (if y = D.n + 1 then max (-D.p x) 0 else if needB D x (D.l x) y = true then 161 else 0) else if x = k then (if y = D.n + 1 then max (-D.p x) 0 else if needB D x u y = true then 161 else 0) else 0
theorem capO_zero (D : PitD) (x y : Nat) : capO D 0 x y = 0 := by
  unfold capO
  rw [if_neg (show ¬ y < 0 by omega), if_neg (show ¬ x < 0 by omega)]
  split <;> rfl
theorem capI_start {D : PitD} {k : Nat} (hk : k < D.n) (x y : Nat) : (if x = k ∧ y = D.n + 1 then max (-D.p k) 0 else if x = D.n ∧ y = k then max (D.p k) 0 else capO D k x y) = capI D k 0 x y := by
  unfold capO capI
  by_cases e1 : x = D.n
  · subst e1
    rw [if_neg (show ¬ (D.n = k ∧ y = D.n + 1) by omega), if_pos rfl, if_pos rfl]
    by_cases e2 : y = k
    · subst e2; rw [if_pos ⟨rfl, rfl⟩, if_pos (Nat.le_refl _)]
    · rw [if_neg (fun h => e2 h.2)]
      by_cases e3 : y < k
      · rw [if_pos e3, if_pos (by omega)]
      · rw [if_neg e3, if_neg (by omega)]
  · rw [if_neg e1, if_neg e1, if_neg (show ¬ (x = D.n ∧ y = k) from fun h => e1 h.1)]
    by_cases e2 : x = k
    · subst e2
      rw [if_neg (show ¬ x < x by omega), if_neg (show ¬ x < x by omega), if_pos rfl]
      by_cases e3 : y = D.n + 1
      · subst e3; rw [if_pos ⟨rfl, rfl⟩, if_pos rfl]
      · rw [if_neg (fun h => e3 h.2), if_neg e3]
        rfl
    · rw [if_neg (fun h => e2 h.1), if_neg e2]
theorem capI_set {D : PitD} {k u m : Nat} (hk : k < D.n) (hm : m < k) (he : D.x k u = (m : Int)) (x y : Nat) : (if x = k ∧ y = m then 161 else capI D k u x y) = capI D k (u + 1) x y := by
  unfold capI
  by_cases e1 : x = k
  · subst e1
    rw [if_neg (show ¬ x = D.n by omega), if_neg (show ¬ x = D.n by omega), if_neg (show ¬ x < x by omega), if_neg (show ¬ x < x by omega), if_pos rfl, if_pos rfl, needB_succ, he]
    by_cases e2 : y = m
    · subst e2
      rw [if_pos ⟨rfl, rfl⟩, if_neg (show ¬ y = D.n + 1 by omega)]
      simp
    · rw [if_neg (fun h => e2 h.2)]
      have : ((m : Int) == (y : Int)) = false := by simp; omega
      rw [this, Bool.or_false]
  · rw [if_neg (fun h => e1 h.1)]
    simp only [if_neg e1]
theorem capI_done {D : PitD} {k : Nat} (x y : Nat) : capI D k (D.l k) x y = capO D (k + 1) x y := by
  unfold capO capI
  by_cases e1 : x = D.n
  · rw [if_pos e1, if_pos e1]
    by_cases e2 : y ≤ k
    · rw [if_pos e2, if_pos (by omega)]
    · rw [if_neg e2, if_neg (by omega)]
  · rw [if_neg e1, if_neg e1]
    by_cases e2 : x < k
    · rw [if_pos e2, if_pos (show x < k + 1 by omega)]
    · rw [if_neg e2]
      by_cases e3 : x = k
      · subst e3; rw [if_pos rfl, if_pos (show x < x + 1 by omega)]
      · rw [if_neg e3, if_neg (show ¬ x < k + 1 by omega)]
theorem capO_cap {D : PitD} (hok : PitOk D) : Cap D (capO D D.n) := by
  have hnd : ∀ i j, needB D i (D.l i) j = true ↔ NeedP D i j := fun i j => needB_iff
  refine ⟨fun i hi => ?_, fun i hi => ?_, fun i j hi hj hn => ?_, fun i j hi hj hn => ?_, fun i hi => ⟨?_, ?_⟩, ?_, ?_, ?_, ?_⟩ <;> unfold capO
  · rw [if_pos rfl, if_pos hi]
  · rw [if_neg (by omega), if_pos hi, if_pos rfl]
  · rw [if_neg (by omega), if_pos hi, if_neg (by omega), if_pos ((hnd i j).2 hn)]
  · rw [if_neg (by omega), if_pos hi, if_neg (by omega), if_neg (fun h => hn ((hnd i j).1 h))]
  · rw [if_neg (by omega), if_pos hi, if_neg (by omega), if_neg (fun h => ?_)]
    obtain ⟨t, ht, e⟩ := needB_iff.1 h
    have := ((hok.2 i hi).2.1 t ht).2
    omega
  · rw [if_neg (by omega), if_neg (by omega)]
  · rw [if_pos rfl, if_neg (by omega)]
  · rw [if_pos rfl, if_neg (by omega)]
  · rw [if_neg (by omega), if_neg (by omega)]
  · rw [if_neg (by omega), if_neg (by omega)]

/-- F is free on the way from t back to a. -/
def FrP (N s : Nat) (r : Nat → Nat → Int) (cf : Nat → Int) (t a : Nat) (F : Int) : Prop :=
  0 < F ∧ F ≤ 160 ∧ a < N ∧ 0 ≤ cf a ∧ Anc s cf t a ∧ ∀ v, Anc s cf t v → v ≠ s → F ≤ r (cf v).toNat v ∨ Anc s cf a v
section
variable {N s t : Nat} {C r : Nat → Nat → Int} {cf : Nat → Int} {rk : Nat → Nat} {fl F : Int}
theorem FrP.start (ht : t < N) (h0 : 0 ≤ cf t) : FrP N s r cf t t 160 := ⟨by omega, by omega, ht, h0, .refl _, fun v hv _ => .inr hv⟩
theorem FrP.step (htr : Tree N s r cf rk) {a : Nat} (h : FrP N s r cf t a F) (hne : a ≠ s) : FrP N s r cf t (cf a).toNat (min F (r (cf a).toNat a)) := by
  obtain ⟨h1, h2, h3, h4, h5, h6⟩ := h
  obtain ⟨q1, q2, q3, q4⟩ := htr.up a h3 h4 hne
  refine ⟨by omega, by omega, q1, q2, h5.snoc hne, fun v hv hvs => ?_⟩
  rcases h6 v hv hvs with h | h
  · exact .inl (by omega)
  · cases h with
    | refl => exact .inl (by omega)
    | up _ h => exact .inr h
theorem FrP.done (h : FrP N s r cf t s F) : ∀ v, Anc s cf t v → v ≠ s → F ≤ r (cf v).toNat v := fun v hv hvs => by
  rcases h.2.2.2.2.2 v hv hvs with h | h
  · exact h
  · exact absurd (h.s_only rfl) hvs
/-- What has flowed is at most what the source gives. -/
theorem flow_le {D : PitD} (hok : PitOk D) (hC : Cap D C) (h : FL (D.n + 2) D.n (D.n + 1) C r fl) : fl ≤ 160 := by
  have hb := h.bal D.n (by omega) (by omega)
  rw [if_pos rfl] at hb
  have h0 : 0 ≤ sumN (D.n + 2) (r D.n) := sumN_nonneg _ fun y hy => h.pos D.n y (by omega) hy
  have h1 : sumN (D.n + 2) (C D.n) ≤ 160 := by
    show sumN D.n (C D.n) + C D.n D.n + C D.n (D.n + 1) ≤ 160
    rw [hC.zz.1, hC.zz.2.1]
    have h2 : ∀ k, k ≤ D.n → sumN k (C D.n) ≤ 20 * (k : Int) := fun k => by
      induction k with
      | zero => intro _; simp [sumN]
      | succ k ih =>
        intro hk
        have := ih (by omega)
        have hp := (hok.2 k (by omega)).1
        simp only [sumN]
        rw [hC.src k (by omega)]
        omega
    have := h2 D.n (Nat.le_refl _)
    have := hok.1
    omega
  omega
/-- What is free at most. -/
theorem cap_hi {D : PitD} (hok : PitOk D) (hC : Cap D C) : ∀ x y, x < D.n + 2 → y < D.n + 2 → C x y ≤ 161 := fun x y hx hy => by
  by_cases hx1 : x < D.n
  · by_cases hy1 : y < D.n
    · by_cases hn : NeedP D x y
      · rw [hC.nd x y hx1 hy1 hn]; omega
      · rw [hC.non x y hx1 hy1 hn]; omega
    · by_cases e : y = D.n
      · subst e; rw [(hC.zer x hx1).1]; omega
      · obtain rfl : y = D.n + 1 := by omega
        have := (hok.2 x hx1).1
        rw [hC.snk x hx1]; omega
  · by_cases e : x = D.n
    · subst e
      by_cases hy1 : y < D.n
      · have := (hok.2 y hy1).1
        rw [hC.src y hy1]; omega
      · by_cases e : y = D.n
        · subst e; rw [hC.zz.1]; omega
        · obtain rfl : y = D.n + 1 := by omega
          rw [hC.zz.2.1]; omega
    · obtain rfl : x = D.n + 1 := by omega
      by_cases hy1 : y < D.n
      · rw [(hC.zer y hy1).2]; omega
      · by_cases e : y = D.n
        · subst e; rw [hC.zz.2.2.1]; omega
        · obtain rfl : y = D.n + 1 := by omega
          rw [hC.zz.2.2.2]; omega
theorem fl_hi {D : PitD} (hok : PitOk D) (hC : Cap D C) (hpos : ∀ x y, x < D.n + 2 → y < D.n + 2 → 0 ≤ r x y) (hpar : ∀ x y, x < D.n + 2 → y < D.n + 2 → r x y + r y x = C x y + C y x) : ∀ x y, x < D.n + 2 → y < D.n + 2 → 0 ≤ r x y ∧ r x y ≤ 322 := fun x y hx hy => by
  have h1 := hpos x y hx hy
  have h2 := hpos y x hy hx
  have h3 := hpar x y hx hy
  have h4 := cap_hi hok hC x y hx hy
  have h5 := cap_hi hok hC y x hy hx
  omega
end

/-- The best of the sets below k; -1: none of them has what it needs. -/
def BestU (D : PitD) (k : Nat) (b : Int) : Prop := (b = -1 ∧ ∀ T, T < k → ¬ MayP D T) ∨ ∃ S : Nat, b = S ∧ S < k ∧ MayP D S ∧ ∀ T, T < k → MayP D T → worthF D T D.n < worthF D S D.n ∨ (worthF D T D.n = worthF D S D.n ∧ S ≤ T)
theorem BestU.start (D : PitD) : BestU D 0 (-1) := .inl ⟨rfl, fun T h => absurd h (by omega)⟩
theorem BestU.no {D : PitD} {k : Nat} {b : Int} (h : BestU D k b) (hn : ¬ MayP D k) : BestU D (k + 1) b := by
  rcases h with ⟨h1, h2⟩ | ⟨S, h1, h2, h3, h4⟩
  · exact .inl ⟨h1, fun T hT => by
      by_cases e : T = k
      · subst e; exact hn
      · exact h2 T (by omega)⟩
  · exact .inr ⟨S, h1, by omega, h3, fun T hT hm => by
      by_cases e : T = k
      · subst e; exact absurd hm hn
      · exact h4 T (by omega) hm⟩
theorem BestU.first {D : PitD} {k : Nat} (h : BestU D k (-1)) (hm : MayP D k) : BestU D (k + 1) k := by
  rcases h with ⟨_, h2⟩ | ⟨S, h1, _⟩
  · exact .inr ⟨k, rfl, by omega, hm, fun T hT hmT => by
      by_cases e : T = k
      · subst e; exact .inr ⟨rfl, Nat.le_refl _⟩
      · exact absurd hmT (h2 T (by omega))⟩
  · omega
theorem BestU.more {D : PitD} {k S : Nat} (h : BestU D k S) (hm : MayP D k) (hw : worthF D S D.n < worthF D k D.n) : BestU D (k + 1) k := by
  rcases h with ⟨h1, _⟩ | ⟨S', h1, h2, h3, h4⟩
  · omega
  · obtain rfl : S = S' := by omega
    exact .inr ⟨k, rfl, by omega, hm, fun T hT hmT => by
      by_cases e : T = k
      · subst e; exact .inr ⟨rfl, Nat.le_refl _⟩
      · have := h4 T (by omega) hmT; omega⟩
theorem BestU.less {D : PitD} {k S : Nat} (h : BestU D k S) (hw : ¬ worthF D S D.n < worthF D k D.n) : BestU D (k + 1) S := by
  rcases h with ⟨h1, _⟩ | ⟨S', h1, h2, h3, h4⟩
  · omega
  · obtain rfl : S = S' := by omega
    exact .inr ⟨S, rfl, by omega, h3, fun T hT hmT => by
      by_cases e : T = k
      · subst e; omega
      · exact h4 T (by omega) hmT⟩
theorem BestU.done {D : PitD} {b : Int} (h : BestU D (2 ^ D.n) b) : ∃ S : Nat, b = S ∧ BestP D S := by
  rcases h with ⟨_, h2⟩ | ⟨S, h1, h2, h3, h4⟩
  · exact absurd (fun i _ h => by simp at h) (h2 0 (Nat.two_pow_pos _))
  · exact ⟨S, h1, h2, h3, h4⟩
/-- A set told bit by bit. -/
def setB (x : Nat → Bool) : Nat → Nat
  | 0 => 0
  | k + 1 => if x k then setB x k ||| 2 ^ k else setB x k
theorem setB_lt (x : Nat → Bool) : ∀ k, setB x k < 2 ^ k
  | 0 => by simp [setB]
  | k + 1 => by
    have ih := setB_lt x k
    have h1 : 2 ^ k < 2 ^ (k + 1) := Nat.pow_lt_pow_right (by decide) (by omega)
    unfold setB
    split
    · exact Nat.or_lt_two_pow (by omega) h1
    · omega
theorem setB_bit (x : Nat → Bool) (i : Nat) : ∀ k, i < k → (setB x k).testBit i = x i
  | 0, h => absurd h (by omega)
  | k + 1, h => by
    unfold setB
    by_cases e : i = k
    · subst e
      cases hx : x i with
      | true => rw [if_pos rfl, Nat.testBit_or, Nat.testBit_two_pow]; simp
      | false => rw [if_neg (by simp), Nat.testBit_lt_two_pow (setB_lt x i)]
    · have ih := setB_bit x i k (by omega)
      split
      · rw [Nat.testBit_or, Nat.testBit_two_pow, ih]
        simp; intro h; omega
      · exact ih
end Go.Proofs.Ytekngpinldiodaa
