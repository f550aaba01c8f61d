/- The best two exits are best. Plain. -/
import Derived.Test.YtlhcjbgcgbeocaaDoorBest2
import Derived.Test.YtlhcjbgcgbeocaaDoorFnW
namespace Go.Proofs.YtlhcjbgcgbeocaaDoor

/-- What is kept after the pairs S: none, or the best of them. -/
structure Cov (D : SrchD) (p : Int × Int × Int) (S : Nat → Nat → Prop) : Prop where
  good : p = (-1, -1, -1) ∨ ∃ a b : Nat, a < b ∧ b < D.k ∧ p = ((a : Int), (b : Int), lo2 D a b) ∧ 0 ≤ lo2 D a b
  cov : ∀ a b : Nat, S a b → 0 ≤ lo2 D a b → 0 ≤ p.2.2 ∧ p.2.2 ≤ lo2 D a b
theorem Cov.step {D : SrchD} {p : Int × Int × Int} {S : Nat → Nat → Prop} (h : Cov D p S) {a b : Nat} (hab : a < b) (hb : b < D.k) :
    Cov D (if 0 ≤ lo2 D a b ∧ (p.2.2 < 0 ∨ lo2 D a b < p.2.2) then ((a : Int), (b : Int), lo2 D a b) else p) (fun x y => S x y ∨ (x = a ∧ y = b)) := by
  by_cases hc : 0 ≤ lo2 D a b ∧ (p.2.2 < 0 ∨ lo2 D a b < p.2.2)
  · rw [if_pos hc]
    refine ⟨.inr ⟨a, b, hab, hb, rfl, hc.1⟩, fun x y hs h0 => ?_⟩
    rcases hs with hs | ⟨rfl, rfl⟩
    · have := h.cov x y hs h0
      exact ⟨hc.1, by show lo2 D a b ≤ lo2 D x y; omega⟩
    · exact ⟨hc.1, Int.le_refl _⟩
  · rw [if_neg hc]
    refine ⟨h.good, fun x y hs h0 => ?_⟩
    rcases hs with hs | ⟨rfl, rfl⟩
    · exact h.cov x y hs h0
    · omega
theorem Cov.mono {D : SrchD} {p : Int × Int × Int} {S T : Nat → Nat → Prop} (h : Cov D p S) (hT : ∀ x y, T x y → S x y) : Cov D p T := ⟨h.good, fun a b hs => h.cov a b (hT a b hs)⟩
theorem inB_cov {D : SrchD} {a : Nat} : ∀ (m b : Nat) (p : Int × Int × Int) (S : Nat → Nat → Prop), Cov D p S → a < b → b + m ≤ D.k → Cov D (inB D a p m b) (fun x y => S x y ∨ (x = a ∧ b ≤ y ∧ y < b + m))
  | 0, b, p, S, h, _, _ => h.mono (fun x y hs => hs.elim id (fun hh => by omega))
  | m + 1, b, p, S, h, hab, hb => by
    unfold inB
    refine (inB_cov m (b + 1) _ _ (h.step hab (by omega)) (by omega) (by omega)).mono (fun x y hs => ?_)
    rcases hs with hs | ⟨h1, h2, h3⟩
    · exact .inl (.inl hs)
    · by_cases e : y = b
      · exact .inl (.inr ⟨h1, e⟩)
      · exact .inr ⟨h1, by omega, by omega⟩
theorem outB_cov {D : SrchD} : ∀ (m a : Nat) (p : Int × Int × Int) (S : Nat → Nat → Prop), Cov D p S → a + m ≤ D.k → Cov D (outB D p m a) (fun x y => S x y ∨ (a ≤ x ∧ x < a + m ∧ x < y ∧ y < D.k))
  | 0, a, p, S, h, _ => h.mono (fun x y hs => hs.elim id (fun hh => by omega))
  | m + 1, a, p, S, h, ha => by
    unfold outB
    refine (outB_cov m (a + 1) _ _ (inB_cov (D.k - (a + 1)) (a + 1) p S h (by omega) (by omega)) (by omega)).mono (fun x y hs => ?_)
    rcases hs with hs | ⟨h1, h2, h3, h4⟩
    · exact .inl (.inl hs)
    · by_cases e : x = a
      · exact .inl (.inr ⟨e, by omega, by omega⟩)
      · exact .inr ⟨by omega, by omega, h3, h4⟩
theorem two_sub {x : Nat → Int} {n : Nat} {a b : Int} (h : ∀ j, j < n → x j = a ∨ x j = b) : SubEx x n (two a b) 2 := fun j hj => by
  rcases h j hj with h | h
  · exact ⟨0, by omega, by rw [h]; rfl⟩
  · exact ⟨1, by omega, by rw [h]; rfl⟩
theorem two_in {s a b : Int} (ha : 0 ≤ a ∧ a < s) (hb : 0 ≤ b ∧ b < s) : ∀ j, j < 2 → 0 ≤ two a b j ∧ two a b j < s := fun j _ => by
  unfold two
  split
  · exact ha
  · exact hb
/-- A pair of two places that holds the exits. -/
theorem pair_ex {x : Nat → Int} {n k : Nat} (hk : 2 ≤ k) (hn : n ≤ 2) (hn0 : 0 < n) (hx : ∀ j, j < n → 0 ≤ x j ∧ x j < (k : Int)) : ∃ a b : Nat, a < b ∧ b < k ∧ ∀ j, j < n → x j = a ∨ x j = b := by
  have h0 := hx 0 hn0
  have hcase : ∀ u v : Nat, u ≠ v → u < k → v < k → (∀ j, j < n → x j = u ∨ x j = v) → ∃ a b : Nat, a < b ∧ b < k ∧ ∀ j, j < n → x j = a ∨ x j = b := fun u v hne hu hv hj => by
    by_cases h : u < v
    · exact ⟨u, v, h, hv, hj⟩
    · exact ⟨v, u, by omega, hu, fun j hj' => (hj j hj').symm⟩
  have hone : (∀ j, j < n → x j = x 0) → ∃ a b : Nat, a < b ∧ b < k ∧ ∀ j, j < n → x j = a ∨ x j = b := fun hj => by
    by_cases h : (x 0).toNat = 0
    · exact hcase 0 1 (by omega) (by omega) (by omega) (fun j hj' => .inl (by rw [hj j hj']; omega))
    · exact hcase (x 0).toNat 0 h (by omega) (by omega) (fun j hj' => .inl (by rw [hj j hj']; omega))
  by_cases h1 : n = 1
  · exact hone (fun j hj => by rw [show j = 0 by omega])
  · have h2 := hx 1 (by omega)
    by_cases he : x 1 = x 0
    · exact hone (fun j hj => by
        rcases (show j = 0 ∨ j = 1 by omega) with rfl | rfl
        · rfl
        · exact he)
    · exact hcase (x 0).toNat (x 1).toNat (by omega) (by omega) (by omega) (fun j hj => by
        rcases (show j = 0 ∨ j = 1 by omega) with rfl | rfl
        · exact .inl (by omega)
        · exact .inr (by omega))
/-- The best two. -/
theorem bestF_in (D : SrchD) : bestF D = (-1, -1) ∨ (0 ≤ (bestF D).1 ∧ 0 ≤ lo2 D (bestF D).1 (bestF D).2 ∧ ((bestF D).1 < (bestF D).2 ∨ D.s = 1)) := by
  by_cases hok : SrchOk D
  · have hsk := hok.2.2.1
    unfold bestF
    rw [if_pos hok]
    by_cases h1 : D.k = 1
    · rw [if_pos h1]
      have ha := lastF_all hok
      have := lastF_more (D := D) (x := fun j => (j : Int)) (n := D.k) (y := two 0 0) (m := 2) (two_sub (fun j hj => .inl (by show (j : Int) = 0; omega))) (two_in (by omega) (by omega)) (by omega)
      exact .inr ⟨Int.le_refl _, this.1, .inr (by omega)⟩
    · rw [if_neg h1]
      rcases (outB_cov (D := D) D.k 0 (-1, -1, -1) (fun _ _ => False) ⟨.inl rfl, fun _ _ h => h.elim⟩ (by omega)).good with h | ⟨a, b, hab, hb, h, h0⟩
      · rw [h]; exact .inl rfl
      · rw [h]; exact .inr ⟨by show (0 : Int) ≤ (a : Int); omega, h0, .inl (by show (a : Int) < (b : Int); omega)⟩
  · unfold bestF
    rw [if_neg hok]
    exact .inl rfl
theorem bestF_best {D : SrchD} {x : Nat → Int} {n : Nat} (hn : n ≤ 2) (h : 0 ≤ lastF D x n) : 0 ≤ (bestF D).1 ∧ lo2 D (bestF D).1 (bestF D).2 ≤ lastF D x n := by
  have hok : SrchOk D := by
    rcases lastF_lo D x n with h' | ⟨_, h', _⟩
    · omega
    · exact h'
  have hsk := hok.2.2.1
  obtain ⟨hn0, hx⟩ := lastF_in h
  unfold bestF
  rw [if_pos hok]
  by_cases h1 : D.k = 1
  · rw [if_pos h1]
    have := lastF_more (D := D) (x := x) (n := n) (y := two 0 0) (m := 2) (two_sub (fun j hj => .inl (by have := hx j hj; omega))) (two_in (by omega) (by omega)) h
    exact ⟨Int.le_refl _, this.2⟩
  · rw [if_neg h1]
    obtain ⟨a, b, hab, hb, hj⟩ := pair_ex (x := x) (n := n) (k := D.k) (by have := hok.1.1; omega) hn hn0 (fun j hj => by have := hx j hj; omega)
    have hm := lastF_more (D := D) (x := x) (n := n) (y := two a b) (m := 2) (two_sub hj) (two_in (by omega) (by omega)) h
    have hc := outB_cov (D := D) D.k 0 (-1, -1, -1) (fun _ _ => False) ⟨.inl rfl, fun _ _ h => h.elim⟩ (by omega)
    have h2 := hc.cov a b (.inr ⟨by omega, by omega, hab, hb⟩) hm.1
    rcases hc.good with hg | ⟨a', b', _, _, hg, _⟩
    · rw [hg] at h2; exact absurd h2.1 (by decide)
    · rw [hg] at h2 ⊢
      exact ⟨by show (0 : Int) ≤ (a' : Int); omega, Int.le_trans h2.2 hm.2⟩
end Go.Proofs.YtlhcjbgcgbeocaaDoor
