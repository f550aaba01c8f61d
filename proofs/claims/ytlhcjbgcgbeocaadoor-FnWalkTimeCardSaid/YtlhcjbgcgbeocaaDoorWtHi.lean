/- Ways are short: no least time is above 2560. Plain. -/
import Derived.Test.YtlhcjbgcgbeocaaDoorFnW
import Derived.Test.YtlhcjbgcgbeocaaDoorFnR
namespace Go.Proofs.YtlhcjbgcgbeocaaDoor
theorem FW.step {D : SrchD} {k a b : Nat} {T : Nat → Nat → Int} (h : FW D k a b T) (hk : k < D.k) (ha : a < D.k) (hb : b < D.k) : ∃ T', FW D k a (b + 1) T' := by
  by_cases hc : T a k < 0 ∨ T k b < 0 ∨ ¬ (T a b < 0 ∨ T a k + T k b < T a b)
  · exact ⟨_, FW.keep h hk ha hb hc⟩
  · exact ⟨_, FW.set h hk ha hb (Int.not_lt.1 fun k => hc (.inl k)) (Int.not_lt.1 fun k => hc (.inr (.inl k))) (Classical.not_not.1 fun k => hc (.inr (.inr k)))⟩
theorem FW.steps {D : SrchD} {k a : Nat} (hk : k < D.k) (ha : a < D.k) : ∀ b, b ≤ D.k → (∃ T, FW D k a 0 T) → ∃ T, FW D k a b T
  | 0, _, h => h
  | b + 1, hb, h => by
    obtain ⟨T, hT⟩ := FW.steps hk ha b (by omega) h
    exact FW.step hT hk ha (by omega)
theorem FW.rows {D : SrchD} {k : Nat} (hk : k < D.k) : ∀ a, a ≤ D.k → (∃ T, FW D k 0 0 T) → ∃ T, FW D k a 0 T
  | 0, _, h => h
  | a + 1, ha, h => by
    obtain ⟨T, hT⟩ := FW.steps hk (by omega) D.k (Nat.le_refl _) (FW.rows hk a (by omega) h)
    exact ⟨T, FW.row hT⟩
section
variable {D : SrchD} (hok : SrchOk D)
include hok
theorem FW.all_ : ∀ k, k < D.k → ∃ T, FW D k D.k 0 T
  | 0, hk => by
    have hm : ∀ x y, ∃ r, MinE D x y r := MinE.ex hok
    exact FW.rows hk D.k (Nat.le_refl _) ⟨_, FW.start hok (T := fun x y => Classical.choose (hm x y)) (fun x y _ _ => Classical.choose_spec (hm x y))⟩
  | k + 1, hk => by
    obtain ⟨T, hT⟩ := FW.all_ k (by omega)
    exact FW.rows hk D.k (Nat.le_refl _) ⟨_, FW.over hok hT hk⟩
end
theorem wtF_hi (D : SrchD) (f t : Int) : wtF D f t ≤ 2560 := by
  rcases wtF_spec D f t with ⟨h1, h2, h3, h4⟩ | ⟨_, h⟩
  · have hk7 : D.k ≤ 7 := by have := h1.1.2; have := h1.2.2.1; omega
    have hsk := h1.2.2.1
    obtain ⟨T, hT⟩ := FW.all_ h1 (D.k - 1) (by omega)
    have hd := FW.dist h1 hT (by omega) (x := f.toNat) (y := t.toNat) (by omega) (by omega)
    have hh := hT.hi f.toNat t.toNat (by omega) (by omega)
    rw [h4.uniq hd]
    have : 2 ^ (D.k - 1 + 1) ≤ 2 ^ 7 := Nat.pow_le_pow_right (by decide) (by omega)
    have : ((2 ^ (D.k - 1 + 1) : Nat) : Int) ≤ ((2 ^ 7 : Nat) : Int) := by exact_mod_cast this
    push_cast at this
    omega
  · omega
end Go.Proofs.YtlhcjbgcgbeocaaDoor
