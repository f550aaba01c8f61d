/- What WalkTime, ExitNear, LastOut and ExitsBest tell, in plain words: distances, nearest exits, more exits. -/
import Derived.Test.YtlhcjbgcgbeocaaDoorBest
namespace Go.Proofs.YtlhcjbgcgbeocaaDoor
open Go.RowKit

theorem way_symm {D : SrchD} {a b : Nat} {d : Int} (h : Way D a b d) : Way D b a d := by
  induction h with
  | refl => exact .refl _
  | @snoc c b d t _ e ih =>
    have := way_trans (Way.snoc (.refl b) (edge_sym e)) ih
    rwa [show 0 + t + d = d + t by omega] at this
theorem Dist.symm {D : SrchD} {a b : Nat} {r : Int} (h : Dist D a b r) : Dist D b a r := by
  rcases h with ⟨h1, h2⟩ | ⟨h1, h2, h3⟩
  · exact .inl ⟨h1, fun d hd => h2 d (way_symm hd)⟩
  · exact .inr ⟨h1, way_symm h2, fun d hd => h3 d (way_symm hd)⟩
theorem WT.symm {D : SrchD} {f t r : Int} (h : WT D f t r) : WT D t f r := by
  rcases h with ⟨h1, h2, h3, h4⟩ | ⟨h1, h2⟩
  · exact .inl ⟨h1, h3, h2, h4.symm⟩
  · exact .inr ⟨fun k => h1 ⟨k.1, k.2.2, k.2.1⟩, h2⟩
theorem wtF_symm (D : SrchD) (f t : Int) : wtF D t f = wtF D f t := (wtF_spec D t f).uniq (wtF_spec D f t).symm
theorem WT.ok {D : SrchD} {f t r : Int} (h : WT D f t r) (h0 : 0 ≤ r) : SrchOk D ∧ (0 ≤ f ∧ f < D.s) ∧ (0 ≤ t ∧ t < D.s) ∧ Way D f.toNat t.toNat r ∧ ∀ d, Way D f.toNat t.toNat d → r ≤ d := by
  rcases h with ⟨h1, h2, h3, h4 | h4⟩ | ⟨h1, h2⟩
  · omega
  · exact ⟨h1, h2, h3, h4.2.1, h4.2.2⟩
  · omega
theorem WT.le {D : SrchD} {f t r d : Int} (h : WT D f t r) (hok : SrchOk D) (hf : 0 ≤ f ∧ f < D.s) (ht : 0 ≤ t ∧ t < D.s) (hw : Way D f.toNat t.toNat d) : 0 ≤ r ∧ r ≤ d := by
  rcases h with ⟨_, _, _, h4 | h4⟩ | ⟨h1, h2⟩
  · exact absurd hw (h4.2 d)
  · exact ⟨h4.1, h4.2.2 d hw⟩
  · exact absurd ⟨hok, hf, ht⟩ h1
theorem wtF_ok {D : SrchD} {f t : Int} (h : 0 ≤ wtF D f t) : SrchOk D ∧ (0 ≤ f ∧ f < D.s) ∧ (0 ≤ t ∧ t < D.s) := by
  have := (wtF_spec D f t).ok h
  exact ⟨this.1, this.2.1, this.2.2.1⟩
theorem wtF_tri {D : SrchD} {f k t : Int} (h : 0 ≤ wtF D f k) (h' : 0 ≤ wtF D k t) : wtF D f t ≤ wtF D f k + wtF D k t := by
  obtain ⟨h1, h2, h3, h4, _⟩ := (wtF_spec D f k).ok h
  obtain ⟨_, _, k3, k4, _⟩ := (wtF_spec D k t).ok h'
  exact ((wtF_spec D f t).le h1 h2 k3 (way_trans h4 k4)).2
theorem wtF_edge {D : SrchD} (hok : SrchOk D) {j : Nat} (hj : j < D.m) : 0 ≤ wtF D (D.a j) (D.b j) ∧ wtF D (D.a j) (D.b j) ≤ D.t j := by
  have hp := hok.2.2.2 j hj
  refine (wtF_spec D (D.a j) (D.b j)).le hok hp.1 hp.2.1 ?_
  have := Way.snoc (.refl (D.a j).toNat) (show Edge D (D.a j).toNat (D.b j).toNat (D.t j) from ⟨j, hj, rfl, .inl ⟨by have := hp.1; omega, by have := hp.2.1; omega⟩⟩)
  rwa [Int.zero_add] at this
theorem way_zero {D : SrchD} (hok : SrchOk D) {a b : Nat} {d : Int} (h : Way D a b d) (h0 : d ≤ 0) : a = b := by
  cases h with
  | refl => rfl
  | snoc hw e =>
    have := way_nonneg hok hw
    have := edge_ok hok e
    omega
theorem wtF_zero {D : SrchD} {f t : Int} (h : 0 ≤ wtF D f t) : wtF D f t = 0 ↔ f = t := by
  obtain ⟨h1, h2, h3, h4, _⟩ := (wtF_spec D f t).ok h
  refine ⟨fun e => ?_, fun e => ?_⟩
  · have := way_zero h1 h4 (by omega)
    omega
  · subst e; exact wtF_same h1 h2

/-! ### Nearest exits -/
theorem nearK_in (q x : Nat → Int) : ∀ k, nearK q x k = (-1, -1) ∨ ∃ j, j < k ∧ nearK q x k = (x j, q j) ∧ 0 ≤ q j
  | 0 => .inl rfl
  | k + 1 => by
    unfold nearK
    split
    · rename_i h; exact .inr ⟨k, by omega, rfl, h.1⟩
    · rcases nearK_in q x k with h | ⟨j, hj, h⟩
      · exact .inl h
      · exact .inr ⟨j, by omega, h⟩
theorem nearK_le (q x : Nat → Int) : ∀ k j, j < k → 0 ≤ q j → 0 ≤ (nearK q x k).2 ∧ (nearK q x k).2 ≤ q j
  | 0, _, h, _ => absurd h (by omega)
  | k + 1, j, hj, h0 => by
    unfold nearK
    by_cases e : j = k
    · subst e
      split
      · simp; omega
      · rename_i h
        have : ¬ ((nearK q x j).2 < 0 ∨ q j < (nearK q x j).2) := fun k => h ⟨h0, k⟩
        omega
    · have ih := nearK_le q x k j (by omega) h0
      split
      · rename_i h; simp only; omega
      · exact ih
/-- Exits x are all told among the exits y. -/
def SubEx (x : Nat → Int) (n : Nat) (y : Nat → Int) (m : Nat) : Prop := ∀ j, j < n → ∃ i, i < m ∧ y i = x j
theorem nearF_more {D : SrchD} {f : Int} {x y : Nat → Int} {n m : Nat} (hs : SubEx x n y m) (hy : ∀ j, j < m → 0 ≤ y j ∧ y j < D.s) (h : 0 ≤ (nearF D f x n).2) : 0 ≤ (nearF D f y m).2 ∧ (nearF D f y m).2 ≤ (nearF D f x n).2 := by
  by_cases hok : SrchOk D ∧ (0 ≤ f ∧ f < D.s) ∧ ∀ j, j < n → 0 ≤ x j ∧ x j < D.s
  · rw [nearF_ok hok] at h ⊢
    rw [nearF_ok ⟨hok.1, hok.2.1, hy⟩]
    rcases nearK_in (fun j => wtF D f (x j)) x n with e | ⟨j, hj, e, h0⟩
    · rw [e] at h; simp at h
    · rw [e]
      obtain ⟨i, hi, e2⟩ := hs j hj
      have := nearK_le (fun j => wtF D f (y j)) y m i hi (by rw [e2]; exact h0)
      rw [e2] at this
      exact this
  · rw [nearF_bad hok] at h; simp at h
theorem nearF_ok' {D : SrchD} {f : Int} {x : Nat → Int} {n : Nat} (h : 0 ≤ (nearF D f x n).2) : SrchOk D ∧ (0 ≤ f ∧ f < D.s) ∧ ∀ j, j < n → 0 ≤ x j ∧ x j < D.s := by
  by_cases hok : SrchOk D ∧ (0 ≤ f ∧ f < D.s) ∧ ∀ j, j < n → 0 ≤ x j ∧ x j < D.s
  · exact hok
  · rw [nearF_bad hok] at h; simp at h
theorem nearF_lo (D : SrchD) (f : Int) (x : Nat → Int) (n : Nat) : nearF D f x n = (-1, -1) ∨ ((SrchOk D ∧ (0 ≤ f ∧ f < D.s) ∧ ∀ j, j < n → 0 ≤ x j ∧ x j < D.s) ∧ ∃ j, j < n ∧ nearF D f x n = (x j, wtF D f (x j)) ∧ 0 ≤ wtF D f (x j)) := by
  by_cases hok : SrchOk D ∧ (0 ≤ f ∧ f < D.s) ∧ ∀ j, j < n → 0 ≤ x j ∧ x j < D.s
  · rw [nearF_ok hok]
    rcases nearK_in (fun j => wtF D f (x j)) x n with e | h
    · exact .inl e
    · exact .inr ⟨hok, h⟩
  · exact .inl (nearF_bad hok)
theorem nearF_least {D : SrchD} {f : Int} {x : Nat → Int} {n : Nat} (hok : SrchOk D ∧ (0 ≤ f ∧ f < D.s) ∧ ∀ j, j < n → 0 ≤ x j ∧ x j < D.s) {j : Nat} (hj : j < n) (h0 : 0 ≤ wtF D f (x j)) : (nearF D f x n).2 ≤ wtF D f (x j) := by
  rw [nearF_ok hok]
  exact (nearK_le (fun j => wtF D f (x j)) x n j hj h0).2

/-! ### The last one out -/
theorem lastK_ge (t : Nat → Int) : ∀ k j, j < k → t j ≤ lastK t k
  | 0, _, h => absurd h (by omega)
  | k + 1, j, h => by
    unfold lastK
    by_cases e : j = k
    · subst e; split <;> omega
    · have := lastK_ge t k j (by omega)
      split <;> omega
theorem lastK_le {t : Nat → Int} {B : Int} (hB : 0 ≤ B) : ∀ k, (∀ j, j < k → t j ≤ B) → lastK t k ≤ B
  | 0, _ => hB
  | k + 1, h => by
    have := lastK_le hB k (fun j hj => h j (by omega))
    have := h k (by omega)
    unfold lastK
    split <;> omega
theorem lastF_lo (D : SrchD) (x : Nat → Int) (n : Nat) : lastF D x n = -1 ∨ (0 ≤ lastF D x n ∧ SrchOk D ∧ ∀ k, k < D.k → 0 ≤ (nearF D k x n).2 ∧ (nearF D k x n).2 ≤ lastF D x n) := by
  by_cases h : SrchOk D ∧ ∀ k, k < D.k → 0 ≤ (nearF D k x n).2
  · rw [lastF_ok h]
    exact .inr ⟨lastK_lo _ _, h.1, fun k hk => ⟨h.2 k hk, lastK_ge (fun k => (nearF D k x n).2) D.k k hk⟩⟩
  · exact .inl (lastF_bad h)
theorem lastF_le {D : SrchD} {x : Nat → Int} {n : Nat} {B : Int} (hok : SrchOk D) (hB : 0 ≤ B) (h : ∀ k, k < D.k → 0 ≤ (nearF D k x n).2 ∧ (nearF D k x n).2 ≤ B) : 0 ≤ lastF D x n ∧ lastF D x n ≤ B := by
  rw [lastF_ok ⟨hok, fun k hk => (h k hk).1⟩]
  exact ⟨lastK_lo _ _, lastK_le hB _ fun k hk => (h k hk).2⟩
/-- More exits are never worse. -/
theorem lastF_more {D : SrchD} {x y : Nat → Int} {n m : Nat} (hs : SubEx x n y m) (hy : ∀ j, j < m → 0 ≤ y j ∧ y j < D.s) (h : 0 ≤ lastF D x n) : 0 ≤ lastF D y m ∧ lastF D y m ≤ lastF D x n := by
  rcases lastF_lo D x n with e | ⟨h1, h2, h3⟩
  · omega
  · exact lastF_le h2 h1 fun k hk => by
      have h4 := h3 k hk
      have := nearF_more hs hy h4.1
      omega
/-- Valid exits: there is one, and all are places. -/
theorem lastF_in {D : SrchD} {x : Nat → Int} {n : Nat} (h : 0 ≤ lastF D x n) : 0 < n ∧ ∀ j, j < n → 0 ≤ x j ∧ x j < D.s := by
  rcases lastF_lo D x n with e | ⟨h1, h2, h3⟩
  · omega
  · have hk : 0 < D.k := by have := h2.1; have := h2.2.2.1; omega
    have h4 := (h3 0 hk).1
    refine ⟨?_, (nearF_ok' h4).2.2⟩
    rcases nearF_lo D ((0 : Nat) : Int) x n with e | ⟨_, j, hj, _⟩
    · rw [e] at h4; simp at h4
    · omega
/-- An exit everywhere: everybody is out at once. -/
theorem lastF_all {D : SrchD} (hok : SrchOk D) : lastF D (fun j => (j : Int)) D.k = 0 := by
  have hsk := hok.2.2.1
  have := lastF_le (x := fun j => (j : Int)) (n := D.k) (B := 0) hok (Int.le_refl _) fun k hk => by
    have hw : wtF D (k : Int) (k : Int) = 0 := wtF_same hok (by omega)
    rw [nearF_ok ⟨hok, by omega, fun j hj => by omega⟩]
    have := nearK_le (fun j => wtF D (k : Int) (j : Int)) (fun j => (j : Int)) D.k k hk (by rw [hw]; omega)
    rw [hw] at this
    exact this
  omega
end Go.Proofs.YtlhcjbgcgbeocaaDoor
