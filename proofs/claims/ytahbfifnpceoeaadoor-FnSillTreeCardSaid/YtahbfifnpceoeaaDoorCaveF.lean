/- Water in caves, in plain words: pools, the level at which two chambers are joined, what pumps leave. No program in sight. -/
import Derived.Test.YtahbfifnpceoeaaDoorCave1
import Derived.Test.YtahbfifnpceoeaaDoorKrus
namespace Go.Proofs.YtahbfifnpceoeaaDoor
open Go.RowKit

def CaveD.A (D : CaveD) (j : Nat) : Nat := (D.a j).toNat
def CaveD.B (D : CaveD) (j : Nat) : Nat := (D.b j).toNat
/-- The pool of each chamber at level L. -/
def poolF (D : CaveD) (L : Int) : Nat → Nat := partL D.A D.B (useL D.h L D.m)
theorem sill_lt {D : CaveD} (hok : CaveOk D) {k : Nat} (hk : k < D.m) : D.A k < D.n ∧ D.B k < D.n := by
  obtain ⟨⟨h1, h2⟩, ⟨h3, h4⟩, _⟩ := hok.2.2.2.2 k hk
  unfold CaveD.A CaveD.B
  omega
theorem sill_h {D : CaveD} (hok : CaveOk D) {k : Nat} (hk : k < D.m) : 0 ≤ D.h k ∧ D.h k ≤ 40 := by
  obtain ⟨⟨h1, h2⟩, _, _, h5, _, h7⟩ := hok.2.2.2.2 k hk
  have := (hok.2.2.2.1 (D.a k).toNat (by omega)).1.1
  omega
/-- Two chambers are joined at level L. -/
def JnAt (D : CaveD) (x y : Nat) (L : Int) : Prop := Cn (EP D.A D.B (List.range D.m) (fun j => D.h j ≤ L)) x y
theorem pool_part {D : CaveD} (hok : CaveOk D) (L : Int) : PartOf D.n (poolF D L) (EL D.A D.B (useL D.h L D.m)) :=
  partL_of D.A D.B _ fun k hk => sill_lt hok ((mem_useL D.h L k D.m).1 hk).1
theorem el_use (D : CaveD) (L : Int) (x y : Nat) : EL D.A D.B (useL D.h L D.m) x y ↔ EP D.A D.B (List.range D.m) (fun j => D.h j ≤ L) x y :=
  ⟨fun ⟨k, hk, e⟩ => ⟨k, List.mem_range.2 ((mem_useL D.h L k D.m).1 hk).1, ((mem_useL D.h L k D.m).1 hk).2, e⟩, fun ⟨k, hk, hL, e⟩ => ⟨k, (mem_useL D.h L k D.m).2 ⟨List.mem_range.1 hk, hL⟩, e⟩⟩
theorem pool_iff {D : CaveD} (hok : CaveOk D) (L : Int) {x y : Nat} (hx : x < D.n) (hy : y < D.n) : poolF D L x = poolF D L y ↔ JnAt D x y L :=
  ((pool_part hok L).iff x y hx hy).trans ⟨fun c => c.mono fun x y e => .one ((el_use D L x y).1 e), fun c => c.mono fun x y e => .one ((el_use D L x y).2 e)⟩
theorem pool_le {D : CaveD} (hok : CaveOk D) (L : Int) {x : Nat} (hx : x < D.n) : poolF D L x ≤ x := (pool_part hok L).le x hx
theorem JnAt.up {D : CaveD} {x y : Nat} {L M : Int} (h : JnAt D x y L) (hLM : L ≤ M) : JnAt D x y M := Cn.mono (fun _ _ ⟨k, hk, hL, e⟩ => .one ⟨k, hk, Int.le_trans hL hLM, e⟩) h
theorem JnAt.top {D : CaveD} (hok : CaveOk D) {x y : Nat} {L : Int} (h : JnAt D x y L) : JnAt D x y 40 := Cn.mono (fun _ _ ⟨k, hk, _, e⟩ => .one ⟨k, hk, (sill_h hok (List.mem_range.1 hk)).2, e⟩) h
theorem pool_low {D : CaveD} (hok : CaveOk D) {L : Int} (hL : L < 0) (x : Nat) : poolF D L x = x := by
  have : useL D.h L D.m = [] := List.eq_nil_iff_forall_not_mem.2 fun k hk => by
    have := (mem_useL D.h L k D.m).1 hk
    have := sill_h hok this.1
    omega
  unfold poolF
  rw [this]; rfl

/-! ### The least level -/
def jl (P : Nat → Bool) : Nat → Int
  | 0 => -1
  | n + 1 => if 0 ≤ jl P n then jl P n else if P n then n else -1
theorem jl_none {P : Nat → Bool} : ∀ n, (∀ L, L < n → P L = false) → jl P n = -1
  | 0, _ => rfl
  | n + 1, h => by
    have := jl_none n (fun L hL => h L (by omega))
    unfold jl
    rw [this, if_neg (by omega), h n (by omega), if_neg (by simp)]
theorem jl_at {P : Nat → Bool} {r : Nat} (hr : P r = true) (hl : ∀ L, L < r → P L = false) : ∀ n, r < n → jl P n = r
  | 0, h => absurd h (by omega)
  | n + 1, h => by
    unfold jl
    by_cases e : r < n
    · rw [jl_at hr hl n e, if_pos (by omega)]
    · obtain rfl : r = n := by omega
      rw [jl_none r hl, if_neg (by omega), hr, if_pos rfl]
theorem jl_spec (P : Nat → Bool) : ∀ n, (jl P n = -1 ∧ ∀ L, L < n → P L = false) ∨ ∃ r : Nat, r < n ∧ jl P n = r ∧ P r = true ∧ ∀ L, L < r → P L = false
  | 0 => .inl ⟨rfl, fun L hL => absurd hL (by omega)⟩
  | n + 1 => by
    rcases jl_spec P n with ⟨h1, h2⟩ | ⟨r, h1, h2, h3, h4⟩
    · cases e : P n with
      | true => exact .inr ⟨n, by omega, by unfold jl; rw [h1, if_neg (by omega), e, if_pos rfl], e, h2⟩
      | false => exact .inl ⟨by unfold jl; rw [h1, if_neg (by omega), e, if_neg (by simp)], fun L hL => by
          by_cases e2 : L = n
          · subst e2; exact e
          · exact h2 L (by omega)⟩
    · exact .inr ⟨r, by omega, by unfold jl; rw [h2, if_pos (by omega)], h3, h4⟩
/-- r is the least level of which J holds; -1: there is none. -/
def LevOf (J : Int → Prop) (r : Int) : Prop := -1 ≤ r ∧ ∀ L, 0 ≤ L → (J L ↔ 0 ≤ r ∧ r ≤ L)
theorem LevOf.uniq {J J' : Int → Prop} {r q : Int} (h : LevOf J r) (k : LevOf J' q) (e : ∀ L, 0 ≤ L → (J L ↔ J' L)) : r = q := by
  obtain ⟨h1, h2⟩ := h
  obtain ⟨k1, k2⟩ := k
  by_cases hr : 0 ≤ r
  · have a1 := (k2 r hr).1 ((e r hr).1 ((h2 r hr).2 ⟨hr, by omega⟩))
    have a2 := (h2 q a1.1).1 ((e q a1.1).2 ((k2 q a1.1).2 ⟨a1.1, by omega⟩))
    omega
  · by_cases hq : 0 ≤ q
    · have a2 := (h2 q hq).1 ((e q hq).2 ((k2 q hq).2 ⟨hq, by omega⟩))
      omega
    · omega
def jlF (D : CaveD) (x y : Nat) : Int := jl (fun L => decide (poolF D L x = poolF D L y)) 41
theorem jlF_lev {D : CaveD} (hok : CaveOk D) {x y : Nat} (hx : x < D.n) (hy : y < D.n) : LevOf (JnAt D x y) (jlF D x y) := by
  unfold jlF
  rcases jl_spec (fun L : Nat => decide (poolF D L x = poolF D L y)) 41 with ⟨h1, h2⟩ | ⟨r, h1, h2, h3, h4⟩
  · rw [h1]
    refine ⟨by omega, fun L hL => ⟨fun hJ => ?_, fun h => absurd h.1 (by omega)⟩⟩
    have := h2 40 (by omega)
    exact absurd ((pool_iff hok _ hx hy).2 (hJ.top hok)) (by simpa using this)
  · rw [h2]
    refine ⟨by omega, fun L hL => ⟨fun hJ => ⟨by omega, ?_⟩, fun h => ((pool_iff hok _ hx hy).1 (by simpa using h3)).up h.2⟩⟩
    by_cases e : (r : Int) ≤ L
    · exact e
    · have := h4 L.toNat (by omega)
      rw [show ((L.toNat : Nat) : Int) = L by omega] at this
      exact absurd ((pool_iff hok _ hx hy).2 hJ) (by simpa using this)
theorem jlF_bd {D : CaveD} (x y : Nat) : -1 ≤ jlF D x y ∧ jlF D x y ≤ 40 := by
  unfold jlF
  rcases jl_spec (fun L : Nat => decide (poolF D L x = poolF D L y)) 41 with ⟨h1, h2⟩ | ⟨r, h1, h2, h3, h4⟩
  · omega
  · omega
theorem jlF_self {D : CaveD} (x : Nat) : jlF D x x = 0 := by
  have := jl_at (P := fun L : Nat => decide (poolF D L x = poolF D L x)) (r := 0) (by simp) (fun L hL => absurd hL (by omega)) 41 (by omega)
  exact this
theorem jlF_symm {D : CaveD} (hok : CaveOk D) {x y : Nat} (hx : x < D.n) (hy : y < D.n) : jlF D x y = jlF D y x :=
  (jlF_lev hok hx hy).uniq (jlF_lev hok hy hx) fun _ _ => ⟨fun c => Cn.symm c, fun c => Cn.symm c⟩
theorem jlF_over {D : CaveD} (hok : CaveOk D) {x y z : Nat} (hx : x < D.n) (hy : y < D.n) (hz : z < D.n) (h1 : 0 ≤ jlF D x z) (h2 : 0 ≤ jlF D z y) : 0 ≤ jlF D x y ∧ jlF D x y ≤ max (jlF D x z) (jlF D z y) := by
  have a1 := ((jlF_lev hok hx hz).2 (max (jlF D x z) (jlF D z y)) (by omega)).2 ⟨h1, by omega⟩
  have a2 := ((jlF_lev hok hz hy).2 (max (jlF D x z) (jlF D z y)) (by omega)).2 ⟨h2, by omega⟩
  exact ((jlF_lev hok hx hy).2 _ (by omega)).1 (Cn.trans a1 a2)

/-! ### What pumps leave -/
def llG (D : CaveD) (L : Int) (ch : Nat) (y : Nat → Int) : Nat → Int
  | 0 => L
  | k + 1 => if 0 ≤ jlF D ch (y k).toNat then min (llG D L ch y k) (jlF D ch (y k).toNat) else llG D L ch y k
def llF (D : CaveD) (L : Int) (y : Nat → Int) (k ch : Nat) : Int := max (llG D L ch y k) (D.f ch)
def wlF (D : CaveD) (L : Int) (y : Nat → Int) (k : Nat) : Nat → Int
  | 0 => 0
  | i + 1 => wlF D L y k i + D.g i * (llF D L y k i - D.f i)
def waF (D : CaveD) (L : Int) : Nat → Int
  | 0 => 0
  | i + 1 => waF D L i + D.g i * max (L - D.f i) 0
def pbF (D : CaveD) (L : Int) : Nat → Int
  | 0 => -1
  | i + 1 => if pbF D L i < 0 ∨ wlF D L (fun _ => (i : Int)) 1 D.n < wlF D L (fun _ => pbF D L i) 1 D.n then (i : Int) else pbF D L i
def shF (D : CaveD) (y : Nat → Int) : Nat → Int
  | 0 => 0
  | k + 1 => shF D y k + D.h (y k).toNat

theorem llG_bd {D : CaveD} {L : Int} (h0 : 0 ≤ L) (ch : Nat) (y : Nat → Int) : ∀ k, 0 ≤ llG D L ch y k ∧ llG D L ch y k ≤ L
  | 0 => by simp [llG]; omega
  | k + 1 => by
    have := llG_bd (D := D) h0 ch y k
    unfold llG
    split <;> omega
theorem llG_congr {D : CaveD} {L : Int} {ch : Nat} {y z : Nat → Int} : ∀ k, (∀ j, j < k → y j = z j) → llG D L ch y k = llG D L ch z k
  | 0, _ => rfl
  | k + 1, h => by
    unfold llG
    rw [llG_congr k (fun j hj => h j (by omega)), h k (by omega)]
theorem llG_down (D : CaveD) (L : Int) (ch : Nat) (y : Nat → Int) (k : Nat) : llG D L ch y (k + 1) ≤ llG D L ch y k := by
  rw [llG]
  split <;> omega
/-- A chamber that is pumped itself. -/
theorem llG_zero {D : CaveD} {L : Int} (h0 : 0 ≤ L) (ch : Nat) (y : Nat → Int) {j : Nat} (hj : (y j).toNat = ch) : ∀ k, j < k → llG D L ch y k = 0
  | 0, h => absurd h (by omega)
  | k + 1, h => by
    have hb := llG_bd (D := D) h0 ch y k
    unfold llG
    by_cases e : j = k
    · subst e
      rw [hj, jlF_self, if_pos (by omega)]; omega
    · rw [llG_zero h0 ch y hj k (by omega)]
      split <;> omega
theorem llF_bd {D : CaveD} {L : Int} (h0 : 0 ≤ L) (y : Nat → Int) (k ch : Nat) : D.f ch ≤ llF D L y k ch ∧ llF D L y k ch ≤ max L (D.f ch) := by
  have := llG_bd (D := D) h0 ch y k
  unfold llF
  omega
theorem llF_zero {D : CaveD} (hok : CaveOk D) {L : Int} (h0 : 0 ≤ L) {ch : Nat} (hc : ch < D.n) (y : Nat → Int) {j k : Nat} (hj : (y j).toNat = ch) (hk : j < k) : llF D L y k ch = D.f ch := by
  unfold llF
  rw [llG_zero h0 ch y hj k hk]
  have := (hok.2.2.2.1 ch hc).1
  omega
theorem mul_small {g x : Int} (h1 : 1 ≤ g) (h9 : g ≤ 9) (h0 : 0 ≤ x) (h40 : x ≤ 40) : 0 ≤ g * x ∧ g * x ≤ 360 := by
  have a := Int.mul_le_mul h9 h40 h0 (by omega : (0 : Int) ≤ 9)
  have b := Int.mul_nonneg (by omega : (0 : Int) ≤ g) h0
  omega
theorem wlF_bd {D : CaveD} (hok : CaveOk D) {L : Int} (h0 : 0 ≤ L) (h40 : L ≤ 40) (y : Nat → Int) (k : Nat) : ∀ i, i ≤ D.n → 0 ≤ wlF D L y k i ∧ wlF D L y k i ≤ waF D L i ∧ waF D L i ≤ 360 * (i : Int)
  | 0, _ => by simp [wlF, waF]
  | i + 1, hi => by
    have ih := wlF_bd hok h0 h40 y k i (by omega)
    have hg := (hok.2.2.2.1 i (by omega)).2
    have hf := (hok.2.2.2.1 i (by omega)).1
    have hl := llF_bd (D := D) h0 y k i
    have m1 := mul_small hg.1 hg.2 (x := llF D L y k i - D.f i) (by omega) (by omega)
    have m2 := mul_small hg.1 hg.2 (x := max (L - D.f i) 0) (by omega) (by omega)
    have m3 := Int.mul_le_mul_of_nonneg_left (show llF D L y k i - D.f i ≤ max (L - D.f i) 0 by omega) (show 0 ≤ D.g i by omega)
    unfold wlF waF
    omega
theorem wlF_none {D : CaveD} (hok : CaveOk D) {L : Int} (y : Nat → Int) : ∀ i, i ≤ D.n → wlF D L y 0 i = waF D L i
  | 0, _ => rfl
  | i + 1, hi => by
    have hf := (hok.2.2.2.1 i (by omega)).1
    unfold wlF waF
    rw [wlF_none hok y i (by omega), show llF D L y 0 i - D.f i = max (L - D.f i) 0 by unfold llF llG; omega]
theorem wlF_all {D : CaveD} (hok : CaveOk D) {L : Int} (h0 : 0 ≤ L) {y : Nat → Int} {k : Nat} (hy : ∀ i, i < D.n → ∃ j, j < k ∧ y j = i) : ∀ i, i ≤ D.n → wlF D L y k i = 0
  | 0, _ => rfl
  | i + 1, hi => by
    obtain ⟨j, hj, e⟩ := hy i (by omega)
    unfold wlF
    rw [wlF_all hok h0 hy i (by omega), llF_zero hok h0 (show i < D.n by omega) y (j := j) (by omega) hj, Int.sub_self, Int.mul_zero]; rfl
theorem wlF_congr {D : CaveD} {L : Int} {y z : Nat → Int} {k : Nat} (h : ∀ j, j < k → y j = z j) : ∀ i, wlF D L y k i = wlF D L z k i
  | 0 => rfl
  | i + 1 => by
    unfold wlF llF
    rw [wlF_congr h i, llG_congr k h]
theorem pbF_spec (D : CaveD) (L : Int) : ∀ i, 0 < i → 0 ≤ pbF D L i ∧ pbF D L i < i ∧ (∀ k : Nat, k < i → wlF D L (fun _ => pbF D L i) 1 D.n ≤ wlF D L (fun _ => (k : Int)) 1 D.n) ∧ ∀ k : Nat, (k : Int) < pbF D L i → wlF D L (fun _ => pbF D L i) 1 D.n < wlF D L (fun _ => (k : Int)) 1 D.n
  | 0, h => absurd h (by omega)
  | i + 1, _ => by
    by_cases h0 : i = 0
    · subst h0
      have : pbF D L (0 + 1) = ((0 : Nat) : Int) := by unfold pbF; rw [if_pos (.inl (by simp [pbF]))]
      rw [this]
      exact ⟨by omega, by omega, fun k hk => by rw [show k = 0 by omega]; omega, fun k hk => absurd hk (by omega)⟩
    · obtain ⟨h1, h2, h3, h4⟩ := pbF_spec D L i (by omega)
      rw [pbF]
      by_cases e : wlF D L (fun _ => (i : Int)) 1 D.n < wlF D L (fun _ => pbF D L i) 1 D.n
      · rw [if_pos (.inr e)]
        refine ⟨by omega, by omega, fun k hk => ?_, fun k hk => ?_⟩
        · by_cases e2 : k = i
          · subst e2; omega
          · have := h3 k (by omega); omega
        · have := h3 k (by omega); omega
      · rw [if_neg (fun h => h.elim (by omega) e)]
        refine ⟨h1, by omega, fun k hk => ?_, h4⟩
        by_cases e2 : k = i
        · subst e2; omega
        · exact h3 k (by omega)
theorem shF_bd {D : CaveD} (hok : CaveOk D) {y : Nat → Int} {n : Nat} (hy : ∀ j, j < n → 0 ≤ y j ∧ y j < D.m) : ∀ k, k ≤ n → 0 ≤ shF D y k ∧ shF D y k ≤ 40 * (k : Int)
  | 0, _ => by simp [shF]
  | k + 1, hk => by
    have ih := shF_bd hok hy k (by omega)
    have h1 := hy k (by omega)
    have := sill_h hok (k := (y k).toNat) (by omega)
    unfold shF
    omega
theorem shF_shift (D : CaveD) (y : Nat → Int) : ∀ k, shF D y (k + 1) = D.h (y 0).toNat + shF D (fun j => y (j + 1)) k
  | 0 => by simp [shF]
  | k + 1 => by
    have := shF_shift D y k
    rw [shF, this]
    simp only [shF]
    omega
/-- The areas of the chambers that are not above a level. -/
def arF (D : CaveD) (L : Int) : Nat → Int
  | 0 => 0
  | i + 1 => if D.f i ≤ L then arF D L i + D.g i else arF D L i
theorem waF_up (D : CaveD) (L : Int) : ∀ i, waF D (L + 1) i = waF D L i + arF D L i
  | 0 => rfl
  | i + 1 => by
    unfold waF arF
    rw [waF_up D L i]
    by_cases e : D.f i ≤ L
    · rw [if_pos e, show max (L + 1 - D.f i) 0 = max (L - D.f i) 0 + 1 by omega, Int.mul_add, Int.mul_one]; omega
    · rw [if_neg e, show max (L + 1 - D.f i) 0 = 0 by omega, show max (L - D.f i) 0 = 0 by omega]; omega
theorem arF_bd {D : CaveD} (hok : CaveOk D) (L : Int) : ∀ i, i ≤ D.n → 0 ≤ arF D L i ∧ arF D L i ≤ 9 * (i : Int)
  | 0, _ => by simp [arF]
  | i + 1, hi => by
    have ih := arF_bd hok L i (by omega)
    have hg := (hok.2.2.2.1 i (by omega)).2
    unfold arF
    split <;> omega
end Go.Proofs.YtahbfifnpceoeaaDoor
