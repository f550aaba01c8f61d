/- The reference's rounds over states (place, air left): what is kept, and that nothing changed means the least times. Plain. -/
import Derived.Test.YtlhcjbgcgbeocaaDoorState
namespace Go.Proofs.YtlhcjbgcgbeocaaDoor
open Go.RowKit

def sN (F : Nat → Nat) : Nat → Nat
  | 0 => 0
  | k + 1 => sN F k + F k
theorem sN_congr {F G : Nat → Nat} : ∀ n, (∀ j, j < n → F j = G j) → sN F n = sN G n
  | 0, _ => rfl
  | n + 1, h => by rw [sN, sN, sN_congr n (fun j hj => h j (by omega)), h n (by omega)]
theorem sN_set (F : Nat → Nat) {i x : Nat} : ∀ n, i < n → sN (fun j => if j = i then x else F j) n + F i = sN F n + x
  | 0, h => absurd h (by omega)
  | n + 1, h => by
    simp only [sN]
    by_cases e : n = i
    · subst e
      rw [if_pos rfl, sN_congr (F := fun j => if j = n then x else F j) (G := F) n (fun j hj => if_neg (by omega))]
      omega
    · rw [if_neg e]
      have := sN_set F (i := i) (x := x) n (by omega)
      omega
theorem sN_le {F : Nat → Nat} {c : Nat} : ∀ n, (∀ j, j < n → F j ≤ c) → sN F n ≤ c * n
  | 0, _ => by simp [sN]
  | n + 1, h => by
    have h1 := sN_le n (fun j hj => h j (by omega))
    have h2 := h n (by omega)
    simp only [sN]
    rw [Nat.mul_succ]
    omega
theorem sN_ge1 {F : Nat → Nat} {i : Nat} : ∀ n, i < n → F i ≤ sN F n
  | 0, h => absurd h (by omega)
  | n + 1, h => by
    simp only [sN]
    by_cases e : i = n
    · subst e; omega
    · have := sN_ge1 (F := F) (i := i) n (by omega); omega

def kn (D : SrchD) (b : Nat) (best : Nat → Nat → Int) : Nat := sN (fun j => if 0 ≤ best (j / (b + 1)) (j % (b + 1)) then 1 else 0) (D.k * (b + 1))
def po (D : SrchD) (b : Nat) (best : Nat → Nat → Int) : Nat := sN (fun j => if 0 ≤ best (j / (b + 1)) (j % (b + 1)) then (best (j / (b + 1)) (j % (b + 1))).toNat else 20 * (D.k * (b + 1))) (D.k * (b + 1))
def upd (best : Nat → Nat → Int) (v a : Nat) (x : Int) (v' a' : Nat) : Int := if v' = v ∧ a' = a then x else best v' a'
theorem flat {b v a j : Nat} (ha : a ≤ b) : (j / (b + 1) = v ∧ j % (b + 1) = a) ↔ j = v * (b + 1) + a :=
  ⟨fun ⟨h1, h2⟩ => by have := Nat.div_add_mod j (b + 1); rw [h1, h2, Nat.mul_comm] at this; exact this.symm, fun h => by subst h; exact ⟨sIdx_div ha, sIdx_mod ha⟩⟩

/-- What the rounds keep. -/
structure SB (D : SrchD) (b f : Nat) (best : Nat → Nat → Int) : Prop where
  lo : ∀ v a, -1 ≤ best v a
  sound : ∀ v a, v < D.k → a ≤ b → 0 ≤ best v a → SW (Edge D) D.dep b f v a (best v a)
  src : best f b = 0
  top : ∀ v a, v < D.k → a ≤ b → best v a + 20 ≤ 20 * (kn D b best : Int)

theorem SB.start {D : SrchD} {b f : Nat} (hf : f < D.k) : SB D b f (upd (fun _ _ => -1) f b 0) := by
  refine ⟨fun v a => by simp only [upd]; split <;> omega, fun v a _ _ h => ?_, by unfold upd; rw [if_pos ⟨rfl, rfl⟩], fun v a _ _ => ?_⟩
  · simp only [upd] at h ⊢
    by_cases e : v = f ∧ a = b
    · obtain ⟨rfl, rfl⟩ := e
      rw [if_pos ⟨rfl, rfl⟩]; exact .start
    · rw [if_neg e] at h; omega
  · have h1 : 1 ≤ kn D b (upd (fun _ _ => -1) f b 0) := by
      have := sN_ge1 (F := fun j => if 0 ≤ upd (fun _ _ => -1) f b 0 (j / (b + 1)) (j % (b + 1)) then 1 else 0) (i := f * (b + 1) + b) (D.k * (b + 1)) (sIdx_lt (Nat.le_refl _) hf)
      rw [sIdx_div (Nat.le_refl _), sIdx_mod (Nat.le_refl _)] at this
      rw [show upd (fun _ _ => -1) f b 0 f b = 0 from if_pos ⟨rfl, rfl⟩, if_pos (by omega)] at this
      exact this
    simp only [upd]
    split <;> omega
section
variable {D : SrchD} {b f : Nat} {best : Nat → Nat → Int}
theorem kn_le (D : SrchD) (b : Nat) (best : Nat → Nat → Int) : kn D b best ≤ D.k * (b + 1) := by
  have := sN_le (F := fun j => if 0 ≤ best (j / (b + 1)) (j % (b + 1)) then 1 else 0) (c := 1) (D.k * (b + 1)) (fun j _ => by split <;> omega)
  unfold kn; omega
theorem SB.top2 (h : SB D b f best) (h7 : D.k ≤ 7) (h60 : b ≤ 60) {v a : Nat} (hv : v < D.k) (ha : a ≤ b) : best v a ≤ 8520 := by
  have h1 := h.top v a hv ha
  have h2 := kn_le D b best
  have h3 : D.k * (b + 1) ≤ 7 * 61 := Nat.mul_le_mul h7 (by omega)
  omega
/-- Air that is left at y behind a step of t minutes. -/
def leftA (D : SrchD) (b y a t : Nat) : Nat := if D.dep y = true then b else a - t
theorem leftA_le {D : SrchD} {b y a t : Nat} (ha : a ≤ b) : leftA D b y a t ≤ b := by unfold leftA; split <;> omega
theorem SB.set (hok : SrchOk D) (h : SB D b f best) {x y a t : Nat} (he : Edge D x y t) (ht : t ≤ a) (ha : a ≤ b) (h0 : 0 ≤ best x a)
    (hk : best y (leftA D b y a t) < 0 ∨ best x a + t < best y (leftA D b y a t)) : SB D b f (upd best y (leftA D b y a t) (best x a + t)) ∧ po D b (upd best y (leftA D b y a t) (best x a + t)) < po D b best := by
  have ed := edge_ok hok he
  have hx := ed.1
  have hy := ed.2.1
  have ht20 : (t : Int) ≤ 20 := ed.2.2.2
  have hl := leftA_le (D := D) (y := y) (t := t) ha
  obtain ⟨l, hle⟩ : ∃ l, leftA D b y a t = l := ⟨_, rfl⟩
  have hsw : SW (Edge D) D.dep b f y l (best x a + t) := by
    have := SW.step (h.sound x a hx ha h0) he (by omega)
    have e : (l : Int) = if D.dep y = true then (b : Int) else (a : Int) - t := by
      rw [← hle]; unfold leftA
      split <;> omega
    rw [e]; exact this
  rw [hle] at hk hl ⊢
  have htop := h.top x a hx ha
  have hlt : y * (b + 1) + l < D.k * (b + 1) := sIdx_lt hl hy
  have hkn := kn_le D b best
  have hfl : ∀ j, upd best y l (best x a + t) (j / (b + 1)) (j % (b + 1)) = if j = y * (b + 1) + l then best x a + t else best (j / (b + 1)) (j % (b + 1)) := fun j => by
    unfold upd
    by_cases e : j = y * (b + 1) + l
    · rw [if_pos ((flat hl).2 e), if_pos e]
    · rw [if_neg (fun e2 => e ((flat hl).1 e2)), if_neg e]
  have k1 : kn D b (upd best y l (best x a + t)) + (if 0 ≤ best y l then 1 else 0) = kn D b best + 1 := by
    have := sN_set (fun j => if 0 ≤ best (j / (b + 1)) (j % (b + 1)) then 1 else 0) (i := y * (b + 1) + l) (x := 1) (D.k * (b + 1)) hlt
    rw [sIdx_div hl, sIdx_mod hl] at this
    unfold kn
    rw [← this]
    congr 1
    refine sN_congr _ fun j _ => ?_
    rw [hfl j]
    by_cases e : j = y * (b + 1) + l
    · rw [if_pos e, if_pos e, if_pos (by omega)]
    · rw [if_neg e, if_neg e]
  have p1 : po D b (upd best y l (best x a + t)) + (if 0 ≤ best y l then (best y l).toNat else 20 * (D.k * (b + 1))) = po D b best + (best x a + t).toNat := by
    have := sN_set (fun j => if 0 ≤ best (j / (b + 1)) (j % (b + 1)) then (best (j / (b + 1)) (j % (b + 1))).toNat else 20 * (D.k * (b + 1))) (i := y * (b + 1) + l) (x := (best x a + t).toNat) (D.k * (b + 1)) hlt
    rw [sIdx_div hl, sIdx_mod hl] at this
    unfold po
    rw [← this]
    congr 1
    refine sN_congr _ fun j _ => ?_
    rw [hfl j]
    by_cases e : j = y * (b + 1) + l
    · rw [if_pos e, if_pos e, if_pos (by omega)]
    · rw [if_neg e, if_neg e]
  have hkn2 : kn D b (upd best y l (best x a + t)) ≤ D.k * (b + 1) := by
    have := sN_le (F := fun j => if 0 ≤ upd best y l (best x a + t) (j / (b + 1)) (j % (b + 1)) then 1 else 0) (c := 1) (D.k * (b + 1)) (fun j _ => by split <;> omega)
    unfold kn; omega
  generalize D.k * (b + 1) = N at k1 p1 hkn2 hkn
  refine ⟨⟨fun v a' => ?_, fun v a' hv ha' h1 => ?_, ?_, fun v a' hv ha' => ?_⟩, ?_⟩
  · have := h.lo v a'
    unfold upd; split <;> omega
  · unfold upd at h1 ⊢
    by_cases e : v = y ∧ a' = l
    · obtain ⟨rfl, rfl⟩ := e
      rw [if_pos ⟨rfl, rfl⟩]; exact hsw
    · rw [if_neg e] at h1 ⊢
      exact h.sound v a' hv ha' h1
  · unfold upd
    by_cases e : f = y ∧ b = l
    · obtain ⟨rfl, e2⟩ := e
      have := h.src
      rw [← e2] at hk
      omega
    · rw [if_neg e]; exact h.src
  · have h1 := h.top v a' hv ha'
    rw [show upd best y l (best x a + t) v a' = if v = y ∧ a' = l then best x a + t else best v a' from rfl]
    by_cases e : v = y ∧ a' = l
    · obtain ⟨rfl, rfl⟩ := e
      rw [if_pos ⟨rfl, rfl⟩]
      split at k1 <;> omega
    · rw [if_neg e]
      split at k1 <;> omega
  · by_cases e : 0 ≤ best y l
    · rw [if_pos e] at p1
      omega
    · rw [if_neg e] at p1 k1
      omega

/-- The step from x by t minutes to y with air a helps nothing. -/
def NoHelp (D : SrchD) (b : Nat) (best : Nat → Nat → Int) (x y t a : Nat) : Prop := 0 ≤ best x a → 0 ≤ best y (leftA D b y a t) ∧ best y (leftA D b y a t) ≤ best x a + t
/-- Both ways of passage j help nothing. -/
def NoHelpP (D : SrchD) (b : Nat) (best : Nat → Nat → Int) (j : Nat) : Prop :=
  (∀ a, (D.t j).toNat ≤ a → a ≤ b → NoHelp D b best (D.a j).toNat (D.b j).toNat (D.t j).toNat a) ∧ ∀ a, (D.t j).toNat ≤ a → a ≤ b → NoHelp D b best (D.b j).toNat (D.a j).toNat (D.t j).toNat a
theorem sw_le (hok : SrchOk D) (h : SB D b f best) (hc : ∀ j, j < D.m → NoHelpP D b best j) {v : Nat} {air d : Int} (hw : SW (Edge D) D.dep b f v air d) : (0 ≤ air ∧ air ≤ b) ∧ 0 ≤ best v air.toNat ∧ best v air.toNat ≤ d := by
  induction hw with
  | start => exact ⟨by omega, by rw [Int.toNat_natCast, h.src]; omega⟩
  | @step x y air d t hs he ht ih =>
    obtain ⟨⟨i1, i2⟩, i3, i4⟩ := ih
    have ed := edge_ok hok he
    obtain ⟨T, rfl⟩ := Int.eq_ofNat_of_zero_le (show 0 ≤ t by omega)
    obtain ⟨a, rfl⟩ := Int.eq_ofNat_of_zero_le i1
    rw [Int.toNat_natCast] at i3 i4
    have hnh : NoHelp D b best x y T a := by
      obtain ⟨j, hj, et, he⟩ := he
      obtain ⟨c1, c2⟩ := hc j hj
      have ht' : (D.t j).toNat = T := by omega
      rw [ht'] at c1 c2
      rcases he with ⟨e1, e2⟩ | ⟨e1, e2⟩
      · have := c1 a (by omega) (by omega)
        rwa [show (D.a j).toNat = x by omega, show (D.b j).toNat = y by omega] at this
      · have := c2 a (by omega) (by omega)
        rwa [show (D.a j).toNat = y by omega, show (D.b j).toNat = x by omega] at this
    obtain ⟨q1, q2⟩ := hnh i3
    have e : (if D.dep y = true then (b : Int) else (a : Int) - (T : Int)).toNat = leftA D b y a T := by
      unfold leftA; split <;> omega
    refine ⟨by split <;> omega, ?_⟩
    rw [e]
    omega
/-- The least of the first n airs at a place. -/
def LeastA (best : Nat → Nat → Int) (v n : Nat) (r : Int) : Prop := (r = -1 ∧ ∀ a, a < n → best v a < 0) ∨ (0 ≤ r ∧ (∃ a, a < n ∧ best v a = r) ∧ ∀ a, a < n → 0 ≤ best v a → r ≤ best v a)
theorem LeastA.dist (hok : SrchOk D) (h : SB D b f best) (hc : ∀ j, j < D.m → NoHelpP D b best j) {t : Nat} (ht : t < D.k) {r : Int} (hr : LeastA best t (b + 1) r) : SDist (Edge D) D.dep b f t r := by
  rcases hr with ⟨h1, h2⟩ | ⟨h1, ⟨a, ha, e⟩, h3⟩
  · refine .inl ⟨h1, fun air d hw => ?_⟩
    obtain ⟨q1, q2, q3⟩ := sw_le hok h hc hw
    have := h2 air.toNat (by omega)
    omega
  · refine .inr ⟨h1, ⟨a, ?_⟩, fun air d hw => ?_⟩
    · rw [← e]
      exact h.sound t a ht (by omega) (by omega)
    · obtain ⟨q1, q2, q3⟩ := sw_le hok h hc hw
      have := h3 air.toNat (by omega) q2
      omega
end
end Go.Proofs.YtlhcjbgcgbeocaaDoor
