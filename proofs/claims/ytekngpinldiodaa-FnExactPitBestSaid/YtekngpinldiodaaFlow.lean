/- Flows through a network whose points are numbers, and cuts of it, in plain words: what the greatest flow leaves free, and the least cut. No program in sight. -/
import Derived.WalkKit
namespace Go.Proofs.Ytekngpinldiodaa
open Go.RowKit

/-! ### Sums -/
def sumN : Nat → (Nat → Int) → Int
  | 0, _ => 0
  | k + 1, f => sumN k f + f k
theorem sumN_congr {f g : Nat → Int} : ∀ n, (∀ j, j < n → f j = g j) → sumN n f = sumN n g
  | 0, _ => rfl
  | n + 1, h => by rw [sumN, sumN, sumN_congr n (fun j hj => h j (by omega)), h n (by omega)]
theorem sumN_add (f g : Nat → Int) : ∀ n, sumN n (fun j => f j + g j) = sumN n f + sumN n g
  | 0 => rfl
  | n + 1 => by simp only [sumN, sumN_add f g n]; omega
theorem sumN_sub (f g : Nat → Int) : ∀ n, sumN n (fun j => f j - g j) = sumN n f - sumN n g
  | 0 => rfl
  | n + 1 => by simp only [sumN, sumN_sub f g n]; omega
theorem sumN_neg (f : Nat → Int) : ∀ n, sumN n (fun j => - f j) = - sumN n f
  | 0 => rfl
  | n + 1 => by simp only [sumN, sumN_neg f n]; omega
theorem sumN_zero : ∀ n, sumN n (fun _ => 0) = 0
  | 0 => rfl
  | n + 1 => by simp only [sumN, sumN_zero n]; rfl
theorem sumN_all0 {f : Nat → Int} (n : Nat) (h : ∀ j, j < n → f j = 0) : sumN n f = 0 := (sumN_congr n h).trans (sumN_zero n)
theorem sumN_le {f g : Nat → Int} : ∀ n, (∀ j, j < n → f j ≤ g j) → sumN n f ≤ sumN n g
  | 0, _ => Int.le_refl _
  | n + 1, h => by
    have := sumN_le n (fun j hj => h j (by omega))
    have := h n (by omega)
    simp only [sumN]; omega
theorem sumN_nonneg {f : Nat → Int} (n : Nat) (h : ∀ j, j < n → 0 ≤ f j) : 0 ≤ sumN n f := by
  have := sumN_le (f := fun _ => 0) n h
  rwa [sumN_zero] at this
theorem sumN_ge1 {f : Nat → Int} {i : Nat} : ∀ n, (∀ j, j < n → 0 ≤ f j) → i < n → f i ≤ sumN n f
  | 0, _, h => absurd h (by omega)
  | n + 1, h, hi => by
    have h1 := sumN_nonneg n (fun j hj => h j (show j < n + 1 by omega))
    have h2 := h n (by omega)
    simp only [sumN]
    by_cases e : i = n
    · subst e; omega
    · have := sumN_ge1 (i := i) n (fun j hj => h j (by omega)) (by omega)
      omega
theorem sumN_swap (f : Nat → Nat → Int) (m : Nat) : ∀ n, sumN n (fun x => sumN m (f x)) = sumN m (fun y => sumN n (fun x => f x y))
  | 0 => (sumN_zero m).symm
  | n + 1 => by
    simp only [sumN]
    rw [sumN_swap f m n, ← sumN_add]
theorem sumN_one (i : Nat) (c : Int) : ∀ n, i < n → sumN n (fun j => if j = i then c else 0) = c
  | 0, h => absurd h (by omega)
  | n + 1, h => by
    simp only [sumN]
    by_cases e : n = i
    · subst e
      rw [if_pos rfl, sumN_all0 n (fun j hj => if_neg (by omega))]; omega
    · rw [if_neg e, sumN_one i c n (by omega)]; omega
theorem sumN_set (f : Nat → Int) {i : Nat} (v : Int) {n : Nat} (hi : i < n) : sumN n (fun j => if j = i then v else f j) = sumN n f - f i + v := by
  have h1 : sumN n (fun j => if j = i then v else f j) = sumN n (fun j => f j + if j = i then v - f i else 0) := sumN_congr n fun j _ => by
    by_cases e : j = i
    · subst e; rw [if_pos rfl, if_pos rfl]; omega
    · rw [if_neg e, if_neg e]; omega
  rw [h1, sumN_add, sumN_one i _ n hi]; omega
theorem sumN_sq {N : Nat} {g : Nat → Nat → Int} (h : ∀ x y, x < N → y < N → g x y = - g y x) : sumN N (fun x => sumN N (g x)) = 0 := by
  have h1 : sumN N (fun x => sumN N (g x)) = sumN N (fun x => - sumN N (fun y => g y x)) := sumN_congr N fun x hx => by
    rw [← sumN_neg]; exact sumN_congr N fun y hy => h x y hx hy
  rw [sumN_neg] at h1
  have h2 := sumN_swap g N N
  omega

/-! ### Flows: what is left free of C, and how much has flowed from s to t -/
structure FL (N s t : Nat) (C r : Nat → Nat → Int) (fl : Int) : Prop where
  pos : ∀ x y, x < N → y < N → 0 ≤ r x y
  par : ∀ x y, x < N → y < N → r x y + r y x = C x y + C y x
  bal : ∀ x, x < N → x ≠ t → sumN N (r x) + (if x = s then fl else 0) = sumN N (C x)

section
variable {N s t : Nat} {C r : Nat → Nat → Int} {fl : Int}
theorem FL.start (hC : ∀ x y, x < N → y < N → 0 ≤ C x y) : FL N s t C C 0 := ⟨hC, fun _ _ _ _ => rfl, fun x _ _ => by split <;> omega⟩
/-- What has flowed crosses each set of points that holds s and not t. -/
theorem FL.cut (h : FL N s t C r fl) {R : Nat → Bool} (hs : R s = true) (ht : R t = false) (hsN : s < N) :
    fl = sumN N (fun x => if R x = true then sumN N (fun y => if R y = true then 0 else C x y - r x y) else 0) := by
  have h1 : sumN N (fun x => if R x = true then sumN N (fun y => C x y - r x y) else 0) = fl := by
    rw [sumN_congr (g := fun x => if x = s then fl else 0) N fun x hx => ?_, sumN_one s fl N hsN]
    cases e : R x with
    | false =>
      rw [if_neg (by simp), if_neg (fun e2 => by subst e2; rw [hs] at e; cases e)]
    | true =>
      have := h.bal x hx (fun e2 => by subst e2; rw [ht] at e; cases e)
      rw [if_pos rfl, sumN_sub]
      split at this
      · rename_i e2; rw [if_pos e2]; omega
      · rename_i e2; rw [if_neg e2]; omega
  have h2 := sumN_sq (N := N) (g := fun x y => if R x = true then (if R y = true then C x y - r x y else 0) else 0) fun x y hx hy => by
    have := h.par x y hx hy
    cases e1 : R x <;> cases e2 : R y <;> simp <;> omega
  have h3 : sumN N (fun x => if R x = true then sumN N (fun y => C x y - r x y) else 0) = sumN N (fun x => sumN N (fun y => if R x = true then (if R y = true then C x y - r x y else 0) else 0)) + sumN N (fun x => if R x = true then sumN N (fun y => if R y = true then 0 else C x y - r x y) else 0) := by
    rw [← sumN_add]
    refine sumN_congr N fun x _ => ?_
    cases e : R x with
    | false => simp [sumN_zero]
    | true =>
      simp only [if_true]
      rw [← sumN_add]
      exact sumN_congr N fun y _ => by cases e2 : R y <;> simp
  omega
theorem FL.le_cut (h : FL N s t C r fl) {R : Nat → Bool} (hs : R s = true) (ht : R t = false) (hsN : s < N) :
    fl ≤ sumN N (fun x => if R x = true then sumN N (fun y => if R y = true then 0 else C x y) else 0) := by
  rw [h.cut hs ht hsN]
  refine sumN_le N fun x hx => ?_
  split
  · refine sumN_le N fun y hy => ?_
    have := h.pos x y hx hy
    split <;> omega
  · omega
/-- Where nothing leads out, the cut is what has flowed. -/
theorem FL.eq_cut (h : FL N s t C r fl) {R : Nat → Bool} (hs : R s = true) (ht : R t = false) (hsN : s < N) (hno : ∀ x y, x < N → y < N → R x = true → R y = false → r x y ≤ 0) :
    fl = sumN N (fun x => if R x = true then sumN N (fun y => if R y = true then 0 else C x y) else 0) := by
  rw [h.cut hs ht hsN]
  refine sumN_congr N fun x hx => ?_
  cases e : R x with
  | false => simp
  | true =>
    simp only [if_true]
    refine sumN_congr N fun y hy => ?_
    cases e2 : R y with
    | true => simp
    | false =>
      have := h.pos x y hx hy
      have := hno x y hx hy e e2
      simp; omega
/-- Where the cut is just what has flowed, nothing leads out. -/
theorem FL.tight (h : FL N s t C r fl) {R : Nat → Bool} (hs : R s = true) (ht : R t = false) (hsN : s < N)
    (he : sumN N (fun x => if R x = true then sumN N (fun y => if R y = true then 0 else C x y) else 0) ≤ fl) {x y : Nat} (hx : x < N) (hy : y < N) (hRx : R x = true) (hRy : R y = false) : r x y = 0 := by
  have h1 := h.cut hs ht hsN
  have h2 : sumN N (fun x => if R x = true then sumN N (fun y => if R y = true then 0 else C x y) else 0) = sumN N (fun x => if R x = true then sumN N (fun y => if R y = true then 0 else C x y - r x y) else 0) + sumN N (fun x => if R x = true then sumN N (fun y => if R y = true then 0 else r x y) else 0) := by
    rw [← sumN_add]
    refine sumN_congr N fun x _ => ?_
    cases e : R x with
    | false => simp
    | true =>
      simp only [if_true]
      rw [← sumN_add]
      exact sumN_congr N fun y _ => by cases e2 : R y <;> simp
  have hin : ∀ x, x < N → 0 ≤ sumN N (fun y => if R y = true then 0 else r x y) := fun x hx => sumN_nonneg N fun y hy => by
    have := h.pos x y hx hy
    split <;> omega
  have h3 := sumN_ge1 (f := fun x => if R x = true then sumN N (fun y => if R y = true then 0 else r x y) else 0) (i := x) N (fun x hx => by
    have := hin x hx
    show 0 ≤ if R x = true then _ else _
    split <;> omega) hx
  have h4 := sumN_ge1 (f := fun y => if R y = true then 0 else r x y) (i := y) N (fun y hy => by
    have := h.pos x y hx hy
    show 0 ≤ if R y = true then _ else _
    split <;> omega) hy
  simp only [hRx, hRy, if_true, Bool.false_eq_true, if_false] at h3 h4
  have := h.pos x y hx hy
  omega

/-! ### A way that is free, and a step along it -/
/-- p: where each point is reached from; rk falls along the way. -/
structure Tree (N s : Nat) (r : Nat → Nat → Int) (cf : Nat → Int) (rk : Nat → Nat) : Prop where
  src : cf s = s
  up : ∀ v, v < N → 0 ≤ cf v → v ≠ s → (cf v).toNat < N ∧ 0 ≤ cf (cf v).toNat ∧ rk (cf v).toNat < rk v ∧ 0 < r (cf v).toNat v
inductive Anc (s : Nat) (cf : Nat → Int) : Nat → Nat → Prop
  | refl (a : Nat) : Anc s cf a a
  | up {a v : Nat} : a ≠ s → Anc s cf (cf a).toNat v → Anc s cf a v
theorem Anc.rank {cf : Nat → Int} {rk : Nat → Nat} (ht : Tree N s r cf rk) {a v : Nat} (h : Anc s cf a v) : a < N → 0 ≤ cf a → v < N ∧ 0 ≤ cf v ∧ rk v ≤ rk a := by
  induction h with
  | refl a => exact fun h1 h2 => ⟨h1, h2, Nat.le_refl _⟩
  | up hne _ ih =>
    intro h1 h2
    obtain ⟨q1, q2, q3, q4⟩ := ht.up _ h1 h2 hne
    obtain ⟨q5, q6, q7⟩ := ih q1 q2
    exact ⟨q5, q6, by omega⟩
theorem Anc.s_only {cf : Nat → Int} {a v : Nat} (h : Anc s cf a v) (ha : a = s) : v = s := by
  cases h with
  | refl => exact ha
  | up hne _ => exact absurd ha hne
theorem Anc.snoc {cf : Nat → Int} {a v : Nat} (h : Anc s cf a v) (hv : v ≠ s) : Anc s cf a (cf v).toNat := by
  induction h with
  | refl a => exact .up hv (.refl _)
  | up hne _ ih => exact .up hne (ih hv)
/-- F more has come to point a from t on. -/
structure FA (N s t : Nat) (C : Nat → Nat → Int) (cf : Nat → Int) (F : Int) (r : Nat → Nat → Int) (fl : Int) (a : Nat) : Prop where
  pos : ∀ x y, x < N → y < N → 0 ≤ r x y
  par : ∀ x y, x < N → y < N → r x y + r y x = C x y + C y x
  bal : ∀ x, x < N → x ≠ t → sumN N (r x) + (if x = s then fl else 0) + (if x = a then F else 0) = sumN N (C x)
  way : ∀ v, Anc s cf a v → v ≠ s → F ≤ r (cf v).toNat v
theorem FL.begin (h : FL N s t C r fl) {cf : Nat → Int} {F : Int} (hw : ∀ v, Anc s cf t v → v ≠ s → F ≤ r (cf v).toNat v) : FA N s t C cf F r fl t :=
  ⟨h.pos, h.par, fun x hx hne => by rw [if_neg hne (α := Int), Int.add_zero]; exact h.bal x hx hne, hw⟩
theorem FA.end_ {cf : Nat → Int} {F : Int} (h : FA N s t C cf F r fl s) : FL N s t C r (fl + F) :=
  ⟨h.pos, h.par, fun x hx hne => by
    have := h.bal x hx hne
    split at this <;> rename_i e
    · rw [if_pos e]; omega
    · rw [if_neg e]; omega⟩
theorem FA.step {cf : Nat → Int} {rk : Nat → Nat} {F : Int} {r0 : Nat → Nat → Int} (htr : Tree N s r0 cf rk) {a : Nat} (hf : FA N s t C cf F r fl a) (hF : 0 ≤ F) (ha : a < N) (ha0 : 0 ≤ cf a) (hne : a ≠ s) {p : Nat} (hp : (cf a).toNat = p) :
    FA N s t C cf F (fun x y => if x = a ∧ y = p then r a p + F else if x = p ∧ y = a then r p a - F else r x y) fl p := by
  obtain ⟨q1, q2, q3, q4⟩ := htr.up a ha ha0 hne
  rw [hp] at q1 q2 q3
  have hpa : p ≠ a := fun e => by rw [e] at q3; omega
  have hw := hf.way a (.refl a) hne
  rw [hp] at hw
  refine ⟨fun x y hx hy => ?_, fun x y hx hy => ?_, fun x hx hxt => ?_, fun v hv hvs => ?_⟩
  · have := hf.pos x y hx hy
    have := hf.pos a p ha q1
    try dsimp only
    split
    · omega
    · split <;> omega
  · have := hf.par x y hx hy
    have := hf.par a p ha q1
    try dsimp only
    by_cases e1 : x = a ∧ y = p
    · obtain ⟨rfl, rfl⟩ := e1
      rw [if_pos ⟨rfl, rfl⟩, if_neg (fun e => hpa e.1), if_pos ⟨rfl, rfl⟩]; omega
    · rw [if_neg e1]
      by_cases e2 : x = p ∧ y = a
      · obtain ⟨rfl, rfl⟩ := e2
        rw [if_pos ⟨rfl, rfl⟩, if_pos ⟨rfl, rfl⟩]; omega
      · rw [if_neg e2, if_neg (fun e => e2 ⟨e.2, e.1⟩), if_neg (fun e => e1 ⟨e.2, e.1⟩)]; omega
  · have hb := hf.bal x hx hxt
    by_cases e1 : x = a
    · subst e1
      have e3 : sumN N (fun y => if x = x ∧ y = p then r x p + F else if x = p ∧ y = x then r p x - F else r x y) = sumN N (r x) - r x p + (r x p + F) := by
        rw [← sumN_set (r x) (r x p + F) q1]
        refine sumN_congr N fun y _ => ?_
        by_cases e : y = p
        · rw [if_pos ⟨rfl, e⟩, if_pos e]
        · rw [if_neg (fun h => e h.2), if_neg e, if_neg (fun h => hpa h.1.symm)]
      rw [e3, if_neg (show ¬ x = p from fun e => hpa e.symm)]
      rw [if_pos (show x = x from rfl)] at hb
      omega
    · rw [if_neg e1] at hb
      by_cases e2 : x = p
      · subst e2
        have e3 : sumN N (fun y => if x = a ∧ y = x then r a x + F else if x = x ∧ y = a then r x a - F else r x y) = sumN N (r x) - r x a + (r x a - F) := by
          rw [← sumN_set (r x) (r x a - F) ha]
          refine sumN_congr N fun y _ => ?_
          rw [if_neg (fun h => e1 h.1)]
          by_cases e : y = a
          · rw [if_pos ⟨rfl, e⟩, if_pos e]
          · rw [if_neg (fun h => e h.2), if_neg e]
        rw [e3, if_pos (show x = x from rfl)]
        omega
      · have e3 : sumN N (fun y => if x = a ∧ y = p then r a p + F else if x = p ∧ y = a then r p a - F else r x y) = sumN N (r x) := sumN_congr N fun y _ => by
          rw [if_neg (fun h => e1 h.1), if_neg (fun h => e2 h.1)]
        rw [e3, if_neg e2]
        omega
  · obtain ⟨k1, k2, k3⟩ := hv.rank htr q1 q2
    obtain ⟨m1, m2, m3, m4⟩ := htr.up v k1 k2 hvs
    have h1 := hf.way v (.up hne (by rw [hp]; exact hv)) hvs
    try dsimp only
    rw [if_neg (fun e => by rw [e.1] at m3; omega), if_neg (fun e => by rw [e.2] at k3; omega)]
    exact h1
end
end Go.Proofs.Ytekngpinldiodaa
