/- Chambers joined by sills, in plain words: parts by giving the lesser number, and what they tell. No program in sight. -/
import Derived.WalkKit
namespace Go.Proofs.YtahbfifnpceoeaaDoor
open Go.RowKit

inductive Cn (E : Nat → Nat → Prop) : Nat → Nat → Prop
  | refl (a : Nat) : Cn E a a
  | snoc {a c b : Nat} : Cn E a c → (E c b ∨ E b c) → Cn E a b
theorem Cn.trans {E : Nat → Nat → Prop} {a b c : Nat} (h : Cn E a b) (k : Cn E b c) : Cn E a c := by
  induction k with
  | refl => exact h
  | snoc _ e ih => exact .snoc ih e
theorem Cn.one {E : Nat → Nat → Prop} {a b : Nat} (h : E a b) : Cn E a b := .snoc (.refl a) (.inl h)
theorem Cn.symm {E : Nat → Nat → Prop} {a b : Nat} (h : Cn E a b) : Cn E b a := by
  induction h with
  | refl => exact .refl _
  | snoc _ e ih => exact Cn.trans (.snoc (.refl _) e.symm) ih
theorem Cn.mono {E F : Nat → Nat → Prop} (hEF : ∀ x y, E x y → Cn F x y) {a b : Nat} (h : Cn E a b) : Cn F a b := by
  induction h with
  | refl => exact .refl _
  | snoc _ e ih => exact e.elim (fun e => ih.trans (hEF _ _ e)) (fun e => ih.trans (hEF _ _ e).symm)

/-- The part with the greater number takes the lesser one. -/
def relab (p : Nat → Nat) (a b v : Nat) : Nat := if p v = max (p a) (p b) then min (p a) (p b) else p v
theorem relab_same {p : Nat → Nat} {a b : Nat} (h : p a = p b) : relab p a b = p := by
  funext v
  unfold relab
  split <;> omega

/-- p tells the parts that E joins: the least member of each. -/
structure PartOf (n : Nat) (p : Nat → Nat) (E : Nat → Nat → Prop) : Prop where
  iff : ∀ x y, x < n → y < n → (p x = p y ↔ Cn E x y)
  le : ∀ x, x < n → p x ≤ x
  idem : ∀ x, x < n → p (p x) = p x
  inn : ∀ x y, E x y → x < n ∧ y < n

theorem PartOf.start (n : Nat) : PartOf n (fun v => v) (fun _ _ => False) :=
  ⟨fun x y _ _ => ⟨fun h => h ▸ .refl _, fun h => by
    induction h with
    | refl => rfl
    | snoc _ e _ => exact e.elim False.elim False.elim⟩, fun _ _ => Nat.le_refl _, fun _ _ => rfl, fun _ _ h => h.elim⟩
theorem PartOf.step {n : Nat} {p : Nat → Nat} {E : Nat → Nat → Prop} (h : PartOf n p E) {a b : Nat} (ha : a < n) (hb : b < n) : PartOf n (relab p a b) (fun x y => E x y ∨ (x = a ∧ y = b)) := by
  have hmono : ∀ {x y}, Cn E x y → Cn (fun x y => E x y ∨ (x = a ∧ y = b)) x y := fun k => k.mono fun _ _ e => .one (.inl e)
  have hab : Cn (fun x y => E x y ∨ (x = a ∧ y = b)) a b := .one (.inr ⟨rfl, rfl⟩)
  have heq : ∀ x y, x < n → y < n → (relab p a b x = relab p a b y ↔ p x = p y ∨ ((p x = p a ∨ p x = p b) ∧ (p y = p a ∨ p y = p b))) := fun x y _ _ => by
    unfold relab
    split <;> split <;> omega
  have hinn : ∀ x y, E x y ∨ (x = a ∧ y = b) → x < n ∧ y < n := fun x y e => by
    rcases e with e | ⟨rfl, rfl⟩
    · exact h.inn x y e
    · exact ⟨ha, hb⟩
  refine ⟨fun x y hx hy => ⟨fun e => ?_, fun e => ?_⟩, fun x hx => ?_, fun x hx => ?_, hinn⟩
  · rcases (heq x y hx hy).1 e with e | ⟨e1 | e1, e2 | e2⟩
    · exact hmono ((h.iff x y hx hy).1 e)
    · exact hmono ((h.iff x y hx hy).1 (by omega))
    · exact ((hmono ((h.iff x a hx ha).1 e1)).trans hab).trans (hmono ((h.iff y b hy hb).1 e2)).symm
    · exact ((hmono ((h.iff x b hx hb).1 e1)).trans hab.symm).trans (hmono ((h.iff y a hy ha).1 e2)).symm
    · exact hmono ((h.iff x y hx hy).1 (by omega))
  · have hy' : x < n → ∀ y, Cn (fun x y => E x y ∨ (x = a ∧ y = b)) x y → y < n ∧ relab p a b x = relab p a b y := fun hx y k => by
      induction k with
      | refl => exact ⟨hx, rfl⟩
      | @snoc c d k e ih =>
        have hc := ih.1
        have hd : d < n := e.elim (fun e => (hinn _ _ e).2) (fun e => (hinn _ _ e).1)
        refine ⟨hd, ih.2.trans ((heq c d hc hd).2 ?_)⟩
        rcases e with (e | ⟨rfl, rfl⟩) | (e | ⟨rfl, rfl⟩)
        · exact .inl ((h.iff _ _ hc hd).2 (.one e))
        · exact .inr ⟨.inl rfl, .inr rfl⟩
        · exact .inl ((h.iff _ _ hc hd).2 (Cn.one e).symm)
        · exact .inr ⟨.inr rfl, .inl rfl⟩
    exact (hy' hx y e).2
  · have := h.le x hx
    unfold relab
    split <;> omega
  · have i1 := h.idem x hx
    have i2 := h.idem a ha
    have i3 := h.idem b hb
    have e1 : p (min (p a) (p b)) = min (p a) (p b) := by
      by_cases e : p a ≤ p b
      · rw [show min (p a) (p b) = p a by omega]; exact i2
      · rw [show min (p a) (p b) = p b by omega]; exact i3
    by_cases e : p x = max (p a) (p b)
    · have : relab p a b x = min (p a) (p b) := if_pos e
      rw [this]
      unfold relab
      rw [e1]
      split <;> omega
    · have : relab p a b x = p x := if_neg e
      rw [this]
      unfold relab
      rw [i1, if_neg e]
theorem PartOf.lt {n : Nat} {p : Nat → Nat} {E : Nat → Nat → Prop} (h : PartOf n p E) {x : Nat} (hx : x < n) : p x < n := by
  have := h.le x hx; omega
theorem PartOf.congr {n : Nat} {p : Nat → Nat} {E F : Nat → Nat → Prop} (h : PartOf n p E) (hEF : ∀ x y, E x y ↔ F x y) : PartOf n p F := by
  obtain rfl : E = F := funext fun x => funext fun y => propext (hEF x y)
  exact h
/-- The numbers tell the parts alone. -/
theorem PartOf.uniq {n : Nat} {p q : Nat → Nat} {E F : Nat → Nat → Prop} (h : PartOf n p E) (k : PartOf n q F) (hEF : ∀ x y, x < n → y < n → (Cn E x y ↔ Cn F x y)) {x : Nat} (hx : x < n) : p x = q x := by
  have h1 := h.lt hx
  have h2 := k.lt hx
  have a1 : Cn E x (p x) := (h.iff x (p x) hx h1).1 (h.idem x hx).symm
  have a2 : Cn F x (q x) := (k.iff x (q x) hx h2).1 (k.idem x hx).symm
  have b1 := (k.iff x (p x) hx h1).2 ((hEF _ _ hx h1).1 a1)
  have b2 := (h.iff x (q x) hx h2).2 ((hEF _ _ hx h2).2 a2)
  have c1 := k.le (p x) h1
  have c2 := h.le (q x) h2
  omega

/-! ### Sills by number, in a list -/
section
variable (a b : Nat → Nat)
def partL (l : List Nat) : Nat → Nat := l.foldl (fun p k => relab p (a k) (b k)) (fun v => v)
def EL (l : List Nat) (x y : Nat) : Prop := ∃ k, k ∈ l ∧ a k = x ∧ b k = y
theorem partL_nil : partL a b [] = fun v => v := rfl
theorem partL_snoc (l : List Nat) (k : Nat) : partL a b (l ++ [k]) = relab (partL a b l) (a k) (b k) := by
  unfold partL; rw [List.foldl_append]; rfl
theorem foldl_part {n : Nat} : ∀ (l : List Nat) (p : Nat → Nat) (E : Nat → Nat → Prop), PartOf n p E → (∀ k, k ∈ l → a k < n ∧ b k < n) → PartOf n (l.foldl (fun p k => relab p (a k) (b k)) p) (fun x y => E x y ∨ EL a b l x y)
  | [], p, E, h, _ => h.congr fun x y => ⟨.inl, fun h => h.elim id (fun ⟨k, hk, _⟩ => by cases hk)⟩
  | k :: l, p, E, h, hl => by
    have h1 := foldl_part l _ _ (h.step (hl k (by simp)).1 (hl k (by simp)).2) (fun j hj => hl j (by simp [hj]))
    refine PartOf.congr h1 fun x y => ⟨fun h => ?_, fun h => ?_⟩
    · rcases h with (h | ⟨rfl, rfl⟩) | ⟨j, hj, e⟩
      · exact .inl h
      · exact .inr ⟨k, by simp, rfl, rfl⟩
      · exact .inr ⟨j, by simp [hj], e⟩
    · rcases h with h | ⟨j, hj, e1, e2⟩
      · exact .inl (.inl h)
      · rcases List.mem_cons.1 hj with rfl | hj
        · exact .inl (.inr ⟨e1.symm, e2.symm⟩)
        · exact .inr ⟨j, hj, e1, e2⟩
theorem partL_of {n : Nat} (l : List Nat) (hl : ∀ k, k ∈ l → a k < n ∧ b k < n) : PartOf n (partL a b l) (EL a b l) :=
  (foldl_part a b l _ _ (PartOf.start n) hl).congr fun _ _ => ⟨fun h => h.elim False.elim id, .inr⟩
/-- What is joined by two lists with the same members is the same. -/
theorem cn_el_mono {l m : List Nat} (h : ∀ k, k ∈ l → k ∈ m) {x y : Nat} (k : Cn (EL a b l) x y) : Cn (EL a b m) x y :=
  k.mono fun _ _ ⟨j, hj, e⟩ => .one ⟨j, h j hj, e⟩

/-- The sills of the first k that are not higher than L. -/
def useL (h : Nat → Int) (L : Int) : Nat → List Nat
  | 0 => []
  | k + 1 => if h k ≤ L then useL h L k ++ [k] else useL h L k
theorem mem_useL (h : Nat → Int) (L : Int) (j : Nat) : ∀ k, j ∈ useL h L k ↔ j < k ∧ h j ≤ L
  | 0 => by simp [useL]
  | k + 1 => by
    have ih := mem_useL h L j k
    unfold useL
    split <;> rename_i e
    · rw [List.mem_append, ih, List.mem_singleton]
      refine ⟨fun h => ?_, fun h => ?_⟩
      · rcases h with h | rfl
        · exact ⟨by omega, h.2⟩
        · exact ⟨by omega, e⟩
      · by_cases e2 : j = k
        · exact .inr e2
        · exact .inl ⟨by omega, h.2⟩
    · rw [ih]
      refine ⟨fun h => ⟨by omega, h.2⟩, fun h => ⟨?_, h.2⟩⟩
      by_cases e2 : j = k
      · subst e2; exact absurd h.2 e
      · omega
theorem len_useL (h : Nat → Int) (L : Int) : ∀ k, (useL h L k).length ≤ k
  | 0 => Nat.le_refl _
  | k + 1 => by
    have ih := len_useL h L k
    unfold useL
    split
    · simp; omega
    · omega
end
end Go.Proofs.YtahbfifnpceoeaaDoor
