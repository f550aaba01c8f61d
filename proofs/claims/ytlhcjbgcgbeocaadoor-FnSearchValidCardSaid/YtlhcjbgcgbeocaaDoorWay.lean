/- Ways over passages, the least of them, and the two ways to find it, in plain words: rounds over all passages (BF), a table over inner places (FW). -/
import Derived.Test.YtlhcjbgcgbeocaaDoorSrch1
namespace Go.Proofs.YtlhcjbgcgbeocaaDoor
open Go.RowKit

/-- A passage between two places. -/
def Edge (D : SrchD) (a b : Nat) (t : Int) : Prop := ∃ j, j < D.m ∧ D.t j = t ∧ ((D.a j = (a : Int) ∧ D.b j = (b : Int)) ∨ (D.a j = (b : Int) ∧ D.b j = (a : Int)))
inductive Way (D : SrchD) : Nat → Nat → Int → Prop
  | refl (a : Nat) : Way D a a 0
  | snoc {a c b : Nat} {d t : Int} : Way D a c d → Edge D c b t → Way D a b (d + t)
inductive WayN (D : SrchD) : Nat → Nat → Nat → Int → Prop
  | refl (n a : Nat) : WayN D n a a 0
  | snoc {n a c b : Nat} {d t : Int} : WayN D n a c d → Edge D c b t → WayN D (n + 1) a b (d + t)
inductive SP (D : SrchD) : List Nat → Nat → Nat → Int → Prop
  | one (a : Nat) : SP D [a] a a 0
  | snoc {l : List Nat} {a c b : Nat} {d t : Int} : SP D l a c d → Edge D c b t → b ∉ l → SP D (b :: l) a b (d + t)
/-- The least number of minutes; -1: no way. -/
def Dist (D : SrchD) (a b : Nat) (r : Int) : Prop := (r = -1 ∧ ∀ d, ¬ Way D a b d) ∨ (0 ≤ r ∧ Way D a b r ∧ ∀ d, Way D a b d → r ≤ d)

theorem Dist.uniq {D : SrchD} {a b : Nat} {r q : Int} (h : Dist D a b r) (k : Dist D a b q) : r = q := by
  rcases h with ⟨h1, h2⟩ | ⟨h1, h2, h3⟩ <;> rcases k with ⟨k1, k2⟩ | ⟨k1, k2, k3⟩
  · omega
  · exact absurd k2 (h2 _)
  · exact absurd h2 (k2 _)
  · have := h3 _ k2; have := k3 _ h2; omega
theorem Dist.lo {D : SrchD} {a b : Nat} {r : Int} (h : Dist D a b r) : -1 ≤ r := by
  rcases h with ⟨h1, _⟩ | ⟨h1, _, _⟩ <;> omega

section
variable {D : SrchD} (hok : SrchOk D)
include hok

theorem edge_ok {a b : Nat} {t : Int} (h : Edge D a b t) : a < D.k ∧ b < D.k ∧ 1 ≤ t ∧ t ≤ 20 := by
  obtain ⟨j, hj, rfl, h⟩ := h
  obtain ⟨⟨h1, h2⟩, ⟨h3, h4⟩, h5, h6, h7⟩ := hok.2.2.2 j hj
  have := hok.2.2.1
  omega
omit hok in
theorem edge_sym {a b : Nat} {t : Int} (h : Edge D a b t) : Edge D b a t := by
  obtain ⟨j, hj, ht, h⟩ := h
  exact ⟨j, hj, ht, h.symm⟩
theorem way_nonneg {a b : Nat} {d : Int} (h : Way D a b d) : 0 ≤ d := by
  induction h with
  | refl => omega
  | snoc _ e ih => have := edge_ok hok e; omega
omit hok in
theorem wayN_way {n a b : Nat} {d : Int} (h : WayN D n a b d) : Way D a b d := by
  induction h with
  | refl => exact .refl _
  | snoc _ e ih => exact .snoc ih e
omit hok in
theorem wayN_up {n a b : Nat} {d : Int} (h : WayN D n a b d) : WayN D (n + 1) a b d := by
  induction h with
  | refl => exact .refl _ _
  | snoc _ e ih => exact .snoc ih e
omit hok in
theorem wayN_mono {n m a b : Nat} {d : Int} (h : WayN D n a b d) (hm : n ≤ m) : WayN D m a b d := by
  induction hm with
  | refl => exact h
  | step _ ih => exact wayN_up ih
theorem sp_nonneg {l : List Nat} {a b : Nat} {d : Int} (h : SP D l a b d) : 0 ≤ d := by
  induction h with
  | one => omega
  | snoc _ e _ ih => have := edge_ok hok e; omega
theorem sp_prefix {l : List Nat} {a c : Nat} {d : Int} (h : SP D l a c d) {b : Nat} (hb : b ∈ l) : ∃ l' d', SP D l' a b d' ∧ d' ≤ d := by
  induction h with
  | one a =>
    obtain rfl : b = a := by simpa using hb
    exact ⟨_, _, .one _, by omega⟩
  | @snoc l a c b' d t hs e hn ih =>
    have ht := edge_ok hok e
    rcases List.mem_cons.1 hb with rfl | hb
    · exact ⟨_, _, .snoc hs e hn, by omega⟩
    · obtain ⟨l', d', h1, h2⟩ := ih hb
      exact ⟨l', d', h1, by omega⟩
theorem way_sp {a b : Nat} {d : Int} (h : Way D a b d) : ∃ l d', SP D l a b d' ∧ d' ≤ d := by
  induction h with
  | refl => exact ⟨_, _, .one _, by omega⟩
  | @snoc c b d t _ e ih =>
    obtain ⟨l, d', h1, h2⟩ := ih
    have ht := edge_ok hok e
    by_cases hb : b ∈ l
    · obtain ⟨l', d'', h3, h4⟩ := sp_prefix hok h1 hb
      exact ⟨l', d'', h3, by omega⟩
    · exact ⟨_, _, .snoc h1 e hb, by omega⟩
theorem sp_facts {l : List Nat} {a b : Nat} {d : Int} (h : SP D l a b d) (ha : a < D.k) : l.Nodup ∧ (∀ x ∈ l, x < D.k) ∧ WayN D (l.length - 1) a b d ∧ 0 < l.length := by
  induction h with
  | one a => exact ⟨by simp, by simpa using ha, .refl _ _, by simp⟩
  | @snoc l a c b d t hs e hn ih =>
    obtain ⟨h1, h2, h3, h4⟩ := ih ha
    refine ⟨List.nodup_cons.2 ⟨hn, h1⟩, fun x hx => ?_, ?_, by simp⟩
    · rcases List.mem_cons.1 hx with rfl | hx
      · exact (edge_ok hok e).2.1
      · exact h2 x hx
    · have := WayN.snoc h3 e
      rwa [show l.length - 1 + 1 = (b :: l).length - 1 by simp; omega] at this
omit hok in
theorem nodup_len (n : Nat) : ∀ l : List Nat, l.Nodup → (∀ x ∈ l, x < n) → l.length ≤ n := by
  induction n with
  | zero =>
    intro l _ h
    cases l with
    | nil => simp
    | cons x _ => exact absurd (h x (by simp)) (by omega)
  | succ n ih =>
    intro l hn h
    by_cases hm : n ∈ l
    · have h1 := ih (l.erase n) (hn.erase _) (fun x hx => by
        have h2 := h x (List.mem_of_mem_erase hx)
        have h3 : x ≠ n := fun e => hn.not_mem_erase (e ▸ hx)
        omega)
      rw [List.length_erase_of_mem hm] at h1
      omega
    · have := ih l hn (fun x hx => by
        have h2 := h x hx
        have h3 : x ≠ n := fun e => hm (e ▸ hx)
        omega)
      omega
/-- No way needs more steps than there are places. -/
theorem way_short {a b : Nat} {d : Int} (h : Way D a b d) (ha : a < D.k) : ∃ d', d' ≤ d ∧ WayN D D.k a b d' := by
  obtain ⟨l, d', h1, h2⟩ := way_sp hok h
  obtain ⟨h3, h4, h5, _⟩ := sp_facts hok h1 ha
  have := nodup_len _ _ h3 h4
  exact ⟨d', h2, wayN_mono h5 (by omega)⟩

/-! ### Rounds over all passages -/
/-- Where passage e/2 begins and ends, forth (e even) and back. -/
def src (D : SrchD) (e : Nat) : Nat := (if e % 2 = 0 then D.a (e / 2) else D.b (e / 2)).toNat
def dst (D : SrchD) (e : Nat) : Nat := (if e % 2 = 0 then D.b (e / 2) else D.a (e / 2)).toNat
structure BF (D : SrchD) (from_ n e : Nat) (far : Nat → Int) : Prop where
  lo : ∀ v, -1 ≤ far v
  sound : ∀ v, v < D.k → 0 ≤ far v → Way D from_ v (far v)
  all : ∀ v d, v < D.k → WayN D n from_ v d → 0 ≤ far v ∧ far v ≤ d
  part : ∀ i d, i < e → WayN D n from_ (src D i) d → 0 ≤ far (dst D i) ∧ far (dst D i) ≤ d + D.t (i / 2)
  hi : ∀ v, far v ≤ 20 * (n * 20 + e)

theorem ends_ok {e : Nat} (he : e / 2 < D.m) : src D e < D.k ∧ dst D e < D.k ∧ 1 ≤ D.t (e / 2) ∧ D.t (e / 2) ≤ 20 := by
  obtain ⟨⟨h1, h2⟩, ⟨h3, h4⟩, h5, h6, h7⟩ := hok.2.2.2 _ he
  have := hok.2.2.1
  unfold src dst
  split <;> omega
theorem ends_edge {e : Nat} (he : e / 2 < D.m) : Edge D (src D e) (dst D e) (D.t (e / 2)) := by
  obtain ⟨⟨h1, h2⟩, ⟨h3, h4⟩, h5, h6, h7⟩ := hok.2.2.2 _ he
  refine ⟨e / 2, he, rfl, ?_⟩
  unfold src dst
  split <;> omega

omit hok in
theorem BF.start {from_ : Nat} (_ : from_ < D.k) : BF D from_ 0 0 (fun v => if v = from_ then 0 else -1) where
  lo v := by split <;> omega
  sound v _ h := by
    by_cases e : v = from_
    · subst e; simp only [if_true] at h ⊢; exact .refl _
    · simp only [if_neg e] at h; omega
  all v d _ h := by
    cases h with
    | refl => simp
  part i d hi := absurd hi (by omega)
  hi v := by split <;> omega
/-- The passage does not make the way shorter. -/
theorem BF.keep {from_ n e : Nat} {far : Nat → Int} (h : BF D from_ n e far) (he : e / 2 < D.m) (hk : ¬ (0 ≤ far (src D e) ∧ (far (dst D e) < 0 ∨ far (src D e) + D.t (e / 2) < far (dst D e)))) :
    BF D from_ n (e + 1) far := by
  obtain ⟨h1, h2, h3, h4⟩ := ends_ok hok he
  refine ⟨h.lo, h.sound, h.all, fun i d hi hw => ?_, fun v => by have := h.hi v; omega⟩
  by_cases hie : i = e
  · subst hie
    have := h.all _ _ h1 hw
    omega
  · exact h.part i d (by omega) hw
theorem BF.set {from_ n e : Nat} {far : Nat → Int} (h : BF D from_ n e far) (he : e / 2 < D.m) (h0 : 0 ≤ far (src D e)) (hk : far (dst D e) < 0 ∨ far (src D e) + D.t (e / 2) < far (dst D e)) :
    BF D from_ n (e + 1) (fun v => if v = dst D e then far (src D e) + D.t (e / 2) else far v) := by
  obtain ⟨h1, h2, h3, h4⟩ := ends_ok hok he
  have hd : ∀ v d, 0 ≤ far v ∧ far v ≤ d → 0 ≤ (if v = dst D e then far (src D e) + D.t (e / 2) else far v) ∧ (if v = dst D e then far (src D e) + D.t (e / 2) else far v) ≤ d := fun v d hv => by
    by_cases e1 : v = dst D e
    · subst e1; rw [if_pos rfl]; omega
    · rw [if_neg e1]; exact hv
  refine ⟨fun v => ?_, fun v hv hp => ?_, fun v d hv hw => hd _ _ (h.all v d hv hw), fun i d hi hw => ?_, fun v => ?_⟩
  · try dsimp only
    have := h.lo v
    split <;> omega
  · by_cases e1 : v = dst D e
    · subst e1
      simp only [if_true]
      exact .snoc (h.sound _ h1 h0) (ends_edge hok he)
    · simp only [if_neg e1] at hp ⊢
      exact h.sound v hv hp
  · by_cases hie : i = e
    · subst hie
      have := h.all _ _ h1 hw
      try dsimp only
      rw [if_pos rfl]
      omega
    · exact hd _ _ (h.part i d (by omega) hw)
  · try dsimp only
    have := h.hi v
    have := h.hi (src D e)
    split <;> omega
theorem BF.next {from_ n : Nat} {far : Nat → Int} (h : BF D from_ n (2 * D.m) far) : BF D from_ (n + 1) 0 far := by
  have hm := hok.2.1
  refine ⟨h.lo, h.sound, fun v d hv hw => ?_, fun i d hi => absurd hi (by omega), fun v => by have := h.hi v; omega⟩
  cases hw with
  | refl => exact h.all _ _ hv (.refl _ _)
  | @snoc _ _ c _ d t hw e =>
    obtain ⟨j, hj, rfl, hab⟩ := e
    obtain ⟨⟨h1, h2⟩, ⟨h3, h4⟩, h5, h6, h7⟩ := hok.2.2.2 _ hj
    rcases hab with ⟨ea, eb⟩ | ⟨ea, eb⟩
    · have hs : src D (2 * j) = c := by unfold src; rw [if_pos (by omega), show 2 * j / 2 = j by omega]; omega
      have ht : dst D (2 * j) = v := by unfold dst; rw [if_pos (by omega), show 2 * j / 2 = j by omega]; omega
      have := h.part (2 * j) d (by omega) (hs.symm ▸ hw)
      rwa [ht, show 2 * j / 2 = j by omega] at this
    · have hs : src D (2 * j + 1) = c := by unfold src; rw [if_neg (by omega), show (2 * j + 1) / 2 = j by omega]; omega
      have ht : dst D (2 * j + 1) = v := by unfold dst; rw [if_neg (by omega), show (2 * j + 1) / 2 = j by omega]; omega
      have := h.part (2 * j + 1) d (by omega) (hs.symm ▸ hw)
      rwa [ht, show (2 * j + 1) / 2 = j by omega] at this
theorem BF.dist {from_ : Nat} (hf : from_ < D.k) {far : Nat → Int} (h : BF D from_ D.k 0 far) {v : Nat} (hv : v < D.k) : Dist D from_ v (far v) := by
  have hlo := h.lo v
  by_cases h0 : 0 ≤ far v
  · right
    refine ⟨h0, h.sound v hv h0, fun d hw => ?_⟩
    obtain ⟨d', h1, h2⟩ := way_short hok hw hf
    have := h.all v d' hv h2
    omega
  · left
    refine ⟨by omega, fun d hw => ?_⟩
    obtain ⟨d', h1, h2⟩ := way_short hok hw hf
    have := h.all v d' hv h2
    omega

/-! ### A table over inner places -/
inductive Via (D : SrchD) : Nat → Nat → Nat → Int → Prop
  | refl (k a : Nat) : Via D k a a 0
  | edge {k a b : Nat} {t : Int} : Edge D a b t → Via D k a b t
  | snoc {k a c b : Nat} {d t : Int} : Via D k a c d → c < k → Edge D c b t → Via D k a b (d + t)
theorem via_nonneg {k a b : Nat} {d : Int} (h : Via D k a b d) : 0 ≤ d := by
  induction h with
  | refl => omega
  | edge e => have := edge_ok hok e; omega
  | snoc _ _ e ih => have := edge_ok hok e; omega
theorem via_split {k a b : Nat} {d : Int} (h : Via D (k + 1) a b d) : (∃ d', Via D k a b d' ∧ d' ≤ d) ∨ ∃ d1 d2, Via D k a k d1 ∧ Via D k k b d2 ∧ d1 + d2 ≤ d := by
  induction h with
  | refl => exact .inl ⟨_, .refl _ _, Int.le_refl _⟩
  | edge e => exact .inl ⟨_, .edge e, Int.le_refl _⟩
  | @snoc c b d t _ hc e ih =>
    have ht := edge_ok hok e
    rcases ih with ⟨d', h1, h2⟩ | ⟨d1, d2, h1, h2, h3⟩
    · by_cases hck : c = k
      · subst hck; exact .inr ⟨d', t, h1, .edge e, by omega⟩
      · exact .inl ⟨_, .snoc h1 (by omega) e, by omega⟩
    · by_cases hck : c = k
      · subst hck; exact .inr ⟨d1, t, h1, .edge e, by have := via_nonneg hok h2; omega⟩
      · exact .inr ⟨d1, _, h1, .snoc h2 (by omega) e, by omega⟩
theorem way_via {a b : Nat} {d : Int} (h : Way D a b d) : Via D D.k a b d := by
  induction h with
  | refl => exact .refl _ _
  | snoc _ e ih => exact .snoc ih (edge_ok hok e).1 e

omit hok in
theorem way_trans {a b c : Nat} {d e : Int} (h : Way D a b d) (k : Way D b c e) : Way D a c (d + e) := by
  induction k with
  | refl => simpa using h
  | snoc _ x ih => rw [← Int.add_assoc]; exact .snoc ih x

/-- Before entry a, b in the round over place k. -/
structure FW (D : SrchD) (k a b : Nat) (T : Nat → Nat → Int) : Prop where
  lo : ∀ x y, -1 ≤ T x y
  sound : ∀ x y, x < D.k → y < D.k → 0 ≤ T x y → Way D x y (T x y)
  all : ∀ x y d, x < D.k → y < D.k → Via D k x y d → 0 ≤ T x y ∧ T x y ≤ d
  done : ∀ x y d e, x < D.k → y < D.k → (x < a ∨ (x = a ∧ y < b)) → Via D k x k d → Via D k k y e → 0 ≤ T x y ∧ T x y ≤ d + e
  hi : ∀ x y, x < D.k → y < D.k → T x y ≤ 20 * 2 ^ (k + 1)
  mid : ∀ x, x < D.k → T x k ≤ 20 * 2 ^ k ∧ T k x ≤ 20 * 2 ^ k

omit hok in
theorem FW.diag {k a b : Nat} {T : Nat → Nat → Int} (h : FW D k a b T) {x : Nat} (hx : x < D.k) : T x x = 0 := by
  have := h.all x x 0 hx hx (.refl _ _)
  omega
omit hok in
theorem FW.keep {k a b : Nat} {T : Nat → Nat → Int} (h : FW D k a b T) (hk : k < D.k) (ha : a < D.k) (hb : b < D.k) (hc : T a k < 0 ∨ T k b < 0 ∨ ¬ (T a b < 0 ∨ T a k + T k b < T a b)) : FW D k a (b + 1) T := by
  refine ⟨h.lo, h.sound, h.all, fun x y d e hx hy hxy h1 h2 => ?_, h.hi, h.mid⟩
  by_cases hn : x = a ∧ y = b
  · obtain ⟨rfl, rfl⟩ := hn
    have q1 := h.all _ _ _ hx hk h1
    have q2 := h.all _ _ _ hk hy h2
    omega
  · exact h.done x y d e hx hy (by omega) h1 h2
omit hok in
theorem FW.set {k a b : Nat} {T : Nat → Nat → Int} (h : FW D k a b T) (hk : k < D.k) (ha : a < D.k) (hb : b < D.k) (h1 : 0 ≤ T a k) (h2 : 0 ≤ T k b) (hc : T a b < 0 ∨ T a k + T k b < T a b) :
    FW D k a (b + 1) (fun x y => if x = a ∧ y = b then T a k + T k b else T x y) := by
  have hak : a ≠ k := fun e => by subst e; have := h.diag ha; omega
  have hbk : b ≠ k := fun e => by subst e; have := h.diag hb; omega
  have hd : ∀ x y d, 0 ≤ T x y ∧ T x y ≤ d → 0 ≤ (if x = a ∧ y = b then T a k + T k b else T x y) ∧ (if x = a ∧ y = b then T a k + T k b else T x y) ≤ d := fun x y d hv => by
    by_cases e1 : x = a ∧ y = b
    · obtain ⟨rfl, rfl⟩ := e1; rw [if_pos ⟨rfl, rfl⟩]; omega
    · rw [if_neg e1]; exact hv
  refine ⟨fun x y => ?_, fun x y hx hy hp => ?_, fun x y d hx hy hv => hd _ _ _ (h.all x y d hx hy hv), fun x y d e hx hy hxy q1 q2 => ?_, fun x y hx hy => ?_, fun x hx => ?_⟩
  · try dsimp only
    have := h.lo x y
    split <;> omega
  · by_cases e1 : x = a ∧ y = b
    · obtain ⟨rfl, rfl⟩ := e1
      simp only [and_self, if_true]
      exact way_trans (h.sound _ _ hx hk h1) (h.sound _ _ hk hy h2)
    · simp only [if_neg e1] at hp ⊢
      exact h.sound x y hx hy hp
  · by_cases hn : x = a ∧ y = b
    · obtain ⟨rfl, rfl⟩ := hn
      have r1 := h.all _ _ _ hx hk q1
      have r2 := h.all _ _ _ hk hy q2
      try dsimp only
      rw [if_pos ⟨rfl, rfl⟩]
      omega
    · exact hd _ _ _ (h.done x y d e hx hy (by omega) q1 q2)
  · try dsimp only
    have := h.hi x y hx hy
    have m1 := (h.mid a ha).1
    have m2 := (h.mid b hb).2
    rw [Int.pow_succ] at this ⊢
    split <;> omega
  · try dsimp only
    rw [if_neg (by omega), if_neg (by omega)]
    exact h.mid x hx
omit hok in
theorem FW.row {k a : Nat} {T : Nat → Nat → Int} (h : FW D k a D.k T) : FW D k (a + 1) 0 T :=
  ⟨h.lo, h.sound, h.all, fun x y d e hx hy hxy h1 h2 => h.done x y d e hx hy (by omega) h1 h2, h.hi, h.mid⟩
theorem FW.over {k : Nat} {T : Nat → Nat → Int} (h : FW D k D.k 0 T) (hk : k + 1 < D.k) : FW D (k + 1) 0 0 T := by
  refine ⟨h.lo, h.sound, fun x y d hx hy hv => ?_, fun x y d e hx hy hxy => absurd hxy (by omega), fun x y hx hy => ?_, fun x hx => ⟨h.hi _ _ hx hk, h.hi _ _ hk hx⟩⟩
  · rcases via_split hok hv with ⟨d', h1, h2⟩ | ⟨d1, d2, h1, h2, h3⟩
    · have := h.all x y d' hx hy h1; omega
    · have := h.done x y d1 d2 hx hy (.inl hx) h1 h2; omega
  · have := h.hi x y hx hy
    rw [Int.pow_succ]
    have : (0 : Int) < 2 ^ (k + 1) := Int.pow_pos (by omega)
    omega
theorem FW.dist {k : Nat} {T : Nat → Nat → Int} (h : FW D k D.k 0 T) (hk : k + 1 = D.k) {x y : Nat} (hx : x < D.k) (hy : y < D.k) : Dist D x y (T x y) := by
  have hall : ∀ d, Way D x y d → 0 ≤ T x y ∧ T x y ≤ d := fun d hw => by
    have hv := way_via hok hw
    rw [← hk] at hv
    rcases via_split hok hv with ⟨d', h1, h2⟩ | ⟨d1, d2, h1, h2, h3⟩
    · have := h.all x y d' hx hy h1; omega
    · have := h.done x y d1 d2 hx hy (.inl hx) h1 h2; omega
  have hlo := h.lo x y
  by_cases h0 : 0 ≤ T x y
  · exact .inr ⟨h0, h.sound x y hx hy h0, fun d hw => (hall d hw).2⟩
  · exact .inl ⟨by omega, fun d hw => by have := hall d hw; omega⟩

/-- The table of single passages: before passage j. -/
structure PT (D : SrchD) (j : Nat) (T : Nat → Nat → Int) : Prop where
  lo : ∀ x y, -1 ≤ T x y
  sym : ∀ x y, T x y = T y x
  sound : ∀ x y, x < D.k → y < D.k → 0 ≤ T x y → Edge D x y (T x y)
  all : ∀ i, i < j → 0 ≤ T (D.a i).toNat (D.b i).toNat ∧ T (D.a i).toNat (D.b i).toNat ≤ D.t i
omit hok in
theorem PT.start : PT D 0 (fun _ _ => -1) := ⟨fun _ _ => by simp, fun _ _ => rfl, fun _ _ _ _ h => by simp at h, fun i hi => absurd hi (by omega)⟩
omit hok in
theorem PT.keep {j : Nat} {T : Nat → Nat → Int} (h : PT D j T) (hc : ¬ (T (D.a j).toNat (D.b j).toNat < 0 ∨ D.t j < T (D.a j).toNat (D.b j).toNat)) : PT D (j + 1) T :=
  ⟨h.lo, h.sym, h.sound, fun i hi => by
    by_cases e : i = j
    · subst e; omega
    · exact h.all i (by omega)⟩
theorem PT.set {j : Nat} (hj : j < D.m) {T : Nat → Nat → Int} (h : PT D j T) (hc : T (D.a j).toNat (D.b j).toNat < 0 ∨ D.t j < T (D.a j).toNat (D.b j).toNat) :
    PT D (j + 1) (fun x y => if x = (D.b j).toNat ∧ y = (D.a j).toNat then D.t j else if x = (D.a j).toNat ∧ y = (D.b j).toNat then D.t j else T x y) := by
  obtain ⟨⟨h1, h2⟩, ⟨h3, h4⟩, h5, h6, h7⟩ := hok.2.2.2 _ hj
  refine ⟨fun x y => ?_, fun x y => ?_, fun x y hx hy hp => ?_, fun i hi => ?_⟩
  · try dsimp only
    have := h.lo x y
    split
    · omega
    · split <;> omega
  · try dsimp only
    by_cases e1 : x = (D.b j).toNat ∧ y = (D.a j).toNat
    · rw [if_pos e1]
      by_cases e2 : y = (D.b j).toNat ∧ x = (D.a j).toNat
      · rw [if_pos e2]
      · rw [if_neg e2, if_pos ⟨e1.2, e1.1⟩]
    · rw [if_neg e1]
      by_cases e2 : x = (D.a j).toNat ∧ y = (D.b j).toNat
      · rw [if_pos e2, if_pos ⟨e2.2, e2.1⟩]
      · rw [if_neg e2, if_neg (fun e => e2 ⟨e.2, e.1⟩), if_neg (fun e => e1 ⟨e.2, e.1⟩)]
        exact h.sym x y
  · have ed : Edge D (D.a j).toNat (D.b j).toNat (D.t j) := ⟨j, hj, rfl, by omega⟩
    by_cases e1 : x = (D.b j).toNat ∧ y = (D.a j).toNat
    · obtain ⟨rfl, rfl⟩ := e1
      simp only [and_self, if_true]
      exact edge_sym ed
    · by_cases e2 : x = (D.a j).toNat ∧ y = (D.b j).toNat
      · obtain ⟨rfl, rfl⟩ := e2
        simp only [if_neg e1, and_self, if_true]
        exact ed
      · simp only [if_neg e1, if_neg e2] at hp ⊢
        exact h.sound x y hx hy hp
  · try dsimp only
    by_cases e : i = j
    · subst e
      by_cases e1 : (D.a i).toNat = (D.b i).toNat ∧ (D.b i).toNat = (D.a i).toNat
      · rw [if_pos e1]; omega
      · rw [if_neg e1, if_pos ⟨rfl, rfl⟩]; omega
    · have q := h.all i (by omega)
      by_cases e1 : (D.a i).toNat = (D.b j).toNat ∧ (D.b i).toNat = (D.a j).toNat
      · rw [if_pos e1]
        rw [e1.1, e1.2, h.sym] at q
        omega
      · rw [if_neg e1]
        by_cases e2 : (D.a i).toNat = (D.a j).toNat ∧ (D.b i).toNat = (D.b j).toNat
        · rw [if_pos e2]
          rw [e2.1, e2.2] at q
          omega
        · rw [if_neg e2]; exact q
/-- The fewest minutes of a passage between two places; -1: there is none. -/
def MinE (D : SrchD) (a b : Nat) (r : Int) : Prop := (r = -1 ∧ ∀ t, ¬ Edge D a b t) ∨ (0 ≤ r ∧ Edge D a b r ∧ ∀ t, Edge D a b t → r ≤ t)
omit hok in
theorem MinE.uniq {a b : Nat} {r q : Int} (h : MinE D a b r) (k : MinE D a b q) : r = q := by
  rcases h with ⟨h1, h2⟩ | ⟨h1, h2, h3⟩ <;> rcases k with ⟨k1, k2⟩ | ⟨k1, k2, k3⟩
  · omega
  · exact absurd k2 (h2 _)
  · exact absurd h2 (k2 _)
  · have := h3 _ k2; have := k3 _ h2; omega
theorem MinE.hi {a b : Nat} {r : Int} (h : MinE D a b r) : -1 ≤ r ∧ r ≤ 20 ∧ r ≠ 0 := by
  rcases h with ⟨h1, h2⟩ | ⟨h1, h2, h3⟩
  · omega
  · have := edge_ok hok h2; omega
omit hok in
theorem PT.min {T : Nat → Nat → Int} (h : PT D D.m T) {x y : Nat} (hx : x < D.k) (hy : y < D.k) : MinE D x y (T x y) := by
  have hall : ∀ t, Edge D x y t → 0 ≤ T x y ∧ T x y ≤ t := fun t he => by
    obtain ⟨j, hj, rfl, hab⟩ := he
    have q := h.all j hj
    rcases hab with ⟨ea, eb⟩ | ⟨ea, eb⟩
    · rwa [ea, eb, Int.toNat_natCast, Int.toNat_natCast] at q
    · rwa [ea, eb, Int.toNat_natCast, Int.toNat_natCast, h.sym] at q
  have hlo := h.lo x y
  by_cases h0 : 0 ≤ T x y
  · exact .inr ⟨h0, h.sound x y hx hy h0, fun d hw => (hall d hw).2⟩
  · exact .inl ⟨by omega, fun d hw => by have := hall d hw; omega⟩
/-- The table with noughts on its diagonal, up to place i. -/
theorem FW.start {T : Nat → Nat → Int} (h : ∀ x y, x < D.k → y < D.k → MinE D x y (T x y)) : FW D 0 0 0 (fun x y => if x = y then 0 else if x < D.k ∧ y < D.k then T x y else -1) := by
  have hv : ∀ x y d, x < D.k → y < D.k → Via D 0 x y d → 0 ≤ (if x = y then 0 else if x < D.k ∧ y < D.k then T x y else -1) ∧ (if x = y then 0 else if x < D.k ∧ y < D.k then T x y else -1) ≤ d := fun x y d hx hy hv => by
    have hnn := via_nonneg hok hv
    by_cases e : x = y
    · rw [if_pos e]; omega
    · rw [if_neg e, if_pos ⟨hx, hy⟩]
      cases hv with
      | refl => exact absurd rfl e
      | edge ed =>
        rcases h x y hx hy with ⟨_, h2⟩ | ⟨h1, _, h3⟩
        · exact absurd ed (h2 _)
        · exact ⟨h1, h3 _ ed⟩
      | snoc _ hc _ => omega
  have hhi : ∀ x y, (if x = y then 0 else if x < D.k ∧ y < D.k then T x y else -1) ≤ 20 := fun x y => by
    split
    · omega
    · split
      · rename_i hh; exact ((h x y hh.1 hh.2).hi hok).2.1
      · omega
  refine ⟨fun x y => ?_, fun x y hx hy hp => ?_, hv, fun x y d e hx hy hxy => absurd hxy (by omega), fun x y hx hy => ?_, fun x hx => ⟨?_, ?_⟩⟩
  · try dsimp only
    split
    · omega
    · split
      · rename_i hh; exact ((h x y hh.1 hh.2).hi hok).1
      · omega
  · by_cases e : x = y
    · subst e; simp only [if_true]; exact .refl _
    · simp only [if_neg e, if_pos (And.intro hx hy)] at hp ⊢
      rcases h x y hx hy with ⟨h1, _⟩ | ⟨_, h2, _⟩
      · omega
      · have := Way.snoc (.refl x) h2
        simpa using this
  · have := hhi x y; simp only [Nat.zero_add, Int.pow_succ, Int.pow_zero]; omega
  · have := hhi x 0; simpa using this
  · have := hhi 0 x; simpa using this
end
end Go.Proofs.YtlhcjbgcgbeocaaDoor
