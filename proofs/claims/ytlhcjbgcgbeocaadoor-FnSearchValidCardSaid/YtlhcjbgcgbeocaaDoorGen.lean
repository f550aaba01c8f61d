/- Ways in any relation with lengths: the least of them, by rounds over all steps (GB), and by settling the nearest (DJ). Plain words. -/
import Derived.Test.YtlhcjbgcgbeocaaDoorWay
namespace Go.Proofs.YtlhcjbgcgbeocaaDoor
open Go.RowKit

section
variable {R : Nat → Nat → Int → Prop} {n : Nat}

inductive GW (R : Nat → Nat → Int → Prop) : Nat → Nat → Int → Prop
  | refl (a : Nat) : GW R a a 0
  | snoc {a c b : Nat} {d t : Int} : GW R a c d → R c b t → GW R a b (d + t)
inductive GWN (R : Nat → Nat → Int → Prop) : Nat → Nat → Nat → Int → Prop
  | refl (k a : Nat) : GWN R k a a 0
  | snoc {k a c b : Nat} {d t : Int} : GWN R k a c d → R c b t → GWN R (k + 1) a b (d + t)
inductive GSP (R : Nat → Nat → Int → Prop) : List Nat → Nat → Nat → Int → Prop
  | one (a : Nat) : GSP R [a] a a 0
  | snoc {l : List Nat} {a c b : Nat} {d t : Int} : GSP R l a c d → R c b t → b ∉ l → GSP R (b :: l) a b (d + t)
/-- The least length; -1: no way. -/
def GDist (R : Nat → Nat → Int → Prop) (a b : Nat) (r : Int) : Prop := (r = -1 ∧ ∀ d, ¬ GW R a b d) ∨ (0 ≤ r ∧ GW R a b r ∧ ∀ d, GW R a b d → r ≤ d)

theorem gwn_up {k a b : Nat} {d : Int} (h : GWN R k a b d) : GWN R (k + 1) a b d := by
  induction h with
  | refl => exact .refl _ _
  | snoc _ e ih => exact .snoc ih e
theorem gwn_mono {k m a b : Nat} {d : Int} (h : GWN R k a b d) (hm : k ≤ m) : GWN R m a b d := by
  induction hm with
  | refl => exact h
  | step _ ih => exact gwn_up ih

/-- Steps lead between places below n, and are not negative. -/
def GOk (R : Nat → Nat → Int → Prop) (n : Nat) : Prop := ∀ a b t, R a b t → a < n ∧ b < n ∧ 0 ≤ t
theorem gw_nonneg (hok : GOk R n) {a b : Nat} {d : Int} (h : GW R a b d) : 0 ≤ d := by
  induction h with
  | refl => omega
  | snoc _ e ih => have := hok _ _ _ e; omega
theorem gsp_prefix (hok : GOk R n) {l : List Nat} {a c : Nat} {d : Int} (h : GSP R l a c d) {b : Nat} (hb : b ∈ l) : ∃ l' d', GSP R l' a b d' ∧ d' ≤ d := by
  induction h with
  | one a =>
    obtain rfl : b = a := by simpa using hb
    exact ⟨_, _, .one _, by omega⟩
  | @snoc l a c b' d t hs e hn ih =>
    have ht := hok _ _ _ e
    rcases List.mem_cons.1 hb with rfl | hb
    · exact ⟨_, _, .snoc hs e hn, by omega⟩
    · obtain ⟨l', d', h1, h2⟩ := ih hb
      exact ⟨l', d', h1, by omega⟩
theorem gw_sp (hok : GOk R n) {a b : Nat} {d : Int} (h : GW R a b d) : ∃ l d', GSP R l a b d' ∧ d' ≤ d := by
  induction h with
  | refl => exact ⟨_, _, .one _, by omega⟩
  | @snoc c b d t _ e ih =>
    obtain ⟨l, d', h1, h2⟩ := ih
    have ht := hok _ _ _ e
    by_cases hb : b ∈ l
    · obtain ⟨l', d'', h3, h4⟩ := gsp_prefix hok h1 hb
      exact ⟨l', d'', h3, by omega⟩
    · exact ⟨_, _, .snoc h1 e hb, by omega⟩
theorem gsp_facts (hok : GOk R n) {l : List Nat} {a b : Nat} {d : Int} (h : GSP R l a b d) (ha : a < n) : l.Nodup ∧ (∀ x ∈ l, x < n) ∧ GWN R (l.length - 1) a b d ∧ 0 < l.length := by
  induction h with
  | one a => exact ⟨by simp, by simpa using ha, .refl _ _, by simp⟩
  | @snoc l a c b d t hs e hn ih =>
    obtain ⟨h1, h2, h3, h4⟩ := ih ha
    refine ⟨List.nodup_cons.2 ⟨hn, h1⟩, fun x hx => ?_, ?_, by simp⟩
    · rcases List.mem_cons.1 hx with rfl | hx
      · exact (hok _ _ _ e).2.1
      · exact h2 x hx
    · have := GWN.snoc h3 e
      rwa [show l.length - 1 + 1 = (b :: l).length - 1 by simp; omega] at this
theorem gw_short (hok : GOk R n) {a b : Nat} {d : Int} (h : GW R a b d) (ha : a < n) : ∃ d', d' ≤ d ∧ GWN R n a b d' := by
  obtain ⟨l, d', h1, h2⟩ := gw_sp hok h
  obtain ⟨h3, h4, h5, _⟩ := gsp_facts hok h1 ha
  have := nodup_len _ _ h3 h4
  exact ⟨d', h2, gwn_mono h5 (by omega)⟩
theorem GDist.uniq {a b : Nat} {r q : Int} (h : GDist R a b r) (k : GDist R a b q) : r = q := by
  rcases h with ⟨h1, h2⟩ | ⟨h1, h2, h3⟩ <;> rcases k with ⟨k1, k2⟩ | ⟨k1, k2, k3⟩
  · omega
  · exact absurd k2 (h2 _)
  · exact absurd h2 (k2 _)
  · have := h3 _ k2; have := k3 _ h2; omega

/-! ### Rounds: in each all pairs (a, b), a outermost, of a relation that leads from b to a -/
/-- Before pair (a, b) in round k. -/
structure GB (R : Nat → Nat → Int → Prop) (n s k a b : Nat) (left : Nat → Int) (hi : Int) : Prop where
  lo : ∀ v, -1 ≤ left v
  sound : ∀ v, v < n → 0 ≤ left v → GW R s v (left v)
  all : ∀ v d, v < n → GWN R k s v d → 0 ≤ left v ∧ left v ≤ d
  part : ∀ x y d t, x < n → y < n → (x < a ∨ (x = a ∧ y < b)) → GWN R k s y d → R y x t → 0 ≤ left x ∧ left x ≤ d + t
  top : ∀ v, left v ≤ hi

theorem GB.start {s : Nat} (_ : s < n) : GB R n s 0 0 0 (fun v => if v = s then 0 else -1) 0 where
  lo v := by split <;> omega
  sound v _ h := by
    by_cases e : v = s
    · subst e; simp only [if_true] at h ⊢; exact .refl _
    · simp only [if_neg e] at h; omega
  all v d _ h := by
    cases h with
    | refl => simp
  part x y d t _ _ hi := absurd hi (by omega)
  top v := by split <;> omega
theorem GB.row {s k a : Nat} {left : Nat → Int} {hi : Int} (h : GB R n s k a n left hi) : GB R n s k (a + 1) 0 left hi :=
  ⟨h.lo, h.sound, h.all, fun x y d t hx hy hxy => h.part x y d t hx hy (by omega), h.top⟩
theorem GB.next (hok : GOk R n) {s k : Nat} {left : Nat → Int} {hi : Int} (h : GB R n s k n 0 left hi) : GB R n s (k + 1) 0 0 left hi :=
  ⟨h.lo, h.sound, fun v d hv hw => by
    cases hw with
    | refl => exact h.all _ _ hv (.refl _ _)
    | snoc hw e => exact h.part _ _ _ _ hv (hok _ _ _ e).1 (.inl hv) hw e, fun x y d t _ _ hxy => absurd hxy (by omega), h.top⟩
/-- The pair (a, b) does not help. -/
theorem GB.keep {s k a b : Nat} {left : Nat → Int} {hi : Int} (h : GB R n s k a b left hi) (hb : b < n) (hk : ∀ t, R b a t → 0 ≤ left b → 0 ≤ left a ∧ left a ≤ left b + t) : GB R n s k a (b + 1) left hi :=
  ⟨h.lo, h.sound, h.all, fun x y d t hx hy hxy hw hr => by
    by_cases e : x = a ∧ y = b
    · obtain ⟨rfl, rfl⟩ := e
      have h1 := h.all _ _ hb hw
      have h2 := hk t hr h1.1
      omega
    · exact h.part x y d t hx hy (by omega) hw hr, h.top⟩
theorem GB.set (_ : GOk R n) {s k a b : Nat} {left : Nat → Int} {hi : Int} (h : GB R n s k a b left hi) (hb : b < n) {w : Int} (hr : R b a w) (hw0 : 0 ≤ w) (hle : ∀ t, R b a t → w ≤ t) (h0 : 0 ≤ left b) (hk : left a < 0 ∨ w + left b < left a) {hi' : Int} (h1 : hi ≤ hi') (h2 : w + hi ≤ hi') :
    GB R n s k a (b + 1) (fun v => if v = a then w + left b else left v) hi' := by
  have hd : ∀ v d, 0 ≤ left v ∧ left v ≤ d → 0 ≤ (if v = a then w + left b else left v) ∧ (if v = a then w + left b else left v) ≤ d := fun v d hv => by
    by_cases e1 : v = a
    · subst e1; rw [if_pos rfl]; omega
    · rw [if_neg e1]; exact hv
  refine ⟨fun v => ?_, fun v hv hp => ?_, fun v d hv hw => hd _ _ (h.all v d hv hw), fun x y d t hx hy hxy hw hr' => ?_, fun v => ?_⟩
  · have := h.lo v
    split <;> omega
  · by_cases e1 : v = a
    · subst e1
      simp only [if_true]
      rw [Int.add_comm]
      exact .snoc (h.sound _ hb h0) hr
    · simp only [if_neg e1] at hp ⊢
      exact h.sound v hv hp
  · by_cases e : x = a ∧ y = b
    · obtain ⟨rfl, rfl⟩ := e
      have q1 := h.all _ _ hb hw
      have q2 := hle t hr'
      rw [if_pos rfl]
      omega
    · exact hd _ _ (h.part x y d t hx hy (by omega) hw hr')
  · have := h.top v
    have := h.top b
    split <;> omega
theorem GB.dist (hok : GOk R n) {s : Nat} (hs : s < n) {left : Nat → Int} {hi : Int} (h : GB R n s n 0 0 left hi) {v : Nat} (hv : v < n) : GDist R s v (left v) := by
  have hlo := h.lo v
  by_cases h0 : 0 ≤ left v
  · right
    refine ⟨h0, h.sound v hv h0, fun d hw => ?_⟩
    obtain ⟨d', h1, h2⟩ := gw_short hok hw hs
    have := h.all v d' hv h2
    omega
  · left
    refine ⟨by omega, fun d hw => ?_⟩
    obtain ⟨d', h1, h2⟩ := gw_short hok hw hs
    have := h.all v d' hv h2
    omega

/-! ### Settling the nearest -/
/-- S: settled; times: known so far (-1: none). -/
structure DJ (R : Nat → Nat → Int → Prop) (n s : Nat) (S : Nat → Bool) (times : Nat → Int) (hi : Int) : Prop where
  lo : ∀ v, -1 ≤ times v
  sound : ∀ v, v < n → 0 ≤ times v → GW R s v (times v)
  src : times s = 0
  sett : ∀ v, v < n → S v = true → 0 ≤ times v
  out : ∀ v u t, v < n → S v = true → R v u t → 0 ≤ times u ∧ times u ≤ times v + t
  ord : ∀ v u, v < n → u < n → S v = true → S u = false → 0 ≤ times u → times v ≤ times u
  top : ∀ v, times v ≤ hi
theorem DJ.start {s : Nat} (_ : s < n) : DJ R n s (fun _ => false) (fun v => if v = s then 0 else -1) 0 where
  lo v := by split <;> omega
  sound v _ h := by
    by_cases e : v = s
    · subst e; simp only [if_true] at h ⊢; exact .refl _
    · simp only [if_neg e] at h; omega
  src := by simp
  sett v _ h := by cases h
  out v u t _ h := by cases h
  ord v u _ _ h := by cases h
  top v := by split <;> omega
/-- What a way tells of the times. -/
theorem DJ.way (hok : GOk R n) {s : Nat} (hs : s < n) {S : Nat → Bool} {times : Nat → Int} {hi : Int} (h : DJ R n s S times hi) {u : Nat} {d : Int} (hw : GW R s u d) :
    (S u = true ∧ times u ≤ d) ∨ ∃ x, x < n ∧ S x = false ∧ 0 ≤ times x ∧ times x ≤ d := by
  induction hw with
  | refl =>
    cases e : S s with
    | true => exact .inl ⟨rfl, by have := h.src; omega⟩
    | false => exact .inr ⟨s, hs, e, by have := h.src; omega, by have := h.src; omega⟩
  | @snoc v u d t _ hr ih =>
    obtain ⟨hv, hu, ht⟩ := hok _ _ _ hr
    rcases ih with ⟨h1, h2⟩ | ⟨x, h1, h2, h3, h4⟩
    · have q := h.out v u t hv h1 hr
      cases e : S u with
      | true => exact .inl ⟨rfl, by omega⟩
      | false => exact .inr ⟨u, hu, e, q.1, by omega⟩
    · exact .inr ⟨x, h1, h2, h3, by omega⟩
/-- The nearest that is not settled is the goal: its time is the least. -/
theorem DJ.goal (hok : GOk R n) {s g : Nat} (hs : s < n) (hg : g < n) {S : Nat → Bool} {times : Nat → Int} {hi : Int} (h : DJ R n s S times hi) (h0 : 0 ≤ times g) (hS : S g = false) (hl : ∀ x, x < n → S x = false → 0 ≤ times x → times g ≤ times x) : GDist R s g (times g) := by
  refine .inr ⟨h0, h.sound g hg h0, fun d hw => ?_⟩
  rcases h.way hok hs hw with ⟨h1, _⟩ | ⟨x, h1, h2, h3, h4⟩
  · rw [hS] at h1; cases h1
  · have := hl x h1 h2 h3; omega
/-- None is left that is known and not settled: there is no way. -/
theorem DJ.none (hok : GOk R n) {s g : Nat} (hs : s < n) (hg : g < n) {S : Nat → Bool} {times : Nat → Int} {hi : Int} (h : DJ R n s S times hi) (hS : S g = false) (hl : ∀ x, x < n → S x = false → times x < 0) : GDist R s g (times g) := by
  have h1 := h.lo g
  have h2 := hl g hg hS
  refine .inl ⟨by omega, fun d hw => ?_⟩
  rcases h.way hok hs hw with ⟨h1, _⟩ | ⟨x, h1, h2, h3, h4⟩
  · rw [hS] at h1; cases h1
  · have := hl x h1 h2; omega
/-- Place c was settled last: its steps to places below j are told. -/
structure DJp (R : Nat → Nat → Int → Prop) (n s : Nat) (S : Nat → Bool) (times : Nat → Int) (hi : Int) (c j : Nat) : Prop where
  lo : ∀ v, -1 ≤ times v
  sound : ∀ v, v < n → 0 ≤ times v → GW R s v (times v)
  src : times s = 0
  sett : ∀ v, v < n → S v = true → 0 ≤ times v
  out : ∀ v u t, v < n → S v = true → (v = c → u < j) → R v u t → 0 ≤ times u ∧ times u ≤ times v + t
  ord : ∀ v u, v < n → u < n → S v = true → S u = false → 0 ≤ times u → times v ≤ times u
  top : ∀ v, times v ≤ hi
  last : S c = true ∧ ∀ v, v < n → S v = true → times v ≤ times c
/-- The nearest is settled. -/
theorem DJ.settle {s : Nat} {S : Nat → Bool} {times : Nat → Int} {hi : Int} (h : DJ R n s S times hi) {c : Nat} (hc : c < n) (h0 : 0 ≤ times c) (hS : S c = false) (hl : ∀ x, x < n → S x = false → 0 ≤ times x → times c ≤ times x) :
    DJp R n s (fun v => if v = c then true else S v) times hi c 0 := by
  refine ⟨h.lo, h.sound, h.src, fun v hv hs => ?_, fun v u t hv hs hvc hr => ?_, fun v u hv hu hs hsu hu0 => ?_, h.top, by simp, fun v hv hs => ?_⟩
  · by_cases e : v = c
    · subst e; exact h0
    · rw [if_neg e] at hs; exact h.sett v hv hs
  · by_cases e : v = c
    · have := hvc e; omega
    · rw [if_neg e] at hs; exact h.out v u t hv hs hr
  · by_cases e1 : u = c
    · rw [if_pos e1] at hsu; cases hsu
    · rw [if_neg e1] at hsu
      by_cases e : v = c
      · subst e; exact hl u hu hsu hu0
      · rw [if_neg e] at hs; exact h.ord v u hv hu hs hsu hu0
  · by_cases e : v = c
    · subst e; omega
    · rw [if_neg e] at hs; exact h.ord v c hv hc hs hS h0
theorem DJp.keep {s : Nat} {S : Nat → Bool} {times : Nat → Int} {hi : Int} {c j : Nat} (h : DJp R n s S times hi c j) (hk : ∀ t, R c j t → 0 ≤ times j ∧ times j ≤ times c + t) : DJp R n s S times hi c (j + 1) :=
  ⟨h.lo, h.sound, h.src, h.sett, fun v u t hv hs hvc hr => by
    by_cases e : v = c ∧ u = j
    · obtain ⟨rfl, rfl⟩ := e; exact hk t hr
    · exact h.out v u t hv hs (fun e2 => by have := hvc e2; omega) hr, h.ord, h.top, h.last⟩
theorem DJp.set {s : Nat} {S : Nat → Bool} {times : Nat → Int} {hi : Int} {c j : Nat} (h : DJp R n s S times hi c j) (hc : c < n) (hj : j < n) {w : Int} (hr : R c j w) (hw0 : 0 ≤ w) (hle : ∀ t, R c j t → w ≤ t) (hk : times j < 0 ∨ times c + w < times j) {hi' : Int} (h1 : hi ≤ hi') (h2 : hi + w ≤ hi') :
    DJp R n s S (fun v => if v = j then times c + w else times v) hi' c (j + 1) := by
  have hc0 := h.sett c hc h.last.1
  have hjS : S j = false := by
    cases e : S j with
    | false => rfl
    | true => have := h.sett j hj e; have := h.last.2 j hj e; omega
  have hcj : c ≠ j := fun e => by have := h.last.1; rw [e, hjS] at this; cases this
  have hless : ∀ v, (if v = j then times c + w else times v) ≤ times v ∨ times v < 0 := fun v => by
    by_cases e : v = j
    · subst e; rw [if_pos rfl]; omega
    · rw [if_neg e]; omega
  have hS : ∀ v, S v = true → (if v = j then times c + w else times v) = times v := fun v hv => if_neg (fun e => by rw [e, hjS] at hv; cases hv)
  refine ⟨fun v => ?_, fun v hv hp => ?_, ?_, fun v hv hs => ?_, fun v u t hv hs hvc hr' => ?_, fun v u hv hu hs hsu hu0 => ?_, fun v => ?_, h.last.1, fun v hv hs => ?_⟩
  · have := h.lo v
    split <;> omega
  · by_cases e1 : v = j
    · subst e1
      simp only [if_true]
      exact .snoc (h.sound _ hc hc0) hr
    · simp only [if_neg e1] at hp ⊢
      exact h.sound v hv hp
  · have := h.src
    by_cases e : s = j
    · subst e; omega
    · rw [if_neg e]; exact this
  · rw [hS v hs]; exact h.sett v hv hs
  · rw [hS v hs]
    by_cases e : v = c ∧ u = j
    · obtain ⟨rfl, rfl⟩ := e
      have := hle t hr'
      rw [if_pos rfl]; omega
    · have q := h.out v u t hv hs (fun e2 => by have := hvc e2; omega) hr'
      by_cases e1 : u = j
      · subst e1; rw [if_pos rfl]; omega
      · rw [if_neg e1]; exact q
  · rw [hS v hs]
    by_cases e1 : u = j
    · subst e1; rw [if_pos rfl]; have := h.last.2 v hv hs; omega
    · rw [if_neg e1] at hu0 ⊢; exact h.ord v u hv hu hs hsu hu0
  · have := h.top v
    have := h.top c
    split <;> omega
  · rw [hS v hs, if_neg hcj]; exact h.last.2 v hv hs
theorem DJp.done (hok : GOk R n) {s : Nat} {S : Nat → Bool} {times : Nat → Int} {hi : Int} {c : Nat} (h : DJp R n s S times hi c n) : DJ R n s S times hi :=
  ⟨h.lo, h.sound, h.src, h.sett, fun v u t hv hs hr => h.out v u t hv hs (fun _ => (hok _ _ _ hr).2.1) hr, h.ord, h.top⟩
/-- Nothing leads on from c. -/
theorem DJp.stop {s : Nat} {S : Nat → Bool} {times : Nat → Int} {hi : Int} {c : Nat} (h : DJp R n s S times hi c 0) (hno : ∀ u t, ¬ R c u t) : DJ R n s S times hi :=
  ⟨h.lo, h.sound, h.src, h.sett, fun v u t hv hs hr => h.out v u t hv hs (fun e => absurd (e ▸ hr) (hno u t)) hr, h.ord, h.top⟩
end
end Go.Proofs.YtlhcjbgcgbeocaaDoor
