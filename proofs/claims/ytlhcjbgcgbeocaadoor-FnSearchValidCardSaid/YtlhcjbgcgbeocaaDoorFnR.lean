/- What RescueTime, RescueAir, RouteTime and DepotBest tell, in plain words: more air, more depots, no walk is slower; routes. -/
import Derived.Test.YtlhcjbgcgbeocaaDoorState
import Derived.Test.YtlhcjbgcgbeocaaDoorFnW
namespace Go.Proofs.YtlhcjbgcgbeocaaDoor
open Go.RowKit

theorem GDist.ex {R : Nat → Nat → Int → Prop} {n : Nat} (hok : GOk R n) (a b : Nat) : ∃ r, GDist R a b r := by
  by_cases h : ∃ d, GW R a b d
  · obtain ⟨d, hd⟩ := h
    obtain ⟨r, h1, h2⟩ := min_ex (P := fun d => GW R a b d) (fun d hd => gw_nonneg hok hd) d.toNat d (Nat.le_refl _) hd
    exact ⟨r, .inr ⟨gw_nonneg hok h1, h1, h2⟩⟩
  · exact ⟨-1, .inl ⟨rfl, fun d hd => h ⟨d, hd⟩⟩⟩
theorem RT.ex (D : SrchD) (br f t : Int) : ∃ r, RT D br f t r := by
  by_cases h : RtOk D br f t
  · obtain ⟨r, hr⟩ := GDist.ex (RI.ok D br f.toNat) f.toNat t.toNat
    exact ⟨r, .inl ⟨h, hr⟩⟩
  · exact ⟨-1, .inr ⟨h, rfl⟩⟩
/-- What RescueTime returns, as a function. -/
noncomputable def rtF (D : SrchD) (br f t : Int) : Int := Classical.choose (RT.ex D br f t)
theorem rtF_spec (D : SrchD) (br f t : Int) : RT D br f t (rtF D br f t) := Classical.choose_spec (RT.ex D br f t)
theorem RT.lo {D : SrchD} {br f t r : Int} (h : RT D br f t r) : -1 ≤ r := by
  rcases h with ⟨_, h | h⟩ | ⟨_, h⟩ <;> omega
theorem rtF_lo (D : SrchD) (br f t : Int) : -1 ≤ rtF D br f t := (rtF_spec D br f t).lo
theorem rtF_bad {D : SrchD} {br f t : Int} (h : ¬ RtOk D br f t) : rtF D br f t = -1 := (rtF_spec D br f t).uniq (.inr ⟨h, rfl⟩)
theorem RT.ok {D : SrchD} {br f t r : Int} (h : RT D br f t r) (h0 : 0 ≤ r) : RtOk D br f t ∧ GW (RI D br f.toNat) f.toNat t.toNat r ∧ ∀ d, GW (RI D br f.toNat) f.toNat t.toNat d → r ≤ d := by
  rcases h with ⟨h1, h4 | h4⟩ | ⟨h1, h2⟩
  · omega
  · exact ⟨h1, h4.2.1, h4.2.2⟩
  · omega
theorem RT.le {D : SrchD} {br f t r d : Int} (h : RT D br f t r) (hok : RtOk D br f t) (hw : GW (RI D br f.toNat) f.toNat t.toNat d) : 0 ≤ r ∧ r ≤ d := by
  rcases h with ⟨_, h4 | h4⟩ | ⟨h1, h2⟩
  · exact absurd hw (h4.2 d)
  · exact ⟨h4.1, h4.2.2 d hw⟩
  · exact absurd hok h1
theorem rtF_same {D : SrchD} {br f : Int} (hok : RtOk D br f f) : rtF D br f f = 0 := by
  have h1 := (rtF_spec D br f f).le hok (.refl _)
  omega
theorem rtF_self {D : SrchD} {br f : Int} : rtF D br f f < 0 ↔ ¬ RtOk D br f f := by
  by_cases h : RtOk D br f f
  · have := rtF_same h
    exact ⟨fun k => by omega, fun k => absurd h k⟩
  · have := rtF_bad h
    exact ⟨fun _ => h, fun _ => by omega⟩

/-- With a depot at a further place. -/
def dpt (D : SrchD) (p : Nat) : SrchD := { D with dep := fun v => if v = p then true else D.dep v }
theorem dpt_ok {D : SrchD} {p : Nat} (h : SrchOk D) : SrchOk (dpt D p) := h
theorem dpt_ok' {D : SrchD} {p : Nat} (h : SrchOk (dpt D p)) : SrchOk D := h
theorem way_dpt {D : SrchD} (p : Nat) {a b : Nat} {d : Int} (h : Way D a b d) : Way (dpt D p) a b d := by
  induction h with
  | refl => exact .refl _
  | snoc _ e ih => exact .snoc ih e
theorem way_dpt' {D : SrchD} {p : Nat} {a b : Nat} {d : Int} (h : Way (dpt D p) a b d) : Way D a b d := by
  induction h with
  | refl => exact .refl _
  | snoc _ e ih => exact .snoc ih e
theorem dist_dpt {D : SrchD} (p : Nat) {a b : Nat} {r : Int} (h : Dist D a b r) : Dist (dpt D p) a b r := by
  rcases h with ⟨h1, h2⟩ | ⟨h1, h2, h3⟩
  · exact .inl ⟨h1, fun d hd => h2 d (way_dpt' hd)⟩
  · exact .inr ⟨h1, way_dpt p h2, fun d hd => h3 d (way_dpt' hd)⟩
theorem ri_dpt {D : SrchD} {br : Int} {f : Nat} (p : Nat) {v u : Nat} {w : Int} (h : RI D br f v u w) : RI (dpt D p) br f v u w := by
  obtain ⟨⟨h1, h2, h3⟩, h4⟩ := h
  refine ⟨⟨h1, dist_dpt p h2, h3⟩, h4.elim .inl fun e => .inr ?_⟩
  show (if v = p then true else D.dep v) = true
  split
  · rfl
  · exact e
theorem gw_mono {R R' : Nat → Nat → Int → Prop} (hR : ∀ v u w, R v u w → R' v u w) {a b : Nat} {d : Int} (h : GW R a b d) : GW R' a b d := by
  induction h with
  | refl => exact .refl _
  | snoc _ e ih => exact .snoc ih (hR _ _ _ e)
theorem rtF_depot {D : SrchD} {br f t : Int} (p : Nat) (h : 0 ≤ rtF D br f t) : 0 ≤ rtF (dpt D p) br f t ∧ rtF (dpt D p) br f t ≤ rtF D br f t := by
  obtain ⟨h1, h2, _⟩ := (rtF_spec D br f t).ok h
  exact (rtF_spec (dpt D p) br f t).le h1 (gw_mono (fun _ _ _ => ri_dpt p) h2)
theorem rtF_air {D : SrchD} {br br' f t : Int} (h : 0 ≤ rtF D br f t) (hb : br ≤ br') (hb2 : br' ≤ 60) : 0 ≤ rtF D br' f t ∧ rtF D br' f t ≤ rtF D br f t := by
  obtain ⟨⟨h1, ⟨h2, h3⟩, h4⟩, h5, _⟩ := (rtF_spec D br f t).ok h
  exact (rtF_spec D br' f t).le ⟨h1, ⟨by omega, hb2⟩, h4⟩ (gw_mono (fun _ _ _ ⟨⟨q1, q2, q3, q4⟩, q5⟩ => ⟨⟨q1, q2, q3, by omega⟩, q5⟩) h5)
theorem gw_way {D : SrchD} {br : Int} {f a b : Nat} {d : Int} (h : GW (RI D br f) a b d) : Way D a b d := by
  induction h with
  | refl => exact .refl _
  | snoc _ e ih =>
    obtain ⟨⟨_, q2 | q2, q3, _⟩, _⟩ := e
    · omega
    · exact way_trans ih q2.2.1
theorem rtF_walk {D : SrchD} {br f t : Int} (h : 0 ≤ rtF D br f t) : 0 ≤ wtF D f t ∧ wtF D f t ≤ rtF D br f t := by
  obtain ⟨⟨h1, _, h3, h4⟩, h5, _⟩ := (rtF_spec D br f t).ok h
  exact (wtF_spec D f t).le h1 h3 h4 (gw_way h5)
theorem rtF_zero {D : SrchD} {br f t : Int} (h : 0 ≤ rtF D br f t) : rtF D br f t = 0 ↔ f = t := by
  have h1 := rtF_walk h
  refine ⟨fun e => (wtF_zero h1.1).1 (by omega), fun e => ?_⟩
  subst e
  exact rtF_same ((rtF_spec D br f f).ok h).1
/-- Air for the walk itself is enough. -/
theorem rtF_direct {D : SrchD} {br f t : Int} (hb : 1 ≤ br ∧ br ≤ 60) (h : 0 ≤ wtF D f t) (hle : wtF D f t ≤ br) : 0 ≤ rtF D br f t := by
  obtain ⟨h1, h2, h3⟩ := wtF_ok h
  have hsk := h1.2.2.1
  have hd : Dist D f.toNat t.toNat (wtF D f t) := by
    rcases wtF_spec D f t with ⟨_, _, _, k⟩ | ⟨k, _⟩
    · exact k
    · exact absurd ⟨h1, h2, h3⟩ k
  have := GW.snoc (.refl f.toNat) (show RI D br f.toNat f.toNat t.toNat (wtF D f t) from ⟨⟨⟨by omega, by omega⟩, hd, h, hle⟩, .inl rfl⟩)
  exact ((rtF_spec D br f t).le ⟨h1, hb, h2, h3⟩ this).1

/-! ### The least air -/
/-- The first of m numbers from b on at which t is not negative; -1: none. -/
def raK (t : Nat → Int) : Nat → Nat → Int
  | 0, _ => -1
  | m + 1, b => if 0 ≤ t b then b else raK t m (b + 1)
noncomputable def raF (D : SrchD) (f t : Int) : Int := raK (fun b => rtF D b f t) 60 1
theorem raK_in (t : Nat → Int) : ∀ m b, (raK t m b = -1 ∧ ∀ j, b ≤ j → j < b + m → t j < 0) ∨ ∃ j, raK t m b = (j : Nat) ∧ b ≤ j ∧ j < b + m ∧ 0 ≤ t j ∧ ∀ i, b ≤ i → i < j → t i < 0
  | 0, b => .inl ⟨rfl, fun j h1 h2 => by omega⟩
  | m + 1, b => by
    unfold raK
    by_cases h : 0 ≤ t b
    · rw [if_pos h]; exact .inr ⟨b, rfl, by omega, by omega, h, fun i h1 h2 => by omega⟩
    · rw [if_neg h]
      rcases raK_in t m (b + 1) with ⟨h1, h2⟩ | ⟨j, h1, h2, h3, h4, h5⟩
      · refine .inl ⟨h1, fun j h3 h4 => ?_⟩
        by_cases e : j = b
        · subst e; omega
        · exact h2 j (by omega) (by omega)
      · refine .inr ⟨j, h1, by omega, by omega, h4, fun i h6 h7 => ?_⟩
        by_cases e : i = b
        · subst e; omega
        · exact h5 i (by omega) h7
theorem raF_in (D : SrchD) (f t : Int) : (raF D f t = -1 ∧ ∀ j : Nat, 1 ≤ j → j ≤ 60 → rtF D j f t < 0) ∨ ∃ j : Nat, raF D f t = j ∧ 1 ≤ j ∧ j ≤ 60 ∧ 0 ≤ rtF D j f t ∧ ∀ i : Nat, 1 ≤ i → i < j → rtF D i f t < 0 := by
  rcases raK_in (fun b => rtF D b f t) 60 1 with ⟨h1, h2⟩ | ⟨j, h1, h2, h3, h4, h5⟩
  · exact .inl ⟨h1, fun j k1 k2 => h2 j k1 (by omega)⟩
  · exact .inr ⟨j, h1, h2, by omega, h4, h5⟩

/-! ### The best further depot -/
/-- Of the first k places without a depot the one with the least v, and this; -1, -1: none. -/
def depK (dep : Nat → Bool) (v : Nat → Int) : Nat → Int × Int
  | 0 => (-1, -1)
  | k + 1 => if dep k = false ∧ 0 ≤ v k ∧ ((depK dep v k).1 < 0 ∨ v k < (depK dep v k).2) then ((k : Int), v k) else depK dep v k
open Classical in
noncomputable def depF (D : SrchD) (br f t : Int) : Int × Int := if RtOk D br f f then depK D.dep (fun k => rtF (dpt D k) br f t) D.k else (-1, -1)
theorem depK_in (dep : Nat → Bool) (v : Nat → Int) : ∀ k, (depK dep v k = (-1, -1) ∧ ∀ j, j < k → dep j = false → v j < 0) ∨ ∃ j, depK dep v k = (((j : Nat) : Int), v j) ∧ j < k ∧ dep j = false ∧ 0 ≤ v j ∧ ∀ i, i < k → dep i = false → 0 ≤ v i → v j ≤ v i ∧ (i < j → v j < v i)
  | 0 => .inl ⟨rfl, fun j h => absurd h (by omega)⟩
  | k + 1 => by
    unfold depK
    rcases depK_in dep v k with ⟨h1, h2⟩ | ⟨j, h1, h2, h3, h4, h5⟩
    · rw [h1]
      by_cases hc : dep k = false ∧ 0 ≤ v k
      · rw [if_pos ⟨hc.1, hc.2, .inl (by decide)⟩]
        refine .inr ⟨k, rfl, by omega, hc.1, hc.2, fun i hi hd h0 => ?_⟩
        by_cases e : i = k
        · subst e; exact ⟨Int.le_refl _, fun h => absurd h (by omega)⟩
        · have := h2 i (by omega) hd; omega
      · rw [if_neg (fun h => hc ⟨h.1, h.2.1⟩)]
        refine .inl ⟨rfl, fun i hi hd => ?_⟩
        by_cases e : i = k
        · subst e
          have : ¬ 0 ≤ v i := fun h => hc ⟨hd, h⟩
          omega
        · exact h2 i (by omega) hd
    · rw [h1]
      by_cases hc : dep k = false ∧ 0 ≤ v k ∧ (((j : Nat) : Int) < 0 ∨ v k < v j)
      · rw [if_pos hc]
        refine .inr ⟨k, rfl, by omega, hc.1, hc.2.1, fun i hi hd h0 => ?_⟩
        by_cases e : i = k
        · subst e; exact ⟨Int.le_refl _, fun h => absurd h (by omega)⟩
        · have := h5 i (by omega) hd h0
          have := hc.2.2
          omega
      · rw [if_neg hc]
        refine .inr ⟨j, rfl, by omega, h3, h4, fun i hi hd h0 => ?_⟩
        by_cases e : i = k
        · subst e
          have : ¬ v i < v j := fun h => hc ⟨hd, h0, .inr h⟩
          exact ⟨by omega, fun h => absurd h (by omega)⟩
        · exact h5 i (by omega) hd h0

/-! ### Routes -/
theorem MinE.ex {D : SrchD} (hok : SrchOk D) (a b : Nat) : ∃ r, MinE D a b r := by
  by_cases h : ∃ t, Edge D a b t
  · obtain ⟨t, ht⟩ := h
    obtain ⟨r, h1, _⟩ := minE_of_edge hok ht
    exact ⟨r, h1.1⟩
  · exact ⟨-1, .inl ⟨rfl, fun t ht => h ⟨t, ht⟩⟩⟩
open Classical in
/-- The fewest minutes of a passage between two places, which may be none; -1: there is none. -/
noncomputable def mI (D : SrchD) (a b : Int) : Int := if h : SrchOk D ∧ (0 ≤ a ∧ a < D.s) ∧ (0 ≤ b ∧ b < D.s) then Classical.choose (MinE.ex h.1 a.toNat b.toNat) else -1
theorem mI_spec {D : SrchD} (hok : SrchOk D) {a b : Int} (ha : 0 ≤ a ∧ a < D.s) (hb : 0 ≤ b ∧ b < D.s) : MinE D a.toNat b.toNat (mI D a b) := by
  unfold mI
  rw [dif_pos ⟨hok, ha, hb⟩]
  exact Classical.choose_spec (MinE.ex hok a.toNat b.toNat)
theorem mI_bad {D : SrchD} {a b : Int} (h : ¬ ((0 ≤ a ∧ a < D.s) ∧ (0 ≤ b ∧ b < D.s))) : mI D a b = -1 := by
  unfold mI
  rw [dif_neg (fun k => h k.2)]
theorem mI_hi (D : SrchD) (a b : Int) : -1 ≤ mI D a b ∧ mI D a b ≤ 20 ∧ mI D a b ≠ 0 := by
  by_cases h : SrchOk D ∧ (0 ≤ a ∧ a < D.s) ∧ (0 ≤ b ∧ b < D.s)
  · exact (mI_spec h.1 h.2.1 h.2.2).hi h.1
  · unfold mI; rw [dif_neg h]; omega
/-- Behind k + 1 places of a route: the minutes and the air; none: it cannot be gone. -/
noncomputable def routeK (D : SrchD) (br : Int) (x : Nat → Int) : Nat → Option (Int × Int)
  | 0 => some (0, br)
  | k + 1 => match routeK D br x k with
    | none => none
    | some (m, a) => if mI D (x k) (x (k + 1)) < 0 ∨ a < mI D (x k) (x (k + 1)) then none else some (m + mI D (x k) (x (k + 1)), if D.dep (x (k + 1)).toNat = true then br else a - mI D (x k) (x (k + 1)))
theorem routeK_none {D : SrchD} {br : Int} {x : Nat → Int} {k : Nat} (h : routeK D br x k = none) : routeK D br x (k + 1) = none := by unfold routeK; rw [h]
theorem routeK_some {D : SrchD} {br : Int} {x : Nat → Int} {k : Nat} {m a : Int} (h : routeK D br x k = some (m, a)) (h0 : 0 ≤ mI D (x k) (x (k + 1))) (hle : mI D (x k) (x (k + 1)) ≤ a) :
    routeK D br x (k + 1) = some (m + mI D (x k) (x (k + 1)), if D.dep (x (k + 1)).toNat = true then br else a - mI D (x k) (x (k + 1))) := by
  unfold routeK; rw [h]; exact if_neg (by omega)
theorem routeK_stop {D : SrchD} {br : Int} {x : Nat → Int} {k : Nat} {m a : Int} (h : routeK D br x k = some (m, a)) (h0 : mI D (x k) (x (k + 1)) < 0 ∨ a < mI D (x k) (x (k + 1))) : routeK D br x (k + 1) = none := by
  unfold routeK; rw [h]; exact if_pos h0
theorem routeK_up {D : SrchD} {br : Int} {x : Nat → Int} {k : Nat} (h : routeK D br x k = none) : ∀ j, k ≤ j → routeK D br x j = none := fun j hj => by
  induction hj with
  | refl => exact h
  | step _ ih => exact routeK_none ih
theorem routeK_bd {D : SrchD} {br : Int} {x : Nat → Int} (hb : 0 ≤ br) : ∀ k m a, routeK D br x k = some (m, a) → 0 ≤ m ∧ m ≤ 20 * (k : Int) ∧ 0 ≤ a ∧ a ≤ br
  | 0, m, a, h => by
    simp only [routeK, Option.some.injEq, Prod.mk.injEq] at h
    omega
  | k + 1, m, a, h => by
    have hh := mI_hi D (x k) (x (k + 1))
    cases e : routeK D br x k with
    | none => rw [routeK_none e] at h; cases h
    | some p =>
      obtain ⟨m', a'⟩ := p
      have ih := routeK_bd hb k m' a' e
      by_cases hc : mI D (x k) (x (k + 1)) < 0 ∨ a' < mI D (x k) (x (k + 1))
      · rw [routeK_stop e hc] at h; cases h
      · rw [routeK_some e (by omega) (by omega)] at h
        simp only [Option.some.injEq, Prod.mk.injEq] at h
        obtain ⟨h1, h2⟩ := h
        subst h1
        subst h2
        refine ⟨by omega, by omega, ?_⟩
        split <;> omega
/-- A route that can be gone passes places alone. -/
theorem routeK_in {D : SrchD} {br : Int} {x : Nat → Int} {k : Nat} {p : Int × Int} (h : routeK D br x (k + 1) = some p) : (0 ≤ x (k + 1) ∧ x (k + 1) < D.s) ∧ ∃ q, routeK D br x k = some q := by
  cases e : routeK D br x k with
  | none => rw [routeK_none e] at h; cases h
  | some q =>
    obtain ⟨m', a'⟩ := q
    refine ⟨?_, _, rfl⟩
    by_cases hv : (0 ≤ x k ∧ x k < D.s) ∧ (0 ≤ x (k + 1) ∧ x (k + 1) < D.s)
    · exact hv.2
    · rw [routeK_stop e (.inl (by rw [mI_bad hv]; decide))] at h; cases h
theorem routeK_sw {D : SrchD} (hok : SrchOk D) {br : Int} {x : Nat → Int} (h0 : 0 ≤ x 0 ∧ x 0 < D.s) : ∀ k m a, routeK D br x k = some (m, a) → (0 ≤ x k ∧ x k < D.s) ∧ SW (EdgeM D) D.dep br (x 0).toNat (x k).toNat a m
  | 0, m, a, h => by
    simp only [routeK, Option.some.injEq, Prod.mk.injEq] at h
    obtain ⟨rfl, rfl⟩ := h
    exact ⟨h0, .start⟩
  | k + 1, m, a, h => by
    have hv := (routeK_in h).1
    cases e : routeK D br x k with
    | none => rw [routeK_none e] at h; cases h
    | some p =>
      obtain ⟨m', a'⟩ := p
      obtain ⟨ih1, ih2⟩ := routeK_sw hok h0 k m' a' e
      by_cases hc : mI D (x k) (x (k + 1)) < 0 ∨ a' < mI D (x k) (x (k + 1))
      · rw [routeK_stop e hc] at h; cases h
      · rw [routeK_some e (by omega) (by omega)] at h
        simp only [Option.some.injEq, Prod.mk.injEq] at h
        obtain ⟨rfl, rfl⟩ := h
        exact ⟨hv, .step ih2 ⟨mI_spec hok ih1 hv, by omega⟩ (by omega)⟩
theorem routeK_air {D : SrchD} {br : Int} {x : Nat → Int} : ∀ k m a, routeK D br x k = some (m, a) → ∃ a', routeK D (br + 1) x k = some (m, a') ∧ a ≤ a'
  | 0, m, a, h => by
    simp only [routeK, Option.some.injEq, Prod.mk.injEq] at h
    exact ⟨br + 1, by simp [routeK, h.1], by omega⟩
  | k + 1, m, a, h => by
    cases e : routeK D br x k with
    | none => rw [routeK_none e] at h; cases h
    | some p =>
      obtain ⟨m', a'⟩ := p
      obtain ⟨a2, h2, h3⟩ := routeK_air k m' a' e
      by_cases hc : mI D (x k) (x (k + 1)) < 0 ∨ a' < mI D (x k) (x (k + 1))
      · rw [routeK_stop e hc] at h; cases h
      · rw [routeK_some e (by omega) (by omega)] at h
        simp only [Option.some.injEq, Prod.mk.injEq] at h
        obtain ⟨rfl, rfl⟩ := h
        refine ⟨_, routeK_some h2 (by omega) (by omega), ?_⟩
        split <;> omega
open Classical in
/-- What RouteTime returns, as a function. -/
noncomputable def routeF (D : SrchD) (br : Int) (x : Nat → Int) (n : Nat) : Option (Int × Int) := if SrchOk D ∧ (1 ≤ br ∧ br ≤ 60) ∧ 0 < n ∧ (0 ≤ x 0 ∧ x 0 < D.s) then routeK D br x (n - 1) else none
theorem routeF_bad {D : SrchD} {br : Int} {x : Nat → Int} {n : Nat} (h : ¬ (SrchOk D ∧ (1 ≤ br ∧ br ≤ 60) ∧ 0 < n ∧ ∀ j, j < n → 0 ≤ x j ∧ x j < D.s)) : routeF D br x n = none := by
  unfold routeF
  by_cases hc : SrchOk D ∧ (1 ≤ br ∧ br ≤ 60) ∧ 0 < n ∧ (0 ≤ x 0 ∧ x 0 < D.s)
  · rw [if_pos hc]
    have hj : ∃ j, j < n ∧ ¬ (0 ≤ x j ∧ x j < D.s) := Classical.byContradiction fun k => h ⟨hc.1, hc.2.1, hc.2.2.1, fun j hj => Classical.byContradiction fun q => k ⟨j, hj, q⟩⟩
    obtain ⟨j, hj, hq⟩ := hj
    cases j with
    | zero => exact absurd hc.2.2.2 hq
    | succ j =>
      refine routeK_up (k := j + 1) ?_ _ (by omega)
      cases e : routeK D br x (j + 1) with
      | none => rfl
      | some p => exact absurd (routeK_in e).1 hq
  · rw [if_neg hc]
theorem routeF_ok {D : SrchD} {br : Int} {x : Nat → Int} {n : Nat} (h : SrchOk D ∧ (1 ≤ br ∧ br ≤ 60) ∧ 0 < n ∧ (0 ≤ x 0 ∧ x 0 < D.s)) : routeF D br x n = routeK D br x (n - 1) := by unfold routeF; rw [if_pos h]
end Go.Proofs.YtlhcjbgcgbeocaaDoor
