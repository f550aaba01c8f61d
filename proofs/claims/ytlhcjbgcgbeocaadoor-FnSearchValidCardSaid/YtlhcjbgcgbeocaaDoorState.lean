/- Places with the air that is left: ways over such states and the hops from depot to depot have the same least numbers of minutes. Plain words. -/
import Derived.Test.YtlhcjbgcgbeocaaDoorHop
namespace Go.Proofs.YtlhcjbgcgbeocaaDoor
open Go.RowKit

/-- From place f with air br: at a place with air left, behind so many minutes; steps by E. -/
inductive SW (E : Nat → Nat → Int → Prop) (dep : Nat → Bool) (br : Int) (f : Nat) : Nat → Int → Int → Prop
  | start : SW E dep br f f br 0
  | step {a b : Nat} {air d t : Int} : SW E dep br f a air d → E a b t → t ≤ air → SW E dep br f b (if dep b = true then br else air - t) (d + t)
/-- The passages that take the fewest minutes. -/
def EdgeM (D : SrchD) (a b : Nat) (t : Int) : Prop := MinE D a b t ∧ 0 ≤ t
/-- r is the least time at a place, whatever air is left; -1: it is never reached. -/
def SDist (E : Nat → Nat → Int → Prop) (dep : Nat → Bool) (br : Int) (f g : Nat) (r : Int) : Prop :=
  (r = -1 ∧ ∀ air d, ¬ SW E dep br f g air d) ∨ (0 ≤ r ∧ (∃ air, SW E dep br f g air r) ∧ ∀ air d, SW E dep br f g air d → r ≤ d)

theorem min_ex {P : Int → Prop} (h0 : ∀ d, P d → 0 ≤ d) : ∀ n : Nat, ∀ d : Int, d.toNat ≤ n → P d → ∃ r, P r ∧ ∀ e, P e → r ≤ e
  | 0, d, hd, h => ⟨d, h, fun e he => by have := h0 e he; have := h0 d h; omega⟩
  | n + 1, d, hd, h => by
    by_cases hx : ∃ e, P e ∧ e < d
    · obtain ⟨e, he, hl⟩ := hx
      exact min_ex h0 n e (by have := h0 e he; omega) he
    · exact ⟨d, h, fun e he => by
        by_cases hl : e < d
        · exact absurd ⟨e, he, hl⟩ hx
        · omega⟩

theorem sw_mono {E E' : Nat → Nat → Int → Prop} (hE : ∀ a b t, E a b t → E' a b t) {dep : Nat → Bool} {br : Int} {f a : Nat} {air d : Int} (h : SW E dep br f a air d) : SW E' dep br f a air d := by
  induction h with
  | start => exact .start
  | step _ he ht ih => exact .step ih (hE _ _ _ he) ht
theorem sw_dep {E : Nat → Nat → Int → Prop} {dep : Nat → Bool} {br : Int} {f a : Nat} {air d : Int} (h : SW E dep br f a air d) (hd : dep a = true) : air = br := by
  cases h with
  | start => rfl
  | step _ _ _ => rw [if_pos hd]

section
variable {D : SrchD} (hok : SrchOk D)
include hok
theorem dist_of_way {a b : Nat} {d : Int} (h : Way D a b d) : ∃ r, Dist D a b r ∧ 0 ≤ r ∧ r ≤ d := by
  obtain ⟨r, h1, h2⟩ := min_ex (P := fun d => Way D a b d) (fun d hd => way_nonneg hok hd) d.toNat d (Nat.le_refl _) h
  exact ⟨r, .inr ⟨way_nonneg hok h1, h1, h2⟩, way_nonneg hok h1, h2 _ h⟩
theorem minE_of_edge {a b : Nat} {t : Int} (h : Edge D a b t) : ∃ r, EdgeM D a b r ∧ r ≤ t := by
  have h0 : ∀ d, Edge D a b d → 0 ≤ d := fun d hd => by have := edge_ok hok hd; omega
  obtain ⟨r, h1, h2⟩ := min_ex (P := fun d => Edge D a b d) h0 t.toNat t (Nat.le_refl _) h
  exact ⟨r, ⟨.inr ⟨h0 _ h1, h1, h2⟩, h0 _ h1⟩, h2 _ h⟩
omit hok in
theorem edge_of_min {a b : Nat} {t : Int} (h : EdgeM D a b t) : Edge D a b t := by
  rcases h with ⟨⟨h1, _⟩ | ⟨_, h2, _⟩, h3⟩
  · omega
  · exact h2

theorem sw_hop {f : Nat} (hf : f < D.k) {br : Int} (hbr : 0 ≤ br) {a : Nat} {air d : Int} (h : SW (Edge D) D.dep br f a air d) :
    a < D.k ∧ ∃ v e x, GW (RI D br f) f v e ∧ (v = f ∨ D.dep v = true) ∧ v < D.k ∧ Way D v a x ∧ x = br - air ∧ e + x ≤ d ∧ 0 ≤ air := by
  induction h with
  | start => exact ⟨hf, f, 0, 0, .refl f, .inl rfl, hf, .refl f, by omega, by omega, hbr⟩
  | @step a b air d t _ he hta ih =>
    obtain ⟨ha, v, e, x, h1, h2, h3, h4, h5, h6, h7⟩ := ih
    have ht := edge_ok hok he
    have hw := Way.snoc h4 he
    have hn := way_nonneg hok h4
    cases hd : D.dep b with
    | false => exact ⟨ht.2.1, v, e, x + t, h1, h2, h3, hw, by simp; omega, by omega, by simp; omega⟩
    | true =>
      obtain ⟨r, hr, hr0, hrd⟩ := dist_of_way hok hw
      exact ⟨ht.2.1, b, e + r, 0, .snoc h1 ⟨⟨⟨h3, ht.2.1⟩, hr, hr0, by omega⟩, h2⟩, .inr hd, ht.2.1, .refl b, by simp, by omega, by simp; omega⟩
theorem hop_of_sw {f : Nat} (hf : f < D.k) {br : Int} (hbr : 0 ≤ br) {a : Nat} {air d : Int} (h : SW (Edge D) D.dep br f a air d) : ∃ d', d' ≤ d ∧ GW (RI D br f) f a d' := by
  obtain ⟨ha, v, e, x, h1, h2, h3, h4, h5, h6, h7⟩ := sw_hop hok hf hbr h
  obtain ⟨r, hr, hr0, hrd⟩ := dist_of_way hok h4
  exact ⟨e + r, by omega, .snoc h1 ⟨⟨⟨h3, ha⟩, hr, hr0, by omega⟩, h2⟩⟩

theorem sw_way {f : Nat} {br : Int} {v u : Nat} {w d : Int} (h : Way D v u w) (hs : SW (EdgeM D) D.dep br f v br d) (hw : w ≤ br) :
    ∃ air d', SW (EdgeM D) D.dep br f u air d' ∧ d' ≤ d + w ∧ br - w ≤ air := by
  induction h with
  | refl => exact ⟨br, d, hs, by omega, by omega⟩
  | @snoc c b w t hw' he ih =>
    have ht := edge_ok hok he
    have hn := way_nonneg hok hw'
    obtain ⟨air, d', h1, h2, h3⟩ := ih (by omega)
    obtain ⟨r, hr, hrt⟩ := minE_of_edge hok he
    refine ⟨_, _, .step h1 hr (by omega), by omega, ?_⟩
    split <;> omega
theorem sw_of_ri {f : Nat} {br : Int} {u : Nat} {e : Int} (h : GW (RI D br f) f u e) : ∃ air d, SW (EdgeM D) D.dep br f u air d ∧ d ≤ e := by
  induction h with
  | refl => exact ⟨br, 0, .start, by omega⟩
  | @snoc v u e w hw hr ih =>
    obtain ⟨⟨⟨hv, hu⟩, hD, h0, hb⟩, hvf⟩ := hr
    have hs : ∃ d, SW (EdgeM D) D.dep br f v br d ∧ d ≤ e := by
      rcases hvf with e1 | e1
      · subst e1
        exact ⟨0, .start, gw_nonneg (RI.ok D br v) hw⟩
      · obtain ⟨air, d, h1, h2⟩ := ih
        obtain rfl := sw_dep h1 e1
        exact ⟨d, h1, h2⟩
    obtain ⟨d, h1, h2⟩ := hs
    rcases hD with ⟨h3, _⟩ | ⟨_, h3, _⟩
    · omega
    · obtain ⟨air, d', h4, h5, _⟩ := sw_way hok h3 h1 hb
      exact ⟨air, d', h4, by omega⟩
/-- The least time over states is that over hops. -/
theorem sdist_ri {E : Nat → Nat → Int → Prop} (hE1 : ∀ a b t, EdgeM D a b t → E a b t) (hE2 : ∀ a b t, E a b t → Edge D a b t) {f g : Nat} (hf : f < D.k) {br : Int} (hbr : 0 ≤ br) {r : Int} (h : SDist E D.dep br f g r) : GDist (RI D br f) f g r := by
  rcases h with ⟨h1, h2⟩ | ⟨h1, ⟨air, h2⟩, h3⟩
  · refine .inl ⟨h1, fun d hd => ?_⟩
    obtain ⟨air, d', h4, _⟩ := sw_of_ri hok hd
    exact h2 _ _ (sw_mono hE1 h4)
  · obtain ⟨d', hd', hg⟩ := hop_of_sw hok hf hbr (sw_mono hE2 h2)
    obtain ⟨air', d'', h4, h5⟩ := sw_of_ri hok hg
    have h6 := h3 _ _ (sw_mono hE1 h4)
    obtain rfl : d' = r := by omega
    refine .inr ⟨h1, hg, fun d hd => ?_⟩
    obtain ⟨air2, d2, h7, h8⟩ := sw_of_ri hok hd
    have := h3 _ _ (sw_mono hE1 h7)
    omega
end

/-! ### States by number: the place times (b + 1), and the air -/
/-- The program's steps. -/
def RSm (D : SrchD) (b st st' : Nat) (w : Int) : Prop :=
  ∃ u, u < D.k ∧ st / (b + 1) < D.k ∧ EdgeM D (st / (b + 1)) u w ∧ w ≤ ((st % (b + 1) : Nat) : Int) ∧ st' = u * (b + 1) + (if D.dep u = true then b else st % (b + 1) - w.toNat)
theorem sIdx_div {u b x : Nat} (hx : x ≤ b) : (u * (b + 1) + x) / (b + 1) = u := by
  rw [Nat.mul_comm, Nat.mul_add_div (by omega), Nat.div_eq_of_lt (by omega)]; rfl
theorem sIdx_mod {u b x : Nat} (hx : x ≤ b) : (u * (b + 1) + x) % (b + 1) = x := by
  rw [Nat.mul_comm, Nat.mul_add_mod, Nat.mod_eq_of_lt (by omega)]
theorem sIdx_lt {u b x n : Nat} (hx : x ≤ b) (hu : u < n) : u * (b + 1) + x < n * (b + 1) := by
  have := Nat.mul_le_mul_right (b + 1) (show u + 1 ≤ n by omega)
  rw [Nat.add_mul] at this
  omega
theorem left_le (D : SrchD) (b st u : Nat) (w : Int) : (if D.dep u = true then b else st % (b + 1) - w.toNat) ≤ b := by
  have := Nat.mod_lt st (show 0 < b + 1 by omega)
  split <;> omega
theorem RSm.ok (D : SrchD) (b : Nat) : GOk (RSm D b) (D.k * (b + 1)) := fun st st' w h => by
  obtain ⟨u, h1, h2, h3, h4, rfl⟩ := h
  exact ⟨(Nat.div_lt_iff_lt_mul (by omega)).1 h2, sIdx_lt (left_le D b st u w) h1, h3.2⟩
theorem sw_of_gw {D : SrchD} {b f st : Nat} {d : Int} (h : GW (RSm D b) (f * (b + 1) + b) st d) : SW (EdgeM D) D.dep b f (st / (b + 1)) ((st % (b + 1) : Nat) : Int) d := by
  induction h with
  | refl =>
    rw [sIdx_div (Nat.le_refl _), sIdx_mod (Nat.le_refl _)]
    exact .start
  | @snoc c u d w hw hr ih =>
    obtain ⟨v, h1, h2, h3, h4, rfl⟩ := hr
    have := SW.step ih h3 h4
    rw [sIdx_div (left_le D b c v w), sIdx_mod (left_le D b c v w)]
    have e : (((if D.dep v = true then b else c % (b + 1) - w.toNat : Nat)) : Int) = if D.dep v = true then (b : Int) else ((c % (b + 1) : Nat) : Int) - w := by
      have := h3.2
      split <;> omega
    rw [e]
    exact this
theorem sw_air {D : SrchD} {b f a : Nat} {air d : Int} (h : SW (EdgeM D) D.dep b f a air d) : 0 ≤ air ∧ air ≤ b := by
  induction h with
  | start => omega
  | step _ he ht ih =>
    have := he.2
    split <;> omega
theorem gw_of_sw {D : SrchD} (hok : SrchOk D) {b f a : Nat} {air d : Int} (hf : f < D.k) (h : SW (EdgeM D) D.dep b f a air d) : a < D.k ∧ GW (RSm D b) (f * (b + 1) + b) (a * (b + 1) + air.toNat) d := by
  induction h with
  | start => exact ⟨hf, by rw [Int.toNat_natCast]; exact .refl _⟩
  | @step a u air d t hs he ht ih =>
    have hu := (edge_ok hok (edge_of_min he)).2.1
    have ha := sw_air hs
    have h0 := he.2
    have hx : air.toNat ≤ b := by omega
    refine ⟨hu, .snoc ih.2 ⟨u, hu, by rw [sIdx_div hx]; exact ih.1, by rw [sIdx_div hx]; exact he, by rw [sIdx_mod hx]; omega, ?_⟩⟩
    rw [sIdx_mod hx]
    congr 1
    split <;> omega
/-- The first state of the goal that is settled as the nearest one tells the least time. -/
theorem sdist_of_dj {D : SrchD} (hok : SrchOk D) {b f g c : Nat} {S : Nat → Bool} {times : Nat → Int} {hi : Int} (hf : f < D.k) (h : DJ (RSm D b) (D.k * (b + 1)) (f * (b + 1) + b) S times hi)
    (hS : ∀ x, x / (b + 1) = g → S x = false) (hc : c < D.k * (b + 1)) (hcg : c / (b + 1) = g) (h0 : 0 ≤ times c) (hl : ∀ x, x < D.k * (b + 1) → S x = false → 0 ≤ times x → times c ≤ times x) :
    SDist (EdgeM D) D.dep b f g (times c) := by
  refine .inr ⟨h0, ⟨_, by have := sw_of_gw (h.sound c hc h0); rwa [hcg] at this⟩, fun air d hw => ?_⟩
  have ha := sw_air hw
  have hx : air.toNat ≤ b := by omega
  rcases h.way (RSm.ok D b) (sIdx_lt (Nat.le_refl _) hf) (gw_of_sw hok hf hw).2 with ⟨h1, _⟩ | ⟨x, h1, h2, h3, h4⟩
  · rw [hS _ (sIdx_div hx)] at h1; cases h1
  · have := hl x h1 h2 h3; omega
theorem sdist_none {D : SrchD} (hok : SrchOk D) {b f g : Nat} {S : Nat → Bool} {times : Nat → Int} {hi : Int} (hf : f < D.k) (h : DJ (RSm D b) (D.k * (b + 1)) (f * (b + 1) + b) S times hi)
    (hS : ∀ x, x / (b + 1) = g → S x = false) (hl : ∀ x, x < D.k * (b + 1) → S x = false → times x < 0) : SDist (EdgeM D) D.dep b f g (-1) := by
  refine .inl ⟨rfl, fun air d hw => ?_⟩
  have ha := sw_air hw
  have hx : air.toNat ≤ b := by omega
  rcases h.way (RSm.ok D b) (sIdx_lt (Nat.le_refl _) hf) (gw_of_sw hok hf hw).2 with ⟨h1, _⟩ | ⟨x, h1, h2, h3, h4⟩
  · rw [hS _ (sIdx_div hx)] at h1; cases h1
  · have := hl x h1 h2; omega
/-- No step of c leads to a number between. -/
theorem DJp.jump {R : Nat → Nat → Int → Prop} {n s : Nat} {S : Nat → Bool} {times : Nat → Int} {hi : Int} {c j j' : Nat} (h : DJp R n s S times hi c j) (_ : j ≤ j') (hno : ∀ u t, j ≤ u → u < j' → ¬ R c u t) : DJp R n s S times hi c j' :=
  ⟨h.lo, h.sound, h.src, h.sett, fun v u t hv hs hvc hr => by
    by_cases e : v = c ∧ j ≤ u
    · obtain ⟨rfl, e2⟩ := e
      exact absurd hr (hno u t e2 (hvc rfl))
    · exact h.out v u t hv hs (fun e2 => by have := hvc e2; omega) hr, h.ord, h.top, h.last⟩
end Go.Proofs.YtlhcjbgcgbeocaaDoor
