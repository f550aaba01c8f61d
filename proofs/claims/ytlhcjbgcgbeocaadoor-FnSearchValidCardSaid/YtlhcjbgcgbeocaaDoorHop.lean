/- Hops from depot to depot: the program's way to search (from the start) and the reference's (from the goal) find the same. -/
import Derived.Test.YtlhcjbgcgbeocaaDoorGen
import Derived.Test.YtlhcjbgcgbeocaaDoorExit
namespace Go.Proofs.YtlhcjbgcgbeocaaDoor
open Go.RowKit

/-- A walk that the air is enough for. -/
def Hop (D : SrchD) (br : Int) (a b : Nat) (w : Int) : Prop := (a < D.k ∧ b < D.k) ∧ Dist D a b w ∧ 0 ≤ w ∧ w ≤ br
/-- The program's steps: on from the start and from depots. -/
def RI (D : SrchD) (br : Int) (f v u : Nat) (w : Int) : Prop := Hop D br v u w ∧ (v = f ∨ D.dep v = true)
/-- The reference's steps, back: from the goal and from depots. -/
def RB (D : SrchD) (br : Int) (g b a : Nat) (w : Int) : Prop := Hop D br a b w ∧ (b = g ∨ D.dep b = true)
theorem RI.ok (D : SrchD) (br : Int) (f : Nat) : GOk (RI D br f) D.k := fun _ _ _ h => ⟨h.1.1.1, h.1.1.2, h.1.2.2.1⟩
theorem RB.ok (D : SrchD) (br : Int) (g : Nat) : GOk (RB D br g) D.k := fun _ _ _ h => ⟨h.1.1.2, h.1.1.1, h.1.2.2.1⟩

inductive CH (D : SrchD) (br : Int) (g : Nat) : Nat → Int → Prop
  | done : CH D br g g 0
  | last {a : Nat} {w : Int} : Hop D br a g w → CH D br g a w
  | more {a b : Nat} {w d : Int} : Hop D br a b w → D.dep b = true → CH D br g b d → CH D br g a (w + d)

section
variable {D : SrchD} {br : Int}

theorem ch_of_rb {g a : Nat} {d : Int} (h : GW (RB D br g) g a d) : ∃ d', d' ≤ d ∧ CH D br g a d' := by
  induction h with
  | refl => exact ⟨0, by omega, .done⟩
  | @snoc b a d w hw hr ih =>
    obtain ⟨d', h1, h2⟩ := ih
    have h0 := gw_nonneg (RB.ok D br g) hw
    rcases hr.2 with e | e
    · subst e; exact ⟨w, by omega, .last hr.1⟩
    · exact ⟨w + d', by omega, .more hr.1 e h2⟩
theorem rb_of_ch {g a : Nat} {d : Int} (h : CH D br g a d) : GW (RB D br g) g a d := by
  induction h with
  | done => exact .refl _
  | last hh => have := GW.snoc (.refl g) (show RB D br g g _ _ from ⟨hh, .inl rfl⟩); simpa using this
  | more hh hd _ ih => rw [Int.add_comm]; exact .snoc ih ⟨hh, .inr hd⟩
theorem ri_of_ch {f g v : Nat} {e d : Int} (h : CH D br g v d) (hw : GW (RI D br f) f v e) (hv : v = f ∨ D.dep v = true) : GW (RI D br f) f g (e + d) := by
  induction h generalizing e with
  | done => simpa using hw
  | last hh => exact .snoc hw ⟨hh, hv⟩
  | more hh hd _ ih => rw [← Int.add_assoc]; exact ih (.snoc hw ⟨hh, hv⟩) (.inr hd)
theorem ch_back {f g u : Nat} {e : Int} (h : GW (RI D br f) f u e) : ∀ d, (u = f ∨ D.dep u = true) → CH D br g u d → ∃ d', d' ≤ e + d ∧ CH D br g f d' := by
  induction h with
  | refl => exact fun d _ hc => ⟨d, by omega, hc⟩
  | @snoc v u e w hw hr ih =>
    intro d hu hc
    have h0 := gw_nonneg (RI.ok D br f) hw
    have h1 := hr.1.2.2.1
    rcases hu with e1 | e1
    · subst e1; exact ⟨d, by omega, hc⟩
    · obtain ⟨d', h2, h3⟩ := ih (w + d) hr.2 (.more hr.1 e1 hc)
      exact ⟨d', by omega, h3⟩
theorem ch_of_ri {f g : Nat} {e : Int} (h : GW (RI D br f) f g e) : ∃ d', d' ≤ e ∧ CH D br g f d' := by
  cases h with
  | refl => exact ⟨0, by omega, .done⟩
  | snoc hw hr =>
    obtain ⟨d', h1, h2⟩ := ch_back hw _ hr.2 (.last hr.1)
    exact ⟨d', h1, h2⟩
theorem rb_ri {f g : Nat} {r : Int} (h : GDist (RB D br g) g f r) : GDist (RI D br f) f g r := by
  rcases h with ⟨h1, h2⟩ | ⟨h1, h2, h3⟩
  · refine .inl ⟨h1, fun d hd => ?_⟩
    obtain ⟨d', _, hc⟩ := ch_of_ri hd
    exact h2 _ (rb_of_ch hc)
  · obtain ⟨d', hd, hc⟩ := ch_of_rb h2
    have h4 := h3 _ (rb_of_ch hc)
    obtain rfl : d' = r := by omega
    refine .inr ⟨h1, by have := ri_of_ch hc (.refl f) (.inl rfl); simpa using this, fun d hd => ?_⟩
    obtain ⟨d'', q1, q2⟩ := ch_of_ri hd
    have := h3 _ (rb_of_ch q2)
    omega
end

/-- The arguments are such as RescueTime takes. -/
def RtOk (D : SrchD) (br f t : Int) : Prop := SrchOk D ∧ (1 ≤ br ∧ br ≤ 60) ∧ (0 ≤ f ∧ f < D.s) ∧ (0 ≤ t ∧ t < D.s)
/-- What RescueTime returns. -/
def RT (D : SrchD) (br f t r : Int) : Prop := (RtOk D br f t ∧ GDist (RI D br f.toNat) f.toNat t.toNat r) ∨ (¬ RtOk D br f t ∧ r = -1)
theorem RT.uniq {D : SrchD} {br f t r q : Int} (h : RT D br f t r) (k : RT D br f t q) : r = q := by
  rcases h with ⟨h1, h2⟩ | ⟨h1, h2⟩ <;> rcases k with ⟨k1, k2⟩ | ⟨k1, k2⟩
  · exact h2.uniq k2
  · exact absurd h1 k1
  · exact absurd k1 h1
  · omega
end Go.Proofs.YtlhcjbgcgbeocaaDoor
