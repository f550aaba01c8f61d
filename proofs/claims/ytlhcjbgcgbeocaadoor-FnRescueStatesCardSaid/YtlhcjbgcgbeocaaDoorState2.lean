/- Settling states (place, air left) one by one: what is kept. Plain. -/
import Derived.Test.YtlhcjbgcgbeocaaDoorState
import Derived.Test.YtlhcjbgcgbeocaaDoorResc3
namespace Go.Proofs.YtlhcjbgcgbeocaaDoor
open Go.RowKit

def DSx (D : SrchD) (b f : Nat) (S : Nat → Bool) (times : Nat → Int) (l : Nat) : Prop := cntF S (D.k * (b + 1)) = l ∧ ∃ hi : Int, hi ≤ 20 * ((D.k * (b + 1) - l : Nat) * 7) ∧ DJ (RSm D b) (D.k * (b + 1)) (f * (b + 1) + b) S times hi
def DSy (D : SrchD) (b f : Nat) (S : Nat → Bool) (times : Nat → Int) (l c u : Nat) : Prop :=
  cntF S (D.k * (b + 1)) + 1 = l ∧ l ≤ D.k * (b + 1) ∧ ∃ hi : Int, hi ≤ 20 * ((D.k * (b + 1) - l : Nat) * 7 + u) ∧ DJp (RSm D b) (D.k * (b + 1)) (f * (b + 1) + b) S times hi c (u * (b + 1))
/-- The state that a step of w minutes from state c to place u leads to. -/
def tgt (D : SrchD) (b c u : Nat) (w : Int) : Nat := u * (b + 1) + (if D.dep u = true then b else c % (b + 1) - w.toNat)
theorem tgt_le (D : SrchD) (b c u : Nat) (w : Int) : u * (b + 1) ≤ tgt D b c u w ∧ tgt D b c u w < (u + 1) * (b + 1) := by
  have := left_le D b c u w
  unfold tgt
  rw [Nat.add_mul]
  omega
theorem tgt_lt {D : SrchD} {b c u : Nat} {w : Int} (hu : u < D.k) : tgt D b c u w < D.k * (b + 1) := sIdx_lt (left_le D b c u w) hu
section
variable {D : SrchD} {b f c u l : Nat} {S : Nat → Bool} {times : Nat → Int}
theorem DSx.start (hf : f < D.k) : DSx D b f (fun _ => false) (fun v => if v = f * (b + 1) + b then 0 else -1) (D.k * (b + 1)) := ⟨cntF_all _, 0, by omega, DJ.start (sIdx_lt (Nat.le_refl _) hf)⟩
theorem DSx.settle (h : DSx D b f S times l) (hc : c < D.k * (b + 1)) (h0 : 0 ≤ times c) (hS : S c = false) (hl : ∀ x, x < D.k * (b + 1) → S x = false → 0 ≤ times x → times c ≤ times x) :
    DSy D b f (fun v => if v = c then true else S v) times l c 0 := by
  obtain ⟨h1, hi, h2, h3⟩ := h
  have := cntF_set hS (D.k * (b + 1)) hc
  have := cntF_le S (D.k * (b + 1))
  have h4 := h3.settle hc h0 hS hl
  exact ⟨by omega, by omega, hi, by omega, by rw [Nat.zero_mul]; exact h4⟩
theorem DSy.done (h7 : D.k ≤ 7) (h : DSy D b f S times l c D.k) : DSx D b f S times (l - 1) ∧ 0 < l := by
  obtain ⟨h1, h4, hi, h2, h3⟩ := h
  refine ⟨⟨by omega, hi, ?_, h3.done (RSm.ok D b)⟩, by omega⟩
  have : D.k * (b + 1) - (l - 1) = D.k * (b + 1) - l + 1 := by omega
  rw [this]
  omega
/-- A step from c into the block of place u leads to one state alone. -/
theorem step_in {st : Nat} {t : Int} (h : RSm D b c st t) (h1 : u * (b + 1) ≤ st) (h2 : st < (u + 1) * (b + 1)) : EdgeM D (c / (b + 1)) u t ∧ t ≤ ((c % (b + 1) : Nat) : Int) ∧ st = tgt D b c u t := by
  obtain ⟨u', hu', _, he, hle, rfl⟩ := h
  have hx := left_le D b c u' t
  have e : u' = u := by
    have e1 : (u' * (b + 1) + (if D.dep u' = true then b else c % (b + 1) - t.toNat)) / (b + 1) = u' := sIdx_div hx
    have e2 : u ≤ (u' * (b + 1) + (if D.dep u' = true then b else c % (b + 1) - t.toNat)) / (b + 1) := (Nat.le_div_iff_mul_le (by omega)).2 h1
    have e3 : (u' * (b + 1) + (if D.dep u' = true then b else c % (b + 1) - t.toNat)) / (b + 1) < u + 1 := (Nat.div_lt_iff_lt_mul (by omega)).2 h2
    omega
  subst e
  exact ⟨he, hle, rfl⟩
theorem DSy.skip (h : DSy D b f S times l c u) (hno : ∀ t, EdgeM D (c / (b + 1)) u t → ¬ t ≤ ((c % (b + 1) : Nat) : Int)) : DSy D b f S times l c (u + 1) := by
  obtain ⟨h1, h4, hi, h2, h3⟩ := h
  refine ⟨h1, h4, hi, by omega, h3.jump (Nat.mul_le_mul_right _ (by omega)) (fun st t k1 k2 hr => ?_)⟩
  have := step_in hr k1 k2
  exact hno t this.1 this.2.1
theorem edgeM_uniq {a v : Nat} {t w : Int} (h : EdgeM D a v t) (k : EdgeM D a v w) : t = w := h.1.uniq k.1
theorem DSy.keep (h : DSy D b f S times l c u) {w : Int} (he : EdgeM D (c / (b + 1)) u w) (hk : 0 ≤ times (tgt D b c u w) ∧ times (tgt D b c u w) ≤ times c + w) : DSy D b f S times l c (u + 1) := by
  obtain ⟨h1, h4, hi, h2, h3⟩ := h
  have ht := tgt_le D b c u w
  refine ⟨h1, h4, hi, by omega, ?_⟩
  have k1 := h3.jump ht.1 (fun st t k1 k2 hr => by
    have := step_in hr k1 (by omega)
    have e := edgeM_uniq this.1 he
    rw [e] at this
    omega)
  have k2 := k1.keep (fun t hr => by
    have := step_in hr ht.1 ht.2
    rw [edgeM_uniq this.1 he]
    exact hk)
  exact k2.jump (by omega) (fun st t k1 k2 hr => by
    have := step_in hr (by omega) k2
    have e := edgeM_uniq this.1 he
    rw [e] at this
    omega)
theorem DSy.set (h : DSy D b f S times l c u) {w : Int} (hc : c < D.k * (b + 1)) (hu : u < D.k) (he : EdgeM D (c / (b + 1)) u w) (hw : w ≤ ((c % (b + 1) : Nat) : Int)) (hw20 : w ≤ 20) (hk : times (tgt D b c u w) < 0 ∨ times c + w < times (tgt D b c u w)) :
    DSy D b f S (fun v => if v = tgt D b c u w then times c + w else times v) l c (u + 1) := by
  obtain ⟨h1, h4, hi, h2, h3⟩ := h
  have ht := tgt_le D b c u w
  have hat : c / (b + 1) < D.k := (Nat.div_lt_iff_lt_mul (by omega)).2 hc
  refine ⟨h1, h4, hi + 20, by omega, ?_⟩
  have k1 := h3.jump ht.1 (fun st t k1 k2 hr => by
    have := step_in hr k1 (by omega)
    have e := edgeM_uniq this.1 he
    rw [e] at this
    omega)
  have k2 := k1.set hc (tgt_lt hu) (w := w) ⟨u, hu, hat, he, hw, rfl⟩ he.2 (fun t hr => by
    have := step_in hr ht.1 ht.2
    rw [edgeM_uniq this.1 he]
    exact Int.le_refl _) hk (show hi ≤ hi + 20 by omega) (by omega)
  exact k2.jump (by omega) (fun st t k1 k2 hr => by
    have := step_in hr (by omega) k2
    have e := edgeM_uniq this.1 he
    rw [e] at this
    omega)
theorem DSy.sum (h60 : b ≤ 60) (h7 : D.k ≤ 7) (h : DSy D b f S times l c u) (hu : u ≤ 7) {w : Int} (h0 : 0 ≤ w) (hw : w ≤ 20) : wrap64 (times c + w) = times c + w := by
  obtain ⟨h1, h4, hi, h2, h3⟩ := h
  have := h3.lo c
  have := h3.top c
  have hN : D.k * (b + 1) ≤ 7 * 61 := Nat.mul_le_mul h7 (by omega)
  unfold wrap64
  omega
end
end Go.Proofs.YtlhcjbgcgbeocaaDoor
