/- The program's RescueTime. Lists are at most 2^20 long. -/
import Derived.Test.YtlhcjbgcgbeocaaDoorResc2
import Derived.Deep.LoopGhost
namespace Go.Proofs.YtlhcjbgcgbeocaaDoor
open Go.RowKit

/-- How many of the first k are not settled. -/
def cntF (S : Nat → Bool) : Nat → Nat
  | 0 => 0
  | k + 1 => cntF S k + if S k then 0 else 1
theorem cntF_all : ∀ k, cntF (fun _ => false) k = k
  | 0 => rfl
  | k + 1 => by simp [cntF, cntF_all k]
theorem cntF_ge (S : Nat → Bool) (c : Nat) : ∀ k, k ≤ c → cntF (fun v => if v = c then true else S v) k = cntF S k
  | 0, _ => rfl
  | k + 1, h => by
    have := cntF_ge S c k (by omega)
    simp only [cntF, this, if_neg (show k ≠ c by omega)]
theorem cntF_set {S : Nat → Bool} {c : Nat} (hS : S c = false) : ∀ k, c < k → cntF (fun v => if v = c then true else S v) k + 1 = cntF S k
  | 0, h => absurd h (by omega)
  | k + 1, h => by
    by_cases e : k = c
    · subst e
      have := cntF_ge S k k (Nat.le_refl _)
      show cntF _ k + (if (if k = k then true else S k) then 0 else 1) + 1 = cntF S k + if S k then 0 else 1
      rw [this, if_pos rfl, if_pos rfl, hS, if_neg (by decide)]
    · have := cntF_set hS k (by omega)
      simp only [cntF, if_neg e]
      omega
theorem bools_row_set {w : World} {g n : Nat} {S : Nat → Bool} (h : w.rowIs g 4 n (fun j => .bool (S j))) (c : Nat) : (w.setCell ⟨g, c, none⟩ (.bool true)).rowIs g 4 n (fun j => .bool (if j = c then true else S j)) :=
  (h.set c _).congr fun j _ => by
    by_cases e : j = c
    · simp [e]
    · simp [e]

/-- The state of the search, with a bound: l places are not settled. -/
def DJx (D : SrchD) (br : Int) (f : Nat) (S : Nat → Bool) (times : Nat → Int) (l : Nat) : Prop := cntF S D.k = l ∧ ∃ hi : Int, hi ≤ 60 * ((D.k - l : Nat) * 7) ∧ DJ (RI D br f) D.k f S times hi
def DJy (D : SrchD) (br : Int) (f : Nat) (S : Nat → Bool) (times : Nat → Int) (l c j : Nat) : Prop := cntF S D.k + 1 = l ∧ l ≤ D.k ∧ ∃ hi : Int, hi ≤ 60 * ((D.k - l : Nat) * 7 + j) ∧ DJp (RI D br f) D.k f S times hi c j
section
variable {D : SrchD} {br : Int} {f c j l : Nat} {S : Nat → Bool} {times : Nat → Int}
theorem cntF_le (S : Nat → Bool) : ∀ k, cntF S k ≤ k
  | 0 => Nat.le_refl _
  | k + 1 => by
    have := cntF_le S k
    unfold cntF
    split <;> omega
theorem DJx.start (hf : f < D.k) : DJx D br f (fun _ => false) (fun v => if v = f then 0 else -1) D.k := ⟨cntF_all _, 0, by omega, DJ.start hf⟩
theorem DJx.settle (h : DJx D br f S times l) (hc : c < D.k) (h0 : 0 ≤ times c) (hS : S c = false) (hl : ∀ x, x < D.k → S x = false → 0 ≤ times x → times c ≤ times x) :
    DJy D br f (fun v => if v = c then true else S v) times l c 0 := by
  obtain ⟨h1, hi, h2, h3⟩ := h
  have := cntF_set hS D.k hc
  have := cntF_le S D.k
  exact ⟨by omega, by omega, hi, by omega, h3.settle hc h0 hS hl⟩
theorem DJy.done (h7 : D.k ≤ 7) (h : DJy D br f S times l c D.k) : DJx D br f S times (l - 1) ∧ 0 < l := by
  obtain ⟨h1, h4, hi, h2, h3⟩ := h
  refine ⟨⟨by omega, hi, ?_, h3.done (RI.ok D br f)⟩, by omega⟩
  rw [show D.k - (l - 1) = D.k - l + 1 by omega]
  omega
theorem DJy.stop (h : DJy D br f S times l c 0) (hc : ¬ (c = f ∨ D.dep c = true)) : DJx D br f S times (l - 1) ∧ 0 < l := by
  obtain ⟨h1, h4, hi, h2, h3⟩ := h
  refine ⟨⟨by omega, hi, ?_, h3.stop (fun u t hr => hc hr.2)⟩, by omega⟩
  rw [show D.k - (l - 1) = D.k - l + 1 by omega]
  omega
def Helps2 (br : Int) (times : Nat → Int) (c j : Nat) (w : Int) : Prop := (0 ≤ w ∧ w ≤ br) ∧ (times j < 0 ∨ times c + w < times j)
theorem DJy.keep (h : DJy D br f S times l c j) {w : Int} (hD : Dist D c j w) (hno : ¬ Helps2 br times c j w) : DJy D br f S times l c (j + 1) := by
  obtain ⟨h1, h4, hi, h2, h3⟩ := h
  refine ⟨h1, h4, hi, by omega, h3.keep fun t hr => ?_⟩
  obtain ⟨⟨_, q3, q4, q5⟩, q6⟩ := hr
  obtain rfl := q3.uniq hD
  have h8 : ¬ (times j < 0 ∨ times c + t < times j) := fun h => hno ⟨⟨q4, q5⟩, h⟩
  omega
theorem DJy.set (h60 : br ≤ 60) (h : DJy D br f S times l c j) (hc : c < D.k) (hj : j < D.k) (hcf : c = f ∨ D.dep c = true) {w : Int} (hD : Dist D c j w) (hy : Helps2 br times c j w) :
    DJy D br f S (fun v => if v = j then times c + w else times v) l c (j + 1) := by
  obtain ⟨h1, h4, hi, h2, h3⟩ := h
  obtain ⟨⟨q4, q5⟩, q6⟩ := hy
  exact ⟨h1, h4, hi + 60, by omega, h3.set hc hj (w := w) ⟨⟨⟨hc, hj⟩, hD, q4, q5⟩, hcf⟩ q4 (fun t hr => by rw [hr.1.2.1.uniq hD]; omega) q6 (by omega) (by omega)⟩
theorem DJy.sum (h60 : br ≤ 60) (h7 : D.k ≤ 7) (h : DJy D br f S times l c j) (hj : j ≤ 7) {w : Int} (h0 : 0 ≤ w) (hw : w ≤ br) : wrap64 (times c + w) = times c + w := by
  obtain ⟨h1, h4, hi, h2, h3⟩ := h
  have := h3.lo c
  have := h3.top c
  unfold wrap64
  omega
end
end Go.Proofs.YtlhcjbgcgbeocaaDoor
