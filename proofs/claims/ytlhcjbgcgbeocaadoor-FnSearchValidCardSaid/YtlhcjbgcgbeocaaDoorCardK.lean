/- What a tied card's row hands to its walk: the laid table, the bytes. -/
import Derived.Test.YtlhcjbgcgbeocaaDoorAliv
import Derived.Test.YtlhcjbgcgbeocaaDoorOpen
import Derived.Test.YtlhcjbgcgbeocaaDoorRdr
import Derived.Test.YtlhcjbgcgbeocaaDoorTie
import Derived.Test.YtlhcjbgcgbeocaaDoorCards
import Derived.SevenTiedAt
import Derived.LaidMore
import Derived.LaidLaws
namespace Go.Proofs.YtlhcjbgcgbeocaaDoor
open Go.RowKit Go.ChangeShapes Go.WideShapes

theorem tab_of_laid {w : World} (h : laidMetH Tryd.prog [("math/bits.deBruijn32tab", Rows.laid_math_bits_deBruijn32tab), ("math/bits.deBruijn64tab", Rows.laid_math_bits_deBruijn64tab), ("internal/strconv.uint64pow10", Rows.laid_internal_strconv_uint64pow10)] w) : Pow10 w := by
  rw [MakeChecks.laidMetH_plain _ _ _ (by kernel_rfl)] at h
  have h2 := h.tail.tail
  have e : (Rows.laid_internal_strconv_uint64pow10 : DataW Unit) = Lib.tabData .u64 Lib.pow10Tab := by rfl
  rw [e] at h2
  exact Lib.tabIs_of_head (g := 0) (t := 92) (e := 86) (n := 20) (by kernel_rfl) (by kernel_rfl) Tryd.underlying92 Tryd.underlying86 (by kernel_rfl) (by kernel_rfl) h2

section
variable {H : Type} {enc : TypeId × Value → H} {P : Program} {w : World} {base : Nat} {spare : Nat → Bool} {held : Bool}
theorem open_Bytes {t e : TypeId} {fuel : Nat} {v : Value} {x : DataW H × List MemPlace} (ht : P.underlying t = some (.slice e)) (he : P.underlying e = some (.int .u8)) (hc : P.cellsOf e = 1)
    (h : DataW.trod enc P w base spare held fuel t [v] = some x) : ∃ (A : Option Addr) (n c : Nat) (y : Nat → Int), v = .slice A n c ∧ Rd w A n (fun j => .int .u8 (y j)) ∧ n ≤ c ∧ ∀ j, 0 ≤ y j ∧ y j < 256 := by
  rcases open_ints ht he hc h with ⟨hcs, _⟩ | ⟨a, len, cap, zs, hcs, _, hl, hm, hz, _, hcell, hwf⟩
  · simp at hcs
    exact ⟨none, 0, 0, fun _ => 0, hcs, fun h => absurd h (by omega), by omega, fun _ => ⟨by simp, by simp⟩⟩
  · simp at hcs
    unfold maxLen at hm
    refine ⟨some a, len, cap, fun j => zs.getD j 0, hcs, fun h0 => ?_, by omega, fun j => ?_⟩
    · have hlz : len ≤ zs.length := by rw [hz]; split <;> omega
      have h1 := addr_of (hcell 0 (by omega))
      have hsp : a.spot = none := by have := World.cell?_spot (hcell 0 (by omega)); simpa [Addr.add] using this
      obtain ⟨b, o, sp⟩ := a
      simp at hsp
      subst hsp
      exact ⟨b, o, rfl, fun j hj => by have := hcell j (by omega); rwa [Addr.add_lit] at this⟩
    · by_cases hj : j < zs.length
      · have := hwf (zs.getD j 0) (by rw [List.getD_eq_getElem?_getD, List.getElem?_eq_getElem hj]; simp)
        simp [Lit.wf, IntKind.min, IntKind.max, IntKind.signed, IntKind.bits] at this
        simp only [List.getD_eq_getElem?_getD]
        omega
      · show 0 ≤ zs.getD j 0 ∧ zs.getD j 0 < 256
        rw [List.getD_eq_getElem?_getD, List.getElem?_eq_none (by omega)]
        simp
end
end Go.Proofs.YtlhcjbgcgbeocaaDoor
