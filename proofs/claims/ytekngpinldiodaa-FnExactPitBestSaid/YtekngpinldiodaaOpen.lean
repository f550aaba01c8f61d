/- What an argument that came in reads as: lists of numbers, lists of lists of numbers, pits. No condition. -/
import Derived.Test.YtekngpinldiodaaMem
import Derived.ProofKit
import Derived.OpenShut
import Derived.ChangeOld
import Derived.Deep.Slices
namespace Go.Proofs.Ytekngpinldiodaa
open Go.ChangeShapes Go.WideShapes Go.ChangeAt Go.RowKit Go.Deep

theorem own : ownKnob Try.prog.godebug = none := by kernel_rfl
theorem cells3 : Try.prog.cellsOf 3 = 1 := by kernel_rfl
theorem cells33 : Try.prog.cellsOf 33 = 1 := by kernel_rfl
theorem laidOut : laidOutB Try.prog = true := by kernel_rfl

section
variable {H : Type} {enc : TypeId × Value → H} {P : Program} {w : World} {base : Nat} {spare : Nat → Bool} {held : Bool}

theorem addr_of {a : Addr} {v : Value} (h : w.cell? a = some v) : a = ⟨a.block, a.off, none⟩ := by
  have := World.cell?_spot h
  cases a
  simp at this
  simp [this]

theorem open_Ints {t e : TypeId} {fuel : Nat} {v : Value} {x : DataW H × List MemPlace} (ht : P.underlying t = some (.slice e)) (he : P.underlying e = some (.int .i64)) (hc : P.cellsOf e = 1)
    (h : DataW.trod enc P w base spare held fuel t [v] = some x) : ∃ A n c y, v = .slice A n c ∧ Ints w A n y ∧ n ≤ 9223372036854775807 ∧ ∀ j, -9223372036854775808 ≤ y j ∧ y j ≤ 9223372036854775807 := by
  rcases open_ints ht he hc h with ⟨hcs, _⟩ | ⟨a, len, cap, zs, hcs, _, hl, hm, hz, _, hcell, hwf⟩
  · simp at hcs
    exact ⟨none, 0, 0, fun _ => 0, hcs, fun h => absurd h (by omega), by omega, fun _ => ⟨by simp, by simp⟩⟩
  · simp at hcs
    unfold maxLen at hm
    refine ⟨some a, len, cap, fun j => zs.getD j 0, hcs, fun h0 => ?_, by omega, fun j => ?_⟩
    · have hlz : len ≤ zs.length := by rw [hz]; split <;> omega
      have h1 := addr_of (hcell 0 (by omega))
      have hsp : a.spot = none := by have := World.cell?_spot (hcell 0 (by omega)); simpa [Addr.add] using this
      obtain ⟨b, o, sp⟩ := a
      simp at hsp
      subst hsp
      exact ⟨b, o, rfl, fun j hj => by have := hcell j (by omega); rwa [Addr.add_lit] at this⟩
    · by_cases hj : j < zs.length
      · have := hwf (zs.getD j 0) (by rw [List.getD_eq_getElem?_getD, List.getElem?_eq_getElem hj]; simp)
        simp [Lit.wf, IntKind.min, IntKind.max, IntKind.signed, IntKind.bits] at this
        simp only [List.getD_eq_getElem?_getD]
        omega
      · show -9223372036854775808 ≤ zs.getD j 0 ∧ zs.getD j 0 ≤ 9223372036854775807
        rw [List.getD_eq_getElem?_getD, List.getElem?_eq_none (by omega)]
        simp

/-- A slice of whatever elements: its cells, element by element. -/
theorem open_any {t e : TypeId} {fuel s : Nat} {v : Value} {x : DataW H × List MemPlace} (ht : P.underlying t = some (.slice e)) (hc : P.cellsOf e = s) (hs : 0 < s)
    (h : DataW.trod enc P w base spare held fuel t [v] = some x) :
    ∃ A n c, v = .slice A n c ∧ n ≤ 9223372036854775807 ∧ (0 < n → ∃ b o, A = some ⟨b, o, none⟩ ∧ ∀ j, j < n → ∃ cs m y, cs.length = s ∧ (∀ i, i < s → w.cell? ⟨b, o + (j * s + i), none⟩ = cs[i]?) ∧ DataW.trod enc P w base spare held m e cs = some y) := by
  rcases open_slice ht h with ⟨hcs, _⟩ | ⟨a, len, cap, m, n, D, Pl, hcs, _, hl, hm, hmm, _, hi⟩
  · simp at hcs
    exact ⟨none, 0, 0, hcs, by omega, fun h => absurd h (by omega)⟩
  · simp at hcs
    unfold maxLen at hm
    refine ⟨some a, len, cap, hcs, by omega, fun h0 => ?_⟩
    have hlm : len ≤ m := by rw [hmm]; split <;> omega
    have hsp : a.spot = none := by
      obtain ⟨cs', hcc, _⟩ := hi 0 (by omega)
      obtain ⟨_, hl2, hat⟩ := World.cells?_some hcc
      rw [hc] at hl2 hat
      have h2 := hat 0 hs
      rw [List.getElem?_eq_getElem (by omega)] at h2
      have := World.cell?_spot h2
      simpa [Addr.add] using this
    obtain ⟨b, o, sp⟩ := a
    simp at hsp
    subst hsp
    refine ⟨b, o, rfl, fun j hj => ?_⟩
    obtain ⟨cs', hcc, ht'⟩ := hi j (by omega)
    obtain ⟨_, hl2, hat⟩ := World.cells?_some hcc
    rw [hc] at hl2 hat
    refine ⟨cs', n, _, hl2, fun i hi' => ?_, ht'⟩
    have := hat i hi'
    rwa [Addr.add_lit, Addr.add_lit, Nat.add_assoc] at this

theorem list1 {α : Type} {l : List α} (h : l.length = 1) : ∃ a, l = [a] := by
  match l, h with
  | [a], _ => exact ⟨a, rfl⟩
theorem list2 {α : Type} {l : List α} (h : l.length = 2) : ∃ a b, l = [a, b] := by
  match l, h with
  | [a, b], _ => exact ⟨a, b, rfl⟩
theorem list3 {α : Type} {l : List α} (h : l.length = 3) : ∃ a b c, l = [a, b, c] := by
  match l, h with
  | [a, b, c], _ => exact ⟨a, b, c, rfl⟩

/-- A slice of slices of numbers. -/
theorem open_Rows {t e i : TypeId} {fuel : Nat} {v : Value} {x : DataW H × List MemPlace} (ht : P.underlying t = some (.slice e)) (he : P.underlying e = some (.slice i)) (hi : P.underlying i = some (.int .i64))
    (hc : P.cellsOf e = 1) (hci : P.cellsOf i = 1) (h : DataW.trod enc P w base spare held fuel t [v] = some x) :
    ∃ A n c, v = .slice A n c ∧ n ≤ 9223372036854775807 ∧ (0 < n → ∃ b o, A = some ⟨b, o, none⟩ ∧ ∀ j, j < n → ∃ B m d y, w.cell? ⟨b, o + j, none⟩ = some (.slice B m d) ∧ Ints w B m y ∧ m ≤ 9223372036854775807 ∧ ∀ k, -9223372036854775808 ≤ y k ∧ y k ≤ 9223372036854775807) := by
  obtain ⟨A, n, c, hv, hn, hb⟩ := open_any ht hc (by omega) h
  refine ⟨A, n, c, hv, hn, fun h0 => ?_⟩
  obtain ⟨b, o, hA, hel⟩ := hb h0
  refine ⟨b, o, hA, fun j hj => ?_⟩
  obtain ⟨cs, m, y, hl, hcell, htr⟩ := hel j hj
  obtain ⟨u, rfl⟩ := list1 hl
  obtain ⟨B, k, d, z, rfl, hz, hk, hw⟩ := open_Ints he hi hci htr
  have := hcell 0 (by omega)
  simp only [Nat.mul_one, Nat.add_zero, List.length_cons, List.length_nil, Nat.zero_add, Nat.lt_add_one, getElem?_pos, List.getElem_cons_zero] at this
  exact ⟨B, k, d, z, this, hz, hk, hw⟩
end
end Go.Proofs.Ytekngpinldiodaa
