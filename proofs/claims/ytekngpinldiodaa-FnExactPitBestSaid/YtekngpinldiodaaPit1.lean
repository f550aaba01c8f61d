/- Pits in memory: copying, weighing, comparing them; and the two PitValid, which tell the same property. Lists are at most 2^20 long. -/
import Derived.Test.YtekngpinldiodaaLeaf
namespace Go.Proofs.Ytekngpinldiodaa
open Go.RowKit

/-- A pit as data. -/
structure PitD where
  n : Nat
  p : Nat → Int
  l : Nat → Nat
  x : Nat → Nat → Int

/-- The slice at A, of D.n blocks, reads as D. -/
def PitAt (w : World) (A : Option Addr) (D : PitD) : Prop :=
  0 < D.n → ∃ b o, A = some ⟨b, o, none⟩ ∧ ∀ j, j < D.n → w.cell? ⟨b, o + j * 2, none⟩ = some (.int .i64 (D.p j)) ∧ ∃ C c, w.cell? ⟨b, o + j * 2 + 1, none⟩ = some (.slice C (D.l j) c) ∧ Ints w C (D.l j) (D.x j)

def PitSmall (D : PitD) : Prop := D.n ≤ 1048576 ∧ ∀ j, j < D.n → D.l j ≤ 1048576

theorem PitAt.below {w w' : World} {A : Option Addr} {D : PitD} (h : PitAt w A D) (hb : Below w.heap.size w w') : PitAt w' A D := fun hn => by
  obtain ⟨b, o, hA, hc⟩ := h hn
  refine ⟨b, o, hA, fun j hj => ?_⟩
  obtain ⟨h1, C, c, h2, h3⟩ := hc j hj
  exact ⟨cell_below hb h1, C, c, cell_below hb h2, h3.below hb⟩

theorem PitAt.at_ {w : World} {A : Option Addr} {D : PitD} (h : PitAt w A D) {k : Nat} (hk : k < D.n) :
    ∃ b o C c, A = some ⟨b, o, none⟩ ∧ w.cell? ⟨b, o + k * 2, none⟩ = some (.int .i64 (D.p k)) ∧ w.cell? ⟨b, o + k * 2 + 1, none⟩ = some (.slice C (D.l k) c) ∧ Ints w C (D.l k) (D.x k) := by
  obtain ⟨b, o, hA, hc⟩ := h (by omega)
  obtain ⟨h1, C, c, h2, h3⟩ := hc k hk
  exact ⟨b, o, C, c, hA, h1, h2, h3⟩

/-- It returns a number that is negative, or what is left of l, where P. -/
def SzB (P : Prop) (l : Int) (w : World) (e : Ending) (w' : World) : Prop := ∃ r : Int, e = .returned (.int .i64 r) ∧ (r < 0 ∨ (0 ≤ r ∧ r ≤ l ∧ P)) ∧ Below w.heap.size w w'

theorem szBlock_any (p : Int) (A : Option Addr) (n c : Nat) (l : Int) (w : World) (hl : l ≤ 1048576) (h0 : 0 ≤ l) (hn : n ≤ 9223372036854775807) :
    Calls Try.prog 47 #[.agg #[.int .i64 p, .slice A n c], .int .i64 l] w (SzB (n ≤ 1048576) l w) := by
  go_enter Try.func47, Try.ntmps47
  go_wp2_with (go_at_call 61; refine (szIntS_any A n c l _ hl h0 hn).mono ?_)
  rintro e w' ⟨r, rfl, hr, rfl⟩
  have HR := hid hr
  clear hr
  by_cases hneg : r < 0
  · go_wp2
    go_ret
    exact ⟨-1, rfl, .inl (by omega), (Below.refl _ _).alloc (Nat.le_refl _) _⟩
  · go_wp2
    go_ret
    have h9 := HR.out
    exact ⟨r, rfl, .inr ⟨by omega, by omega, by omega⟩, (Below.refl _ _).alloc (Nat.le_refl _) _⟩

set_option maxHeartbeats 400000 in
theorem szBlockS_any (A : Option Addr) (D : PitD) (c : Nat) (l : Int) (w : World) (hA : PitAt w A D) (hl : l ≤ 1048576) (h0 : 0 ≤ l) (hn : D.n ≤ 9223372036854775807) (hm : ∀ j, j < D.n → D.l j ≤ 9223372036854775807) :
    Calls Try.prog 14 #[.slice A D.n c, .int .i64 l] w (SzB (PitSmall D) l w) := by
  by_cases hbig : l - (D.n : Int) < 0
  · clear hm
    go_enter Try.func14, Try.ntmps14
    go_wp2
    go_ret
    exact ⟨-1, rfl, .inl (by omega), Below.refl _ _⟩
  · have HM := hid hm
    clear hm
    go_enter Try.func14, Try.ntmps14
    go_wp2
    go_loopw [1, 5] (fun r i wr => ∃ (k : Nat) (q : Int), k ≤ D.n ∧ i = .int .i64 k ∧ r = .int .i64 q ∧ 0 ≤ q ∧ q ≤ l ∧ (∀ j, j < k → D.l j ≤ 1048576) ∧ Below w.heap.size w wr) (fun _ i _ => D.n - (intOf i).toNat)
    case atStart => exact ⟨0, l - D.n, by omega, rfl, rfl, by omega, by omega, fun j hj => absurd hj (by omega), Below.refl _ _⟩
    case round =>
      obtain ⟨k, q, hk, rfl, rfl, hq0, hql, hall, hbel⟩ := hrel
      have HA := hid hall
      clear hall
      by_cases hlt : k < D.n
      · obtain ⟨b, o, C, cc, rfl, a1, a2, -⟩ := (hA.below hbel).at_ hlt
        have hltz : (k : Int) < (D.n : Int) := by omega
        clear hA
        go_wp2_with (go_at_call 47; refine (szBlock_any _ _ _ _ _ _ (by omega) (by omega) (HM.out k hlt)).mono ?_)
        rintro e w' ⟨r, rfl, hr, hb2⟩
        have HR := hid hr
        clear hr
        by_cases hneg : r < 0
        · go_wp2
          go_ret
          exact ⟨-1, rfl, .inl (by omega), Below.then_ hbel hb2⟩
        · have h9 := HR.out
          go_wp2
          go_roundw
          case rel => exact ⟨k + 1, r, by omega, by go_num, rfl, by omega, by omega, fun j hj => by
            by_cases e : j = k
            · subst e; omega
            · exact HA.out j (by omega), Below.then_ hbel hb2⟩
          case measure => simp [intOf]; omega
      · have : k = D.n := by omega
        subst this
        go_wp2
        go_ret
        exact ⟨q, rfl, .inr ⟨hq0, hql, by omega, HA.out⟩, hbel⟩
end Go.Proofs.Ytekngpinldiodaa
