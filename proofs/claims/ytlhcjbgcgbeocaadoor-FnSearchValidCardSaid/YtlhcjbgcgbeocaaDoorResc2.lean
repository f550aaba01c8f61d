/- The nearest that is known and not settled. Lists are at most 2^20 long. -/
import Derived.Test.YtlhcjbgcgbeocaaDoorResc1
namespace Go.Proofs.YtlhcjbgcgbeocaaDoor
open Go.RowKit

/-- i is the nearest of the first k that is known and not settled; -1: there is none. -/
def Near (x : Nat → Int) (S : Nat → Bool) (k : Nat) (i : Int) : Prop :=
  (i = -1 ∧ ∀ j, j < k → S j = false → x j < 0) ∨ ∃ c : Nat, i = (c : Int) ∧ c < k ∧ S c = false ∧ 0 ≤ x c ∧ ∀ j, j < k → S j = false → 0 ≤ x j → x c ≤ x j
theorem Near.keep {x : Nat → Int} {S : Nat → Bool} {k : Nat} {i : Int} (h : Near x S k i) (hk : S k = true ∨ x k < 0 ∨ ∃ c : Nat, i = (c : Int) ∧ x c ≤ x k) : Near x S (k + 1) i := by
  rcases h with ⟨h1, h2⟩ | ⟨c, h1, h2, h3, h4, h5⟩
  · refine .inl ⟨h1, fun j hj hS => ?_⟩
    by_cases e : j = k
    · subst e
      rcases hk with h | h | ⟨c, h, _⟩
      · rw [hS] at h; cases h
      · exact h
      · omega
    · exact h2 j (by omega) hS
  · refine .inr ⟨c, h1, by omega, h3, h4, fun j hj hS h0 => ?_⟩
    by_cases e : j = k
    · subst e
      rcases hk with h | h | ⟨c', h, h'⟩
      · rw [hS] at h; cases h
      · omega
      · obtain rfl : c' = c := by omega
        exact h'
    · exact h5 j (by omega) hS h0
theorem Near.set {x : Nat → Int} {S : Nat → Bool} {k : Nat} {i : Int} (h : Near x S k i) (h0 : 0 ≤ x k) (hS : S k = false) (hk : i < 0 ∨ ∃ c : Nat, i = (c : Int) ∧ x k < x c) : Near x S (k + 1) k := by
  refine .inr ⟨k, rfl, by omega, hS, h0, fun j hj hSj hj0 => ?_⟩
  by_cases e : j = k
  · subst e; omega
  · rcases h with ⟨h1, h2⟩ | ⟨c, h1, h2, h3, h4, h5⟩
    · have := h2 j (by omega) hSj; omega
    · have := h5 j (by omega) hSj hj0
      rcases hk with h | ⟨c', h, h'⟩
      · omega
      · obtain rfl : c' = c := by omega
        omega

theorem earliest_any (A B : Option Addr) (n c d : Nat) (x : Nat → Int) (S : Nat → Bool) (w : World) (hx : Ints w A n x) (hS : Bools w B n S) (hn : n ≤ 1048576) :
    Calls Tryd.prog 59 #[.slice A n c, .slice B n d] w fun e w' => (∃ i, e = .returned (.int .i64 i) ∧ Near x S n i) ∧ w = w' := by
  go_enter Tryd.func59, Tryd.ntmps59
  go_wp2
  go_loop [5, 10] (fun b i => ∃ k : Nat, ∃ q : Int, k ≤ n ∧ i = .int .i64 k ∧ b = .int .i64 q ∧ Hid (Near x S k q)) (fun _ i => n - (intOf i).toNat)
  case atStart => exact ⟨0, -1, by omega, rfl, rfl, .inl ⟨rfl, fun j hj => absurd hj (by omega)⟩⟩
  case round =>
    obtain ⟨k, q, hk, rfl, rfl, HN⟩ := hrel
    by_cases hlt : k < n
    · obtain ⟨b, o, rfl, hc⟩ := hx (by omega)
      obtain ⟨b', o', rfl, hc'⟩ := hS (by omega)
      have a1 : w.cell? ⟨b, o + k, none⟩ = some (.int .i64 (x k)) := hc k hlt
      have a2 : w.cell? ⟨b', o' + k, none⟩ = some (.bool (S k)) := hc' k hlt
      have hltz : (k : Int) < (n : Int) := by omega
      by_cases h0 : 0 ≤ x k
      · rcases (Bool.eq_false_or_eq_true (S k)).symm with hs | hs
        · by_cases hq : q < 0
          · have HN2 := hid (HN.out.set h0 hs (.inl hq))
            rw [hs] at a2
            clear hc hc' hx hS hs
            go_wp2
            go_round
            case rel => exact ⟨k + 1, k, by omega, by go_num, rfl, HN2⟩
            case measure => simp [intOf] <;> omega
          · obtain ⟨z, rfl⟩ := Int.eq_ofNat_of_zero_le (show 0 ≤ q by omega)
            have hz : z < k := by rcases HN.out with ⟨h, _⟩ | ⟨z', h, h', _⟩ <;> omega
            have a3 : w.cell? ⟨b, o + z, none⟩ = some (.int .i64 (x z)) := hc z (by omega)
            have hzz : (z : Int) < (n : Int) := by omega
            by_cases h3 : x k < x z
            · have HN2 := hid (HN.out.set h0 hs (.inr ⟨z, rfl, h3⟩))
              rw [hs] at a2
              clear hc hc' hx hS hs
              go_wp2
              go_round
              case rel => exact ⟨k + 1, k, by omega, by go_num, rfl, HN2⟩
              case measure => simp [intOf] <;> omega
            · have HN2 := hid (HN.out.keep (.inr (.inr ⟨z, rfl, by omega⟩)))
              rw [hs] at a2
              clear hc hc' hx hS hs
              go_wp2
              go_round
              case rel => exact ⟨k + 1, _, by omega, by go_num, rfl, HN2⟩
              case measure => simp [intOf] <;> omega
        · have HN2 := hid (HN.out.keep (.inl hs))
          rw [hs] at a2
          clear hc hc' hx hS hs
          go_wp2
          go_round
          case rel => exact ⟨k + 1, _, by omega, by go_num, rfl, HN2⟩
          case measure => simp [intOf] <;> omega
      · have HN2 := hid (HN.out.keep (.inr (.inl (by omega))))
        clear hc hc' hx hS
        go_wp2
        go_round
        case rel => exact ⟨k + 1, _, by omega, by go_num, rfl, HN2⟩
        case measure => simp [intOf] <;> omega
    · have : k = n := by omega
      subst this
      go_wp2
      go_ret
      exact ⟨⟨_, rfl, HN.out⟩, rfl⟩
end Go.Proofs.YtlhcjbgcgbeocaaDoor
