/- Whether a list has a number: the reference's l1Has, and the library's Contains over Index. Lists are at most 2^20 long. -/
import Derived.Test.YtekngpinldiodaaLeaf
namespace Go.Proofs.Ytekngpinldiodaa
open Go.RowKit

def HasN (n : Nat) (x : Nat → Int) (v : Int) : Prop := ∃ j, j < n ∧ x j = v

theorem l1Has_any (A : Option Addr) (n c : Nat) (x : Nat → Int) (v : Int) (w : World) (hx : Ints w A n x) (hn : n ≤ 1048576) :
    Calls Try.prog 55 #[.slice A n c, .int .i64 v] w (RetBS (HasN n x v) w) := by
  go_enter Try.func55, Try.ntmps55
  go_wp2
  go_loop [5] (fun i => ∃ k : Nat, k ≤ n ∧ i = .int .i64 k ∧ ∀ j, j < k → x j ≠ v) (fun i => n - (intOf i).toNat)
  case atStart => exact ⟨0, by omega, rfl, fun j hj => absurd hj (by omega)⟩
  case round =>
    obtain ⟨k, hk, rfl, hall⟩ := hrel
    have HA := hid hall
    clear hall
    by_cases hlt : k < n
    · obtain ⟨b, o, rfl, hc⟩ := hx (by omega)
      have c1 := hc k hlt
      have hltz : (k : Int) < (n : Int) := by omega
      clear hc hx
      by_cases he : x k = v
      · have t : (x k == v) = true := by simp [he]
        have HE := hid he
        clear he
        go_wp2
        go_ret
        exact .mk_t ⟨k, hlt, HE.out⟩ rfl
      · have t : (x k == v) = false := by simp [he]
        have HE := hid he
        clear he
        go_wp2
        go_round
        case rel => exact ⟨k + 1, by omega, by go_num, fun j hj => by
          by_cases e : j = k
          · subst e; exact HE.out
          · exact HA.out j (by omega)⟩
        case measure => simp [intOf]; omega
    · go_wp2
      go_ret
      exact .mk_f (fun ⟨j, hj, e⟩ => HA.out j (by omega) e) rfl

/-- It returns a number, from 0 on just where the list has it. -/
def IdxRet (n : Nat) (x : Nat → Int) (v : Int) (w : World) (e : Ending) (w' : World) : Prop := ∃ r : Int, e = .returned (.int .i64 r) ∧ (0 ≤ r ↔ HasN n x v) ∧ w = w'

theorem Index_any (A : Option Addr) (n c : Nat) (x : Nat → Int) (v : Int) (w : World) (hx : Ints w A n x) (hn : n ≤ 1048576) :
    Calls Try.prog 64 #[.slice A n c, .int .i64 v] w (IdxRet n x v w) := by
  go_enter Try.func64, Try.ntmps64
  go_wp2
  go_loop [8] (fun i => ∃ k : Nat, k ≤ n ∧ i = .int .i64 k ∧ ∀ j, j < k → x j ≠ v) (fun i => n - (intOf i).toNat)
  case atStart => exact ⟨0, by omega, rfl, fun j hj => absurd hj (by omega)⟩
  case round =>
    obtain ⟨k, hk, rfl, hall⟩ := hrel
    have HA := hid hall
    clear hall
    by_cases hlt : k < n
    · obtain ⟨b, o, rfl, hc⟩ := hx (by omega)
      have c1 := hc k hlt
      have hltz : (k : Int) < (n : Int) := by omega
      clear hc hx
      by_cases he : x k = v
      · have t : (v == x k) = true := by simp [he]
        have HE := hid he
        clear he
        go_wp2
        go_ret
        exact ⟨k, rfl, ⟨fun _ => ⟨k, hlt, HE.out⟩, fun _ => by omega⟩, rfl⟩
      · have t : (v == x k) = false := by simp; exact fun h => he h.symm
        have HE := hid he
        clear he
        go_wp2
        go_round
        case rel => exact ⟨k + 1, by omega, by go_num, fun j hj => by
          by_cases e : j = k
          · subst e; exact HE.out
          · exact HA.out j (by omega)⟩
        case measure => simp [intOf]; omega
    · go_wp2
      go_ret
      exact ⟨-1, rfl, ⟨fun h => absurd h (by omega), fun ⟨j, hj, e⟩ => absurd e (HA.out j (by omega))⟩, rfl⟩

theorem Contains_any (A : Option Addr) (n c : Nat) (x : Nat → Int) (v : Int) (w : World) (hx : Ints w A n x) (hn : n ≤ 1048576) :
    Calls Try.prog 56 #[.slice A n c, .int .i64 v] w (RetBS (HasN n x v) w) := by
  go_enter Try.func56, Try.ntmps56
  go_wp2_with (go_at_call 64; refine (Index_any A n c x v w hx hn).mono ?_)
  rintro e w1 ⟨r, rfl, hr, rfl⟩
  have HR := hid hr
  clear hr
  by_cases h0 : 0 ≤ r
  · go_wp2
    go_ret
    exact .mk_t (HR.out.1 h0) (by first | rfl | exact ret_dec_t (by omega))
  · have h1 : r < 0 := by omega
    clear h0
    go_wp2
    go_ret
    exact .mk_f (fun h => by have := HR.out.2 h; omega) (by first | rfl | exact ret_dec_f (by omega))
end Go.Proofs.Ytekngpinldiodaa
