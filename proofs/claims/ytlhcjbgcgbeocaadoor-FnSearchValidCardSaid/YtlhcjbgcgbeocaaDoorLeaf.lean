/- The small functions: each computes what its text says, for all arguments; lists are at most 2^20 long. -/
import Derived.Test.YtlhcjbgcgbeocaaDoorMem
namespace Go.Proofs.YtlhcjbgcgbeocaaDoor
open Go.RowKit

theorem l1In_y (n a b : Int) (w : World) (h1 : a ≤ n) (h2 : n ≤ b) : Calls Tryd.prog 49 #[.int .i64 n, .int .i64 a, .int .i64 b] w (RetS (.bool true) w) := by
  go_enter Tryd.func49, Tryd.ntmps49
  go_wp2
  go_ret
  exact ⟨rfl, rfl⟩
theorem l1In_n (n a b : Int) (w : World) (h : ¬ (a ≤ n ∧ n ≤ b)) : Calls Tryd.prog 49 #[.int .i64 n, .int .i64 a, .int .i64 b] w (RetS (.bool false) w) := by
  by_cases h1 : a ≤ n
  · have h2 : ¬ n ≤ b := fun h2 => h ⟨h1, h2⟩
    clear h
    go_enter Tryd.func49, Tryd.ntmps49
    go_wp2
    go_ret
    exact ⟨rfl, rfl⟩
  · clear h
    go_enter Tryd.func49, Tryd.ntmps49
    go_wp2
    go_ret
    exact ⟨rfl, rfl⟩

theorem isWithin_y (n a : Int) (w : World) (h0 : 0 ≤ a) (h9 : a ≤ 1000) (h1 : -a ≤ n) (h2 : n ≤ a) : Calls Tryd.prog 72 #[.int .i64 n, .int .i64 a] w (RetS (.bool true) w) := by
  go_enter Tryd.func72, Tryd.ntmps72
  go_wp2
  go_ret
  exact ⟨rfl, rfl⟩
theorem isWithin_n (n a : Int) (w : World) (h0 : 0 ≤ a) (h9 : a ≤ 1000) (h : ¬ (-a ≤ n ∧ n ≤ a)) : Calls Tryd.prog 72 #[.int .i64 n, .int .i64 a] w (RetS (.bool false) w) := by
  by_cases h1 : -a ≤ n
  · have h2 : ¬ n ≤ a := fun h2 => h ⟨h1, h2⟩
    clear h
    go_enter Tryd.func72, Tryd.ntmps72
    go_wp2
    go_ret
    exact ⟨rfl, rfl⟩
  · clear h
    go_enter Tryd.func72, Tryd.ntmps72
    go_wp2
    go_ret
    exact ⟨rfl, rfl⟩

theorem isIndex_y (n a : Int) (w : World) (h1 : 0 ≤ n) (h2 : n < a) : Calls Tryd.prog 48 #[.int .i64 n, .int .i64 a] w (RetS (.bool true) w) := by
  go_enter Tryd.func48, Tryd.ntmps48
  go_wp2
  go_ret
  exact ⟨rfl, rfl⟩
theorem isIndex_n (n a : Int) (w : World) (h : ¬ (0 ≤ n ∧ n < a)) : Calls Tryd.prog 48 #[.int .i64 n, .int .i64 a] w (RetS (.bool false) w) := by
  by_cases h1 : 0 ≤ n
  · have h2 : ¬ n < a := fun h2 => h ⟨h1, h2⟩
    clear h
    go_enter Tryd.func48, Tryd.ntmps48
    go_wp2
    go_ret
    exact ⟨rfl, rfl⟩
  · clear h
    go_enter Tryd.func48, Tryd.ntmps48
    go_wp2
    go_ret
    exact ⟨rfl, rfl⟩

/-- All are indices: the Bool tells it; the world is as it was. -/
theorem areIndices_any (A : Option Addr) (n c : Nat) (x : Nat → Int) (a : Int) (w : World) (hx : Ints w A n x) (hn : n ≤ 1048576) :
    Calls Tryd.prog 55 #[.slice A n c, .int .i64 a] w (RetBS (∀ j, j < n → 0 ≤ x j ∧ x j < a) w) := by
  go_enter Tryd.func55, Tryd.ntmps55
  go_wp2
  go_loop [9] (fun i => ∃ k : Nat, k ≤ n ∧ i = .int .i64 k ∧ ∀ j, j < k → 0 ≤ x j ∧ x j < a) (fun i => n - (intOf i).toNat)
  case atStart => exact ⟨0, by omega, rfl, fun j hj => absurd hj (by omega)⟩
  case round =>
    obtain ⟨k, hk, rfl, hall⟩ := hrel
    have HA := hid hall
    clear hall
    by_cases hlt : k < n
    · obtain ⟨b, o, rfl, hc⟩ := hx (by omega)
      have c1 := hc k hlt
      have hltz : (k : Int) < (n : Int) := by omega
      clear hc hx
      by_cases he : 0 ≤ x k ∧ x k < a
      · obtain ⟨he1, he2⟩ := he
        go_wp2_with (go_at_call 48; refine (isIndex_y _ _ _ he1 he2).mono ?_; rintro e w' ⟨rfl, rfl⟩)
        go_round
        case rel => exact ⟨k + 1, by omega, by go_num, fun j hj => by
            by_cases e : j = k
            · subst e; exact ⟨he1, he2⟩
            · exact HA.out j (by omega)⟩
        case measure => simp [intOf]; omega
      · have HE := hid he
        clear he
        go_wp2_with (go_at_call 48; refine (isIndex_n _ _ _ HE.out).mono ?_; rintro e w' ⟨rfl, rfl⟩)
        go_ret
        exact .mk_f (fun h => HE.out (h k hlt)) rfl
    · have : k = n := by omega
      subst this
      go_wp2
      go_ret
      exact .mk_t HA.out rfl

end Go.Proofs.YtlhcjbgcgbeocaaDoor
